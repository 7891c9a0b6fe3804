/-
  Words for memory and contracts of small functions of the second form. Conditions: those of each lemma.
-/
import Derived.Test.YtoblofilaegnaaaSCheck
import Derived.Test.YtoblofilaegnaaaChk
/-! EqR -/
namespace Go.Proofs.Ytoblofilaegnaaa
open Go.RowKit
set_option linter.unusedVariables false

/-- Equations by value, any numbers. -/
abbrev eqRC (p R K : Int) (C : Option Addr) (nc cc : Nat) (D : Option Addr) (nd cd : Nat) : Array Value := #[.int .i64 p, .int .i64 R, .int .i64 K, .slice C nc cc, .slice D nd cd]
abbrev eqRV (p R K : Int) (C : Option Addr) (nc cc : Nat) (D : Option Addr) (nd cd : Nat) : Value := .agg (eqRC p R K C nc cc D nd cd)
/-- The first error of equations. -/
def errQ (p R K : Int) (cells right : List Int) : Int := if okP p = true then (if R < 0 ∨ 32 < R ∨ K < 0 ∨ 32 < K then 4 else if (cells.length : Int) = R * K ∧ (right.length : Int) = R then (if allP p cells = true ∧ allP p right = true then 0 else 9) else 2) else 9

/-- Equations by value, any numbers, and the lists that they lead to. -/
structure EqR (w : World) (p R K : Int) (C : Option Addr) (nc cc : Nat) (D : Option Addr) (nd cd : Nat) (cells right : List Int) : Prop where
  p64 : -9223372036854775808 ≤ p ∧ p ≤ 9223372036854775807
  r64 : -9223372036854775808 ≤ R ∧ R ≤ 9223372036854775807
  k64 : -9223372036854775808 ≤ K ∧ K ≤ 9223372036854775807
  hC : Ints w w.heap.size C nc cells
  hD : Ints w w.heap.size D nd right
  cap : nc ≤ cc
  few : nc + nd ≤ 1100
section
variable {w w' : World} {p R K : Int} {C : Option Addr} {nc cc : Nat} {D : Option Addr} {nd cd : Nat} {cells right : List Int}
theorem EqR.upto (h : EqR w p R K C nc cc D nd cd cells right) (hb : Below w.heap.size w w') : EqR w' p R K C nc cc D nd cd cells right :=
  ⟨h.p64, h.r64, h.k64, h.hC.upto hb, h.hD.upto hb, h.cap, h.few⟩
/-- Equations without an error are valid. -/
theorem EqR.valid (h : EqR w p R K C nc cc D nd cd cells right) (h0 : errQ p R K cells right = 0) : ∃ r c : Nat, R = r ∧ K = c ∧ nd = r ∧ EqW w p r c nc C cc D cd cells right := by
  unfold errQ at h0
  split at h0
  · rename_i h1
    split at h0
    · cases h0
    · rename_i h2
      split at h0
      · rename_i h3
        split at h0
        · rename_i h4
          obtain ⟨r, hr⟩ : ∃ r : Nat, R = r := ⟨R.toNat, by omega⟩
          obtain ⟨c, hc⟩ : ∃ c : Nat, K = c := ⟨K.toNat, by omega⟩
          subst hr hc
          have h5 := h.hC.len
          have h6 := h.hD.len
          have h7 : nd = r := by have := h3.2; omega
          have h8 : cells.length = r * c := by have := h3.1; rw [← Int.natCast_mul] at this; exact Int.ofNat.inj this
          subst h7
          exact ⟨nd, c, rfl, rfl, rfl, ⟨⟨h1, by omega, by omega, h8, h6, h4.1, h4.2⟩, by rw [← h8, h5], h.hC, h.hD, h.cap⟩⟩
        · cases h0
      · cases h0
  · cases h0
/-- Valid equations have no error. -/
theorem EqW.eqR {r c : Nat} (h : EqW w p r c nc C cc D cd cells right) : EqR w p r c C nc cc D r cd cells right ∧ errQ p r c cells right = 0 := by
  have hp := okP_pos h.ok.ok
  have hr := h.ok.r32
  have hc := h.ok.c32
  have hle : r * c ≤ 32 * 32 := Nat.mul_le_mul hr hc
  rw [h.ln] at hle
  refine ⟨⟨by omega, by omega, by omega, h.hC, h.hD, h.cap, by omega⟩, ?_⟩
  unfold errQ
  rw [if_pos h.ok.ok, if_neg (by omega), if_pos ⟨by rw [h.ok.lc, Int.natCast_mul], by rw [h.ok.lr]⟩, if_pos ⟨h.ok.ac, h.ok.ar⟩]
end
end Go.Proofs.Ytoblofilaegnaaa

/-! SChkA -/
namespace Go.Proofs.Ytoblofilaegnaaa
open Go.RowKit
set_option linter.unusedVariables false

set_option maxHeartbeats 1600000 in
set_option maxRecDepth 100000 in
/-- The first error of any equations. -/
theorem scheck_all (p R K : Int) (C : Option Addr) (nc cc : Nat) (D : Option Addr) (nd cd : Nat) (cells right : List Int) (w : World) (h : EqR w p R K C nc cc D nd cd cells right) :
    Calls Try.prog 103 #[eqRV p R K C nc cc D nd cd] w fun e w' => e = .returned (.int .i64 (errQ p R K cells right)) ∧ Below w.heap.size w w' := by
  obtain ⟨q, hq⟩ : ∃ q, errQ p R K cells right = q := ⟨_, rfl⟩
  rw [hq]
  unfold errQ at hq
  have hp64 := h.p64
  have hr64 := h.r64
  have hk64 := h.k64
  have hC := h.hC
  have hD := h.hD
  have hlc := hC.len
  have hld := hD.len
  have hcap := h.cap
  have hfew := h.few
  have hB := Blk.new w 106 (eqRC p R K C nc cc D nd cd)
  have hb0 : Below w.heap.size w (w.alloc (.cells (eqRC p R K C nc cc D nd cd) 106)) := bbox _
  clear h
  by_cases hok : okP p = true
  · have HO := Lib.hid hok
    rw [if_pos hok] at hq
    clear hok
    by_cases h1 : R < 0
    · rw [if_pos (.inl h1)] at hq
      have HQ : Hid ((4 : Int) = q) := Lib.hid hq
      clear hq
      go_enter Try.func103, Try.ntmps103
      go_wp2_with (first
        | (go_at_call 118; refine (of_yes p _ HO.out).mono ?_; rintro e w1 ⟨rfl, hb1⟩
           have hbb1 := bnext hb0 hb1
           have hB1 := hB.below hb1 hB.lt
           have hc1 : w1.cell? ⟨w.heap.size, 1, none⟩ = some (.int .i64 R) := (hB1.cell 1).trans rfl
           have hc2 : w1.cell? ⟨w.heap.size, 2, none⟩ = some (.int .i64 K) := (hB1.cell 2).trans rfl
           have hc3 : w1.cell? ⟨w.heap.size, 3, none⟩ = some (.slice C nc cc) := (hB1.cell 3).trans rfl
           have hc4 : w1.cell? ⟨w.heap.size, 4, none⟩ = some (.slice D nd cd) := (hB1.cell 4).trans rfl
           clear hb1))
      go_ret
      exact ⟨ret_int HQ.out, hbb1⟩
    have hn0 := h1
    clear h1
    by_cases h1 : 32 < R
    · rw [if_pos (.inr (.inl h1))] at hq
      have HQ : Hid ((4 : Int) = q) := Lib.hid hq
      clear hq
      go_enter Try.func103, Try.ntmps103
      go_wp2_with (first
        | (go_at_call 118; refine (of_yes p _ HO.out).mono ?_; rintro e w1 ⟨rfl, hb1⟩
           have hbb1 := bnext hb0 hb1
           have hB1 := hB.below hb1 hB.lt
           have hc1 : w1.cell? ⟨w.heap.size, 1, none⟩ = some (.int .i64 R) := (hB1.cell 1).trans rfl
           have hc2 : w1.cell? ⟨w.heap.size, 2, none⟩ = some (.int .i64 K) := (hB1.cell 2).trans rfl
           have hc3 : w1.cell? ⟨w.heap.size, 3, none⟩ = some (.slice C nc cc) := (hB1.cell 3).trans rfl
           have hc4 : w1.cell? ⟨w.heap.size, 4, none⟩ = some (.slice D nd cd) := (hB1.cell 4).trans rfl
           clear hb1))
      go_ret
      exact ⟨ret_int HQ.out, hbb1⟩
    have hn1 := h1
    clear h1
    by_cases h1 : K < 0
    · rw [if_pos (.inr (.inr (.inl h1)))] at hq
      have HQ : Hid ((4 : Int) = q) := Lib.hid hq
      clear hq
      go_enter Try.func103, Try.ntmps103
      go_wp2_with (first
        | (go_at_call 118; refine (of_yes p _ HO.out).mono ?_; rintro e w1 ⟨rfl, hb1⟩
           have hbb1 := bnext hb0 hb1
           have hB1 := hB.below hb1 hB.lt
           have hc1 : w1.cell? ⟨w.heap.size, 1, none⟩ = some (.int .i64 R) := (hB1.cell 1).trans rfl
           have hc2 : w1.cell? ⟨w.heap.size, 2, none⟩ = some (.int .i64 K) := (hB1.cell 2).trans rfl
           have hc3 : w1.cell? ⟨w.heap.size, 3, none⟩ = some (.slice C nc cc) := (hB1.cell 3).trans rfl
           have hc4 : w1.cell? ⟨w.heap.size, 4, none⟩ = some (.slice D nd cd) := (hB1.cell 4).trans rfl
           clear hb1))
      go_ret
      exact ⟨ret_int HQ.out, hbb1⟩
    have hn2 := h1
    clear h1
    by_cases h1 : 32 < K
    · rw [if_pos (.inr (.inr (.inr h1)))] at hq
      have HQ : Hid ((4 : Int) = q) := Lib.hid hq
      clear hq
      go_enter Try.func103, Try.ntmps103
      go_wp2_with (first
        | (go_at_call 118; refine (of_yes p _ HO.out).mono ?_; rintro e w1 ⟨rfl, hb1⟩
           have hbb1 := bnext hb0 hb1
           have hB1 := hB.below hb1 hB.lt
           have hc1 : w1.cell? ⟨w.heap.size, 1, none⟩ = some (.int .i64 R) := (hB1.cell 1).trans rfl
           have hc2 : w1.cell? ⟨w.heap.size, 2, none⟩ = some (.int .i64 K) := (hB1.cell 2).trans rfl
           have hc3 : w1.cell? ⟨w.heap.size, 3, none⟩ = some (.slice C nc cc) := (hB1.cell 3).trans rfl
           have hc4 : w1.cell? ⟨w.heap.size, 4, none⟩ = some (.slice D nd cd) := (hB1.cell 4).trans rfl
           clear hb1))
      go_ret
      exact ⟨ret_int HQ.out, hbb1⟩
    have hn3 := h1
    clear h1
    rw [if_neg (by omega)] at hq
    obtain ⟨r, hr⟩ : ∃ r : Nat, R = r := ⟨R.toNat, by omega⟩
    obtain ⟨c, hc⟩ : ∃ c : Nat, K = c := ⟨K.toNat, by omega⟩
    subst hr hc
    have hle : r * c ≤ 32 * 32 := Nat.mul_le_mul (by omega) (by omega)
    have hm : (r : Int) * (c : Int) = ((r * c : Nat) : Int) := by rw [Int.natCast_mul]
    rw [hm] at hq
    obtain ⟨m, hmm⟩ : ∃ m, r * c = m := ⟨_, rfl⟩
    rw [hmm] at hm hq hle
    clear hmm
    by_cases h1 : nc = m
    · subst h1
      by_cases h2 : nd = r
      · subst h2
        rw [if_pos ⟨by omega, by omega⟩] at hq
        by_cases hac : allP p cells = true
        · have HA : Hid (allP p cells = true) := Lib.hid hac
          by_cases har : allP p right = true
          · have HR : Hid (allP p right = true) := Lib.hid har
            rw [if_pos ⟨hac, har⟩] at hq
            have HQ : Hid ((0 : Int) = q) := Lib.hid hq
            clear hq hac har
            go_enter Try.func103, Try.ntmps103
            go_wp2_with (first
              | (go_at_call 118; refine (of_yes p _ HO.out).mono ?_; rintro e w1 ⟨rfl, hb1⟩
                 have hbb1 := bnext hb0 hb1
                 have hB1 := hB.below hb1 hB.lt
                 have hc1 : w1.cell? ⟨w.heap.size, 1, none⟩ = some (.int .i64 nd) := (hB1.cell 1).trans rfl
                 have hc2 : w1.cell? ⟨w.heap.size, 2, none⟩ = some (.int .i64 c) := (hB1.cell 2).trans rfl
                 have hc3 : w1.cell? ⟨w.heap.size, 3, none⟩ = some (.slice C nc cc) := (hB1.cell 3).trans rfl
                 have hc4 : w1.cell? ⟨w.heap.size, 4, none⟩ = some (.slice D nd cd) := (hB1.cell 4).trans rfl
                 clear hb1)
              | (go_at_call 119; (with_reducible refine (all_any p C nc cc cells w1 (hC.upto hbb1) (by omega)).mono ?_); rintro e w2 ⟨rfl, hb2⟩; rw [HA.out]
                 have hbb2 := bnext hbb1 hb2
                 have hB2 := hB1.below hb2 hB1.lt
                 have hc6 : w2.cell? ⟨w.heap.size, 4, none⟩ = some (.slice D nd cd) := (hB2.cell 4).trans rfl
                 clear hb2)
              | (go_at_call 119; (with_reducible refine (all_any p D nd cd right w2 (hD.upto hbb2) (by omega)).mono ?_); rintro e w3 ⟨rfl, hb3⟩; rw [HR.out]
                 have hbb3 := bnext hbb2 hb3
                 clear hb3))
            go_ret
            exact ⟨ret_int HQ.out, hbb3⟩
          · have HR : Hid (allP p right = false) := Lib.hid (by simpa using har)
            rw [if_neg (fun h => har h.2)] at hq
            have HQ : Hid ((9 : Int) = q) := Lib.hid hq
            clear hq hac har
            go_enter Try.func103, Try.ntmps103
            go_wp2_with (first
              | (go_at_call 118; refine (of_yes p _ HO.out).mono ?_; rintro e w1 ⟨rfl, hb1⟩
                 have hbb1 := bnext hb0 hb1
                 have hB1 := hB.below hb1 hB.lt
                 have hc1 : w1.cell? ⟨w.heap.size, 1, none⟩ = some (.int .i64 nd) := (hB1.cell 1).trans rfl
                 have hc2 : w1.cell? ⟨w.heap.size, 2, none⟩ = some (.int .i64 c) := (hB1.cell 2).trans rfl
                 have hc3 : w1.cell? ⟨w.heap.size, 3, none⟩ = some (.slice C nc cc) := (hB1.cell 3).trans rfl
                 have hc4 : w1.cell? ⟨w.heap.size, 4, none⟩ = some (.slice D nd cd) := (hB1.cell 4).trans rfl
                 clear hb1)
              | (go_at_call 119; (with_reducible refine (all_any p C nc cc cells w1 (hC.upto hbb1) (by omega)).mono ?_); rintro e w2 ⟨rfl, hb2⟩; rw [HA.out]
                 have hbb2 := bnext hbb1 hb2
                 have hB2 := hB1.below hb2 hB1.lt
                 have hc6 : w2.cell? ⟨w.heap.size, 4, none⟩ = some (.slice D nd cd) := (hB2.cell 4).trans rfl
                 clear hb2)
              | (go_at_call 119; (with_reducible refine (all_any p D nd cd right w2 (hD.upto hbb2) (by omega)).mono ?_); rintro e w3 ⟨rfl, hb3⟩; rw [HR.out]
                 have hbb3 := bnext hbb2 hb3
                 clear hb3))
            go_ret
            exact ⟨ret_int HQ.out, hbb3⟩
        · have HA : Hid (allP p cells = false) := Lib.hid (by simpa using hac)
          rw [if_neg (fun h => hac h.1)] at hq
          have HQ : Hid ((9 : Int) = q) := Lib.hid hq
          clear hq hac
          go_enter Try.func103, Try.ntmps103
          go_wp2_with (first
            | (go_at_call 118; refine (of_yes p _ HO.out).mono ?_; rintro e w1 ⟨rfl, hb1⟩
               have hbb1 := bnext hb0 hb1
               have hB1 := hB.below hb1 hB.lt
               have hc1 : w1.cell? ⟨w.heap.size, 1, none⟩ = some (.int .i64 nd) := (hB1.cell 1).trans rfl
               have hc2 : w1.cell? ⟨w.heap.size, 2, none⟩ = some (.int .i64 c) := (hB1.cell 2).trans rfl
               have hc3 : w1.cell? ⟨w.heap.size, 3, none⟩ = some (.slice C nc cc) := (hB1.cell 3).trans rfl
               have hc4 : w1.cell? ⟨w.heap.size, 4, none⟩ = some (.slice D nd cd) := (hB1.cell 4).trans rfl
               clear hb1)
            | (go_at_call 119; (with_reducible refine (all_any p C nc cc cells w1 (hC.upto hbb1) (by omega)).mono ?_); rintro e w2 ⟨rfl, hb2⟩; rw [HA.out]
               have hbb2 := bnext hbb1 hb2
               have hB2 := hB1.below hb2 hB1.lt
               have hc6 : w2.cell? ⟨w.heap.size, 4, none⟩ = some (.slice D nd cd) := (hB2.cell 4).trans rfl
               clear hb2))
          go_ret
          exact ⟨ret_int HQ.out, hbb2⟩
      · rw [if_neg (by omega)] at hq
        have HQ : Hid ((2 : Int) = q) := Lib.hid hq
        have h3 : ¬ (nd : Int) = (r : Int) := by omega
        clear hq
        go_enter Try.func103, Try.ntmps103
        go_wp2_with (first
          | (go_at_call 118; refine (of_yes p _ HO.out).mono ?_; rintro e w1 ⟨rfl, hb1⟩
             have hbb1 := bnext hb0 hb1
             have hB1 := hB.below hb1 hB.lt
             have hc1 : w1.cell? ⟨w.heap.size, 1, none⟩ = some (.int .i64 r) := (hB1.cell 1).trans rfl
             have hc2 : w1.cell? ⟨w.heap.size, 2, none⟩ = some (.int .i64 c) := (hB1.cell 2).trans rfl
             have hc3 : w1.cell? ⟨w.heap.size, 3, none⟩ = some (.slice C nc cc) := (hB1.cell 3).trans rfl
             have hc4 : w1.cell? ⟨w.heap.size, 4, none⟩ = some (.slice D nd cd) := (hB1.cell 4).trans rfl
             clear hb1))
        go_ret
        exact ⟨ret_int HQ.out, hbb1⟩
    · rw [if_neg (by omega)] at hq
      have HQ : Hid ((2 : Int) = q) := Lib.hid hq
      have h3 : ¬ (nc : Int) = (m : Int) := by omega
      clear hq
      go_enter Try.func103, Try.ntmps103
      go_wp2_with (first
        | (go_at_call 118; refine (of_yes p _ HO.out).mono ?_; rintro e w1 ⟨rfl, hb1⟩
           have hbb1 := bnext hb0 hb1
           have hB1 := hB.below hb1 hB.lt
           have hc1 : w1.cell? ⟨w.heap.size, 1, none⟩ = some (.int .i64 r) := (hB1.cell 1).trans rfl
           have hc2 : w1.cell? ⟨w.heap.size, 2, none⟩ = some (.int .i64 c) := (hB1.cell 2).trans rfl
           have hc3 : w1.cell? ⟨w.heap.size, 3, none⟩ = some (.slice C nc cc) := (hB1.cell 3).trans rfl
           have hc4 : w1.cell? ⟨w.heap.size, 4, none⟩ = some (.slice D nd cd) := (hB1.cell 4).trans rfl
           clear hb1))
      go_ret
      exact ⟨ret_int HQ.out, hbb1⟩
  · have hokf : okP p = false := by simpa using hok
    have HO := Lib.hid hokf
    rw [if_neg hok] at hq
    have HQ : Hid ((9 : Int) = q) := Lib.hid hq
    clear hq hok hokf
    go_enter Try.func103, Try.ntmps103
    go_wp2_with (first
      | (go_at_call 118; refine (of_no p _ hp64 HO.out).mono ?_; rintro e w1 ⟨rfl, hb1⟩
         have hbb1 := bnext hb0 hb1
         clear hb1))
    go_ret
    exact ⟨ret_int HQ.out, hbb1⟩
end Go.Proofs.Ytoblofilaegnaaa

/-! RChkA -/
namespace Go.Proofs.Ytoblofilaegnaaa
open Go.RowKit
set_option linter.unusedVariables false

set_option maxHeartbeats 1600000 in
set_option maxRecDepth 100000 in
/-- The first error of any equations. -/
theorem rcheck_all (p R K : Int) (C : Option Addr) (nc cc : Nat) (D : Option Addr) (nd cd : Nat) (cells right : List Int) (w : World) (h : EqR w p R K C nc cc D nd cd cells right) :
    Calls Try.prog 104 #[eqRV p R K C nc cc D nd cd] w fun e w' => e = .returned (.int .i64 (errQ p R K cells right)) ∧ Below w.heap.size w w' := by
  obtain ⟨q, hq⟩ : ∃ q, errQ p R K cells right = q := ⟨_, rfl⟩
  rw [hq]
  unfold errQ at hq
  have hp64 := h.p64
  have hr64 := h.r64
  have hk64 := h.k64
  have hC := h.hC
  have hD := h.hD
  have hlc := hC.len
  have hld := hD.len
  have hcap := h.cap
  have hfew := h.few
  have hB := Blk.new w 106 (eqRC p R K C nc cc D nd cd)
  have hb0 : Below w.heap.size w (w.alloc (.cells (eqRC p R K C nc cc D nd cd) 106)) := bbox _
  clear h
  by_cases hok : okP p = true
  · have HO := Lib.hid hok
    rw [if_pos hok] at hq
    clear hok
    by_cases h1 : R < 0
    · rw [if_pos (.inl h1)] at hq
      have HQ : Hid ((4 : Int) = q) := Lib.hid hq
      clear hq
      go_enter Try.func104, Try.ntmps104
      go_wp2_with (first
        | (go_at_call 128; refine (check_yes p _ HO.out).mono ?_; rintro e w1 ⟨rfl, hb1⟩
           have hbb1 := bnext hb0 hb1
           have hB1 := hB.below hb1 hB.lt
           have hc0 : w1.cell? ⟨w.heap.size, 0, none⟩ = some (.int .i64 p) := (hB1.cell 0).trans rfl
           have hc1 : w1.cell? ⟨w.heap.size, 1, none⟩ = some (.int .i64 R) := (hB1.cell 1).trans rfl
           have hc2 : w1.cell? ⟨w.heap.size, 2, none⟩ = some (.int .i64 K) := (hB1.cell 2).trans rfl
           have hc3 : w1.cell? ⟨w.heap.size, 3, none⟩ = some (.slice C nc cc) := (hB1.cell 3).trans rfl
           have hc4 : w1.cell? ⟨w.heap.size, 4, none⟩ = some (.slice D nd cd) := (hB1.cell 4).trans rfl
           clear hb1))
      go_ret
      exact ⟨ret_int HQ.out, hbb1⟩
    have hn0 := h1
    clear h1
    by_cases h1 : 32 < R
    · rw [if_pos (.inr (.inl h1))] at hq
      have HQ : Hid ((4 : Int) = q) := Lib.hid hq
      clear hq
      go_enter Try.func104, Try.ntmps104
      go_wp2_with (first
        | (go_at_call 128; refine (check_yes p _ HO.out).mono ?_; rintro e w1 ⟨rfl, hb1⟩
           have hbb1 := bnext hb0 hb1
           have hB1 := hB.below hb1 hB.lt
           have hc0 : w1.cell? ⟨w.heap.size, 0, none⟩ = some (.int .i64 p) := (hB1.cell 0).trans rfl
           have hc1 : w1.cell? ⟨w.heap.size, 1, none⟩ = some (.int .i64 R) := (hB1.cell 1).trans rfl
           have hc2 : w1.cell? ⟨w.heap.size, 2, none⟩ = some (.int .i64 K) := (hB1.cell 2).trans rfl
           have hc3 : w1.cell? ⟨w.heap.size, 3, none⟩ = some (.slice C nc cc) := (hB1.cell 3).trans rfl
           have hc4 : w1.cell? ⟨w.heap.size, 4, none⟩ = some (.slice D nd cd) := (hB1.cell 4).trans rfl
           clear hb1))
      go_ret
      exact ⟨ret_int HQ.out, hbb1⟩
    have hn1 := h1
    clear h1
    by_cases h1 : K < 0
    · rw [if_pos (.inr (.inr (.inl h1)))] at hq
      have HQ : Hid ((4 : Int) = q) := Lib.hid hq
      clear hq
      go_enter Try.func104, Try.ntmps104
      go_wp2_with (first
        | (go_at_call 128; refine (check_yes p _ HO.out).mono ?_; rintro e w1 ⟨rfl, hb1⟩
           have hbb1 := bnext hb0 hb1
           have hB1 := hB.below hb1 hB.lt
           have hc0 : w1.cell? ⟨w.heap.size, 0, none⟩ = some (.int .i64 p) := (hB1.cell 0).trans rfl
           have hc1 : w1.cell? ⟨w.heap.size, 1, none⟩ = some (.int .i64 R) := (hB1.cell 1).trans rfl
           have hc2 : w1.cell? ⟨w.heap.size, 2, none⟩ = some (.int .i64 K) := (hB1.cell 2).trans rfl
           have hc3 : w1.cell? ⟨w.heap.size, 3, none⟩ = some (.slice C nc cc) := (hB1.cell 3).trans rfl
           have hc4 : w1.cell? ⟨w.heap.size, 4, none⟩ = some (.slice D nd cd) := (hB1.cell 4).trans rfl
           clear hb1))
      go_ret
      exact ⟨ret_int HQ.out, hbb1⟩
    have hn2 := h1
    clear h1
    by_cases h1 : 32 < K
    · rw [if_pos (.inr (.inr (.inr h1)))] at hq
      have HQ : Hid ((4 : Int) = q) := Lib.hid hq
      clear hq
      go_enter Try.func104, Try.ntmps104
      go_wp2_with (first
        | (go_at_call 128; refine (check_yes p _ HO.out).mono ?_; rintro e w1 ⟨rfl, hb1⟩
           have hbb1 := bnext hb0 hb1
           have hB1 := hB.below hb1 hB.lt
           have hc0 : w1.cell? ⟨w.heap.size, 0, none⟩ = some (.int .i64 p) := (hB1.cell 0).trans rfl
           have hc1 : w1.cell? ⟨w.heap.size, 1, none⟩ = some (.int .i64 R) := (hB1.cell 1).trans rfl
           have hc2 : w1.cell? ⟨w.heap.size, 2, none⟩ = some (.int .i64 K) := (hB1.cell 2).trans rfl
           have hc3 : w1.cell? ⟨w.heap.size, 3, none⟩ = some (.slice C nc cc) := (hB1.cell 3).trans rfl
           have hc4 : w1.cell? ⟨w.heap.size, 4, none⟩ = some (.slice D nd cd) := (hB1.cell 4).trans rfl
           clear hb1))
      go_ret
      exact ⟨ret_int HQ.out, hbb1⟩
    have hn3 := h1
    clear h1
    rw [if_neg (by omega)] at hq
    obtain ⟨r, hr⟩ : ∃ r : Nat, R = r := ⟨R.toNat, by omega⟩
    obtain ⟨c, hc⟩ : ∃ c : Nat, K = c := ⟨K.toNat, by omega⟩
    subst hr hc
    have hle : r * c ≤ 32 * 32 := Nat.mul_le_mul (by omega) (by omega)
    have hm : (r : Int) * (c : Int) = ((r * c : Nat) : Int) := by rw [Int.natCast_mul]
    rw [hm] at hq
    obtain ⟨m, hmm⟩ : ∃ m, r * c = m := ⟨_, rfl⟩
    rw [hmm] at hm hq hle
    clear hmm
    by_cases h1 : nc = m
    · subst h1
      by_cases h2 : nd = r
      · subst h2
        rw [if_pos ⟨by omega, by omega⟩] at hq
        by_cases hac : allP p cells = true
        · have HA : Hid (inF p cells = true) := Lib.hid (inF_iff.2 ⟨HO.out, hac⟩)
          by_cases har : allP p right = true
          · have HR : Hid (inF p right = true) := Lib.hid (inF_iff.2 ⟨HO.out, har⟩)
            rw [if_pos ⟨hac, har⟩] at hq
            have HQ : Hid ((0 : Int) = q) := Lib.hid hq
            clear hq hac har
            go_enter Try.func104, Try.ntmps104
            go_wp2_with (first
              | (go_at_call 128; refine (check_yes p _ HO.out).mono ?_; rintro e w1 ⟨rfl, hb1⟩
                 have hbb1 := bnext hb0 hb1
                 have hB1 := hB.below hb1 hB.lt
                 have hc0 : w1.cell? ⟨w.heap.size, 0, none⟩ = some (.int .i64 p) := (hB1.cell 0).trans rfl
                 have hc1 : w1.cell? ⟨w.heap.size, 1, none⟩ = some (.int .i64 nd) := (hB1.cell 1).trans rfl
                 have hc2 : w1.cell? ⟨w.heap.size, 2, none⟩ = some (.int .i64 c) := (hB1.cell 2).trans rfl
                 have hc3 : w1.cell? ⟨w.heap.size, 3, none⟩ = some (.slice C nc cc) := (hB1.cell 3).trans rfl
                 have hc4 : w1.cell? ⟨w.heap.size, 4, none⟩ = some (.slice D nd cd) := (hB1.cell 4).trans rfl
                 clear hb1)
              | (go_at_call 126; (with_reducible refine (in_any p C nc cc cells w1 (hC.upto hbb1) (by omega)).mono ?_); rintro e w2 ⟨rfl, hb2⟩; rw [HA.out]
                 have hbb2 := bnext hbb1 hb2
                 have hB2 := hB1.below hb2 hB1.lt
                 have hc5 : w2.cell? ⟨w.heap.size, 0, none⟩ = some (.int .i64 p) := (hB2.cell 0).trans rfl
                 have hc6 : w2.cell? ⟨w.heap.size, 4, none⟩ = some (.slice D nd cd) := (hB2.cell 4).trans rfl
                 clear hb2)
              | (go_at_call 126; (with_reducible refine (in_any p D nd cd right w2 (hD.upto hbb2) (by omega)).mono ?_); rintro e w3 ⟨rfl, hb3⟩; rw [HR.out]
                 have hbb3 := bnext hbb2 hb3
                 clear hb3))
            go_ret
            exact ⟨ret_int HQ.out, hbb3⟩
          · have HR : Hid (inF p right = false) := Lib.hid (inF_false.2 fun _ => by simpa using har)
            rw [if_neg (fun h => har h.2)] at hq
            have HQ : Hid ((9 : Int) = q) := Lib.hid hq
            clear hq hac har
            go_enter Try.func104, Try.ntmps104
            go_wp2_with (first
              | (go_at_call 128; refine (check_yes p _ HO.out).mono ?_; rintro e w1 ⟨rfl, hb1⟩
                 have hbb1 := bnext hb0 hb1
                 have hB1 := hB.below hb1 hB.lt
                 have hc0 : w1.cell? ⟨w.heap.size, 0, none⟩ = some (.int .i64 p) := (hB1.cell 0).trans rfl
                 have hc1 : w1.cell? ⟨w.heap.size, 1, none⟩ = some (.int .i64 nd) := (hB1.cell 1).trans rfl
                 have hc2 : w1.cell? ⟨w.heap.size, 2, none⟩ = some (.int .i64 c) := (hB1.cell 2).trans rfl
                 have hc3 : w1.cell? ⟨w.heap.size, 3, none⟩ = some (.slice C nc cc) := (hB1.cell 3).trans rfl
                 have hc4 : w1.cell? ⟨w.heap.size, 4, none⟩ = some (.slice D nd cd) := (hB1.cell 4).trans rfl
                 clear hb1)
              | (go_at_call 126; (with_reducible refine (in_any p C nc cc cells w1 (hC.upto hbb1) (by omega)).mono ?_); rintro e w2 ⟨rfl, hb2⟩; rw [HA.out]
                 have hbb2 := bnext hbb1 hb2
                 have hB2 := hB1.below hb2 hB1.lt
                 have hc5 : w2.cell? ⟨w.heap.size, 0, none⟩ = some (.int .i64 p) := (hB2.cell 0).trans rfl
                 have hc6 : w2.cell? ⟨w.heap.size, 4, none⟩ = some (.slice D nd cd) := (hB2.cell 4).trans rfl
                 clear hb2)
              | (go_at_call 126; (with_reducible refine (in_any p D nd cd right w2 (hD.upto hbb2) (by omega)).mono ?_); rintro e w3 ⟨rfl, hb3⟩; rw [HR.out]
                 have hbb3 := bnext hbb2 hb3
                 clear hb3))
            go_ret
            exact ⟨ret_int HQ.out, hbb3⟩
        · have HA : Hid (inF p cells = false) := Lib.hid (inF_false.2 fun _ => by simpa using hac)
          rw [if_neg (fun h => hac h.1)] at hq
          have HQ : Hid ((9 : Int) = q) := Lib.hid hq
          clear hq hac
          go_enter Try.func104, Try.ntmps104
          go_wp2_with (first
            | (go_at_call 128; refine (check_yes p _ HO.out).mono ?_; rintro e w1 ⟨rfl, hb1⟩
               have hbb1 := bnext hb0 hb1
               have hB1 := hB.below hb1 hB.lt
               have hc0 : w1.cell? ⟨w.heap.size, 0, none⟩ = some (.int .i64 p) := (hB1.cell 0).trans rfl
               have hc1 : w1.cell? ⟨w.heap.size, 1, none⟩ = some (.int .i64 nd) := (hB1.cell 1).trans rfl
               have hc2 : w1.cell? ⟨w.heap.size, 2, none⟩ = some (.int .i64 c) := (hB1.cell 2).trans rfl
               have hc3 : w1.cell? ⟨w.heap.size, 3, none⟩ = some (.slice C nc cc) := (hB1.cell 3).trans rfl
               have hc4 : w1.cell? ⟨w.heap.size, 4, none⟩ = some (.slice D nd cd) := (hB1.cell 4).trans rfl
               clear hb1)
            | (go_at_call 126; (with_reducible refine (in_any p C nc cc cells w1 (hC.upto hbb1) (by omega)).mono ?_); rintro e w2 ⟨rfl, hb2⟩; rw [HA.out]
               have hbb2 := bnext hbb1 hb2
               have hB2 := hB1.below hb2 hB1.lt
               have hc5 : w2.cell? ⟨w.heap.size, 0, none⟩ = some (.int .i64 p) := (hB2.cell 0).trans rfl
               have hc6 : w2.cell? ⟨w.heap.size, 4, none⟩ = some (.slice D nd cd) := (hB2.cell 4).trans rfl
               clear hb2))
          go_ret
          exact ⟨ret_int HQ.out, hbb2⟩
      · rw [if_neg (by omega)] at hq
        have HQ : Hid ((2 : Int) = q) := Lib.hid hq
        have h3 : ¬ (nd : Int) = (r : Int) := by omega
        clear hq
        go_enter Try.func104, Try.ntmps104
        go_wp2_with (first
          | (go_at_call 128; refine (check_yes p _ HO.out).mono ?_; rintro e w1 ⟨rfl, hb1⟩
             have hbb1 := bnext hb0 hb1
             have hB1 := hB.below hb1 hB.lt
             have hc0 : w1.cell? ⟨w.heap.size, 0, none⟩ = some (.int .i64 p) := (hB1.cell 0).trans rfl
             have hc1 : w1.cell? ⟨w.heap.size, 1, none⟩ = some (.int .i64 r) := (hB1.cell 1).trans rfl
             have hc2 : w1.cell? ⟨w.heap.size, 2, none⟩ = some (.int .i64 c) := (hB1.cell 2).trans rfl
             have hc3 : w1.cell? ⟨w.heap.size, 3, none⟩ = some (.slice C nc cc) := (hB1.cell 3).trans rfl
             have hc4 : w1.cell? ⟨w.heap.size, 4, none⟩ = some (.slice D nd cd) := (hB1.cell 4).trans rfl
             clear hb1))
        go_ret
        exact ⟨ret_int HQ.out, hbb1⟩
    · rw [if_neg (by omega)] at hq
      have HQ : Hid ((2 : Int) = q) := Lib.hid hq
      have h3 : ¬ (nc : Int) = (m : Int) := by omega
      clear hq
      go_enter Try.func104, Try.ntmps104
      go_wp2_with (first
        | (go_at_call 128; refine (check_yes p _ HO.out).mono ?_; rintro e w1 ⟨rfl, hb1⟩
           have hbb1 := bnext hb0 hb1
           have hB1 := hB.below hb1 hB.lt
           have hc0 : w1.cell? ⟨w.heap.size, 0, none⟩ = some (.int .i64 p) := (hB1.cell 0).trans rfl
           have hc1 : w1.cell? ⟨w.heap.size, 1, none⟩ = some (.int .i64 r) := (hB1.cell 1).trans rfl
           have hc2 : w1.cell? ⟨w.heap.size, 2, none⟩ = some (.int .i64 c) := (hB1.cell 2).trans rfl
           have hc3 : w1.cell? ⟨w.heap.size, 3, none⟩ = some (.slice C nc cc) := (hB1.cell 3).trans rfl
           have hc4 : w1.cell? ⟨w.heap.size, 4, none⟩ = some (.slice D nd cd) := (hB1.cell 4).trans rfl
           clear hb1))
      go_ret
      exact ⟨ret_int HQ.out, hbb1⟩
  · have hokf : okP p = false := by simpa using hok
    have HO := Lib.hid hokf
    rw [if_neg hok] at hq
    have HQ : Hid ((9 : Int) = q) := Lib.hid hq
    clear hq hok hokf
    go_enter Try.func104, Try.ntmps104
    go_wp2_with (first
      | (go_at_call 128; refine (check_no p _ HO.out).mono ?_; rintro e w1 ⟨rfl, hb1⟩
         have hbb1 := bnext hb0 hb1
         clear hb1))
    go_ret
    exact ⟨ret_int HQ.out, hbb1⟩
end Go.Proofs.Ytoblofilaegnaaa

/-! QErr -/
namespace Go.Proofs.Ytoblofilaegnaaa
open Go.RowKit
set_option linter.unusedVariables false

/-- What a function leaves that hands over the error of equations. -/
def ErrQPost (z : Value) (er : Int) (w : World) (e : Ending) (w' : World) : Prop := e = .returned (.tuple #[z, .int .i64 er]) ∧ Below w.heap.size w w'

set_option maxRecDepth 100000 in
theorem srank_err {p R K : Int} {C : Option Addr} {nc cc : Nat} {D : Option Addr} {nd cd : Nat} {cells right : List Int} {w : World} (h : EqR w p R K C nc cc D nd cd cells right) (he : errQ p R K cells right ≠ 0) :
    Calls Try.prog 95 #[eqRV p R K C nc cc D nd cd] w (ErrQPost (.int .i64 0) (errQ p R K cells right) w) := by
  have hb0 : Below w.heap.size w (w.alloc (.cells (eqRC p R K C nc cc D nd cd) 106)) := bbox _
  have HE := Lib.hid (h.upto hb0)
  have HB0 := Lib.hid (Blk.new w 106 (eqRC p R K C nc cc D nd cd))
  have hp64 := h.p64
  have hr64 := h.r64
  have hk64 := h.k64
  obtain ⟨er, her⟩ : ∃ er, errQ p R K cells right = er := ⟨_, rfl⟩
  rw [her] at he ⊢
  have HER := Lib.hid her
  have hea : ¬ er = 0 := he
  clear her h he
  go_enter Try.func95, Try.ntmps95
  go_wp2_with (go_at_call 103; refine (scheck_all p R K C nc cc D nd cd cells right _ HE.out).mono ?_; rintro e w1 ⟨rfl, hb1⟩; rw [HER.out]
               have hbb1 := hb0.trans (hb1.mono (by simp))
               clear hb1)
  go_ret2
  exact ⟨rfl, hbb1⟩

set_option maxRecDepth 100000 in
theorem ssolve_err {p R K : Int} {C : Option Addr} {nc cc : Nat} {D : Option Addr} {nd cd : Nat} {cells right : List Int} {w : World} (h : EqR w p R K C nc cc D nd cd cells right) (he : errQ p R K cells right ≠ 0) :
    Calls Try.prog 97 #[eqRV p R K C nc cc D nd cd] w (ErrQPost (.slice none 0 0) (errQ p R K cells right) w) := by
  have hb0 : Below w.heap.size w (w.alloc (.cells (eqRC p R K C nc cc D nd cd) 106)) := bbox _
  have HE := Lib.hid (h.upto hb0)
  have HB0 := Lib.hid (Blk.new w 106 (eqRC p R K C nc cc D nd cd))
  have hp64 := h.p64
  have hr64 := h.r64
  have hk64 := h.k64
  obtain ⟨er, her⟩ : ∃ er, errQ p R K cells right = er := ⟨_, rfl⟩
  rw [her] at he ⊢
  have HER := Lib.hid her
  have hea : ¬ er = 0 := he
  clear her h he
  go_enter Try.func97, Try.ntmps97
  go_wp2_with (go_at_call 103; refine (scheck_all p R K C nc cc D nd cd cells right _ HE.out).mono ?_; rintro e w1 ⟨rfl, hb1⟩; rw [HER.out]
               have hbb1 := hb0.trans (hb1.mono (by simp))
               clear hb1)
  go_ret2
  exact ⟨rfl, hbb1⟩

set_option maxRecDepth 100000 in
theorem skern_err {p R K : Int} {C : Option Addr} {nc cc : Nat} {D : Option Addr} {nd cd : Nat} {cells right : List Int} {w : World} (h : EqR w p R K C nc cc D nd cd cells right) (he : errQ p R K cells right ≠ 0) :
    Calls Try.prog 99 #[eqRV p R K C nc cc D nd cd] w (ErrQPost (.slice none 0 0) (errQ p R K cells right) w) := by
  have hb0 : Below w.heap.size w (w.alloc (.cells (eqRC p R K C nc cc D nd cd) 106)) := bbox _
  have HE := Lib.hid (h.upto hb0)
  have HB0 := Lib.hid (Blk.new w 106 (eqRC p R K C nc cc D nd cd))
  have hp64 := h.p64
  have hr64 := h.r64
  have hk64 := h.k64
  obtain ⟨er, her⟩ : ∃ er, errQ p R K cells right = er := ⟨_, rfl⟩
  rw [her] at he ⊢
  have HER := Lib.hid her
  have hea : ¬ er = 0 := he
  clear her h he
  go_enter Try.func99, Try.ntmps99
  go_wp2_with (go_at_call 103; refine (scheck_all p R K C nc cc D nd cd cells right _ HE.out).mono ?_; rintro e w1 ⟨rfl, hb1⟩; rw [HER.out]
               have hbb1 := hb0.trans (hb1.mono (by simp))
               clear hb1)
  go_ret2
  exact ⟨rfl, hbb1⟩

set_option maxRecDepth 100000 in
theorem scount_err {p R K : Int} {C : Option Addr} {nc cc : Nat} {D : Option Addr} {nd cd : Nat} {cells right : List Int} {w : World} (h : EqR w p R K C nc cc D nd cd cells right) (he : errQ p R K cells right ≠ 0) :
    Calls Try.prog 101 #[eqRV p R K C nc cc D nd cd] w (ErrQPost (.int .i64 0) (errQ p R K cells right) w) := by
  have hb0 : Below w.heap.size w (w.alloc (.cells (eqRC p R K C nc cc D nd cd) 106)) := bbox _
  have HE := Lib.hid (h.upto hb0)
  have HB0 := Lib.hid (Blk.new w 106 (eqRC p R K C nc cc D nd cd))
  have hp64 := h.p64
  have hr64 := h.r64
  have hk64 := h.k64
  obtain ⟨er, her⟩ : ∃ er, errQ p R K cells right = er := ⟨_, rfl⟩
  rw [her] at he ⊢
  have HER := Lib.hid her
  have hea : ¬ er = 0 := he
  clear her h he
  go_enter Try.func101, Try.ntmps101
  go_wp2_with (go_at_call 103; refine (scheck_all p R K C nc cc D nd cd cells right _ HE.out).mono ?_; rintro e w1 ⟨rfl, hb1⟩; rw [HER.out]
               have hbb1 := hb0.trans (hb1.mono (by simp))
               clear hb1)
  go_ret2
  exact ⟨rfl, hbb1⟩

set_option maxRecDepth 100000 in
theorem ssolves_err {p R K : Int} {C : Option Addr} {nc cc : Nat} {D : Option Addr} {nd cd : Nat} {cells right : List Int} {w : World} (h : EqR w p R K C nc cc D nd cd cells right) (he : errQ p R K cells right ≠ 0) {X : Option Addr} {xm xc : Nat} :
    Calls Try.prog 105 #[eqRV p R K C nc cc D nd cd, .slice X xm xc] w (ErrQPost (.bool false) (errQ p R K cells right) w) := by
  have hb0 : Below w.heap.size w (w.alloc (.cells (eqRC p R K C nc cc D nd cd) 106)) := bbox _
  have HE := Lib.hid (h.upto hb0)
  have HB0 := Lib.hid (Blk.new w 106 (eqRC p R K C nc cc D nd cd))
  have hp64 := h.p64
  have hr64 := h.r64
  have hk64 := h.k64
  obtain ⟨er, her⟩ : ∃ er, errQ p R K cells right = er := ⟨_, rfl⟩
  rw [her] at he ⊢
  have HER := Lib.hid her
  have hea : ¬ er = 0 := he
  clear her h he
  go_enter Try.func105, Try.ntmps105
  go_wp2_with (go_at_call 103; refine (scheck_all p R K C nc cc D nd cd cells right _ HE.out).mono ?_; rintro e w1 ⟨rfl, hb1⟩; rw [HER.out]
               have hbb1 := hb0.trans (hb1.mono (by simp))
               clear hb1)
  go_ret2
  exact ⟨rfl, hbb1⟩

set_option maxRecDepth 100000 in
theorem rrank_err {p R K : Int} {C : Option Addr} {nc cc : Nat} {D : Option Addr} {nd cd : Nat} {cells right : List Int} {w : World} (h : EqR w p R K C nc cc D nd cd cells right) (he : errQ p R K cells right ≠ 0) :
    Calls Try.prog 96 #[eqRV p R K C nc cc D nd cd] w (ErrQPost (.int .i64 0) (errQ p R K cells right) w) := by
  have hb0 : Below w.heap.size w (w.alloc (.cells (eqRC p R K C nc cc D nd cd) 106)) := bbox _
  have HE := Lib.hid (h.upto hb0)
  have HB0 := Lib.hid (Blk.new w 106 (eqRC p R K C nc cc D nd cd))
  have hp64 := h.p64
  have hr64 := h.r64
  have hk64 := h.k64
  obtain ⟨er, her⟩ : ∃ er, errQ p R K cells right = er := ⟨_, rfl⟩
  rw [her] at he ⊢
  have HER := Lib.hid her
  have hea : ¬ er = 0 := he
  clear her h he
  go_enter Try.func96, Try.ntmps96
  go_wp2_with (go_at_call 104; refine (rcheck_all p R K C nc cc D nd cd cells right _ HE.out).mono ?_; rintro e w1 ⟨rfl, hb1⟩; rw [HER.out]
               have hbb1 := hb0.trans (hb1.mono (by simp))
               clear hb1)
  go_ret2
  exact ⟨rfl, hbb1⟩

set_option maxRecDepth 100000 in
theorem rsolve_err {p R K : Int} {C : Option Addr} {nc cc : Nat} {D : Option Addr} {nd cd : Nat} {cells right : List Int} {w : World} (h : EqR w p R K C nc cc D nd cd cells right) (he : errQ p R K cells right ≠ 0) :
    Calls Try.prog 98 #[eqRV p R K C nc cc D nd cd] w (ErrQPost (.slice none 0 0) (errQ p R K cells right) w) := by
  have hb0 : Below w.heap.size w (w.alloc (.cells (eqRC p R K C nc cc D nd cd) 106)) := bbox _
  have HE := Lib.hid (h.upto hb0)
  have HB0 := Lib.hid (Blk.new w 106 (eqRC p R K C nc cc D nd cd))
  have hp64 := h.p64
  have hr64 := h.r64
  have hk64 := h.k64
  obtain ⟨er, her⟩ : ∃ er, errQ p R K cells right = er := ⟨_, rfl⟩
  rw [her] at he ⊢
  have HER := Lib.hid her
  have hea : ¬ er = 0 := he
  clear her h he
  go_enter Try.func98, Try.ntmps98
  go_wp2_with (go_at_call 104; refine (rcheck_all p R K C nc cc D nd cd cells right _ HE.out).mono ?_; rintro e w1 ⟨rfl, hb1⟩; rw [HER.out]
               have hbb1 := hb0.trans (hb1.mono (by simp))
               clear hb1)
  go_ret2
  exact ⟨rfl, hbb1⟩

set_option maxRecDepth 100000 in
theorem rkern_err {p R K : Int} {C : Option Addr} {nc cc : Nat} {D : Option Addr} {nd cd : Nat} {cells right : List Int} {w : World} (h : EqR w p R K C nc cc D nd cd cells right) (he : errQ p R K cells right ≠ 0) :
    Calls Try.prog 100 #[eqRV p R K C nc cc D nd cd] w (ErrQPost (.slice none 0 0) (errQ p R K cells right) w) := by
  have hb0 : Below w.heap.size w (w.alloc (.cells (eqRC p R K C nc cc D nd cd) 106)) := bbox _
  have HE := Lib.hid (h.upto hb0)
  have HB0 := Lib.hid (Blk.new w 106 (eqRC p R K C nc cc D nd cd))
  have hp64 := h.p64
  have hr64 := h.r64
  have hk64 := h.k64
  obtain ⟨er, her⟩ : ∃ er, errQ p R K cells right = er := ⟨_, rfl⟩
  rw [her] at he ⊢
  have HER := Lib.hid her
  have hea : ¬ er = 0 := he
  clear her h he
  go_enter Try.func100, Try.ntmps100
  go_wp2_with (go_at_call 104; refine (rcheck_all p R K C nc cc D nd cd cells right _ HE.out).mono ?_; rintro e w1 ⟨rfl, hb1⟩; rw [HER.out]
               have hbb1 := hb0.trans (hb1.mono (by simp))
               clear hb1)
  go_ret2
  exact ⟨rfl, hbb1⟩

set_option maxRecDepth 100000 in
theorem rcount_err {p R K : Int} {C : Option Addr} {nc cc : Nat} {D : Option Addr} {nd cd : Nat} {cells right : List Int} {w : World} (h : EqR w p R K C nc cc D nd cd cells right) (he : errQ p R K cells right ≠ 0) :
    Calls Try.prog 102 #[eqRV p R K C nc cc D nd cd] w (ErrQPost (.int .i64 0) (errQ p R K cells right) w) := by
  have hb0 : Below w.heap.size w (w.alloc (.cells (eqRC p R K C nc cc D nd cd) 106)) := bbox _
  have HE := Lib.hid (h.upto hb0)
  have HB0 := Lib.hid (Blk.new w 106 (eqRC p R K C nc cc D nd cd))
  have hp64 := h.p64
  have hr64 := h.r64
  have hk64 := h.k64
  obtain ⟨er, her⟩ : ∃ er, errQ p R K cells right = er := ⟨_, rfl⟩
  rw [her] at he ⊢
  have HER := Lib.hid her
  have hea : ¬ er = 0 := he
  clear her h he
  go_enter Try.func102, Try.ntmps102
  go_wp2_with (go_at_call 104; refine (rcheck_all p R K C nc cc D nd cd cells right _ HE.out).mono ?_; rintro e w1 ⟨rfl, hb1⟩; rw [HER.out]
               have hbb1 := hb0.trans (hb1.mono (by simp))
               clear hb1)
  go_ret2
  exact ⟨rfl, hbb1⟩

set_option maxRecDepth 100000 in
theorem rsolves_err {p R K : Int} {C : Option Addr} {nc cc : Nat} {D : Option Addr} {nd cd : Nat} {cells right : List Int} {w : World} (h : EqR w p R K C nc cc D nd cd cells right) (he : errQ p R K cells right ≠ 0) {X : Option Addr} {xm xc : Nat} :
    Calls Try.prog 106 #[eqRV p R K C nc cc D nd cd, .slice X xm xc] w (ErrQPost (.bool false) (errQ p R K cells right) w) := by
  have hb0 : Below w.heap.size w (w.alloc (.cells (eqRC p R K C nc cc D nd cd) 106)) := bbox _
  have HE := Lib.hid (h.upto hb0)
  have HB0 := Lib.hid (Blk.new w 106 (eqRC p R K C nc cc D nd cd))
  have hp64 := h.p64
  have hr64 := h.r64
  have hk64 := h.k64
  obtain ⟨er, her⟩ : ∃ er, errQ p R K cells right = er := ⟨_, rfl⟩
  rw [her] at he ⊢
  have HER := Lib.hid her
  have hea : ¬ er = 0 := he
  clear her h he
  go_enter Try.func106, Try.ntmps106
  go_wp2_with (go_at_call 104; refine (rcheck_all p R K C nc cc D nd cd cells right _ HE.out).mono ?_; rintro e w1 ⟨rfl, hb1⟩; rw [HER.out]
               have hbb1 := hb0.trans (hb1.mono (by simp))
               clear hb1)
  go_ret2
  exact ⟨rfl, hbb1⟩

end Go.Proofs.Ytoblofilaegnaaa
