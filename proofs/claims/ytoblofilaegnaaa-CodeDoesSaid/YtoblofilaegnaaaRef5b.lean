/-
  What the reference's value, Value and Trim on polynomials, and its Encode, hand back for valid arguments. Conditions: the lists read as their numbers, all of them elements.
-/
import Derived.Test.YtoblofilaegnaaaRef5
import Derived.Test.YtoblofilaegnaaaSplL
import Derived.Deep.QuietTactic
import Derived.BigQuiet
namespace Go.Proofs.Ytoblofilaegnaaa
open Go.RowKit
set_option linter.unusedVariables false

theorem value_step {p : Int} (hp : 2 ≤ p) (x : Int) (zs : List Int) {j : Nat} (hj : j < zs.length) : (valueP p x (zs.drop (j + 1)) * x + zs.getD j 0) % p = valueP p x (zs.drop j) := by
  rw [List.drop_eq_getElem_cons hj]
  show _ = addP p (mulP p (valueP p x (zs.drop (j + 1))) x) _
  unfold addP mulP
  rw [List.getD_eq_getElem?_getD, List.getElem?_eq_getElem hj, Option.getD_some]
  exact (Int.emod_add_emod _ _ _).symm

set_option maxRecDepth 100000 in
set_option maxHeartbeats 800000 in
theorem rvalue_any (p x : Int) (A : Option Addr) (n c : Nat) (zs : List Int) (w : World) (hp : 2 ≤ p ∧ p ≤ 65521) (hx : 0 ≤ x ∧ x < p) (h : Ints w w.heap.size A n zs) (hz : allP p zs = true) (hn : n ≤ 1000) :
    Calls Try.prog 139 #[.agg #[.int .i64 p], .slice A n c, .int .i64 x] w fun e w' => e = .returned (.int .i64 (valueP p x zs)) ∧ Below w.heap.size w w' := by
  have HL := Lib.hid h.len
  have HZ := Lib.hid hz
  have hB0 : Below w.heap.size w (w.alloc (.cells #[.int .i64 p] 24)) := bbox _
  have hF0 := Blk.new w 24 #[.int .i64 p]
  have hcF0 : (w.alloc (.cells #[.int .i64 p] 24)).cell? ⟨w.heap.size, 0, none⟩ = some (.int .i64 p) := (hF0.cell 0).trans rfl
  have hI := h.upto hB0
  have hn1 : IntKind.i64.wrap ((n : Int) - 1) = (n : Int) - 1 := IntWalk.i64_in _ (by omega)
  clear hz
  go_enter Try.func139, Try.ntmps139
  go_wp2
  obtain ⟨w1, hw1⟩ : ∃ w1, w1 = w.alloc (.cells #[.int .i64 p] 24) := ⟨_, rfl⟩
  rw [← hw1] at hB0 hcF0 hI ⊢
  clear hw1 hF0
  go_loopw [7, 8] (fun s i wz => ∃ (k q : Nat) (iv sv : Int), k ≤ n ∧ i = .int .i64 iv ∧ Hid (iv = (k : Int) - 1) ∧ s = .int .i64 sv ∧ Hid (valueP p x (zs.drop k) = sv) ∧ wz = w1.drewN q) (fun _ i _ => (intOf i + 1).toNat)
  case atStart => exact ⟨n, 0, _, 0, Nat.le_refl _, rfl, Lib.hid rfl, rfl, Lib.hid (by rw [List.drop_of_length_le (by rw [HL.out]; exact Nat.le_refl _)]; rfl), rfl⟩
  case round =>
    obtain ⟨k, q, iv, sv, hk, rfl, HI, rfl, HS, rfl⟩ := hrel
    by_cases hk0 : 0 < k
    · obtain ⟨j, rfl⟩ : ∃ j, k = j + 1 := ⟨k - 1, by omega⟩
      obtain rfl : iv = (j : Int) := by have := HI.out; omega
      obtain ⟨b, off, rfl, hb, hcell⟩ := hI.2 (by omega)
      have hcj := hcell j (by omega)
      clear hcell
      have hye := allP_getD HZ.out (k := j) (by rw [HL.out]; omega)
      have hsv := valueP_in hp.1 x (zs.drop (j + 1))
      have hst := value_step hp.1 x zs (j := j) (by rw [HL.out]; omega)
      rw [HS.out] at hsv hst
      obtain ⟨y, HY⟩ : ∃ y, Hid (zs.getD j 0 = y) := ⟨_, Lib.hid rfl⟩
      rw [HY.out] at hcj hye hst
      obtain ⟨v, hv⟩ : ∃ v, (sv * x + y) % p = v := ⟨_, rfl⟩
      have HN : Hid (valueP p x (zs.drop j) = v) := Lib.hid (hst.symm.trans hv)
      have hsx : 0 ≤ sv * x ∧ sv * x ≤ 65521 * 65521 := ⟨Int.mul_nonneg hsv.1 hx.1, by have := Int.mul_le_mul (show sv ≤ 65521 by omega) (show x ≤ 65521 by omega) hx.1 (by omega); omega⟩
      have hw1 : IntKind.i64.wrap (sv * x) = sv * x := IntWalk.i64_in _ (by omega)
      have hw2 : IntKind.i64.wrap (sv * x + y) = sv * x + y := IntWalk.i64_in _ (by omega)
      have hvt : (sv * x + y).tmod p = v := by rw [Int.tmod_eq_emod_of_nonneg (by omega)]; exact hv
      have hjm : IntKind.i64.wrap ((j : Int) - 1) = (j : Int) - 1 := IntWalk.i64_in _ (by omega)
      have hj0 : (0 : Int) ≤ (j : Int) := by omega
      have hjn : (j : Int) < (n : Int) := by omega
      have hp0 : ¬ p = 0 := by omega
      clear hst hv hsx HI
      go_wp2
      go_quiet (fail)
      go_wp2
      go_roundw
      case rel => exact ⟨j, _, _, v, by omega, rfl, Lib.hid rfl, rfl, HN, rfl⟩
      case measure => simp [intOf]
    · obtain rfl : k = 0 := by omega
      have hiv : iv < 0 := by have := HI.out; omega
      have hiv2 : ¬ (0 ≤ iv) := by omega
      have HS2 : Hid (valueP p x zs = sv) := HS
      go_wp2
      go_ret
      exact ⟨ret_int HS2.out.symm, below_drewN hB0 _⟩

set_option maxRecDepth 100000 in
theorem rValue_ok (p x : Int) (A : Option Addr) (n c : Nat) (zs : List Int) (w : World) (hok : okP p = true) (hx : 0 ≤ x ∧ x < p) (h : Ints w w.heap.size A n zs) (hz : allP p zs = true) (hn : n ≤ 512) :
    Calls Try.prog 47 #[.agg #[.int .i64 p], .slice A n c, .int .i64 x] w fun e w' => e = .returned (.tuple #[.int .i64 (valueP p x zs), .int .i64 0]) ∧ Below w.heap.size w w' := by
  have hp := okP_pos hok
  have HO := Lib.hid hok
  have HZ := Lib.hid hz
  have HXI : Hid (inF p [x] = true) := Lib.hid (inF_iff.2 ⟨hok, allP_iff.2 (by simpa using hx)⟩)
  have HR : Hid (∀ r ∈ [zs], allP p r = true ∧ r.length ≤ 512) := Lib.hid fun r hr => by rw [List.mem_singleton.1 hr]; exact ⟨hz, by rw [h.len]; exact hn⟩
  have hF0 := (Blk.new w 24 #[.int .i64 p]).alloc (.cells #[.int .i64 x] 3)
  have hb0 : Below w.heap.size w ((w.alloc (.cells #[.int .i64 p] 24)).alloc (.cells #[.int .i64 x] 3)) := ballocs (bbox _) _
  obtain ⟨v, HV⟩ : ∃ v, Hid (valueP p x zs = v) := ⟨_, Lib.hid rfl⟩
  rw [HV.out]
  clear hok hz
  go_enter Try.func47, Try.ntmps47
  go_wp2_with (first
    | (go_at_call 126; (refine (in_any p _ 1 1 [x] _ (by exact Ints.oneAt _ x 3 _ (by simp)) (by omega)).mono ?_); rintro e w1 ⟨rfl, hb1⟩
       rw [HXI.out]
       have hbb1 := bnext hb0 hb1
       have hF1 := hF0.below hb1 hF0.lt
       have hcF1 : w1.cell? ⟨w.heap.size, 0, none⟩ = some (.int .i64 p) := (hF1.cell 0).trans rfl
       have hI1 := h.upto hbb1)
    | (go_at_call 131; (refine (rlists_ok p _ 1 1 [zs] _ HO.out (by exact Mat.one _ A n c zs 22 _ rfl hI1 (by omega)) (by omega) HR.out).mono ?_); rintro e w2 ⟨rfl, hb2⟩
       have hbb2 := bnext (ballocs hbb1 _) hb2
       have hF2 := (hF1.alloc _).below hb2 (hF1.alloc _).lt
       have hcF2 : w2.cell? ⟨w.heap.size, 0, none⟩ = some (.int .i64 p) := (hF2.cell 0).trans rfl
       have hI2 := h.upto hbb2)
    | (go_at_call 139; (with_reducible refine (rvalue_any p x A n c zs _ hp hx hI2 HZ.out (by omega)).mono ?_); rintro e w3 ⟨rfl, hb3⟩
       rw [HV.out]
       have hbb3 := bnext hbb2 hb3))
  go_ret2
  exact ⟨rfl, hbb3⟩

set_option maxRecDepth 100000 in
theorem rTrim_ok (p : Int) (A : Option Addr) (n c : Nat) (zs : List Int) (w : World) (hok : okP p = true) (h : Ints w w.heap.size A n zs) (hz : allP p zs = true) (hc : n ≤ c) (hn : n ≤ 512) :
    Calls Try.prog 43 #[.agg #[.int .i64 p], .slice A n c] w fun e w' => (∃ A' c', e = .returned (.tuple #[.slice A' (trimL zs).length c', .int .i64 0]) ∧ OwnI w' w.heap.size 3 A' (trimL zs).length c' (trimL zs)) ∧ Below w.heap.size w w' := by
  have HO := Lib.hid hok
  have HR : Hid (∀ r ∈ [zs], allP p r = true ∧ r.length ≤ 512) := Lib.hid fun r hr => by rw [List.mem_singleton.1 hr]; exact ⟨hz, by rw [h.len]; exact hn⟩
  have HTL : Hid (tn zs n = (trimL zs).length) := Lib.hid (by rw [trimL_len, h.len])
  have hb0 : Below w.heap.size w (w.alloc (.cells #[.int .i64 p] 24)) := bbox _
  have hI0 := h.upto hb0
  clear hok hz
  go_enter Try.func43, Try.ntmps43
  go_wp2_with (first
    | (go_at_call 131; (refine (rlists_ok p _ 1 1 [zs] _ HO.out (by exact Mat.one _ A n c zs 22 _ (by simp) hI0 (by omega)) (by omega) HR.out).mono ?_); rintro e w2 ⟨rfl, hb2⟩
       have hbb2 := bnext (ballocs hb0 _) hb2
       have hI2 := h.upto hbb2)
    | (go_at_call 132; (with_reducible refine (rtrim_any A n c zs _ hI2 hc (by omega)).mono ?_); rintro e w3 ⟨⟨A3, c3, rfl, hown3⟩, hb3⟩
       rw [HTL.out] at hown3
       rw [HTL.out]
       have hbb3 := bnext hbb2 hb3))
  go_ret2
  exact ⟨⟨A3, c3, rfl, hown3.base hbb2.size⟩, hbb3⟩

set_option maxRecDepth 100000 in
set_option maxHeartbeats 1600000 in
theorem rencode_ok (p : Int) (C : Option Addr) (m c n : Nat) (cs : List Int) (w : World) (hok : okP p = true) (h : Ints w w.heap.size C m cs) (hca : allP p cs = true) (hmc : m ≤ c) (hm : m ≤ 512) (hn : n ≤ 32) (hnp : (n : Int) < p) :
    Calls Try.prog 68 #[.agg #[.int .i64 p], .slice C m c, .int .i64 n] w fun e w' => (∃ A' c', e = .returned (.tuple #[.slice A' n c', .int .i64 0]) ∧ OwnI w' w.heap.size 3 A' n c' (valsP p cs (ptsL n))) ∧ Below w.heap.size w w' := by
  obtain ⟨i0, hi0, hz0, hz1, hz2⟩ := info_parts info_int
  have hp := okP_pos hok
  have HO := Lib.hid hok
  have HC := Lib.hid hca
  have h1 : ¬ ((n : Int) < 0) := by omega
  have h3 : ¬ ((32 : Int) < (n : Int)) := by omega
  have h3N : ¬ 32 < n := by omega
  have h4 : ¬ (p ≤ (n : Int)) := by omega
  have hb0 : Below w.heap.size w (w.alloc (.cells #[.int .i64 p] 24)) := bbox _
  have hF0 := Blk.new w 24 #[.int .i64 p]
  have hS0 := h.upto hb0
  clear hok hca
  go_enter Try.func68, Try.ntmps68
  go_wp2_with (go_at_call 43; (refine (rTrim_ok p C m c cs _ HO.out hS0 HC.out hmc hm).mono ?_); rintro e w1 ⟨⟨A1, c1, rfl, _⟩, hb1⟩
               have hbb1 := bnext hb0 hb1
               have hF1 := hF0.below hb1 hF0.lt
               have hcF1 : w1.cell? ⟨w.heap.size, 0, none⟩ = some (.int .i64 p) := (hF1.cell 0).trans rfl
               have hC1 := hS0.upto hb1)
  go_loopw [10, 11] (fun s i wz => ∃ (k m' : Nat) (L : Option Addr) (lc : Nat), k ≤ n ∧ s = .slice L k lc ∧ i = .int .i64 m' ∧ Hid (m' = k + 1) ∧ OwnI wz w1.heap.size 3 L k lc (valsP p cs (ptsL k)) ∧ Below w1.heap.size w1 wz) (fun _ i _ => n + 1 - (intOf i).toNat)
  case atStart => exact ⟨0, 1, none, 0, Nat.zero_le _, rfl, rfl, Lib.hid rfl, OwnI.nil_, Below.refl _ _⟩
  case round =>
    obtain ⟨k, m', L, lc, hk, rfl, rfl, HM, hown, hb⟩ := hrel
    by_cases hlt : k < n
    · have hki : (m' : Int) ≤ (n : Int) := by have := HM.out; omega
      obtain ⟨m2, hm2⟩ : ∃ m2 : Nat, m' + 1 = m2 := ⟨_, rfl⟩
      have hkw : IntKind.i64.wrap ((m' : Int) + 1) = (m2 : Int) := by rw [IntWalk.i64_in _ (by omega)]; omega
      have HM2 : Hid (m2 = k + 1 + 1) := Lib.hid (by rw [← hm2, HM.out])
      have hFz := hF1.below hb hF1.lt
      have hcz : wr.cell? ⟨w.heap.size, 0, none⟩ = some (.int .i64 p) := (hFz.cell 0).trans rfl
      have hCz := hC1.upto hb
      have hx : 0 ≤ (m' : Int) ∧ (m' : Int) < p := by omega
      clear hm2
      obtain ⟨v, HV⟩ : ∃ v, Hid (valueP p (m' : Int) cs = v) := ⟨_, Lib.hid rfl⟩
      have HS : Hid (valsP p cs (ptsL (k + 1)) = valsP p cs (ptsL k) ++ [v]) := Lib.hid (by rw [ptsL_succ, valsP_snoc, ← HV.out, HM.out]; rfl)
      go_wp2_with (first
        | (go_at_call 47; (with_reducible refine (rValue_ok p (m' : Int) C m c cs _ HO.out hx hCz HC.out hm).mono ?_); rintro e w2 ⟨rfl, hb2⟩
           rw [HV.out]
           have hbz2 := bnext hb hb2
           have hbz3 := ballocs hbz2 (.cells #[.int .i64 v] 3)
           have hown2 := (hown.belowAll hb2).alloc (.cells #[.int .i64 v] 3))
        | (at_builtin
           refine wpList_append_ints rfl _ _ _ rfl w1.heap.size 3 i0 _ Try.underlying22 hi0 hz0 hz1 hz2 rfl L k lc _ rfl hown2 _ _ 1 1 [v] rfl (Ints.one _ _ _) (k + 1) rfl _ HS.out.symm (by omega) hbz3.size ?_
           intro A2 c2 w4 hown4 hgr hbw4 hab
           have hbz4 := hbz3.trans hbw4))
      go_roundw
      case rel => exact ⟨k + 1, m2, A2, c2, by omega, rfl, by go_num, HM2, hown4, hbz4⟩
      case measure => have e1 := HM.out; have e2 := HM2.out; simp [intOf]; omega
    · obtain rfl : k = n := by omega
      have hki : ¬ ((m' : Int) ≤ (k : Int)) := by have := HM.out; omega
      go_wp2
      go_ret2
      exact ⟨⟨L, lc, rfl, hown.base hbb1.size⟩, bnext hbb1 hb⟩
end Go.Proofs.Ytoblofilaegnaaa
