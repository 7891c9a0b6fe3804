/-
  Words for memory and contracts of small functions of the second form. Conditions: those of each lemma.
-/
import Derived.Test.YtnjdjcgandfnfaaDoorBase
import Derived.Deep.QuietTactic
import Derived.BigQuiet
import Derived.Test.YtnjdjcgandfnfaaDoorKnown
import Derived.Test.YtnjdjcgandfnfaaDoorValue
import Derived.Test.YtnjdjcgandfnfaaDoorPlain
import Derived.Test.YtnjdjcgandfnfaaDoorDeck
import Derived.Deep.RegionHeld3
import Derived.Test.YtnjdjcgandfnfaaDoorGSha
/-! Same -/
namespace Go.Proofs.YtnjdjcgandfnfaaDoor
open Go.RowKit
set_option linter.unusedVariables false

/-- Two lists are the same. -/
def sameL (xs ys : List Int) : Bool := xs == ys

theorem sameL_iff {xs ys : List Int} : sameL xs ys = true ↔ xs = ys := by simp [sameL]

theorem same_any (A B : Option Addr) (n m c d : Nat) (xs ys : List Int) (w : World) {B1 B2 : Nat} (h : Ints w B1 A n xs) (h2 : Ints w B2 B m ys) (hn : n ≤ 17592186044416) (hm : m ≤ 17592186044416) :
    Calls Tryd.prog 24 #[.slice A n c, .slice B m d] w fun e w' => e = .returned (.bool (sameL xs ys)) ∧ ∃ q, w' = w.drewN q := by
  by_cases hl : n = m
  · subst hl
    have HL := Lib.hid h.len
    have HM := Lib.hid h2.len
    go_enter Tryd.func24, Tryd.ntmps24
    go_wp2
    go_loopw [13] (fun i wr => ∃ k q : Nat, k ≤ n ∧ i = .int .i64 k ∧ Hid (xs.take k = ys.take k) ∧ wr = w.drewN q) (fun i _ => n - (intOf i).toNat)
    case atStart => exact ⟨0, 0, Nat.zero_le _, rfl, Lib.hid rfl, rfl⟩
    case round =>
      obtain ⟨k, q, hk, rfl, HE, rfl⟩ := hrel
      by_cases hlt : k < n
      · obtain ⟨b1, o1, rfl, hb1, hc1⟩ := h.2 (by omega)
        obtain ⟨b2, o2, rfl, hb2, hc2⟩ := h2.2 (by omega)
        have hr1 := hc1 k hlt
        have hr2 := hc2 k hlt
        clear hc1 hc2
        have HT1 := Lib.hid (take_snoc_int xs k (by rw [HL.out]; exact hlt))
        have HT2 := Lib.hid (take_snoc_int ys k (by rw [HM.out]; exact hlt))
        have HX := Lib.hid (show ∀ j, xs = ys → xs.getD j 0 = ys.getD j 0 from fun j e => by rw [e])
        have HXk := Lib.hid (HX.out k)
        clear HX
        generalize xs.getD k 0 = x at *
        generalize ys.getD k 0 = y at *
        by_cases hxy : x = y
        · subst hxy
          go_wp2
          go_quiet (fail)
          go_wp2
          go_roundw
          case rel => exact ⟨k + 1, _, by omega, by go_num, Lib.hid (by rw [HT1.out, HT2.out, HE.out]), rfl⟩
          case measure => simp [intOf]; omega
        · have hxb : (x != y) = true := by simpa using hxy
          have hf : sameL xs ys = false := by
            rw [← Bool.not_eq_true, sameL_iff]; intro e; exact hxy (HXk.out e)
          have HF := Lib.hid hf
          clear hf hxy
          go_wp2
          go_quiet (fail)
          go_wp2
          go_ret
          exact ⟨ret_bool HF.out.symm, _, World.drewN_drewN _ _ _⟩
      · go_wp2
        go_ret
        refine ⟨ret_bool ?_, q, rfl⟩
        have := HE.out
        rw [List.take_of_length_le (by rw [HL.out]; omega), List.take_of_length_le (by rw [HM.out]; omega)] at this
        exact (sameL_iff.2 this).symm
  · have hf : sameL xs ys = false := by
      rw [← Bool.not_eq_true, sameL_iff]; intro e; apply hl; rw [← h.len, ← h2.len, e]
    have HF := Lib.hid hf
    have hne : ((n : Int) != (m : Int)) = true := by simp; omega
    clear hf
    go_enter Tryd.func24, Tryd.ntmps24
    go_wp2
    go_ret
    exact ⟨ret_bool HF.out.symm, 0, rfl⟩
end Go.Proofs.YtnjdjcgandfnfaaDoor

/-! UCnt -/
namespace Go.Proofs.YtnjdjcgandfnfaaDoor
open Go.RowKit
set_option linter.unusedVariables false

set_option maxRecDepth 100000 in
/-- How many cells are known. -/
theorem ucount_any (A : Option Addr) (m c : Nat) (vs : List Int) (bs : List Bool) (w : World) (h : Cel w w.heap.size A m vs bs) (hm : m ≤ 32) :
    Calls Tryd.prog 44 #[.slice A m c] w fun e w' => e = .returned (.int .i64 (knL vs bs).length) ∧ Below w.heap.size w w' := by
  have HV := Lib.hid h.1
  have HB := Lib.hid h.2.1
  go_enter Tryd.func44, Tryd.ntmps44
  go_wp2_with fail
  go_loopw [3, 8] (fun n i wz => ∃ k q : Nat, k ≤ m ∧ q ≤ k ∧ i = .int .i64 k ∧ n = .int .i64 q ∧ Hid ((knL (vs.take k) (bs.take k)).length = q) ∧ Below w.heap.size w wz) (fun _ i _ => m - (intOf i).toNat)
  case atStart => exact ⟨0, 0, Nat.zero_le _, Nat.le_refl _, rfl, rfl, Lib.hid (by simp [knL, knF]), Below.refl _ _⟩
  case round =>
    obtain ⟨k, q, hk, hqk, rfl, rfl, HQ, hb⟩ := hrel
    by_cases hlt : k < m
    · obtain ⟨b1, o1, rfl, hb1, hc1⟩ := h.2.2 (by omega)
      have hx0 := (hb.cell (p := ⟨b1, o1 + k * 2, none⟩) hb1).trans (hc1 k hlt).1
      have hx1 := (hb.cell (p := ⟨b1, o1 + k * 2 + 1, none⟩) hb1).trans (hc1 k hlt).2
      clear hc1
      have HS := Lib.hid (knL_step (vs := vs) (bs := bs) (by rw [HV.out, HB.out]) (j := k) (by rw [HV.out]; exact hlt))
      have hki : (k : Int) < (m : Int) := by omega
      have hk0 : (0 : Int) ≤ (k : Int) := by omega
      obtain ⟨y, hy⟩ : ∃ y, vs.getD k 0 = y := ⟨_, rfl⟩
      rw [hy] at hx0
      clear hy
      by_cases hbk : bs.getD k false = true
      · have HQ2 : Hid ((knL (vs.take (k + 1)) (bs.take (k + 1))).length = q + 1) := Lib.hid (by rw [HS.out, if_pos hbk, List.length_append, HQ.out]; rfl)
        rw [hbk] at hx1
        clear hbk HS
        go_wp2
        go_roundw
        case rel => exact ⟨k + 1, q + 1, by omega, by omega, by go_num, by go_num, HQ2, ballocs hb _⟩
        case measure => simp [intOf]; omega
      · have HQ2 : Hid ((knL (vs.take (k + 1)) (bs.take (k + 1))).length = q) := Lib.hid (by rw [HS.out, if_neg hbk, List.append_nil, HQ.out])
        have hbf : bs.getD k false = false := by simpa using hbk
        rw [hbf] at hx1
        clear hbk hbf HS
        go_wp2
        go_roundw
        case rel => exact ⟨k + 1, q, by omega, by omega, by go_num, rfl, HQ2, ballocs hb _⟩
        case measure => simp [intOf]; omega
    · obtain rfl : k = m := by omega
      have HQ3 : Hid (((knL vs bs).length : Int) = (q : Int)) := Lib.hid (by have := HQ.out; rw [List.take_of_length_le (by rw [HV.out]; exact Nat.le_refl _), List.take_of_length_le (by rw [HB.out]; exact Nat.le_refl _)] at this; rw [this])
      go_wp2
      go_ret
      exact ⟨ret_int HQ3.out.symm, hb⟩

/-- The radius. -/
theorem uradius_ok (n k : Nat) (w : World) (hk : 1 ≤ k) (hkn : k ≤ n) (hn : n ≤ 32) :
    Calls Tryd.prog 25 #[.int .i64 n, .int .i64 k] w fun e w' => e = .returned (.tuple #[.int .i64 ((n - k) / 2 : Nat), .int .i64 0]) ∧ w = w' := by
  have h1 : ¬ ((k : Int) < 1) := by omega
  have h1N : ¬ k < 1 := by omega
  have h2 : ¬ ((n : Int) < (k : Int)) := by omega
  have h2N : ¬ n < k := by omega
  have h3 : ¬ ((32 : Int) < (n : Int)) := by omega
  have h3N : ¬ 32 < n := by omega
  have h4 : ¬ ((n : Int) < 0) := by omega
  obtain ⟨d, hd⟩ : ∃ d, n - k = d := ⟨_, rfl⟩
  have h5 : IntKind.i64.wrap ((n : Int) - k) = (d : Int) := by rw [IntWalk.i64_in _ (by omega)]; omega
  have h6 : (n : Int) - k = (d : Int) := by omega
  have HE : Hid ((((n - k) / 2 : Nat) : Int) = (d : Int) / 2) := Lib.hid (by rw [hd]; omega)
  rw [HE.out]
  clear hd
  go_enter Tryd.func25, Tryd.ntmps25
  go_wp2
  go_ret2
  exact ⟨rfl, rfl⟩

set_option maxRecDepth 100000 in
set_option maxHeartbeats 1600000 in
/-- The numbers of the wrong values. -/
theorem uwrongs_ok (p : Int) (A : Option Addr) (m c : Nat) (vs : List Int) (bs : List Bool) (P : Option Addr) (n pc : Nat) (ps : List Int) (w : World) (hp : 2 ≤ p ∧ p ≤ 65521) (h : Cel w w.heap.size A m vs bs) (hm : m ≤ 32) (hmp : (m : Int) < p)
    (hP : Ints w w.heap.size P n ps) (hpa : allP p ps = true) (hn : n ≤ 512) :
    Calls Tryd.prog 45 #[.int .i64 p, .slice A m c, .slice P n pc] w fun e w' =>
      (∃ (A' : Option Addr) (c' : Nat), e = .returned (.slice A' (wrL p ps (knL vs bs)).length c') ∧ OwnI w' w.heap.size 3 A' (wrL p ps (knL vs bs)).length c' (wrL p ps (knL vs bs))) ∧ Below w.heap.size w w' := by
  obtain ⟨i0, hi0, hz0, hz1, hz2⟩ := info_parts info_int
  have HV := Lib.hid h.1
  have HB := Lib.hid h.2.1
  have HPA := Lib.hid hpa
  clear hpa
  go_enter Tryd.func45, Tryd.ntmps45
  go_wp2_with fail
  go_loopw [7, 8, 12] (fun v u i wz => ∃ (k q : Nat) (L : Option Addr) (lc : Nat) (l : List Int), k ≤ m ∧ q ≤ k ∧ i = .int .i64 k ∧ v = .slice L q lc ∧ Hid (OwnI wz w.heap.size 3 L q lc l) ∧ Hid (wrL p ps (knL (vs.take k) (bs.take k)) = l) ∧ Below w.heap.size w wz) (fun _ _ i _ => m - (intOf i).toNat)
  case atStart => exact ⟨0, 0, none, 0, [], Nat.zero_le _, Nat.le_refl _, rfl, rfl, Lib.hid OwnI.nil_, Lib.hid (by simp [knL, knF, wrL]), Below.refl _ _⟩
  case round =>
    obtain ⟨k, q, L, lc, l, hk, hqk, rfl, rfl, HO, HQ, hb⟩ := hrel
    by_cases hlt : k < m
    · obtain ⟨b1, o1, rfl, hb1, hc1⟩ := h.2.2 (by omega)
      have hx0 := (hb.cell (p := ⟨b1, o1 + k * 2, none⟩) hb1).trans (hc1 k hlt).1
      have hx1 := (hb.cell (p := ⟨b1, o1 + k * 2 + 1, none⟩) hb1).trans (hc1 k hlt).2
      clear hc1
      have HS := Lib.hid (wrL_step (p := p) (P := ps) (vs := vs) (bs := bs) (by rw [HV.out, HB.out]) (j := k) (by rw [HV.out]; exact hlt))
      have hki : (k : Int) < (m : Int) := by omega
      have hk0 : (0 : Int) ≤ (k : Int) := by omega
      have hkw : IntKind.i64.wrap ((k : Int) + 1) = (k : Int) + 1 := IntWalk.i64_in _ (by omega)
      have hIP := hP.upto hb
      obtain ⟨y, hy⟩ : ∃ y, vs.getD k 0 = y := ⟨_, rfl⟩
      rw [hy] at hx0 HS
      clear hy
      by_cases hbk : bs.getD k false = true
      · rw [hbk] at hx1 HS
        clear hbk
        obtain ⟨z, hz⟩ : ∃ z, valueP p ((k : Int) + 1) ps = z := ⟨_, rfl⟩
        rw [hz] at HS
        have HZ := Lib.hid hz
        clear hz
        go_wp2_with fail
        obtain ⟨g, hg⟩ : ∃ g, wr.heap.size = g := ⟨_, rfl⟩
        have hN := Blk.new wr 59 #[.int .i64 y, .bool true]
        have hO1 := HO.out.alloc (.cells #[.int .i64 y, .bool true] 59)
        have hI1 := hIP.upto (bbox (w0 := wr) (.cells #[.int .i64 y, .bool true] 59))
        have hb1 := ballocs hb (.cells #[.int .i64 y, .bool true] 59)
        obtain ⟨W, hW⟩ : ∃ W, wr.alloc (.cells #[.int .i64 y, .bool true] 59) = W := ⟨_, rfl⟩
        rw [hW] at hN hO1 hI1 hb1 ⊢
        rw [hg] at hN ⊢
        have hc0 : W.drew.cell? ⟨g, 0, none⟩ = some (.int .i64 y) := (hN.cell 0).trans rfl
        have hc1 : W.drew.cell? ⟨g, 1, none⟩ = some (.bool true) := (hN.cell 1).trans rfl
        have hId : Ints W.drew W.drew.heap.size P n ps := hI1
        have hxk : 0 ≤ (k : Int) + 1 ∧ (k : Int) + 1 < p := by omega
        have HO1 := Lib.hid hO1
        have HB1 := Lib.hid hb1
        have HN := Lib.hid hN
        clear hW hg hx0 hx1 hIP HO hb hO1 hb1 hN hI1
        by_cases hzy : z = y
        · have h1 : (z != y) = false := by simpa using hzy
          have HQ2 : Hid (wrL p ps (knL (vs.take (k + 1)) (bs.take (k + 1))) = l) := Lib.hid (by rw [HS.out, if_neg (fun hh => hh.2 hzy), List.append_nil, HQ.out])
          clear hzy HS
          go_region_held3 (fun w' => w'.cell? ⟨g, 0, none⟩ = some (.int .i64 y) ∧ w'.cell? ⟨g, 1, none⟩ = some (.bool true)) (first | exact ⟨hc0, hc1⟩ | exact ⟨hd0, hd1⟩)
            (first
             | (go_at_call 70; (with_reducible refine (value_any p ((k : Int) + 1) P n pc ps _ hp hxk hId HPA.out (by omega)).mono ?_); rintro e w2 ⟨rfl, hb2⟩
                rw [HZ.out]
                have hd0 : w2.cell? ⟨g, 0, none⟩ = some (.int .i64 y) := ((HN.out.drew.below hb2 HN.out.lt).cell 0).trans rfl
                have hd1 : w2.cell? ⟨g, 1, none⟩ = some (.bool true) := ((HN.out.drew.below hb2 HN.out.lt).cell 1).trans rfl))
          go_wp2
          go_roundw
          case rel => exact ⟨k + 1, q, L, lc, l, by omega, by omega, by go_num, rfl, Lib.hid (HO1.out.drew.belowAll hb2), HQ2, bnext (HB1.out.drew) hb2⟩
          case measure => simp [intOf]; omega
        · have h1 : (z != y) = true := by simpa using hzy
          have HQ2 : Hid (wrL p ps (knL (vs.take (k + 1)) (bs.take (k + 1))) = l ++ [(k : Int) + 1]) := Lib.hid (by rw [HS.out, if_pos ⟨by trivial, hzy⟩, HQ.out])
          clear hzy HS
          go_region_held3 (fun w' => w'.cell? ⟨g, 0, none⟩ = some (.int .i64 y) ∧ w'.cell? ⟨g, 1, none⟩ = some (.bool true)) (first | exact ⟨hc0, hc1⟩ | exact ⟨hd0, hd1⟩)
            (first
             | (go_at_call 70; (with_reducible refine (value_any p ((k : Int) + 1) P n pc ps _ hp hxk hId HPA.out (by omega)).mono ?_); rintro e w2 ⟨rfl, hb2⟩
                rw [HZ.out]
                have hd0 : w2.cell? ⟨g, 0, none⟩ = some (.int .i64 y) := ((HN.out.drew.below hb2 HN.out.lt).cell 0).trans rfl
                have hd1 : w2.cell? ⟨g, 1, none⟩ = some (.bool true) := ((HN.out.drew.below hb2 HN.out.lt).cell 1).trans rfl))
          have hO2 := (HO1.out.drew.belowAll hb2).alloc (.cells #[.int .i64 ((k : Int) + 1)] 3)
          have hb3 := ballocs (bnext HB1.out.drew hb2) (.cells #[.int .i64 ((k : Int) + 1)] 3)
          go_wp2_with (at_builtin
                       refine wpList_append_ints rfl _ _ _ rfl w.heap.size 3 i0 _ Tryd.underlying22 hi0 hz0 hz1 hz2 rfl L q lc _ rfl hO2 _ _ 1 1 [(k : Int) + 1] rfl (Ints.one _ _ _) (q + 1) rfl _ rfl (by omega) hb3.size ?_
                       intro A2 c2 w4 hown4 hgr4 hbw4 hab
                       have hb4 := hb3.trans hbw4)
          go_roundw
          case rel => exact ⟨k + 1, q + 1, A2, c2, _, by omega, by omega, by go_num, rfl, Lib.hid hown4, HQ2, hb4⟩
          case measure => simp [intOf]; omega
      · have hbf : bs.getD k false = false := by simpa using hbk
        have HQ2 : Hid (wrL p ps (knL (vs.take (k + 1)) (bs.take (k + 1))) = l) := Lib.hid (by rw [HS.out, if_neg (fun hh => hbk hh.1), List.append_nil, HQ.out])
        rw [hbf] at hx1
        clear hbk hbf HS
        go_wp2_with fail
        have hO1 := Lib.hid (HO.out.alloc (.cells #[.int .i64 y, .bool false] 59))
        have hb1 := Lib.hid (ballocs hb (.cells #[.int .i64 y, .bool false] 59))
        go_quiet (fail)
        go_wp2
        go_roundw
        case rel => exact ⟨k + 1, q, L, lc, l, by omega, by omega, by go_num, rfl, Lib.hid (hO1.out.drewN _), HQ2, below_drewN hb1.out _⟩
        case measure => simp [intOf]; omega
    · obtain rfl : k = m := by omega
      have hl := HO.out.len
      have HQ3 := HQ.out
      rw [List.take_of_length_le (by rw [HV.out]; exact Nat.le_refl _), List.take_of_length_le (by rw [HB.out]; exact Nat.le_refl _)] at HQ3
      have HL := Lib.hid HQ3
      clear HQ3
      go_wp2
      go_ret
      rw [HL.out, hl]
      exact ⟨⟨L, lc, rfl, HO.out⟩, hb⟩
end Go.Proofs.YtnjdjcgandfnfaaDoor

/-! UChk -/
namespace Go.Proofs.YtnjdjcgandfnfaaDoor
open Go.RowKit
set_option linter.unusedVariables false

theorem equal_any (A B : Option Addr) (n m c d : Nat) (xs ys : List Int) (w : World) {B1 B2 : Nat} (h : Ints w B1 A n xs) (h2 : Ints w B2 B m ys) (hn : n ≤ 17592186044416) (hm : m ≤ 17592186044416) :
    Calls Tryd.prog 46 #[.slice A n c, .slice B m d] w fun e w' => e = .returned (.bool (sameL xs ys)) ∧ ∃ q, w' = w.drewN q := by
  by_cases hl : n = m
  · subst hl
    have HL := Lib.hid h.len
    have HM := Lib.hid h2.len
    go_enter Tryd.func46, Tryd.ntmps46
    go_wp2
    go_loopw [13] (fun i wr => ∃ k q : Nat, k ≤ n ∧ i = .int .i64 k ∧ Hid (xs.take k = ys.take k) ∧ wr = w.drewN q) (fun i _ => n - (intOf i).toNat)
    case atStart => exact ⟨0, 0, Nat.zero_le _, rfl, Lib.hid rfl, rfl⟩
    case round =>
      obtain ⟨k, q, hk, rfl, HE, rfl⟩ := hrel
      by_cases hlt : k < n
      · obtain ⟨b1, o1, rfl, hb1, hc1⟩ := h.2 (by omega)
        obtain ⟨b2, o2, rfl, hb2, hc2⟩ := h2.2 (by omega)
        have hr1 := hc1 k hlt
        have hr2 := hc2 k hlt
        clear hc1 hc2
        have HT1 := Lib.hid (take_snoc_int xs k (by rw [HL.out]; exact hlt))
        have HT2 := Lib.hid (take_snoc_int ys k (by rw [HM.out]; exact hlt))
        have HX := Lib.hid (show ∀ j, xs = ys → xs.getD j 0 = ys.getD j 0 from fun j e => by rw [e])
        have HXk := Lib.hid (HX.out k)
        clear HX
        generalize xs.getD k 0 = x at *
        generalize ys.getD k 0 = y at *
        by_cases hxy : x = y
        · subst hxy
          go_wp2
          go_quiet (fail)
          go_wp2
          go_roundw
          case rel => exact ⟨k + 1, _, by omega, by go_num, Lib.hid (by rw [HT1.out, HT2.out, HE.out]), rfl⟩
          case measure => simp [intOf]; omega
        · have hxb : (x != y) = true := by simpa using hxy
          have hf : sameL xs ys = false := by
            rw [← Bool.not_eq_true, sameL_iff]; intro e; exact hxy (HXk.out e)
          have HF := Lib.hid hf
          clear hf hxy
          go_wp2
          go_quiet (fail)
          go_wp2
          go_ret
          exact ⟨ret_bool HF.out.symm, _, World.drewN_drewN _ _ _⟩
      · go_wp2
        go_ret
        refine ⟨ret_bool ?_, q, rfl⟩
        have := HE.out
        rw [List.take_of_length_le (by rw [HL.out]; omega), List.take_of_length_le (by rw [HM.out]; omega)] at this
        exact (sameL_iff.2 this).symm
  · have hf : sameL xs ys = false := by
      rw [← Bool.not_eq_true, sameL_iff]; intro e; apply hl; rw [← h.len, ← h2.len, e]
    have HF := Lib.hid hf
    have hne : ((n : Int) != (m : Int)) = true := by simp; omega
    clear hf
    go_enter Tryd.func46, Tryd.ntmps46
    go_wp2
    go_ret
    exact ⟨ret_bool HF.out.symm, 0, rfl⟩

set_option maxRecDepth 100000 in
set_option maxHeartbeats 1600000 in
/-- What lies within the radius is accepted. -/
theorem ucheck_yes (p : Int) (A : Option Addr) (m c k : Nat) (vs : List Int) (bs : List Bool) (A1 A2 : Option Addr) (pn c1 wn c2 : Nat) (P : List Int) (w : World) (hok : okP p = true) (h : Cel w w.heap.size A m vs bs) (hm : m ≤ 32) (hmp : (m : Int) < p) (hkn : knOk p vs bs) (hk : 1 ≤ k) (hkm : k ≤ m) (hkl : k ≤ (knL vs bs).length)
    (h1 : Ints w w.heap.size A1 pn P) (hP : allP p P = true) (hpc : pn ≤ c1) (hpn : pn ≤ 512) (hd : tn P pn ≤ k) (h2 : Ints w w.heap.size A2 wn (wrL p P (knL vs bs))) (hv : wn ≤ ((knL vs bs).length - k) / 2) :
    Calls Tryd.prog 20 #[.agg #[.int .i64 p], .slice A m c, .int .i64 k, .agg #[.slice A1 pn c1, .slice A2 wn c2]] w fun e w' => e = .returned (.int .i64 0) ∧ Below w.heap.size w w' := by
  have hp := okP_pos hok
  have HO := Lib.hid hok
  have HKN := Lib.hid hkn
  have HPA := Lib.hid hP
  have hln : (knL vs bs).length ≤ m := by have := knL_len vs bs; rw [h.1] at this; exact this
  obtain ⟨l, hl⟩ : ∃ l, knL vs bs = l := ⟨_, rfl⟩
  obtain ⟨N, hN⟩ : ∃ N, (knL vs bs).length = N := ⟨_, rfl⟩
  obtain ⟨v, hvE⟩ : ∃ v, (N - k) / 2 = v := ⟨_, rfl⟩
  obtain ⟨wl, hwl⟩ : ∃ wl, wrL p P l = wl := ⟨_, rfl⟩
  obtain ⟨t, ht⟩ : ∃ t, tn P pn = t := ⟨_, rfl⟩
  have HL := Lib.hid hl
  have HN := Lib.hid hN
  have HV := Lib.hid hvE
  have HWL := Lib.hid hwl
  have HT := Lib.hid ht
  rw [hl, hwl] at h2
  rw [hN, hvE] at hv
  rw [hN] at hln hkl
  rw [ht] at hd
  have HWN : Hid (wl.length = wn) := Lib.hid h2.len
  have HSL : Hid (sameL wl wl = true) := Lib.hid (by simp [sameL])
  have hwn32 : wn ≤ 32 := by omega
  have hdk : ¬ (k : Int) ≤ (t : Int) - 1 := by omega
  have hv1 : ¬ (v : Int) < (wn : Int) := by omega
  have hb0 : Below w.heap.size w ((w.alloc (.cells #[.int .i64 p] 24)).alloc (.cells #[.slice A1 pn c1, .slice A2 wn c2] 27)) := ballocs (bbox _) _
  have hF0 := (Blk.new w 24 #[.int .i64 p]).alloc (.cells #[.slice A1 pn c1, .slice A2 wn c2] 27)
  have hR0 := Blk.new1 w (.cells #[.int .i64 p] 24) 27 #[.slice A1 pn c1, .slice A2 wn c2]
  have hS0 := (h.below hb0).more hb0.size
  have hI0 := h1.upto hb0
  have hJ0 := h2.upto hb0
  clear hok hkn hP h h1 h2 hl hN hvE hwl ht
  go_enter Tryd.func20, Tryd.ntmps20
  go_wp2_with (first
    | (go_at_call 42; (refine (fill_ok p A m c k vs bs _ HO.out hS0 hm hmp HKN.out hk hkm (by rw [HN.out]; exact hkl)).mono ?_); rintro e w1 ⟨⟨R, A3, c3, rfl, hown1, hT1⟩, hb1⟩
       have hbb1 := bnext hb0 hb1
       have hF1 := hF0.below hb1 hF0.lt
       have hR1 := hR0.below hb1 hR0.lt
       have hS1 := hS0.upto hb1
       have hI1 := hI0.upto hb1
       have hJ1 := hJ0.upto hb1
       have hcF1 : w1.cell? ⟨w.heap.size, 0, none⟩ = some (.int .i64 p) := (hF1.cell 0).trans rfl
       have hcR1 : w1.cell? ⟨w.heap.size + 1, 0, none⟩ = some (.slice A1 pn c1) := (hR1.cell 0).trans rfl
       clear hown1 hT1 hb1)
    | (go_at_call 43; (refine (pdeg_ok p A1 pn c1 P _ HO.out hI1 HPA.out hpc hpn).mono ?_); rintro e w2 ⟨rfl, hb2⟩
       rw [HT.out]
       have hbb2 := bnext hbb1 hb2
       have hF2 := hF1.below hb2 hF1.lt
       have hR2 := hR1.below hb2 hR1.lt
       have hS2 := hS1.upto hb2
       have hI2 := hI1.upto hb2
       have hJ2 := hJ1.upto hb2
       clear hb2)
    | (go_at_call 44; (refine (ucount_any A m c vs bs _ hS2 hm).mono ?_); rintro e w3 ⟨rfl, hb3⟩
       rw [HN.out]
       have hbb3 := bnext hbb2 hb3
       have hF3 := hF2.below hb3 hF2.lt
       have hR3 := hR2.below hb3 hR2.lt
       have hS3 := hS2.upto hb3
       have hI3 := hI2.upto hb3
       have hJ3 := hJ2.upto hb3
       have hcF3 : w3.cell? ⟨w.heap.size, 0, none⟩ = some (.int .i64 p) := (hF3.cell 0).trans rfl
       have hcR3 : w3.cell? ⟨w.heap.size + 1, 0, none⟩ = some (.slice A1 pn c1) := (hR3.cell 0).trans rfl
       clear hb3)
    | (go_at_call 25; (refine (uradius_ok N k _ hk hkl (by omega)).mono ?_); rintro e w' ⟨rfl, rfl⟩
       rw [HV.out])
    | (go_at_call 45; (refine (uwrongs_ok p A m c vs bs A1 pn c1 P _ hp hS3 hm hmp hI3 HPA.out hpn).mono ?_); rintro e w4 ⟨⟨A4, c4, rfl, hown4⟩, hb4⟩
       rw [HL.out, HWL.out, HWN.out] at hown4
       rw [HL.out, HWL.out, HWN.out]
       have hbb4 := bnext hbb3 hb4
       have hR4 := hR3.below hb4 hR3.lt
       have hJ4 := hJ3.upto hb4
       have hO4 := hown4.ints
       have hcR4 : w4.cell? ⟨w.heap.size + 1, 1, none⟩ = some (.slice A2 wn c2) := (hR4.cell 1).trans rfl
       clear hb4 hown4)
    | (go_at_call 46; (refine (equal_any A4 A2 wn wn c4 c2 wl wl _ hO4 hJ4 (by omega) (by omega)).mono ?_); rintro e w5 ⟨rfl, q5, rfl⟩
       rw [HSL.out]))
  go_ret
  exact ⟨rfl, below_drewN hbb4 _⟩
end Go.Proofs.YtnjdjcgandfnfaaDoor
