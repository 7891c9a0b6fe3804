/-
  What parity's check and Limits, and the reference's SameRows hand back. Conditions: valid arguments; the rows read as their numbers.
-/
import Derived.Test.YtoblofilaegnaaaMat
import Derived.Test.YtoblofilaegnaaaRes
import Derived.Test.YtoblofilaegnaaaSame
import Derived.Deep.QuietTactic
import Derived.BigQuiet
namespace Go.Proofs.Ytoblofilaegnaaa
open Go.RowKit
set_option linter.unusedVariables false

/-- parity's check of valid sizes. -/
theorem pcheck_ok (p r s : Int) (w : World) (hok : okP p = true) (hr : 1 ≤ r ∧ r ≤ 1024) (hs : 2 ≤ s ∧ s ≤ 10) :
    Calls Try.prog 151 #[.agg #[.int .i64 p], .int .i64 r, .int .i64 s] w fun e w' => e = .returned (.int .i64 0) ∧ Below w.heap.size w w' := by
  have HO := Lib.hid hok
  have h1 : ¬ s < 2 := by omega
  have h2 : ¬ 10 < s := by omega
  have h3 : ¬ r < 1 := by omega
  have h4 : ¬ 1024 < r := by omega
  clear hok hr hs
  go_enter Try.func151, Try.ntmps151
  go_wp2_with (go_at_call 118; refine (of_yes p _ HO.out).mono ?_; rintro e w1 ⟨rfl, hb1⟩; have hbb1 := bnext (bbox (w0 := w) (.cells #[.int .i64 p] 24)) hb1; clear hb1)
  go_ret
  exact ⟨rfl, hbb1⟩

set_option maxRecDepth 100000 in
/-- parity's Limits of valid sizes. -/
theorem plimits_ok (p : Int) (r s1 N : Nat) (S : Int) (w : World) (hok : okP p = true) (hr : 1 ≤ r ∧ r ≤ 1024) (hs : 1 ≤ s1 ∧ s1 ≤ 9) (hS : S - 1 = s1) (hN : (r : Int) * (s1 : Int) = N) (hN2 : N ≤ 9216) :
    Calls Try.prog 82 #[.agg #[.int .i64 p], .int .i64 r, .int .i64 S] w fun e w' => (∃ A' c', e = .returned (.tuple #[.slice A' N c', .int .i64 0]) ∧ OwnI w' w.heap.size 3 A' N c' (List.replicate N p)) ∧ Below w.heap.size w w' := by
  obtain ⟨i0, hi0, hz0, hz1, hz2⟩ := info_parts info_int
  have hp := okP_pos hok
  have HO := Lib.hid hok
  have hb0 : Below w.heap.size w (w.alloc (.cells #[.int .i64 p] 24)) := bbox _
  have hF0 := Blk.new w 24 #[.int .i64 p]
  have hSb : 2 ≤ S ∧ S ≤ 10 := by omega
  have hrb : (1 : Int) ≤ r ∧ (r : Int) ≤ 1024 := by omega
  clear hok hr
  go_enter Try.func82, Try.ntmps82
  go_wp2_with (go_at_call 151; refine (pcheck_ok p r S _ HO.out hrb hSb).mono ?_; rintro e w1 ⟨rfl, hb1⟩; have hbb1 := bnext hb0 hb1; have hF1 := hF0.below hb1 hF0.lt)
  go_loopw [9, 21] (fun s i wz => ∃ (k : Nat) (L : Option Addr) (lc : Nat), k ≤ N ∧ s = .slice L k lc ∧ i = .int .i64 k ∧ OwnI wz w1.heap.size 3 L k lc (List.replicate k p) ∧ Below w1.heap.size w1 wz) (fun _ i _ => N - (intOf i).toNat)
  case atStart => exact ⟨0, none, 0, Nat.zero_le _, rfl, rfl, OwnI.nil_, Below.refl _ _⟩
  case round =>
    obtain ⟨k, L, lc, hk, rfl, rfl, hown, hb⟩ := hrel
    by_cases hlt : k < N
    · have hki : (k : Int) < (N : Int) := by omega
      have hFz := hF1.below hb hF1.lt
      have hcz : wr.cell? ⟨w.heap.size, 0, none⟩ = some (.int .i64 p) := (hFz.cell 0).trans rfl
      have HS : Hid (List.replicate k p ++ [p] = List.replicate (k + 1) p) := Lib.hid (List.replicate_succ' ..).symm
      have hbz3 := hb.alloc hb.size (.cells #[.int .i64 p] 3)
      have hown2 := hown.alloc (.cells #[.int .i64 p] 3)
      go_wp2_with ((at_builtin; refine wpList_append_ints rfl _ _ _ rfl w1.heap.size 3 i0 _ Try.underlying22 hi0 hz0 hz1 hz2 rfl L k lc _ rfl hown2 _ _ 1 1 [p] rfl (Ints.one _ _ _) (k + 1) rfl _ HS.out (by omega) hbz3.size ?_; intro A2 c2 w4 hown4 hgr hbw4 hab; have hbz4 := hbz3.trans hbw4))
      go_roundw
      case rel => exact ⟨k + 1, A2, c2, by omega, rfl, by go_num, hown4, hbz4⟩
      case measure => simp [intOf]; omega
    · obtain rfl : k = N := by omega
      go_wp2
      go_ret2
      exact ⟨⟨L, lc, rfl, hown.base hbb1.size⟩, bnext hbb1 hb⟩

theorem take_snoc_row (l : List (List Int)) (k : Nat) (h : k < l.length) : l.take (k + 1) = l.take k ++ [l.getD k []] := by
  rw [List.take_succ_eq_append_getElem h, List.getD_eq_getElem?_getD, List.getElem?_eq_getElem h, Option.getD_some]
/-- The reference's SameRows. -/
theorem sameRows_any (A B : Option Addr) (n m c d : Nat) (X Y : List (List Int)) (w : World) {lo1 lo2 B1 B2 : Nat} (h : Mat w lo1 B1 A n X) (h2 : Mat w lo2 B2 B m Y) (hn : n ≤ 1000000) :
    Calls Try.prog 84 #[.slice A n c, .slice B m d] w fun e w' => e = .returned (.bool (X == Y)) ∧ ∃ q, w' = w.drewN q := by
  by_cases hl : n = m
  · subst hl
    have HL := Lib.hid h.len
    have HM := Lib.hid h2.len
    go_enter Try.func84, Try.ntmps84
    go_wp2
    go_loopw [13] (fun i wr => ∃ k q : Nat, k ≤ n ∧ i = .int .i64 k ∧ Hid (X.take k = Y.take k) ∧ wr = w.drewN q) (fun i _ => n - (intOf i).toNat)
    case atStart => exact ⟨0, 0, Nat.zero_le _, rfl, Lib.hid rfl, rfl⟩
    case round =>
      obtain ⟨k, q, hk, rfl, HE, rfl⟩ := hrel
      by_cases hlt : k < n
      · obtain ⟨b1, o1, A1, n1, c1, rfl, _, _, hc1, hn1, hI1, _⟩ := h.at_ hlt
        obtain ⟨b2, o2, A2, n2, c2, rfl, _, _, hc2, hn2, hI2, _⟩ := h2.at_ hlt
        have HT1 := Lib.hid (take_snoc_row X k (by rw [HL.out]; exact hlt))
        have HT2 := Lib.hid (take_snoc_row Y k (by rw [HM.out]; exact hlt))
        have HXk := Lib.hid (show X = Y → X.getD k [] = Y.getD k [] from fun e => by rw [e])
        generalize X.getD k [] = x at *
        generalize Y.getD k [] = y at *
        have hk0 : (0 : Int) ≤ (k : Int) := by omega
        have hk1 : (k : Int) < (n : Int) := by omega
        have hq : ∀ j, Calls Try.prog 27 #[.slice A1 n1 c1, .slice A2 n2 c2] (w.drewN j) fun e w' => e = .returned (.bool (sameL x y)) ∧ ∃ m, w' = (w.drewN j).drewN m := fun j => same_any A1 A2 n1 n2 c1 c2 x y _ (hI1.drewN j) (hI2.drewN j) hn1 hn2
        by_cases hxy : x = y
        · subst hxy
          have hs : sameL x x = true := sameL_iff.2 rfl
          rw [hs] at hq
          have HQ := Lib.hid hq
          clear hq hs
          go_wp2
          go_quiet ((go_at_call 27; exact quiet_add (HQ.out _)))
          go_wp2
          go_roundw
          case rel => exact ⟨k + 1, _, by omega, by go_num, Lib.hid (by rw [HT1.out, HT2.out, HE.out]), rfl⟩
          case measure => simp [intOf]; omega
        · have hs : sameL x y = false := by rw [← Bool.not_eq_true, sameL_iff]; exact hxy
          rw [hs] at hq
          have HQ := Lib.hid hq
          have hf : (X == Y) = false := by
            rw [← Bool.not_eq_true, beq_iff_eq]; intro e; exact hxy (HXk.out e)
          have HF := Lib.hid hf
          clear hq hs hf hxy
          go_wp2
          go_quiet ((go_at_call 27; exact quiet_add (HQ.out _)))
          go_wp2
          go_ret
          exact ⟨ret_bool HF.out.symm, _, World.drewN_drewN _ _ _⟩
      · go_wp2
        go_ret
        refine ⟨ret_bool ?_, q, rfl⟩
        have := HE.out
        rw [List.take_of_length_le (by rw [HL.out]; omega), List.take_of_length_le (by rw [HM.out]; omega)] at this
        exact (beq_iff_eq.2 this).symm
  · have hf : (X == Y) = false := by
      rw [← Bool.not_eq_true, beq_iff_eq]; intro e; apply hl; rw [← h.len, ← h2.len, e]
    have HF := Lib.hid hf
    have hne : ((n : Int) != (m : Int)) = true := by simp; omega
    clear hf
    go_enter Try.func84, Try.ntmps84
    go_wp2
    go_ret
    exact ⟨ret_bool HF.out.symm, 0, rfl⟩
end Go.Proofs.Ytoblofilaegnaaa
