/-
  The second form's comparison of two slices of rows. Conditions: the rows read as their numbers.
-/
import Derived.Test.YtoblofilaegnaaaSame
import Derived.Test.YtoblofilaegnaaaMat
import Derived.Deep.QuietTactic
import Derived.BigQuiet
import Derived.Outline
namespace Go.Proofs.Ytoblofilaegnaaa
open Go.RowKit
set_option linter.unusedVariables false

theorem take_snoc_rowS (l : List (List Int)) (k : Nat) (h : k < l.length) : l.take (k + 1) = l.take k ++ [l.getD k []] := by
  rw [List.take_succ_eq_append_getElem h, List.getD_eq_getElem?_getD, List.getElem?_eq_getElem h, Option.getD_some]
/-- The reference's SameRows. -/
theorem sameRows_any (A B : Option Addr) (n m c d : Nat) (X Y : List (List Int)) (w : World) {lo1 lo2 B1 B2 : Nat} (h : Mat w lo1 B1 A n X) (h2 : Mat w lo2 B2 B m Y) (hn : n ≤ 1000000) :
    Calls Try.prog 84 #[.slice A n c, .slice B m d] w fun e w' => e = .returned (.bool (X == Y)) ∧ ∃ q, w' = w.drewN q := by
  by_cases hl : n = m
  · subst hl
    have HL := Lib.hid h.len
    have HM := Lib.hid h2.len
    go_enter Try.func84, Try.ntmps84
    go_wp2
    go_loopw [13] (fun i wr => ∃ k q : Nat, k ≤ n ∧ i = .int .i64 k ∧ Hid (X.take k = Y.take k) ∧ wr = w.drewN q) (fun i _ => n - (intOf i).toNat)
    case atStart => exact ⟨0, 0, Nat.zero_le _, rfl, Lib.hid rfl, rfl⟩
    case round =>
      obtain ⟨k, q, hk, rfl, HE, rfl⟩ := hrel
      by_cases hlt : k < n
      · obtain ⟨b1, o1, A1, n1, c1, rfl, _, _, hc1, hn1, hI1, _⟩ := h.at_ hlt
        obtain ⟨b2, o2, A2, n2, c2, rfl, _, _, hc2, hn2, hI2, _⟩ := h2.at_ hlt
        have HT1 := Lib.hid (take_snoc_rowS X k (by rw [HL.out]; exact hlt))
        have HT2 := Lib.hid (take_snoc_rowS Y k (by rw [HM.out]; exact hlt))
        have HXk := Lib.hid (show X = Y → X.getD k [] = Y.getD k [] from fun e => by rw [e])
        generalize X.getD k [] = x at *
        generalize Y.getD k [] = y at *
        have hk0 : (0 : Int) ≤ (k : Int) := by omega
        have hk1 : (k : Int) < (n : Int) := by omega
        have hq : ∀ j, Calls Try.prog 27 #[.slice A1 n1 c1, .slice A2 n2 c2] (w.drewN j) fun e w' => e = .returned (.bool (sameL x y)) ∧ ∃ m, w' = (w.drewN j).drewN m := fun j => same_any A1 A2 n1 n2 c1 c2 x y _ (hI1.drewN j) (hI2.drewN j) hn1 hn2
        by_cases hxy : x = y
        · subst hxy
          have hs : sameL x x = true := sameL_iff.2 rfl
          rw [hs] at hq
          have HQ := Lib.hid hq
          clear hq hs
          go_wp2
          go_quiet ((go_at_call 27; exact quiet_add (HQ.out _)))
          go_wp2
          go_roundw
          case rel => exact ⟨k + 1, _, by omega, by go_num, Lib.hid (by rw [HT1.out, HT2.out, HE.out]), rfl⟩
          case measure => simp [intOf]; omega
        · have hs : sameL x y = false := by rw [← Bool.not_eq_true, sameL_iff]; exact hxy
          rw [hs] at hq
          have HQ := Lib.hid hq
          have hf : (X == Y) = false := by
            rw [← Bool.not_eq_true, beq_iff_eq]; intro e; exact hxy (HXk.out e)
          have HF := Lib.hid hf
          clear hq hs hf hxy
          go_wp2
          go_quiet ((go_at_call 27; exact quiet_add (HQ.out _)))
          go_wp2
          go_ret
          exact ⟨ret_bool HF.out.symm, _, World.drewN_drewN _ _ _⟩
      · go_wp2
        go_ret
        refine ⟨ret_bool ?_, q, rfl⟩
        have := HE.out
        rw [List.take_of_length_le (by rw [HL.out]; omega), List.take_of_length_le (by rw [HM.out]; omega)] at this
        exact (beq_iff_eq.2 this).symm
  · have hf : (X == Y) = false := by
      rw [← Bool.not_eq_true, beq_iff_eq]; intro e; apply hl; rw [← h.len, ← h2.len, e]
    have HF := Lib.hid hf
    have hne : ((n : Int) != (m : Int)) = true := by simp; omega
    clear hf
    go_enter Try.func84, Try.ntmps84
    go_wp2
    go_ret
    exact ⟨ret_bool HF.out.symm, 0, rfl⟩
end Go.Proofs.Ytoblofilaegnaaa
