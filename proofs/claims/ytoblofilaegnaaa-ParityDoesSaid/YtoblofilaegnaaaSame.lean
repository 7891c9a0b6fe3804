/-
  What the reference's Same hands back. Conditions: the lists read as their numbers.
-/
import Derived.Test.YtoblofilaegnaaaBase
import Derived.Deep.QuietTactic
import Derived.BigQuiet
namespace Go.Proofs.Ytoblofilaegnaaa
open Go.RowKit
set_option linter.unusedVariables false

/-- Two lists are the same. -/
def sameL (xs ys : List Int) : Bool := xs == ys

theorem sameL_iff {xs ys : List Int} : sameL xs ys = true ↔ xs = ys := by simp [sameL]

theorem same_any (A B : Option Addr) (n m c d : Nat) (xs ys : List Int) (w : World) {B1 B2 : Nat} (h : Ints w B1 A n xs) (h2 : Ints w B2 B m ys) (hn : n ≤ 17592186044416) (hm : m ≤ 17592186044416) :
    Calls Try.prog 27 #[.slice A n c, .slice B m d] w fun e w' => e = .returned (.bool (sameL xs ys)) ∧ ∃ q, w' = w.drewN q := by
  by_cases hl : n = m
  · subst hl
    have HL := Lib.hid h.len
    have HM := Lib.hid h2.len
    go_enter Try.func27, Try.ntmps27
    go_wp2
    go_loopw [13] (fun i wr => ∃ k q : Nat, k ≤ n ∧ i = .int .i64 k ∧ Hid (xs.take k = ys.take k) ∧ wr = w.drewN q) (fun i _ => n - (intOf i).toNat)
    case atStart => exact ⟨0, 0, Nat.zero_le _, rfl, Lib.hid rfl, rfl⟩
    case round =>
      obtain ⟨k, q, hk, rfl, HE, rfl⟩ := hrel
      by_cases hlt : k < n
      · obtain ⟨b1, o1, rfl, hb1, hc1⟩ := h.2 (by omega)
        obtain ⟨b2, o2, rfl, hb2, hc2⟩ := h2.2 (by omega)
        have hr1 := hc1 k hlt
        have hr2 := hc2 k hlt
        clear hc1 hc2
        have HT1 := Lib.hid (take_snoc_int xs k (by rw [HL.out]; exact hlt))
        have HT2 := Lib.hid (take_snoc_int ys k (by rw [HM.out]; exact hlt))
        have HX := Lib.hid (show ∀ j, xs = ys → xs.getD j 0 = ys.getD j 0 from fun j e => by rw [e])
        have HXk := Lib.hid (HX.out k)
        clear HX
        generalize xs.getD k 0 = x at *
        generalize ys.getD k 0 = y at *
        by_cases hxy : x = y
        · subst hxy
          go_wp2
          go_quiet (fail)
          go_wp2
          go_roundw
          case rel => exact ⟨k + 1, _, by omega, by go_num, Lib.hid (by rw [HT1.out, HT2.out, HE.out]), rfl⟩
          case measure => simp [intOf]; omega
        · have hxb : (x != y) = true := by simpa using hxy
          have hf : sameL xs ys = false := by
            rw [← Bool.not_eq_true, sameL_iff]; intro e; exact hxy (HXk.out e)
          have HF := Lib.hid hf
          clear hf hxy
          go_wp2
          go_quiet (fail)
          go_wp2
          go_ret
          exact ⟨ret_bool HF.out.symm, _, World.drewN_drewN _ _ _⟩
      · go_wp2
        go_ret
        refine ⟨ret_bool ?_, q, rfl⟩
        have := HE.out
        rw [List.take_of_length_le (by rw [HL.out]; omega), List.take_of_length_le (by rw [HM.out]; omega)] at this
        exact (sameL_iff.2 this).symm
  · have hf : sameL xs ys = false := by
      rw [← Bool.not_eq_true, sameL_iff]; intro e; apply hl; rw [← h.len, ← h2.len, e]
    have HF := Lib.hid hf
    have hne : ((n : Int) != (m : Int)) = true := by simp; omega
    clear hf
    go_enter Try.func27, Try.ntmps27
    go_wp2
    go_ret
    exact ⟨ret_bool HF.out.symm, 0, rfl⟩
end Go.Proofs.Ytoblofilaegnaaa
