/-
  What slices.Clone hands back. Conditions: the slice reads as its numbers.
-/
import Derived.Test.YtnjdjcgandfnfaaDoorBase
import Derived.Test.YtnjdjcgandfnfaaDoorDeck
import Derived.BigFrame
import Derived.WalkSpells
namespace Go.Proofs.YtnjdjcgandfnfaaDoor
open Go.RowKit
set_option linter.unusedVariables false

set_option maxRecDepth 100000 in
/-- slices.Clone. -/
theorem clone_any (A : Option Addr) (n c : Nat) (xs : List Int) (w : World) (h : Ints w w.heap.size A n xs) (hn : n ≤ 17592186044416) :
    Calls Tryd.prog 61 #[.slice A n c] w fun e w' => (∃ A' c', e = .returned (.slice A' n c') ∧ OwnI w' w.heap.size 3 A' n c' xs) ∧ Below w.heap.size w w' := by
  obtain ⟨i0, hi0, hz0, hz1, hz2⟩ := info_parts info_int
  have q : ∀ (w : World) (a : Option Addr) (n c n' c' : Nat), (binOp .eql 22 (.slice a n c) (.slice none n' c')).run Tryd.prog w = .ok (.bool a.isNone) w := fun w a n c n' c' => Lib.run_eql_slice_nil w _ _ a n c n' c' Tryd.underlying22
  cases A with
  | none =>
    have hn0 : n = 0 := by
      rcases Nat.eq_zero_or_pos n with h0 | h0
      · exact h0
      · obtain ⟨b, off, e, _⟩ := h.2 h0
        cases e
    subst hn0
    go_enter Tryd.func61, Tryd.ntmps61
    go_wp2
    go_ret
    have hxs : xs = [] := List.eq_nil_of_length_eq_zero h.len
    exact ⟨⟨none, 0, rfl, by rw [hxs]; exact OwnI.nil_⟩, Below.refl _ _⟩
  | some ad =>
    go_enter Tryd.func61, Tryd.ntmps61
    go_wp2_with (
      at_builtin
      refine wpList_append_ints rfl _ _ _ rfl w.heap.size 3 i0 _ Tryd.underlying22 hi0 hz0 hz1 hz2 rfl (some ⟨w.heap.size, 0, none⟩) 0 0 [] rfl (World.ownsRow_made w #[] 0 (Nat.le_refl _) (by unfold maxLen; omega) rfl) _ _ n _ xs rfl (h.upto (bbox _)) n (by omega) xs rfl (by omega) (by simp) ?_
      intro A2 c2 w2 hown2 _ hbw2 _)
    go_ret
    exact ⟨⟨A2, c2, rfl, hown2⟩, (bbox _).trans hbw2⟩

end Go.Proofs.YtnjdjcgandfnfaaDoor
