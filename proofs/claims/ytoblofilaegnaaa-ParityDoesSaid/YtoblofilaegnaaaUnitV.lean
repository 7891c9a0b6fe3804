/-
  What vector's Unit hands back. Conditions: the list reads as its numbers.
-/
import Derived.Test.YtoblofilaegnaaaBase
import Derived.Test.YtoblofilaegnaaaMadeZ
import Derived.Test.YtoblofilaegnaaaRes
import Derived.Test.YtoblofilaegnaaaPlain
import Derived.Deep.DeepFit
namespace Go.Proofs.Ytoblofilaegnaaa
open Go.RowKit
set_option linter.unusedVariables false

/-- A list with a single 1. -/
def unitL (n at_ : Nat) : List Int := (List.replicate n 0).set at_ 1

set_option maxRecDepth 100000 in
theorem unit_ok (p : Int) (n at_ : Nat) (w : World) (hok : okP p = true) (hn : n ≤ 1024) (hat : at_ < n) :
    Calls Try.prog 33 #[.agg #[.int .i64 p], .int .i64 n, .int .i64 at_] w fun e w' =>
      (∃ A' c', e = .returned (.tuple #[.slice A' n c', .int .i64 0]) ∧ OwnI w' w.heap.size 3 A' n c' (unitL n at_)) ∧ Below w.heap.size w w' := by
  have hp := okP_pos hok
  have HO := Lib.hid hok
  clear hok
  obtain ⟨i0, hi0, hz0, hz1, hz2⟩ := info_parts info_int
  go_enter Try.func33, Try.ntmps33
  go_wp2_with (first
    | (go_at_call 118; refine (of_yes p _ HO.out).mono ?_; rintro e w1 ⟨rfl, hb1⟩
       have hbb1 := bnext (bbox _) hb1)
    | (at_make
       refine wpList_make_full _ rfl _ _ 22 rfl w.heap.size 3 i0 (.int .i64 0) 1 Try.underlying22 hi0 hz0 hz1 .i64 .i64 n n n rfl rfl rfl rfl (by rw [hz2]; omega) (by unfold maxLen; omega) hbb1.size ?_
       intro w2 hown hgr
       have hown1 : OwnI w2 w.heap.size 3 (some ⟨w1.heap.size, 0, none⟩) n n (List.replicate n 0) := by rw [made_zeros] at hown; exact hown
       have hc := hown1.cellAt hat
       have hf := hown1.frozenAt at_
       have hown2 := hown1.stored at_ 1
       have hb2 := (hbb1.grown hgr hbb1.size (fun k hk => by cases hk)).setCell (p := ⟨w1.heap.size, at_, none⟩) hbb1.size (.int .i64 1)
       clear hown hgr))
  go_ret2
  exact ⟨⟨_, _, rfl, hown2⟩, hb2⟩

end Go.Proofs.Ytoblofilaegnaaa
