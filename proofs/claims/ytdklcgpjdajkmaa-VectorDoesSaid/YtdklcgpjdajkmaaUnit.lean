/-
  The sanity check of chapter 4. Conditions: the lists read as their numbers.
-/
import Derived.Test.YtdklcgpjdajkmaaVec
import Derived.Test.YtdklcgpjdajkmaaSame
import Derived.Test.YtdklcgpjdajkmaaUnitV
import Derived.Test.YtdklcgpjdajkmaaOrder
import Derived.BigQuiet
namespace Go.Proofs.Ytdklcgpjdajkmaa
open Go.RowKit
set_option linter.unusedVariables false

set_option maxRecDepth 100000 in
/-- The sanity check of chapter 4. -/
theorem sane04_any (w : World) : Calls Try.prog 27 #[] w fun e w' => e = .returned (.bool true) ∧ Below w.heap.size w w' := by
  have h5 : okP 5 = true := okP_known (by simp [isKnown])
  have HO := Lib.hid h5
  have hd : Hid (dotP 5 [2, 3] [4, 1] = 1) := Lib.hid (by decide)
  have hu : Hid (sameL (unitL 3 1) [0, 1, 0] = true) := Lib.hid (by decide)
  clear h5
  go_enter Try.func27, Try.ntmps27
  go_wp2_with (first
    | (go_at_call 37; refine (dot_ok 5 _ _ 2 2 2 [2, 3] [4, 1] _ HO.out (by exact (Ints.lit _ _ [2, 3] 3 2 _ (by simp) rfl rfl).upto (bbox _)) (by exact Ints.lit _ _ [4, 1] 3 2 _ (by simp) rfl rfl) (by decide) (by decide) (by omega)).mono ?_; rintro e w1 ⟨rfl, hb1⟩; rw [hd.out]
       have hF1 : Blk w1 w.heap.size 46 #[.int .i64 5] := (((Blk.new w _ _).alloc _).alloc _).below hb1 (by simp; omega)
       have hcf : w1.cell? ⟨w.heap.size, 0, none⟩ = some (.int .i64 5) := (hF1.cell 0).trans rfl
       have hbb1 : Below w.heap.size w w1 := bnext (ballocs (ballocs (bbox _) _) _) hb1
       clear hb1)
    | (go_at_call 41; refine (unit_ok 5 3 1 _ HO.out (by omega) (by omega)).mono ?_; rintro e w2 ⟨⟨A', c', rfl, hown⟩, hb2⟩
       have hbb2 := bnext hbb1 hb2
       have hi2 := hown.ints
       clear hb2)
    | (go_at_call 36; refine (same_any A' _ 3 3 c' 3 (unitL 3 1) [0, 1, 0] _ (by exact hi2.upto (bbox _)) (by exact Ints.lit _ _ [0, 1, 0] 3 3 _ (by simp) rfl rfl) (by omega) (by omega)).mono ?_; rintro e w3 ⟨rfl, q, rfl⟩; rw [hu.out]))
  go_ret
  exact ⟨rfl, below_drewN (ballocs hbb2 _) _⟩
end Go.Proofs.Ytdklcgpjdajkmaa
