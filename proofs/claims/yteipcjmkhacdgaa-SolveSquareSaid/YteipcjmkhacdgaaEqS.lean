/-
  The chapter's example of linear equations, in plain numbers, no program in sight. No conditions.
-/
import Derived.Test.YteipcjmkhacdgaaEqB
namespace Go.Proofs.Yteipcjmkhacdgaa
set_option linter.unusedVariables false

theorem ex_ok : EqOk 5 1 2 [1, 2] [3] := ⟨by decide +kernel, by omega, by omega, rfl, rfl, by decide +kernel, by decide +kernel⟩
theorem ex_red : Red 5 2 (augM 1 2 [1, 2] [3]) [[1, 2, 3]] [0] := by
  have e : augM 1 2 [1, 2] [3] = [[1, 2, 3]] := by decide +kernel
  rw [e]
  refine ⟨⟨by simp, fun i hi => ?_, fun i q hi hq => ?_, fun i j hi hj => ?_, fun i j hi hm => ?_, by decide +kernel⟩, rfl, fun i hi => ?_, fun z => Iff.rfl⟩
  · have : i = 0 := by simpa using hi
    subst this; decide +kernel
  · have h1 : i = 0 := by simpa using hi
    have h2 : q = 0 := by simpa using hq
    subst h1 h2; decide +kernel
  · have : i = 0 := by simpa using hi
    subst this; simp at hj
  · simp at hi hm; omega
  · have : i = 0 := by simpa using hi
    subst this; decide +kernel
theorem ex_clash : NoClash 2 1 [[1, 2, 3]] := fun i hi hm => by simp at hm; omega
theorem ex_solve {o : Option (List Int)} (h : SolveOf 5 2 (augM 1 2 [1, 2] [3]) o) : o = some [3, 0] := by
  refine SolveOf.one (by omega) h (show SolveOf 5 2 (augM 1 2 [1, 2] [3]) (some [3, 0]) from ⟨_, _, ex_red, ex_clash, rfl, fun i hi => ?_, fun j hj hm => ?_⟩) (fun z => Iff.rfl)
  · have : i = 0 := by simpa using hi
    subst this; decide +kernel
  · have h2 : j = 0 ∨ j = 1 := by omega
    rcases h2 with rfl | rfl
    · exact absurd (by simp) hm
    · decide +kernel
theorem ex_kern {l : List (List Int)} (h : KernOf 5 2 (augM 1 2 [1, 2] [3]) l) : l = [[3, 1]] := by
  refine KernOf.one (by omega) h (show KernOf 5 2 (augM 1 2 [1, 2] [3]) [[3, 1]] from ⟨_, _, ex_red, by decide +kernel⟩) (fun z => Iff.rfl)
theorem ex_count {v : Option Int} (h : CountOf 5 2 (augM 1 2 [1, 2] [3]) v) : v = some 5 :=
  CountOf.one (by omega) h (show CountOf 5 2 (augM 1 2 [1, 2] [3]) (some 5) from ⟨_, _, ex_red, .inr ⟨ex_clash, by decide +kernel⟩⟩) (fun z => Iff.rfl)
end Go.Proofs.Yteipcjmkhacdgaa
