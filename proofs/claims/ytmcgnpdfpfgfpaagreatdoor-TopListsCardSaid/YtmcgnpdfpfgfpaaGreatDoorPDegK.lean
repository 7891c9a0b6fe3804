/-
  What poly's Degree hands back for a valid polynomial. Conditions: the list reads as its numbers.
-/
import Derived.Test.YtmcgnpdfpfgfpaaGreatDoorGPol
namespace Go.Proofs.YtmcgnpdfpfgfpaaGreatDoor
open Go.RowKit
set_option linter.unusedVariables false

/-- poly's Degree. -/
theorem pdeg_ok (p : Int) (A : Option Addr) (n c : Nat) (xs : List Int) (w : World) (hok : okP p = true) (h : Ints w w.heap.size A n xs) (hx : allP p xs = true) (hc : n ≤ c) (hn : n ≤ 512) :
    Calls Tryz.prog 169 #[.agg #[.int .i64 p], .slice A n c] w fun e w' => e = .returned (.tuple #[.int .i64 ((tn xs n : Nat) - 1), .int .i64 0]) ∧ Below w.heap.size w w' := by
  have HO := Lib.hid hok
  have HR : Hid (∀ r ∈ [xs], allP p r = true ∧ r.length ≤ 512) := Lib.hid fun r hr => by rw [List.mem_singleton.1 hr]; exact ⟨hx, by rw [h.len]; exact hn⟩
  have ht := tn_le xs n
  clear hok hx
  obtain ⟨t, HT⟩ : ∃ t, Hid (tn xs n = t) := ⟨_, Lib.hid rfl⟩
  rw [HT.out] at ht
  rw [HT.out]
  go_enter Tryz.func169, Tryz.ntmps169
  go_wp2_with (first
    | (go_at_call 121; (refine (open_ok p _ 1 1 [xs] _ HO.out (by exact Mat.one _ A n c xs 22 _ (by simp) (h.upto (bbox _)) (by omega)) (by omega) HR.out).mono ?_); rintro e w1 ⟨rfl, hb1⟩
       have hbb1 := bnext (ballocs (bbox _) _) hb1
       clear hb1)
    | (go_at_call 138; refine (trim_any A n c xs _ (h.upto hbb1) hc (by omega)).mono ?_; rintro e w2 ⟨rfl, rfl⟩
       rw [HT.out]))
  go_ret2
  exact ⟨rfl, hbb1⟩
end Go.Proofs.YtmcgnpdfpfgfpaaGreatDoor
