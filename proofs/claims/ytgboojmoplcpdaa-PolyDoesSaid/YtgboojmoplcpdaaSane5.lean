/-
  The sanity check of chapter 5. No conditions.
-/
import Derived.Test.YtgboojmoplcpdaaPolyT
import Derived.Test.YtgboojmoplcpdaaItp
import Derived.Test.YtgboojmoplcpdaaPlain
import Derived.Test.YtgboojmoplcpdaaSame
import Derived.BigQuiet
namespace Go.Proofs.Ytgboojmoplcpdaa
open Go.RowKit
set_option linter.unusedVariables false

theorem through_12 {R : List Int} (h : Through 7 [1, 2] [3, 5] R) : R = [1, 2] := by
  have h1 := h.va 0 (by decide)
  have h2 := h.va 1 (by decide)
  have hl := h.ln
  have ha := allP_iff.1 h.al
  match R, h1, h2, hl, ha with
  | [], h1, _, _, _ => simp [valueP] at h1
  | [a], h1, h2, _, ha =>
    have := ha a (by simp)
    simp [valueP, addP, mulP] at h1 h2
    omega
  | [a, b], h1, h2, _, ha =>
    have := ha a (by simp)
    have := ha b (by simp)
    simp [valueP, addP, mulP] at h1 h2
    have : a = 1 ∧ b = 2 := by omega
    rw [this.1, this.2]
  | a :: b :: c :: r, _, _, hl, _ => simp at hl

set_option maxRecDepth 100000 in
/-- The sanity check of chapter 5. -/
theorem sane05_any (w : World) : Calls Try.prog 27 #[] w fun e w' => e = .returned (.bool true) ∧ Below w.heap.size w w' := by
  have h7 : okP 7 = true := okP_known (by simp [isKnown])
  have HO := Lib.hid h7
  go_enter Try.func27, Try.ntmps27
  have HDG : Hid (((tn [1, 2, 0] 3 : Nat) : Int) - 1 = 1) := Lib.hid (by decide)
  have HSM : Hid (sameL [1, 2] [1, 2] = true) := Lib.hid (by decide)
  have hB := Blk.new w 52 #[.int .i64 1, .int .i64 3, .int .i64 2, .int .i64 5]
  have HSH : Hid (Sh (w.alloc (.cells #[.int .i64 1, .int .i64 3, .int .i64 2, .int .i64 5] 52)) (w.alloc (.cells #[.int .i64 1, .int .i64 3, .int .i64 2, .int .i64 5] 52)).heap.size (some ⟨w.heap.size, 0, none⟩) 2 [1, 2] [3, 5]) := Lib.hid
    ⟨rfl, rfl, fun _ => ⟨_, 0, rfl, by simp, fun j hj => by
      rcases (by omega : j = 0 ∨ j = 1) with rfl | rfl
      · exact ⟨(hB.cell 0).trans rfl, (hB.cell 1).trans rfl⟩
      · exact ⟨(hB.cell 2).trans rfl, (hB.cell 3).trans rfl⟩⟩⟩
  have HDI : Hid (∀ j k : Nat, j < k → k < 2 → ([1, 2] : List Int).getD j 0 ≠ ([1, 2] : List Int).getD k 0) := Lib.hid fun j k h1 h2 => by
    obtain rfl : k = 1 := by omega
    obtain rfl : j = 0 := by omega
    decide
  clear h7
  go_wp2_with (first
    | (go_at_call 40; refine (interp_ok 7 _ 2 2 [1, 2] [3, 5] _ HO.out HSH.out (by decide) (by decide) (by omega) HDI.out).mono ?_; rintro e w1 ⟨⟨R, A1, c1, rfl, hown1, hT⟩, hb1⟩
       obtain rfl := through_12 hT
       have hbb1 := bnext (bbox _) hb1
       clear hb1 hT)
    | (go_at_call 36; refine (pdeg_ok 7 _ 3 3 [1, 2, 0] _ HO.out (by exact Ints.lit w1 _ [1, 2, 0] 3 3 w1.heap.size rfl rfl rfl) (by decide) (by omega) (by omega)).mono ?_; rintro e w2 ⟨rfl, hb2⟩
       rw [HDG.out]
       have hbb2 := bnext (ballocs hbb1 _) hb2
       have hown2 := ((hown1.alloc (.cells #[.int .i64 1, .int .i64 2, .int .i64 0] 3)).belowAll hb2).alloc (.cells #[.int .i64 1, .int .i64 2] 3))
    | (go_at_call 19; refine (same_any A1 _ 2 2 c1 2 [1, 2] [1, 2] _ hown2.ints (by exact Ints.lit w2 _ [1, 2] 3 2 w2.heap.size rfl rfl rfl) (by omega) (by omega)).mono ?_; rintro e w3 ⟨rfl, q3, rfl⟩
       rw [HSM.out]))
  go_ret
  exact ⟨rfl, below_drewN (ballocs hbb2 _) _⟩
end Go.Proofs.Ytgboojmoplcpdaa
