/-
  The sanity check of chapter 16. No conditions.
-/
import Derived.Test.YtoblofilaegnaaaPQue
import Derived.Test.YtoblofilaegnaaaPWant
namespace Go.Proofs.Ytoblofilaegnaaa
open Go.RowKit
set_option linter.unusedVariables false

/-- A slice of two rows. -/
theorem Mat.pair (w : World) (A B : Option Addr) (n m c d : Nat) (xs ys : List Int) (t : TypeId) (g : Nat) (hg : g = w.heap.size) (h : Ints w w.heap.size A n xs) (h2 : Ints w w.heap.size B m ys) (hn : n ≤ 17592186044416) (hm : m ≤ 17592186044416) :
    Mat (w.alloc (.cells #[.slice A n c, .slice B m d] t)) 0 (w.alloc (.cells #[.slice A n c, .slice B m d] t)).heap.size (some ⟨g, 0, none⟩) 2 [xs, ys] := by
  subst hg
  refine ⟨rfl, fun _ => ⟨_, _, rfl, Nat.zero_le _, by simp, fun j hj => ?_⟩⟩
  rcases (by omega : j = 0 ∨ j = 1) with rfl | rfl
  · refine ⟨A, n, c, ?_, hn, h.upto (bbox _), fun _ _ _ _ _ => Nat.zero_le _⟩
    rw [World.cell?_alloc_at _ _ _ _ rfl]; rfl
  · refine ⟨B, m, d, ?_, hm, h2.upto (bbox _), fun _ _ _ _ _ => Nat.zero_le _⟩
    rw [World.cell?_alloc_at _ _ _ _ rfl]; rfl

set_option maxRecDepth 100000 in
set_option maxHeartbeats 2000000 in
theorem sane16_any (w : World) : Calls Try.prog 77 #[] w fun e w' => e = .returned (.bool true) ∧ Below w.heap.size w w' := by
  have HO : Hid (okP 2 = true) := Lib.hid (okP_known (by simp [isKnown]))
  have HQ : Hid (chunkL [1, 0, 1] 3 1 ++ [lastQ 2 3 1 (chunkL [1, 0, 1] 3 1)] = [[1, 0, 1], [1, 1, 1]]) := Lib.hid (by decide)
  have HR : Hid (∀ r ∈ ([[1, 0, 1], [1, 1, 1]] : List (List Int)), allP 2 r = true ∧ r.length = 3) := Lib.hid (by decide)
  have HSP : Hid (plusL 2 3 [[1, 0, 1], [1, 1, 1]] = spikeL 3 1 1) := Lib.hid (by decide)
  have HX : Hid (∀ j, j < 1 * 3 → 0 ≤ ([1, 0, 1] : List Int).getD j 0 ∧ ([1, 0, 1] : List Int).getD j 0 < 2) := Lib.hid (by decide)
  go_enter Try.func77, Try.ntmps77
  have hF0 := (Blk.new w 24 #[.int .i64 2]).alloc (.cells #[.int .i64 1, .int .i64 0, .int .i64 1] 3)
  have hb0 : Below w.heap.size w ((w.alloc (.cells #[.int .i64 2] 24)).alloc (.cells #[.int .i64 1, .int .i64 0, .int .i64 1] 3)) := ballocs (bbox _) _
  go_wp2_with (first
    | (go_at_call 83; refine (queries_ok 2 3 1 1 3 3 2 _ [1, 0, 1] _ HO.out (by omega) (by omega) (by omega) (by omega) (by exact Ints.lit _ _ [1, 0, 1] 3 3 _ (by simp) rfl rfl) (by omega) (by omega) HX.out).mono ?_; rintro e w1 ⟨⟨A1, c1, T1, tc1, av, rfl, hav, hown1⟩, hb1⟩
       rw [HQ.out] at hown1
       obtain rfl : av = 3 := by rw [hav]; rfl
       clear hav
       have hbb1 := ballocs (bnext hb0 hb1) (.cells #[.slice T1 3 tc1, .int .i64 3] 62)
       have hF1 := (hF0.below hb1 hF0.lt).alloc (.cells #[.slice T1 3 tc1, .int .i64 3] 62)
       have hT1 := Blk.new w1 62 #[.slice T1 3 tc1, .int .i64 3]
       have hM1 := (hown1.mat (Nat.le_refl _)).upto (bbox (.cells #[.slice T1 3 tc1, .int .i64 3] 62))
       have hcf1 : (w1.alloc (.cells #[.slice T1 3 tc1, .int .i64 3] 62)).cell? ⟨w.heap.size, 0, none⟩ = some (.int .i64 2) := (hF1.cell 0).trans rfl)
    | (go_at_call 85; refine (wanted_ok 2 _ 2 c1 3 1 _ [[1, 0, 1], [1, 1, 1]] _ HO.out hM1 (by omega) HR.out (by omega) (by omega) HSP.out).mono ?_; rintro e w2 ⟨rfl, hb2⟩
       have hbb2 := bnext hbb1 hb2
       have hT2 := hT1.below hb2 hT1.lt
       have hM2 := hM1.upto hb2
       have hbl := (bbox (w0 := w2) (.cells #[.int .i64 1, .int .i64 0, .int .i64 1] 3))
       have hbl2 := ballocs hbl (.cells #[.int .i64 1, .int .i64 1, .int .i64 1] 3)
       have hI1 := (Ints.lit w2 _ [1, 0, 1] 3 3 _ rfl rfl rfl).upto (bbox (.cells #[.int .i64 1, .int .i64 1, .int .i64 1] 3))
       have hI2 := Ints.lit (w2.alloc (.cells #[.int .i64 1, .int .i64 0, .int .i64 1] 3)) _ [1, 1, 1] 3 3 (w2.heap.size + 1) (by simp) rfl rfl
       have hMl := Mat.pair _ _ _ 3 3 3 3 _ _ 22 (w2.heap.size + 1 + 1) (by simp) hI1 hI2 (by omega) (by omega)
       have hbl3 := ballocs hbl2 (.cells #[.slice (some ⟨w2.heap.size, 0, none⟩) 3 3, .slice (some ⟨w2.heap.size + 1, 0, none⟩) 3 3] 22)
       have hM3 := hM2.upto hbl3
       have hT3 := hT2.below hbl3 hT2.lt)
    | (go_at_call 84; refine (sameRows_any _ _ 2 2 c1 2 [[1, 0, 1], [1, 1, 1]] [[1, 0, 1], [1, 1, 1]] _ hM3 hMl (by omega)).mono ?_; rintro e w3 ⟨rfl, q, rfl⟩
       have hc3 := (hT3.drewN q).cell 1
       rw [show (#[Value.slice T1 3 tc1, Value.int .i64 3] : Array Value)[1]? = some (.int .i64 3) from rfl] at hc3
       have hbE := below_drewN (hbb2.trans (hbl3.mono hbb2.size)) q)
    )
  go_ret
  exact ⟨rfl, hbE⟩
end Go.Proofs.Ytoblofilaegnaaa
