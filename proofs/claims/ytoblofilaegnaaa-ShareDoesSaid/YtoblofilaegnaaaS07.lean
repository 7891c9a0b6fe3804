/-
  The sanity check of chapter 7. No conditions.
-/
import Derived.Test.YtoblofilaegnaaaSplit
namespace Go.Proofs.Ytoblofilaegnaaa
open Go.RowKit
set_option linter.unusedVariables false

set_option maxRecDepth 100000 in
set_option maxHeartbeats 1600000 in
theorem sane07_any (w : World) : Calls Try.prog 50 #[] w fun e w' => e = .returned (.bool true) ∧ Below w.heap.size w w' := by
  have h7 : okP 7 = true := okP_known (by simp [isKnown])
  have HO := Lib.hid h7
  have HV : Hid (valsP 7 (3 :: ([2] : List Int).take 1) (ptsL 3) = [5, 0, 2]) := Lib.hid (by decide)
  have HP3 : Hid (ptsL 3 = [1, 2, 3]) := Lib.hid (by decide)
  have HJ : Hid (∀ R, Through 7 (([2, 3] : List Int).take (1 + 1)) (([0, 2] : List Int).take (1 + 1)) R → valueP 7 0 R = 3) := Lib.hid fun R hR => by
    have h1 := share_join h7 (cs := [3, 2]) (us := [2, 3]) (m := 2) (by decide) (by decide) (by decide) (fun j k h1 h2 => by
      have h3 : k < 2 := h2
      obtain rfl : k = 1 := by omega
      obtain rfl : j = 0 := by omega
      decide) (by decide) hR
    rw [h1]; decide
  have HD0 : Hid (∀ i, i < 1 → (0 : Int) ≤ ([2] : List Int).getD i 0 ∧ ([2] : List Int).getD i 0 < 7) := Lib.hid fun i hi => by
    obtain rfl : i = 0 := by omega
    decide
  have hb0 : Below w.heap.size w ((w.alloc (.cells #[.int .i64 7] 24)).alloc (.cells #[.int .i64 2] 3)) := ballocs (bbox _) _
  have hF0 := (Blk.new w 24 #[.int .i64 7]).alloc (.cells #[.int .i64 2] 3)
  clear h7
  go_enter Try.func50, Try.ntmps50
  go_wp2_with (go_at_call 56; (refine (split_ok 7 3 1 3 _ 1 1 [2] _ HO.out (by omega) (by exact Ints.oneAt _ 2 3 _ (by simp)) (by omega) (by omega) (by omega) HD0.out (by omega) (by omega)).mono ?_); rintro e w1 ⟨⟨A1, c1, T1, tc1, rfl, hoS1⟩, hb1⟩
               rw [HV.out, HP3.out] at hoS1
               have hcap := hoS1.cap
               have hbb1 := ballocs (bnext hb0 hb1) (.cells #[.slice T1 1 tc1, .int .i64 1] 62)
               have hF1 := (hF0.below hb1 hF0.lt).alloc (.cells #[.slice T1 1 tc1, .int .i64 1] 62)
               have hN1 := Blk.new w1 62 #[.slice T1 1 tc1, .int .i64 1]
               obtain ⟨g, hAg, hg1, hg2⟩ : ∃ g, A1 = some ⟨g, 0, none⟩ ∧ w.heap.size ≤ g ∧ g < w1.heap.size := by
                 obtain ⟨g, cap, hv, h1, h2⟩ := World.ownsRow.form hoS1.2.2 (by omega)
                 injection hv with hA
                 exact ⟨g, hA, by simp at h1; omega, h2⟩
               subst hAg
               have hoS2 := hoS1.belowAll (bbox (.cells #[.slice T1 1 tc1, .int .i64 1] 62))
               have hcell : ∀ j, j < 6 → (w1.alloc (.cells #[.slice T1 1 tc1, .int .i64 1] 62)).cell? ⟨g, j, none⟩ = (shV [1, 2, 3] [5, 0, 2])[j]? := fun j hj => World.ownsRow.cellAt hoS2.2.2 j (by omega))
  have hc0 := (hcell 0 (by omega)).trans (rfl : _ = some (Value.int .i64 1))
  have hc1 := (hcell 1 (by omega)).trans (rfl : _ = some (Value.int .i64 5))
  have hc2 := (hcell 2 (by omega)).trans (rfl : _ = some (Value.int .i64 2))
  have hc3 := (hcell 3 (by omega)).trans (rfl : _ = some (Value.int .i64 0))
  have hc4 := (hcell 4 (by omega)).trans (rfl : _ = some (Value.int .i64 3))
  have hc5 := (hcell 5 (by omega)).trans (rfl : _ = some (Value.int .i64 2))
  have hcI : (3 : Int) ≤ (c1 : Int) := by omega
  have hcn : ¬ c1 = 1 := by omega
  have hc1I : (1 : Int) ≤ (c1 : Int) := by omega
  have hSH : Sh (w1.alloc (.cells #[.slice T1 1 tc1, .int .i64 1] 62)).drew (w1.alloc (.cells #[.slice T1 1 tc1, .int .i64 1] 62)).drew.heap.size (some ⟨g, 2, none⟩) 2 [2, 3] [0, 2] :=
    ⟨rfl, rfl, fun _ => ⟨g, 2, rfl, Nat.lt_of_lt_of_le hg2 (bbox _).size, fun j hj => by
      rcases (by omega : j = 0 ∨ j = 1) with rfl | rfl
      · exact ⟨hc2, hc3⟩
      · exact ⟨hc4, hc5⟩⟩⟩
  have hcf : (w1.alloc (.cells #[.slice T1 1 tc1, .int .i64 1] 62)).drew.cell? ⟨w.heap.size, 0, none⟩ = some (.int .i64 7) := (hF1.cell 0).trans rfl
  clear hcell
  go_wp2_with fail
  go_region_held3 (fun w' => w'.cell? ⟨w.heap.size, 0, none⟩ = some (.int .i64 7)) (first | exact hcf | exact hcg)
    (first
      | (go_at_call 59; (refine (join_share_ok 7 _ 2 _ 1 [2, 3] [0, 2] _ HO.out hSH (by decide) (by decide) (by omega) (by omega) (by omega) (by omega) (fun j k h1 h2 => by
            have h3 : k < 2 := h2
            obtain rfl : k = 1 := by omega
            obtain rfl : j = 0 := by omega
            decide)).mono ?_); rintro e w2 ⟨⟨R, rfl, hT⟩, hb2⟩
         rw [HJ.out R hT]
         have hF2 := (Blk.drew hF1).below hb2 hF1.lt
         have hcg : w2.cell? ⟨w.heap.size, 0, none⟩ = some (.int .i64 7) := (hF2.cell 0).trans rfl
         have hN2 := (Blk.drew hN1).below hb2 hN1.lt
         have hn1 : w2.cell? ⟨w1.heap.size, 1, none⟩ = some (.int .i64 1) := (hN2.cell 1).trans rfl
         have hgl : g < (w1.alloc (.cells #[.slice T1 1 tc1, .int .i64 1] 62)).drew.heap.size := Nat.lt_of_lt_of_le hg2 (bbox _).size
         have hd0 := (hb2.cell (p := ⟨g, 0, none⟩) hgl).trans hc0
         have hd1 := (hb2.cell (p := ⟨g, 1, none⟩) hgl).trans hc1
         have hd3 := (hb2.cell (p := ⟨g, 3, none⟩) hgl).trans hc3
         have hd5 := (hb2.cell (p := ⟨g, 5, none⟩) hgl).trans hc5
         have hbb2 := bnext hbb1.drew hb2
         clear hT))
  go_wp2
  go_ret
  exact ⟨rfl, hbb2⟩
end Go.Proofs.Ytoblofilaegnaaa
