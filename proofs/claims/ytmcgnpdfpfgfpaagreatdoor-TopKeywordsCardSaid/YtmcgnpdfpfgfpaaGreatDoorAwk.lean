/-
  The sanity check of the statements through the layers: a row is read from two servers of three. No conditions but that the start-up's one variable lies.
-/
import Derived.Test.YtmcgnpdfpfgfpaaGreatDoorCol3
import Derived.Test.YtmcgnpdfpfgfpaaGreatDoorCrv2
import Derived.Test.YtmcgnpdfpfgfpaaGreatDoorGAns
import Derived.Deep.RegionLaw
import Derived.Deep.DeepCutAuto
namespace Go.Proofs.YtmcgnpdfpfgfpaaGreatDoor
open Go.RowKit
set_option linter.unusedVariables false

/-- A slice of two rows. -/
theorem Mat.pairA (w : World) (A B : Option Addr) (n m c d : Nat) (xs ys : List Int) (t : TypeId) (g : Nat) (hg : g = w.heap.size) (h : Ints w w.heap.size A n xs) (h2 : Ints w w.heap.size B m ys) (hn : n ≤ 17592186044416) (hm : m ≤ 17592186044416) :
    Mat (w.alloc (.cells #[.slice A n c, .slice B m d] t)) 0 (w.alloc (.cells #[.slice A n c, .slice B m d] t)).heap.size (some ⟨g, 0, none⟩) 2 [xs, ys] := by
  subst hg
  refine ⟨rfl, fun _ => ⟨_, _, rfl, Nat.zero_le _, by simp, fun j hj => ?_⟩⟩
  rcases (by omega : j = 0 ∨ j = 1) with rfl | rfl
  · refine ⟨A, n, c, ?_, hn, h.upto (bbox _), fun _ _ _ _ _ => Nat.zero_le _⟩
    rw [World.cell?_alloc_at _ _ _ _ rfl]; rfl
  · refine ⟨B, m, d, ?_, hm, h2.upto (bbox _), fun _ _ _ _ _ => Nat.zero_le _⟩
    rw [World.cell?_alloc_at _ _ _ _ rfl]; rfl

set_option maxRecDepth 100000 in
set_option maxHeartbeats 4000000 in
theorem awake_any (w : World) (hE : ErrW w) : Calls Tryz.prog 5 #[] w fun e w' => e = .returned (.bool true) ∧ Below w.heap.size w w' := by
  have HO : Hid (okP 5 = true) := Lib.hid (okP_known (by simp [isKnown]))
  have HQ : Hid (qM 5 1 1 3 [4, 2] 2 0 = [[4, 3], [3, 0], [2, 2]]) := Lib.hid (by decide)
  have HA0 : Hid (combP 5 [4, 3] [[1, 2], [3, 4]] 2 = [3, 0]) := Lib.hid (by decide)
  have HA2 : Hid (combP 5 [2, 2] [[1, 2], [3, 4]] 2 = [3, 2]) := Lib.hid (by decide)
  have HR : Hid (∀ r ∈ ([[1, 2], [3, 4]] : List (List Int)), allP 5 r = true ∧ r.length = 2) := Lib.hid (by decide)
  have HDS : Hid (allP 5 [4, 2] = true) := Lib.hid (by decide)
  have hF1 := Blk.new w 44 #[.int .i64 5]
  have hP2 := Blk.new1 w (.cells #[.int .i64 5] 44) 54 #[.int .i64 3, .int .i64 1]
  have hF2 := hF1.alloc (.cells #[.int .i64 3, .int .i64 1] 54)
  have hb2 : Below w.heap.size w ((w.alloc (.cells #[.int .i64 5] 44)).alloc (.cells #[.int .i64 3, .int .i64 1] 54)) := ballocs (bbox _) _
  have hz2 : ((w.alloc (.cells #[.int .i64 5] 44)).alloc (.cells #[.int .i64 3, .int .i64 1] 54)).heap.size = w.heap.size + 1 + 1 := by simp [World.size_alloc]
  obtain ⟨w2, hw2⟩ : ∃ v, (w.alloc (.cells #[.int .i64 5] 44)).alloc (.cells #[.int .i64 3, .int .i64 1] 54) = v := ⟨_, rfl⟩
  rw [hw2] at hP2 hF2 hb2 hz2
  have hI3 := (Ints.lit w2 #[.int .i64 1, .int .i64 2] [1, 2] 3 2 _ rfl rfl rfl).upto (bbox (.cells #[.int .i64 3, .int .i64 4] 3))
  have hI4 := Ints.lit (w2.alloc (.cells #[.int .i64 1, .int .i64 2] 3)) #[.int .i64 3, .int .i64 4] [3, 4] 3 2 (w2.heap.size + 1) (by simp) rfl rfl
  have hM5 := Mat.pairA _ _ _ 2 2 2 2 _ _ 22 (w2.heap.size + 1 + 1) (by simp) hI3 hI4 (by omega) (by omega)
  have hb5 := ballocs (ballocs (bbox (w0 := w2) (.cells #[.int .i64 1, .int .i64 2] 3)) (.cells #[.int .i64 3, .int .i64 4] 3)) (.cells #[.slice (some ⟨w2.heap.size, 0, none⟩) 2 2, .slice (some ⟨w2.heap.size + 1, 0, none⟩) 2 2] 22)
  obtain ⟨w5, hw5⟩ : ∃ v, ((w2.alloc (.cells #[.int .i64 1, .int .i64 2] 3)).alloc (.cells #[.int .i64 3, .int .i64 4] 3)).alloc (.cells #[.slice (some ⟨w2.heap.size, 0, none⟩) 2 2, .slice (some ⟨w2.heap.size + 1, 0, none⟩) 2 2] 22) = v := ⟨_, rfl⟩
  rw [hw5] at hM5 hb5
  have hF5 := hF2.below hb5 hF2.lt
  have hP5 := hP2.below hb5 hP2.lt
  have hE5 := (hE.below hb2).below hb5
  have hbb5 := bnext hb2 hb5
  rw [hz2] at hw5 hM5
  have HW5 := Lib.hid hw5
  clear hw5 hI3 hI4 hF2 hP2 hF1 hE hb5
  go_enter Tryz.func5, Tryz.ntmps5
  go_upto_region 4 with fail
  rw [HW5.out]
  clear HW5 hw2
  have hc50 : w5.cell? ⟨w.heap.size, 0, none⟩ = some (.int .i64 5) := (hF5.cell 0).trans rfl
  have hc51 : w5.cell? ⟨w.heap.size + 1, 0, none⟩ = some (.int .i64 3) := (hP5.cell 0).trans rfl
  have hc52 : w5.cell? ⟨w.heap.size + 1, 1, none⟩ = some (.int .i64 1) := (hP5.cell 1).trans rfl
  have hF6 := hF5.alloc (.cells #[.int .i64 4, .int .i64 2] 3)
  have hP6 := hP5.alloc (.cells #[.int .i64 4, .int .i64 2] 3)
  have hM6 := hM5.upto (bbox (.cells #[.int .i64 4, .int .i64 2] 3))
  have hE6 := hE5.below (bbox (.cells #[.int .i64 4, .int .i64 2] 3))
  have hbb6 := bnext hbb5 (bbox (.cells #[.int .i64 4, .int .i64 2] 3))
  have hI6 := Ints.lit w5 #[.int .i64 4, .int .i64 2] [4, 2] 3 2 _ rfl rfl rfl
  go_upto_region 7 with (go_at_call 25; refine (cquer_ok 5 3 1 2 1 2 2 _ [4, 2] _ HO.out (by omega) (by omega) (by omega) (by omega) (by omega) (by omega) hI6 HDS.out).mono ?_; rintro e w7 ⟨⟨g, bs, T', tc', av, rfl, hG7⟩, hb7⟩)
  rw [HQ.out] at hG7
  have hb8 := bbox (w0 := w7) (.cells #[.slice T' 2 tc', .int .i64 av] 75)
  have hG8 := hG7.belowAll hb8
  have hF8 := (hF6.below hb7 hF6.lt).below hb8 (hF6.below hb7 hF6.lt).lt
  have hP8 := (hP6.below hb7 hP6.lt).below hb8 (hP6.below hb7 hP6.lt).lt
  have hM8 := (hM6.upto hb7).upto hb8
  have hE8 := (hE6.below hb7).below hb8
  have hbb8 := bnext (bnext hbb6 hb7) hb8
  obtain ⟨w8, hw8⟩ : ∃ v, w7.alloc (.cells #[.slice T' 2 tc', .int .i64 av] 75) = v := ⟨_, rfl⟩
  rw [hw8] at hb8 hG8 hF8 hP8 hM8 hE8 hbb8
  rw [hw8]
  clear hw8 hb7 hG7 hI6 hF6 hP6 hM6 hE6 hbb6 hF5 hP5 hM5 hE5 hbb5 hc50 hc51 hc52 hb8
  have hc80 : w8.cell? ⟨w.heap.size, 0, none⟩ = some (.int .i64 5) := (hF8.cell 0).trans rfl
  have hO0 := hG8.own 0 (by omega)
  have hO2 := hG8.own 2 (by omega)
  have hg0 := (hG8.at_ (j := 0) (by omega)).1
  have hg2 := (hG8.at_ (j := 2) (by omega)).1
  obtain ⟨⟨X0, n0, c0⟩, hx0⟩ : ∃ t, bs.getD 0 (none, 0, 0) = t := ⟨_, rfl⟩
  obtain ⟨⟨X2, n2, c2⟩, hx2⟩ : ∃ t, bs.getD 2 (none, 0, 0) = t := ⟨_, rfl⟩
  rw [hx0] at hO0 hg0
  rw [hx2] at hO2 hg2
  dsimp only at hO0 hO2 hg0 hg2
  have e0 : n0 = 2 := hO0.len.symm
  have e2 : n2 = 2 := hO2.len.symm
  subst e0 e2
  have hI0 : Ints w8 w8.heap.size X0 2 [4, 3] := hO0.ints
  have hI2 : Ints w8 w8.heap.size X2 2 [2, 2] := hO2.ints
  clear hx0 hx2 hO0 hO2
  have hI0d : Ints w8.drew w8.drew.heap.size X0 2 [4, 3] := hI0
  have hM8d : Mat w8.drew 0 w8.drew.heap.size (some ⟨w.heap.size + 1 + 1 + 1 + 1, 0, none⟩) 2 [[1, 2], [3, 4]] := hM8
  go_cut [7, 8] (fun s7 s8 wx => ∃ Y0 d0, s7 = .slice Y0 2 d0 ∧ s8 = .int .i64 0 ∧ OwnI wx w8.heap.size 3 Y0 2 d0 [3, 0] ∧ Below w8.heap.size w8 wx)
  case first =>
    go_region_law (first | (go_simp; go_at_call 27; (refine (panswer_ok 5 X0 (some ⟨w.heap.size + 1 + 1 + 1 + 1, 0, none⟩) 2 2 c0 2 [4, 3] [[1, 2], [3, 4]] _ HO.out hI0d hM8d (by decide) HR.out (by omega) (by omega)).mono ?_); rintro e w9 ⟨⟨Y0, d0, rfl, hY0⟩, hb9⟩))
    all_goals rw [HA0.out] at hY0
    all_goals go_wp2
    all_goals go_meet
    all_goals exact ⟨Y0, d0, rfl, rfl, hY0, ⟨hb9.os, hb9.tape, hb9.output, hb9.size, hb9.block⟩⟩
  case rest =>
  obtain ⟨Y0, d0, rfl, rfl, hY0, hb89⟩ := hcut
  obtain ⟨w9, hw9⟩ : ∃ v, v = wc := ⟨_, rfl⟩
  subst hw9
  have hG9 := hG8.belowAll hb89
  have hI29 := hI2.upto hb89
  have hM9 := hM8.upto hb89
  have hF9 := hF8.below hb89 hF8.lt
  have hP9 := hP8.below hb89 hP8.lt
  have hE9 := hE8.below hb89
  have hbb9 := bnext hbb8 hb89
  have hg29 : w9.cell? ⟨g, 2, none⟩ = some (.slice X2 2 c2) := (hb89.cell (p := ⟨g, 2, none⟩) hG8.lo.2).trans hg2
  have hc90 : w9.cell? ⟨w.heap.size, 0, none⟩ = some (.int .i64 5) := (hF9.cell 0).trans rfl
  have hI2d : Ints w9.drew w9.drew.heap.size X2 2 [2, 2] := hI29
  have hM9d : Mat w9.drew 0 w9.drew.heap.size (some ⟨w.heap.size + 1 + 1 + 1 + 1, 0, none⟩) 2 [[1, 2], [3, 4]] := hM9
  clear hG8 hI0 hI2 hI0d hM8d hM8 hF8 hP8 hE8 hg0 hg2 hc80
  go_upto_region 8 with fail
  go_cut [9, 10] (fun s9 s10 wx => ∃ Y2 d2, s9 = .slice Y2 2 d2 ∧ s10 = .int .i64 0 ∧ OwnI wx w9.heap.size 3 Y2 2 d2 [3, 2] ∧ Below w9.heap.size w9 wx)
  case first =>
    go_region_law (first | (go_simp; go_at_call 27; (refine (panswer_ok 5 X2 (some ⟨w.heap.size + 1 + 1 + 1 + 1, 0, none⟩) 2 2 c2 2 [2, 2] [[1, 2], [3, 4]] _ HO.out hI2d hM9d (by decide) HR.out (by omega) (by omega)).mono ?_); rintro e w10 ⟨⟨Y2, d2, rfl, hY2⟩, hb10⟩))
    all_goals rw [HA2.out] at hY2
    all_goals go_wp2
    all_goals go_meet
    all_goals exact ⟨Y2, d2, rfl, rfl, hY2, ⟨hb10.os, hb10.tape, hb10.output, hb10.size, hb10.block⟩⟩
  case rest =>
  obtain ⟨Y2, d2, rfl, rfl, hY2, hb910⟩ := hcut
  obtain ⟨w10, hw10⟩ : ∃ v, v = wc := ⟨_, rfl⟩
  subst hw10
  have hY0t := hY0.belowAll hb910
  have hF10 := hF9.below hb910 hF9.lt
  have hP10 := hP9.below hb910 hP9.lt
  have hE10 := hE9.below hb910
  have hbb10 := bnext hbb9 hb910
  have hJ0 := hY0t.ints
  have hJ2 := hY2.ints
  clear hG9 hI29 hM9 hF9 hP9 hE9 hg29 hc90 hI2d hM9d
  have hc10 : w10.cell? ⟨w.heap.size, 0, none⟩ = some (.int .i64 5) := (hF10.cell 0).trans rfl
  have hc11 : w10.cell? ⟨w.heap.size + 1, 0, none⟩ = some (.int .i64 3) := (hP10.cell 0).trans rfl
  have hc12 : w10.cell? ⟨w.heap.size + 1, 1, none⟩ = some (.int .i64 1) := (hP10.cell 1).trans rfl
  have hbA := bbox (w0 := w10) (.cells #[.bool true, .slice Y0 2 d0, .bool false, .slice none 0 0, .bool true, .slice Y2 2 d2] 85)
  have hBA := Blk.new w10 85 #[.bool true, .slice Y0 2 d0, .bool false, .slice none 0 0, .bool true, .slice Y2 2 d2]
  have hK0 := hJ0.upto hbA
  have hK2 := hJ2.upto hbA
  have hE11 := hE10.below hbA
  have hbb11 := bnext hbb10 hbA
  have hAns : Ans (w10.alloc (.cells #[.bool true, .slice Y0 2 d0, .bool false, .slice none 0 0, .bool true, .slice Y2 2 d2] 85)) (w10.alloc (.cells #[.bool true, .slice Y0 2 d0, .bool false, .slice none 0 0, .bool true, .slice Y2 2 d2] 85)).heap.size (some ⟨w10.heap.size, 0, none⟩) 3 [true, false, true] [[3, 0], [], [3, 2]] := by
    refine ⟨rfl, rfl, fun _ => ⟨_, _, rfl, by simp [World.size_alloc], fun j hj => ?_⟩⟩
    rcases (by omega : j = 0 ∨ j = 1 ∨ j = 2) with rfl | rfl | rfl
    · exact ⟨(hBA.cell 0).trans rfl, Y0, 2, d0, (hBA.cell 1).trans rfl, by omega, hK0⟩
    · exact ⟨(hBA.cell 2).trans rfl, none, 0, 0, (hBA.cell 3).trans rfl, by omega, Ints.nil_⟩
    · exact ⟨(hBA.cell 4).trans rfl, Y2, 2, d2, (hBA.cell 5).trans rfl, by omega, hK2⟩
  have HCV := Lib.hid (cDecode_ok 5 3 1 2 (some ⟨w10.heap.size, 0, none⟩) 3 [true, false, true] [[3, 0], [], [3, 2]] _ HO.out (by omega) (by omega) (by omega) hAns (by omega)
    (fun i hi hk => by
      rcases (by omega : i = 0 ∨ i = 1 ∨ i = 2) with rfl | rfl | rfl
      · decide
      · exact absurd hk (by decide)
      · decide)
    (fun i hi hk => by
      rcases (by omega : i = 0 ∨ i = 1 ∨ i = 2) with rfl | rfl | rfl
      · exact absurd hk (by decide)
      · decide
      · exact absurd hk (by decide)) (by decide) hE11 (fun c => if c = 0 then [3] else [4, 1])
    (fun c hc => by
      rcases (by omega : c = 0 ∨ c = 1) with rfl | rfl
      · exact ⟨by decide, by decide, by decide⟩
      · exact ⟨by decide, by decide, by decide⟩))
  have HYS : Hid (((List.range 2).map fun col => cf ((fun c => if c = 0 then [3] else [4, 1]) col) 0) = [3, 4]) := Lib.hid (by decide)
  rw [HYS.out] at HCV
  clear hAns hE11 hBA hK0 hK2 HYS hJ0 hJ2 hY0 hY2 hY0t
  go_wp2_with (first
    | (go_at_call 31; refine HCV.out.mono ?_; rintro e w13 ⟨⟨Rw, rc, Q, qn, qc, qs, rfl, hRw, _, hQ⟩, hb13⟩
       have hN14 := (Blk.new w13 59 #[.slice Rw 2 rc, .slice Q qn qc])
       have hb14 := bbox (w0 := w13) (.cells #[.slice Rw 2 rc, .slice Q qn qc] 59)
       have hbb14 := bnext (bnext hbb11 hb13) hb14
       have hR14 := hRw.upto hb14
       have hc14 : (w13.alloc (.cells #[.slice Rw 2 rc, .slice Q qn qc] 59)).cell? ⟨w13.heap.size, 0, none⟩ = some (.slice Rw 2 rc) := (hN14.cell 0).trans rfl
       have hR15 := hR14.upto (bbox (.cells #[.int .i64 3, .int .i64 4] 3))
       have hL15 := Ints.lit (w13.alloc (.cells #[.slice Rw 2 rc, .slice Q qn qc] 59)) #[.int .i64 3, .int .i64 4] [3, 4] 3 2 (w13.heap.size + 1) (by simp) rfl rfl
       have hbb15 := bnext hbb14 (bbox (.cells #[.int .i64 3, .int .i64 4] 3)))
    | (go_at_call 32; refine (same_any Rw _ 2 2 rc 2 [3, 4] [3, 4] _ hR15 hL15 (by omega) (by omega)).mono ?_; rintro e w16 ⟨rfl, q, rfl⟩; rw [show sameL [3, 4] [3, 4] = true from by decide]))
  go_ret
  exact ⟨rfl, below_drewN hbb15 q⟩
end Go.Proofs.YtmcgnpdfpfgfpaaGreatDoor
