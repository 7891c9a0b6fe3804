/-
  ShareAdds returns true: the walk of the law. Conditions: none beyond the reading of its arguments.
-/
import Derived.Test.YtieejgkheijgeaaSplitAt
import Derived.Test.YtieejgkheijgeaaS07
import Derived.Test.YtieejgkheijgeaaBig
import Derived.Test.YtieejgkheijgeaaShares2
import Derived.Test.YtieejgkheijgeaaPolyA
import Derived.Deep.QuietTactic
import Derived.BigQuiet
import Derived.Deep.RegionHeld3
import Derived.Deep.DeepCutAuto
namespace Go.Proofs.Ytieejgkheijgeaa
open Go.RowKit
set_option linter.unusedVariables false

set_option maxHeartbeats 6400000 in
set_option maxRecDepth 100000 in
theorem shareAdds_walk (A : Option Addr) (n c : Nat) (zs : List Int) (w : World) (w0 : IsRow .i64 w A n c zs) :
    Calls Try.prog 4 #[.slice A n c] w fun e w' => e = .returned (.bool true) ∧ Below w.heap.size w w' := by
  obtain ⟨h, hw⟩ := w0.ints
  generalize zs.take n = xs at h hw
  clear w0
  by_cases hn : n ≤ 500
  · have hd : decide (n ≤ 500) = true := by simpa using hn
    go_enter Try.func4, Try.ntmps4
    go_wp2_with (first
      | (go_at_call 13; refine (sane07_any _).mono ?_; rintro e w1 ⟨rfl, hb1⟩)
      | (go_at_call 14; refine (few_any A n c _).mono ?_; rintro e w' ⟨rfl, rfl⟩)
      | (go_at_call 15; refine (new_any A n c xs _ (h.upto hb1) hn).mono ?_; rintro e w2 ⟨⟨g, rfl, hge, hD2⟩, hb2⟩
         have hbb2 := bnext hb1 hb2
         have hg : w.heap.size ≤ g := by rw [hge]; exact hb1.size
         clear hge)
      | (go_at_call 16; refine (big_any g A n c xs _ 5 _ hD2 (by omega)).mono ?_; rintro e w3 ⟨p, q3, rfl, hkn, hp5, hD3, hS3⟩
         have hok := okP_known hkn
         have hp := okP_pos hok
         have HO := Lib.hid hok
         have hbb3 := ballocs (Step.below hbb2 hS3 hbb2.size hg) (.cells #[.int .i64 p] 28)
         have hF_3 := Blk.new w3 28 #[.int .i64 p]
         have hD3' := hD3.alloc (.cells #[.int .i64 p] 28)
         have hgf : w3.heap.size ≠ g := by have := hD3.1.lt; omega
         clear hok hkn hD2 hD3 hS3 hbb2 hb1 hb2)
      | (go_at_call 17; refine (next_any g A n c xs q3 4 _ hD3' (by omega)).mono ?_; rintro e w4 ⟨r', q4, rfl, hr, hr0, hD4, hS4, hz4⟩
         obtain ⟨th, rfl⟩ : ∃ r : Nat, r' = r := ⟨r'.toNat, by have := hr (by omega); omega⟩
         have hth : th ≤ 3 := by have := hr (by omega); omega
         have hF_4 := Step.block hS4 hF_3 hgf
         have hbb4 := Step.below hbb3 hS4 hbb3.size hg
         have hcf_4 : w4.cell? ⟨w3.heap.size, 0, none⟩ = some (.int .i64 p) := (hF_4.cell 0).trans rfl
         have hbb4' := ballocs hbb4 (.cells #[.int .i64 p, .int .i64 p, .int .i64 p] 3)
         have hD4' := (hD4.alloc (.cells #[.int .i64 p, .int .i64 p, .int .i64 p] 3)).drew
         have hF4' := hF_4.alloc (.cells #[.int .i64 p, .int .i64 p, .int .i64 p] 3)
         have hcf4' : (w4.alloc (.cells #[.int .i64 p, .int .i64 p, .int .i64 p] 3)).drew.cell? ⟨w3.heap.size, 0, none⟩ = some (.int .i64 p) := (hF4'.cell 0).trans rfl
         have hL4 : OwnI (w4.alloc (.cells #[.int .i64 p, .int .i64 p, .int .i64 p] 3)).drew w4.heap.size 3 (some ⟨w4.heap.size, 0, none⟩) 3 3 [p, p, p] := OwnI.made (Nat.le_refl _) (Blk.new w4 3 #[.int .i64 p, .int .i64 p, .int .i64 p]) rfl (by unfold maxLen; omega)
         have hg4 := hD4.1.lt
         clear hr hr0 hz4))
    go_region_held3 (fun w' => w'.cell? ⟨w3.heap.size, 0, none⟩ = some (.int .i64 p)) (first | exact hcf4' | exact hcf_5 | exact hcf_6)
      (first
        | (go_at_call 17; (with_reducible refine (next_any g A n c xs q4 p _ hD4' (by omega)).mono ?_); rintro e w5 ⟨sa, q5, rfl, hsa, _, hD5, hS5, hz5⟩
           have hsa1 := hsa (by omega)
           have hF_5 := Step.block hS5 (Blk.drew hF4') hgf
           have hcf_5 : w5.cell? ⟨w3.heap.size, 0, none⟩ = some (.int .i64 p) := (hF_5.cell 0).trans rfl
           have hL5 := hL4.step hS5 hg4
           have hbb5 := Step.below hbb4'.drew hS5 hbb4'.size hg
           clear hsa hz5)
        | (go_at_call 17; (with_reducible refine (next_any g A n c xs q5 p _ hD5 (by omega)).mono ?_); rintro e w6 ⟨sb, q6, rfl, hsb, _, hD6, hS6, hz6⟩
           have hsb1 := hsb (by omega)
           have hF_6 := Step.block hS6 hF_5 hgf
           have hcf_6 : w6.cell? ⟨w3.heap.size, 0, none⟩ = some (.int .i64 p) := (hF_6.cell 0).trans rfl
           have hL6 := hL5.step hS6 hg4
           have hbb6 := Step.below hbb5 hS6 hbb5.size hg
           clear hsb hz6))
    clear hF_3 hF_4 hF4' hF_5 hcf_4 hcf4' hcf_5 hS4 hS5 hS6 hD3' hD4 hD4' hD5 hL4 hL5 hbb3 hbb4 hbb4' hbb5
    have HLI : Hid (∀ i, i < 3 → 1 ≤ ([p, p, p] : List Int).getD i 0 ∧ ([p, p, p] : List Int).getD i 0 ≤ 4611686018427387904) := Lib.hid fun i hi => by
      rcases (by omega : i = 0 ∨ i = 1 ∨ i = 2) with rfl | rfl | rfl <;> exact ⟨by show 1 ≤ p; omega, by show p ≤ _; omega⟩
    have HDS : Hid (∀ ds : List Int, (∀ i, i < 3 → 0 ≤ ds.getD i 0 ∧ ds.getD i 0 < ([p, p, p] : List Int).getD i 0) → ∀ i, i < th → 0 ≤ ds.getD i 0 ∧ ds.getD i 0 < p) := Lib.hid fun ds h i hi => by
      have h1 := h i (by omega)
      rcases (by omega : i = 0 ∨ i = 1 ∨ i = 2) with rfl | rfl | rfl <;> exact h1
    go_upto_region 10 with fail
    have hBr : Below w6.heap.size w6.drew w6.drew := Below.refl _ _
    have hBa : Below w6.heap.size w6.drew (w6.alloc (.cells #[.slice none 0 0, .int .i64 0] 33)).drew := ⟨rfl, rfl, rfl, (bbox (w0 := w6) (.cells #[.slice none 0 0, .int .i64 0] 33)).size, fun k hk => (bbox (w0 := w6) (.cells #[.slice none 0 0, .int .i64 0] 33)).block k hk⟩
    have hSr : Step g w6 w6.drew := (Step.refl g w6).drew
    have hSa : Step g w6 (w6.alloc (.cells #[.slice none 0 0, .int .i64 0] 33)).drew := ((Step.refl g w6).alloc (.cells #[.slice none 0 0, .int .i64 0] 33)).drew
    have HDD : Hid (∀ wx, Below w6.heap.size w6.drew wx → Deck wx g A n c xs q6) := Lib.hid fun wx hx => hD6.drew.below hx hD6.1.lt
    have HLL : Hid (∀ wx, Step g w6 wx → Ints wx wx.heap.size (some ⟨w4.heap.size, 0, none⟩) 3 [p, p, p]) := Lib.hid fun wx hx => (hL6.step hx hg4).ints
    have HFF : Hid (∀ wx, Step g w6 wx → wx.cell? ⟨w3.heap.size, 0, none⟩ = some (.int .i64 p)) := Lib.hid fun wx hx => ((Step.block hx hF_6 hgf).cell 0).trans rfl
    have HZ : Hid (∀ wx, Step g (w6.alloc (.cells #[.slice none 0 0, .int .i64 0] 33)).drew wx → Blk wx w6.heap.size 33 #[.slice none 0 0, .int .i64 0]) := Lib.hid fun wx hx => Step.block hx (Blk.drew (Blk.new w6 33 #[.slice none 0 0, .int .i64 0])) (by have := hD6.1.lt; omega)
    have hgW := hD6.1.lt
    go_cut [9, 10, 11] (fun s9 s10 s11 wx => SplitAt g A n c xs p sa th 5 w6 s9 s11 wx)
    case first =>
      go_region_held3 (fun w' => w'.cell? ⟨w3.heap.size, 0, none⟩ = some (.int .i64 p)) (first | exact HFF.out _ hSr | exact HFF.out _ hSa | exact HFF.out _ hS8 | exact HFF.out _ (hS8.alloc _) | exact HFF.out _ hS9 | exact HFF.out _ (hS9.alloc _) | exact HFF.out _ ((hS9.setNew (p := ⟨_, 0, none⟩) hle _).setNew (p := ⟨_, 1, none⟩) hle _))
        (first
          | (go_at_call 19; (with_reducible refine (mtape_any g A n c xs q6 (some ⟨w4.heap.size, 0, none⟩) 3 3 [p, p, p] _ (HDD.out _ (by first | exact hBr | exact hBa)) (HLL.out _ (by first | exact hSr | exact hSa)) HLI.out (by omega) (fun b off s e _ => by injection e with e; injection e with e1; omega)).mono ?_); rintro e w8 ⟨T8, k8, tc8, ds, q8, rfl, hoT8, hk8, hk8', hds, hD8, hS8'⟩
             have hS8 : Step g w6 w8 := Step.trans (by first | exact hSr | exact hSa) hS8'
             have hCC := secret_list (th := th) hsa1 (HDS.out ds hds)
             have hoT8i := hoT8.ints)
          | (go_at_call 18; (refine (split_ok p sa th 5 T8 k8 tc8 ds _ HO.out hsa1 (by first | exact hoT8i | exact hoT8i.upto (bbox _)) (by omega) (by omega) (by omega) (HDS.out ds hds) (by omega) (by omega)).mono ?_); rintro e w9 ⟨⟨A9, c9, T9, tc9, rfl, hoS9⟩, hb9⟩
             have hC9 : Below w8.heap.size w8 w9 := by first | exact hb9 | exact bnext (bbox _) hb9
             have hS9 : Step g w6 w9 := hS8.trans (Step.of_below hC9)
             have hD9 := hD8.belowAll hC9
             have hle8 := hS8.size
             have hC9s := hC9.size
             have hsz9 := hb9.size
             first
               | (have hBx : Blk w9 w6.heap.size 33 #[.slice none 0 0, .int .i64 0] := (HZ.out w8 hS8').below hb9 (HZ.out w8 hS8').lt
                  have hle : w6.heap.size ≤ w6.heap.size := Nat.le_refl _
                  have hbx := (HZ.out w8 hS8').lt
                  have hx0 := (hBx.cell 0).trans rfl
                  have hx1 := (hBx.cell 1).trans rfl
                  have hxf0 := hBx.frozen 0
                  have hxf1 := hBx.frozen 1)
               | (have hBx : Blk w9 w8.heap.size 33 #[.slice none 0 0, .int .i64 0] := (Blk.new w8 33 #[.slice none 0 0, .int .i64 0]).below hb9 (Blk.new w8 33 #[.slice none 0 0, .int .i64 0]).lt
                  have hle : w6.heap.size ≤ w8.heap.size := hle8
                  have hbx := (Blk.new w8 33 #[.slice none 0 0, .int .i64 0]).lt
                  have hx0 := (hBx.cell 0).trans rfl
                  have hx1 := (hBx.cell 1).trans rfl
                  have hxf0 := hBx.frozen 0
                  have hxf1 := hBx.frozen 1)
               | (have hle : w6.heap.size ≤ w9.heap.size := Nat.le_trans hle8 hC9s)))
      all_goals go_wp2_with fail
      all_goals go_meet
      case rel => exact SplitAt.new hCC hoS9 hD9 hS9 (Nat.le_trans hle8 (by first | exact Nat.le_refl _ | exact (bbox (w0 := w8) _).size)) _
      case rel => exact SplitAt.box hCC hoS9 hD9 hS9 hle hbx hgW _ _
      case rel => exact SplitAt.box hCC hoS9 hD9 hS9 hle (Nat.lt_of_lt_of_le hbx (by first | exact Nat.le_refl _ | exact (bbox (w0 := w8) _).size)) hgW _ _
    case rest =>
      obtain ⟨A9, c9, cs1, q7, rfl, rfl, HC1, hoS1, hD7, hS7⟩ := hcut
      have hF_7 := Step.block hS7 hF_6 hgf
      have hL7 := hL6.step hS7 hg4
      have hbb7 := Step.below hbb6 hS7 hbb6.size hg
      have hg6 := hD6.1.lt
      obtain ⟨w7, hw7⟩ : ∃ w7, w7 = wc := ⟨_, rfl⟩
      subst hw7
      clear HDD HLL HFF HZ hBr hBa hSr hSa hgW hD6 hF_6 hL6 hcf_6 hbb6 hS7
      go_upto_region 11 with fail
      have hBr : Below w7.heap.size w7.drew w7.drew := Below.refl _ _
      have hBa : Below w7.heap.size w7.drew (w7.alloc (.cells #[.slice none 0 0, .int .i64 0] 33)).drew := ⟨rfl, rfl, rfl, (bbox (w0 := w7) (.cells #[.slice none 0 0, .int .i64 0] 33)).size, fun k hk => (bbox (w0 := w7) (.cells #[.slice none 0 0, .int .i64 0] 33)).block k hk⟩
      have hSr : Step g w7 w7.drew := (Step.refl g w7).drew
      have hSa : Step g w7 (w7.alloc (.cells #[.slice none 0 0, .int .i64 0] 33)).drew := ((Step.refl g w7).alloc (.cells #[.slice none 0 0, .int .i64 0] 33)).drew
      have HDD : Hid (∀ wx, Below w7.heap.size w7.drew wx → Deck wx g A n c xs q7) := Lib.hid fun wx hx => hD7.drew.below hx hD7.1.lt
      have HLL : Hid (∀ wx, Step g w7 wx → Ints wx wx.heap.size (some ⟨w4.heap.size, 0, none⟩) 3 [p, p, p]) := Lib.hid fun wx hx => (hL7.step hx hg4).ints
      have HFF : Hid (∀ wx, Step g w7 wx → wx.cell? ⟨w3.heap.size, 0, none⟩ = some (.int .i64 p)) := Lib.hid fun wx hx => ((Step.block hx hF_7 hgf).cell 0).trans rfl
      have HZ : Hid (∀ wx, Step g (w7.alloc (.cells #[.slice none 0 0, .int .i64 0] 33)).drew wx → Blk wx w7.heap.size 33 #[.slice none 0 0, .int .i64 0]) := Lib.hid fun wx hx => Step.block hx (Blk.drew (Blk.new w7 33 #[.slice none 0 0, .int .i64 0])) (by have := hD7.1.lt; omega)
      have hgW := hD7.1.lt
      go_cut [12, 13, 14] (fun s9 s10 s11 wx => SplitAt g A n c xs p sb th 5 w7 s9 s11 wx)
      case first =>
        go_region_held3 (fun w' => w'.cell? ⟨w3.heap.size, 0, none⟩ = some (.int .i64 p)) (first | exact HFF.out _ hSr | exact HFF.out _ hSa | exact HFF.out _ hS8 | exact HFF.out _ (hS8.alloc _) | exact HFF.out _ hS9 | exact HFF.out _ (hS9.alloc _) | exact HFF.out _ ((hS9.setNew (p := ⟨_, 0, none⟩) hle _).setNew (p := ⟨_, 1, none⟩) hle _))
          (first
            | (go_at_call 19; (with_reducible refine (mtape_any g A n c xs q7 (some ⟨w4.heap.size, 0, none⟩) 3 3 [p, p, p] _ (HDD.out _ (by first | exact hBr | exact hBa)) (HLL.out _ (by first | exact hSr | exact hSa)) HLI.out (by omega) (fun b off s e _ => by injection e with e; injection e with e1; omega)).mono ?_); rintro e w8 ⟨T8, k8, tc8, ds, q8, rfl, hoT8, hk8, hk8', hds, hD8, hS8'⟩
               have hS8 : Step g w7 w8 := Step.trans (by first | exact hSr | exact hSa) hS8'
               have hCC := secret_list (th := th) hsb1 (HDS.out ds hds)
               have hoT8i := hoT8.ints)
            | (go_at_call 18; (refine (split_ok p sb th 5 T8 k8 tc8 ds _ HO.out hsb1 (by first | exact hoT8i | exact hoT8i.upto (bbox _)) (by omega) (by omega) (by omega) (HDS.out ds hds) (by omega) (by omega)).mono ?_); rintro e w9 ⟨⟨A9, c9, T9, tc9, rfl, hoS9⟩, hb9⟩
               have hC9 : Below w8.heap.size w8 w9 := by first | exact hb9 | exact bnext (bbox _) hb9
               have hS9 : Step g w7 w9 := hS8.trans (Step.of_below hC9)
               have hD9 := hD8.belowAll hC9
               have hle8 := hS8.size
               have hC9s := hC9.size
               have hsz9 := hb9.size
               first
                 | (have hBx : Blk w9 w7.heap.size 33 #[.slice none 0 0, .int .i64 0] := (HZ.out w8 hS8').below hb9 (HZ.out w8 hS8').lt
                    have hle : w7.heap.size ≤ w7.heap.size := Nat.le_refl _
                    have hbx := (HZ.out w8 hS8').lt
                    have hx0 := (hBx.cell 0).trans rfl
                    have hx1 := (hBx.cell 1).trans rfl
                    have hxf0 := hBx.frozen 0
                    have hxf1 := hBx.frozen 1)
                 | (have hBx : Blk w9 w8.heap.size 33 #[.slice none 0 0, .int .i64 0] := (Blk.new w8 33 #[.slice none 0 0, .int .i64 0]).below hb9 (Blk.new w8 33 #[.slice none 0 0, .int .i64 0]).lt
                    have hle : w7.heap.size ≤ w8.heap.size := hle8
                    have hbx := (Blk.new w8 33 #[.slice none 0 0, .int .i64 0]).lt
                    have hx0 := (hBx.cell 0).trans rfl
                    have hx1 := (hBx.cell 1).trans rfl
                    have hxf0 := hBx.frozen 0
                    have hxf1 := hBx.frozen 1)
                 | (have hle : w7.heap.size ≤ w9.heap.size := Nat.le_trans hle8 hC9s)))
        all_goals go_wp2_with fail
        all_goals go_meet
        case rel => exact SplitAt.new hCC hoS9 hD9 hS9 (Nat.le_trans hle8 (by first | exact Nat.le_refl _ | exact (bbox (w0 := w8) _).size)) _
        case rel => exact SplitAt.box hCC hoS9 hD9 hS9 hle hbx hgW _ _
        case rel => exact SplitAt.box hCC hoS9 hD9 hS9 hle (Nat.lt_of_lt_of_le hbx (by first | exact Nat.le_refl _ | exact (bbox (w0 := w8) _).size)) hgW _ _
      case rest =>
        obtain ⟨A12, c12, cs2, q9, rfl, rfl, HC2, hoS2, hD9, hS9⟩ := hcut
        have hF9 := Step.block hS9 hF_7 hgf
        have hbb9 := Step.below hbb7 hS9 hbb7.size hg
        have hT1 := (hoS1.step hS9 hg6).sh
        have hT2 := hoS2.sh
        obtain ⟨w9, hw9⟩ : ∃ w9, w9 = wc := ⟨_, rfl⟩
        subst hw9
        clear HDD HLL HFF HZ hBr hBa hSr hSa hgW hD7 hF_7 hL7 hbb7 hS9 hD9 hoS1 hoS2 hg6 HLI HDS
        obtain ⟨us, HUS⟩ : ∃ us, Hid (ptsL 5 = us) := ⟨_, Lib.hid rfl⟩
        have HUA : Hid (allP p us = true) := Lib.hid (by rw [← HUS.out]; exact ptsL_allP hp5)
        have HUD : Hid (Apart2 us) := Lib.hid (by rw [← HUS.out]; exact ptsL_apart 5)
        have HUL : Hid (us.length = 5) := Lib.hid (by rw [← HUS.out]; exact ptsL_len 5)
        rw [HUS.out] at hT1 hT2
        clear HUS
        obtain ⟨y1, HY1⟩ : ∃ y1, Hid (valsP p cs1 us = y1) := ⟨_, Lib.hid rfl⟩
        obtain ⟨y2, HY2⟩ : ∃ y2, Hid (valsP p cs2 us = y2) := ⟨_, Lib.hid rfl⟩
        obtain ⟨y3, HY3⟩ : ∃ y3, Hid (valsP p (addL p cs1 cs2) us = y3) := ⟨_, Lib.hid rfl⟩
        rw [HY1.out] at hT1
        rw [HY2.out] at hT2
        have HAD : Hid (∀ k, k < 5 → (y1.getD k 0 + y2.getD k 0) % p = y3.getD k 0 ∧ 0 ≤ y1.getD k 0 ∧ y1.getD k 0 < p ∧ 0 ≤ y2.getD k 0 ∧ y2.getD k 0 < p) := Lib.hid fun k hk => by
          have hk2 : k < us.length := by rw [HUL.out]; exact hk
          rw [← HY1.out, ← HY2.out, ← HY3.out, valsP_at p cs1 us hk2, valsP_at p cs2 us hk2, valsP_at p _ us hk2, value_addL hp.1]
          exact ⟨rfl, (valueP_in hp.1 _ _).1, (valueP_in hp.1 _ _).2, (valueP_in hp.1 _ _).1, (valueP_in hp.1 _ _).2⟩
        have H3L : Hid (y3.length = 5) := Lib.hid (by rw [← HY3.out, valsP_len, HUL.out])
        have H3A : Hid (allP p y3 = true) := Lib.hid (by rw [← HY3.out]; exact valsP_allP hp.1 _ _)
        have HJ0 : Hid (∀ R, Through p (us.take (th + 1)) (y3.take (th + 1)) R → R = trimL (addL p cs1 cs2)) := Lib.hid fun R hR => by
          refine share_join (m := th + 1) HO.out (addL_allP hp.1 cs1 cs2) ?_ HUA.out HUD.out (by rw [HUL.out]; omega) (by rw [HY3.out]; exact hR)
          have h1 := addL_len_le p cs1 cs2
          have h2 := HC1.out.1
          have h3 := HC2.out.1
          omega
        obtain ⟨sab, hsab⟩ : ∃ sab, (sa + sb).tmod p = sab := ⟨_, rfl⟩
        have hsabE : (sa + sb) % p = sab := by rw [← hsab, Int.tmod_eq_emod_of_nonneg (by omega)]
        have HSAB := Lib.hid hsabE
        have HJ : Hid (∀ R, Through p (us.take (th + 1)) (y3.take (th + 1)) R → valueP p 0 R = sab) := Lib.hid fun R hR => by
          rw [HJ0.out R hR, value_trim p 0 hp.1, value_addL hp.1, value_zero hp.1 HC1.out.2.2.1 HC1.out.2.1, value_zero hp.1 HC2.out.2.2.1 HC2.out.2.1, HC1.out.2.2.2, HC2.out.2.2.2, HSAB.out]
        have HG : Hid (∀ R, Through p (us.take (th + 1)) (y3.take (th + 1)) R → agreeB p us y3 R = true) := Lib.hid fun R hR => by
          rw [HJ0.out R hR, ← HY3.out]; exact share_agree hp.1 _ _
        have hwab : IntKind.i64.wrap (sa + sb) = sa + sb := IntWalk.i64_in _ (by omega)
        clear hsabE
        have hp0 : ¬ p = 0 := by omega
        go_wp2_with fail
        go_loopw [15, 87] (fun s i wz => ∃ (k : Nat) (L : Option Addr) (lc : Nat), k ≤ 5 ∧ s = .slice L k lc ∧ i = .int .i64 k ∧ Hid (OwnS wz w9.heap.size L k lc (us.take k) (y3.take k)) ∧ Below w9.heap.size w9 wz) (fun _ i _ => 5 - (intOf i).toNat)
        case atStart => exact ⟨0, none, 0, by omega, rfl, rfl, Lib.hid OwnS.nil_, Below.refl _ _⟩
        case round =>
          obtain ⟨k, L, lc, hk, rfl, rfl, HS, hbz⟩ := hrel
          have hFz := hF9.below hbz hF9.lt
          have hcz : wr.cell? ⟨w3.heap.size, 0, none⟩ = some (.int .i64 p) := (hFz.cell 0).trans rfl
          by_cases hlt : k < 5
          · obtain ⟨b1, o1, rfl, hb1, hc1⟩ := hT1.2.2 (by omega)
            obtain ⟨b2, o2, rfl, hb2, hc2⟩ := hT2.2.2 (by omega)
            have hcx := (hc1 k hlt).1
            have hcy := (hc1 k hlt).2
            have hcv := (hc2 k hlt).2
            clear hc1 hc2
            have HTU := Lib.hid (take_succ_getD us k (by rw [HUL.out]; exact hlt))
            have HTY := Lib.hid (take_succ_getD y3 k (by rw [H3L.out]; exact hlt))
            obtain ⟨hav, hya, hyb, hva, hvb⟩ := HAD.out k hlt
            obtain ⟨x, HX⟩ : ∃ x, Hid (us.getD k 0 = x) := ⟨_, Lib.hid rfl⟩
            obtain ⟨y, HYk⟩ : ∃ y, Hid (y1.getD k 0 = y) := ⟨_, Lib.hid rfl⟩
            obtain ⟨v, HVk⟩ : ∃ v, Hid (y2.getD k 0 = v) := ⟨_, Lib.hid rfl⟩
            obtain ⟨u, HUk⟩ : ∃ u, Hid (y3.getD k 0 = u) := ⟨_, Lib.hid rfl⟩
            rw [HX.out] at hcx HTU
            rw [HYk.out] at hcy hav hya hyb
            rw [HVk.out] at hcv hav hva hvb
            rw [HUk.out] at hav HTY
            have hyv : IntKind.i64.wrap (y + v) = y + v := IntWalk.i64_in _ (by omega)
            have hyt : (y + v).tmod p = u := by rw [Int.tmod_eq_emod_of_nonneg (by omega)]; exact hav
            clear hav
            have hFl := hF9.lt
            have HSK : Hid (∀ wx, Below w9.heap.size w9 wx → wx.cell? ⟨w3.heap.size, 0, none⟩ = some (.int .i64 p) ∧ wx.cell? ⟨b1, o1 + k * 2, none⟩ = some (.int .i64 x) ∧ wx.cell? ⟨b1, o1 + k * 2 + 1, none⟩ = some (.int .i64 y) ∧ wx.cell? ⟨b2, o2 + k * 2 + 1, none⟩ = some (.int .i64 v)) := Lib.hid fun wx hx => ⟨((hF9.below hx hFl).cell 0).trans rfl, (hx.cell (p := ⟨b1, o1 + k * 2, none⟩) hb1).trans hcx, (hx.cell (p := ⟨b1, o1 + k * 2 + 1, none⟩) hb1).trans hcy, (hx.cell (p := ⟨b2, o2 + k * 2 + 1, none⟩) hb2).trans hcv⟩
            have hbzd := hbz.drew
            have hbza := hbzd.alloc hbz.size (.cells #[.int .i64 x, .int .i64 u] 40)
            have hoA := HS.out.belowAll (bbox (.cells #[.int .i64 x, .int .i64 u] 40))
            have hk0 : (0 : Int) ≤ (k : Int) := by omega
            have hk5 : (k : Int) < 5 := by omega
            clear hcx hcy hcv hcz
            go_wp2_with fail
            go_region_held3 (fun w' => w'.cell? ⟨w3.heap.size, 0, none⟩ = some (.int .i64 p) ∧ w'.cell? ⟨b1, o1 + k * 2, none⟩ = some (.int .i64 x) ∧ w'.cell? ⟨b1, o1 + k * 2 + 1, none⟩ = some (.int .i64 y) ∧ w'.cell? ⟨b2, o2 + k * 2 + 1, none⟩ = some (.int .i64 v)) (first | exact HSK.out _ hbzd | exact HSK.out _ hbza | exact HSK.out _ hbz6)
              (first
                | ((refine step_append_shares (w := wr.drew.alloc (.cells #[.int .i64 x, .int .i64 u] 40)) rfl (.tmp 90) (.tmp 111) 31 rfl Try.underlying31 w9.heap.size L k lc (us.take k) (y3.take k) (by simp [Act.eval]) hoA _ (some ⟨wr.heap.size, 0, none⟩) 1 1 [x] [u] (by simp [Act.eval]) (Sh.oneAt wr.drew x u) (k + 1) rfl (by omega) hbza.size ?_); intro L6 lc6 w6' hoS6 hb6
                   have hbz6 := hbza.trans hb6))
            go_wp2
            go_roundw
            case rel => exact ⟨k + 1, L6, lc6, by omega, rfl, by go_num, Lib.hid (by rw [HTU.out, HTY.out]; exact hoS6), hbz6⟩
            case measure => simp [intOf]; omega
          · obtain rfl : k = 5 := by omega
            have hSh := HS.out.sh
            have hlc := HS.out.cap
            rw [List.take_of_length_le (by rw [HUL.out]; exact Nat.le_refl _), List.take_of_length_le (by rw [H3L.out]; exact Nat.le_refl _)] at hSh
            have hbw := bnext hbb9 hbz
            clear HS
            go_wp2_with (first
              | (go_at_call 21; (refine (join_share_ok p L 5 lc th us y3 _ HO.out hSh HUA.out H3A.out (by omega) hlc (by omega) (by omega) HUD.out).mono ?_); rintro e w10 ⟨⟨R, rfl, hT⟩, hb10⟩
                 rw [HJ.out R hT]
                 have hSh10 := hSh.upto hb10
                 have hF10 := hFz.below hb10 hFz.lt
                 have hc10 : w10.cell? ⟨w3.heap.size, 0, none⟩ = some (.int .i64 p) := (hF10.cell 0).trans rfl
                 have hbw10 := bnext hbw hb10
                 clear hT)
              | (go_at_call 22; (refine (agree_share_ok p L 5 lc th us y3 _ HO.out hSh10 HUA.out H3A.out (by omega) hlc (by omega) (by omega) HUD.out).mono ?_); rintro e w11 ⟨⟨R, rfl, hT⟩, hb11⟩
                 rw [HG.out R hT]
                 have hF11 := hF10.below hb11 hF10.lt
                 have hc11 : w11.cell? ⟨w3.heap.size, 0, none⟩ = some (.int .i64 p) := (hF11.cell 0).trans rfl
                 have hbw11 := bnext hbw10 hb11
                 clear hT))
            go_ret
            exact ⟨rfl, hbw11⟩
  · have hd : decide (n ≤ 500) = false := by simpa using hn
    go_enter Try.func4, Try.ntmps4
    go_wp2_with (first
      | (go_at_call 13; refine (sane07_any _).mono ?_; rintro e w1 ⟨rfl, hb1⟩)
      | (go_at_call 14; refine (few_any A n c _).mono ?_; rintro e w' ⟨rfl, rfl⟩))
    go_ret
    exact ⟨rfl, hb1⟩
end Go.Proofs.Ytieejgkheijgeaa
