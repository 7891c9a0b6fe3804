/-
  ShareChanges returns true: the walk of the law. Conditions: none beyond the reading of its arguments.
-/
import Derived.Test.YtieejgkheijgeaaShares3
import Derived.Test.YtieejgkheijgeaaS07
import Derived.Test.YtieejgkheijgeaaBig
import Derived.Test.YtieejgkheijgeaaPolyA
import Derived.Deep.QuietTactic
import Derived.BigQuiet
import Derived.Deep.RegionHeld3
import Derived.Deep.DeepCutAuto
namespace Go.Proofs.Ytieejgkheijgeaa
open Go.RowKit
set_option linter.unusedVariables false

set_option maxHeartbeats 6400000 in
set_option maxRecDepth 100000 in
theorem shareChanges_walk (A : Option Addr) (n c : Nat) (zs : List Int) (at_ by_ : Int) (w : World) (w0 : IsRow .i64 w A n c zs) (w1 : (Lit.int .u8 at_).wf = true) (w2 : (Lit.int .i64 by_).wf = true) :
    Calls Try.prog 5 #[.slice A n c, .int .u8 at_, .int .i64 by_] w fun e w' => e = .returned (.bool true) ∧ Below w.heap.size w w' := by
  have hat : 0 ≤ at_ ∧ at_ ≤ 255 := by simpa [Lit.wf, IntKind.min, IntKind.max, IntKind.signed, IntKind.bits] using w1
  obtain ⟨h, hw⟩ := w0.ints
  generalize zs.take n = xs at h hw
  clear w0 w1 w2
  by_cases hn : n ≤ 500
  · have hd : decide (n ≤ 500) = true := by simpa using hn
    go_enter Try.func5, Try.ntmps5
    go_upto_region 8 with (first
      | (go_at_call 13; refine (sane07_any _).mono ?_; rintro e w1 ⟨rfl, hb1⟩)
      | (go_at_call 14; refine (few_any A n c _).mono ?_; rintro e w' ⟨rfl, rfl⟩)
      | (go_at_call 15; refine (new_any A n c xs _ (h.upto hb1) hn).mono ?_; rintro e w2 ⟨⟨g, rfl, hge, hD2⟩, hb2⟩
         have hbb2 := bnext hb1 hb2
         have hg : w.heap.size ≤ g := by rw [hge]; exact hb1.size
         clear hge)
      | (go_at_call 16; refine (big_any g A n c xs _ 6 _ hD2 (by omega)).mono ?_; rintro e w3 ⟨p, q3, rfl, hkn, hp6, hD3, hS3⟩
         have hok := okP_known hkn
         have hp := okP_pos hok
         have HO := Lib.hid hok
         have hbb3 := ballocs (Step.below hbb2 hS3 hbb2.size hg) (.cells #[.int .i64 p] 28)
         have hF_3 := Blk.new w3 28 #[.int .i64 p]
         have hD3' := hD3.alloc (.cells #[.int .i64 p] 28)
         have hgf : w3.heap.size ≠ g := by have := hD3.1.lt; omega
         clear hok hkn hD2 hD3 hS3 hbb2 hb1 hb2)
      | (go_at_call 17; refine (next_any g A n c xs q3 4 _ hD3' (by omega)).mono ?_; rintro e w4 ⟨r', q4, rfl, hr, hr0, hD4, hS4, hz4⟩
         obtain ⟨th, rfl⟩ : ∃ r : Nat, r' = r := ⟨r'.toNat, by have := hr (by omega); omega⟩
         have hth : th ≤ 3 := by have := hr (by omega); omega
         have hF_4 := Step.block hS4 hF_3 hgf
         have hbb4 := Step.below hbb3 hS4 hbb3.size hg
         have hg4 := hD4.1.lt
         clear hr hr0 hz4 hS4))
    clear hF_3 hD3' hbb3
    have HLI : Hid (∀ i, i < 3 → 1 ≤ ([p, p, p] : List Int).getD i 0 ∧ ([p, p, p] : List Int).getD i 0 ≤ 4611686018427387904) := Lib.hid fun i hi => by
      rcases (by omega : i = 0 ∨ i = 1 ∨ i = 2) with rfl | rfl | rfl <;> exact ⟨by show 1 ≤ p; omega, by show p ≤ _; omega⟩
    have HDS : Hid (∀ ds : List Int, (∀ i, i < 3 → 0 ≤ ds.getD i 0 ∧ ds.getD i 0 < ([p, p, p] : List Int).getD i 0) → ∀ i, i < th → 0 ≤ ds.getD i 0 ∧ ds.getD i 0 < p) := Lib.hid fun ds h i hi => by
      have h1 := h i (by omega)
      rcases (by omega : i = 0 ∨ i = 1 ∨ i = 2) with rfl | rfl | rfl <;> exact h1
    have hQ0 : Below w4.heap.size w4 w4.drew := (Below.refl _ w4).drew
    have hQB : Below w4.heap.size w4 (w4.alloc (.cells #[.int .i64 p, .int .i64 p, .int .i64 p] 3)).drew := (bbox (.cells #[.int .i64 p, .int .i64 p, .int .i64 p] 3)).drew
    have hQZ : Below w4.heap.size w4 (w4.alloc (.cells #[.slice none 0 0, .int .i64 0] 33)).drew := (bbox (.cells #[.slice none 0 0, .int .i64 0] 33)).drew
    have hQBZ : Below w4.heap.size w4 ((w4.alloc (.cells #[.int .i64 p, .int .i64 p, .int .i64 p] 3)).alloc (.cells #[.slice none 0 0, .int .i64 0] 33)).drew := (ballocs (bbox (.cells #[.int .i64 p, .int .i64 p, .int .i64 p] 3)) (.cells #[.slice none 0 0, .int .i64 0] 33)).drew
    have hQZB : Below w4.heap.size w4 ((w4.alloc (.cells #[.slice none 0 0, .int .i64 0] 33)).alloc (.cells #[.int .i64 p, .int .i64 p, .int .i64 p] 3)).drew := (ballocs (bbox (.cells #[.slice none 0 0, .int .i64 0] 33)) (.cells #[.int .i64 p, .int .i64 p, .int .i64 p] 3)).drew
    have HDD : Hid (∀ wx, Below w4.heap.size w4 wx → Deck wx g A n c xs q4) := Lib.hid fun wx hx => hD4.below hx hg4
    have HFF : Hid (∀ wx, Step g w4 wx → wx.cell? ⟨w3.heap.size, 0, none⟩ = some (.int .i64 p)) := Lib.hid fun wx hx => ((Step.block hx hF_4 hgf).cell 0).trans rfl
    go_cut [10, 11, 12] (fun s9 s10 s11 wx => ∃ sa, SplitAt g A n c xs p sa th 6 w4 s9 s11 wx)
    case first =>
      go_region_held3 (fun w' => w'.cell? ⟨w3.heap.size, 0, none⟩ = some (.int .i64 p)) (first | exact HFF.out _ (Step.of_below (by first | exact hQ0 | exact hQB | exact hQZ | exact hQBZ | exact hQZB)) | exact HFF.out _ hS6 | exact HFF.out _ (hS6.alloc _) | exact HFF.out _ ((hS6.alloc _).alloc _) | exact HFF.out _ hS8 | exact HFF.out _ (hS8.alloc _) | exact HFF.out _ hS9 | exact HFF.out _ (hS9.alloc _) | exact HFF.out _ ((hS9.setNew (p := ⟨_, 0, none⟩) hle _).setNew (p := ⟨_, 1, none⟩) hle _))
        (first
          | (go_at_call 17; (with_reducible refine (next_any g A n c xs q4 p _ (HDD.out _ (by first | exact hQ0 | exact hQB | exact hQZ | exact hQBZ | exact hQZB)) (by omega)).mono ?_); rintro e w6 ⟨sa, q6, rfl, hsa, _, hD6, hS6', hz6⟩
             clear hz6
             have hsa1 := hsa (by omega)
             have hg6 := hD6.1.lt
             have hS6 : Step g w4 w6 := Step.trans (Step.of_below (by first | exact hQ0 | exact hQB | exact hQZ | exact hQBZ | exact hQZB)) hS6'
             have hle6 := hS6.size
             clear hsa
             first
               | have hB6 : Blk w6 w4.heap.size 3 #[.int .i64 p, .int .i64 p, .int .i64 p] := Step.block hS6' (by first | exact Blk.new _ _ _ | exact Blk.drew (Blk.new _ _ _) | exact (Blk.new w4 3 #[.int .i64 p, .int .i64 p, .int .i64 p]).alloc (.cells #[.slice none 0 0, .int .i64 0] 33)) (by omega)
               | have hB6 : Blk w6 (w4.heap.size + 1) 3 #[.int .i64 p, .int .i64 p, .int .i64 p] := Step.block hS6' (by first | exact Blk.new1 w4 (.cells #[.slice none 0 0, .int .i64 0] 33) 3 #[.int .i64 p, .int .i64 p, .int .i64 p]) (by omega)
               | skip
             first
               | have hZ6 : Blk w6 w4.heap.size 33 #[.slice none 0 0, .int .i64 0] := Step.block hS6' (by first | exact Blk.new _ _ _ | exact Blk.drew (Blk.new _ _ _) | exact (Blk.new w4 33 #[.slice none 0 0, .int .i64 0]).alloc (.cells #[.int .i64 p, .int .i64 p, .int .i64 p] 3)) (by omega)
               | have hZ6 : Blk w6 (w4.heap.size + 1) 33 #[.slice none 0 0, .int .i64 0] := Step.block hS6' (by first | exact Blk.new1 w4 (.cells #[.int .i64 p, .int .i64 p, .int .i64 p] 3) 33 #[.slice none 0 0, .int .i64 0]) (by omega)
               | skip)
          | (go_at_call 19; (with_reducible refine (mtape_any g A n c xs q6 (some ⟨_, 0, none⟩) 3 3 [p, p, p] _ (by first | exact hD6 | exact hD6.alloc _ | exact (hD6.alloc _).alloc _) (Blk.ints (t := 3) (cs := #[.int .i64 p, .int .i64 p, .int .i64 p]) (by first | exact hB6 | exact hB6.alloc _ | exact Blk.new w6 3 #[.int .i64 p, .int .i64 p, .int .i64 p] | exact (Blk.new w6 3 #[.int .i64 p, .int .i64 p, .int .i64 p]).alloc (.cells #[.slice none 0 0, .int .i64 0] 33) | exact Blk.new1 w6 (.cells #[.slice none 0 0, .int .i64 0] 33) 3 #[.int .i64 p, .int .i64 p, .int .i64 p]) [p, p, p] 3 rfl rfl) HLI.out (by omega) (fun b off s e _ => by injection e with e; injection e with e1; omega)).mono ?_); rintro e w8 ⟨T8, k8, tc8, ds, q8, rfl, hoT8, hk8, hk8', hds, hD8, hS8'⟩
             have hS68 : Step g w6 w8 := Step.trans (Step.of_below (by first | exact Below.refl _ _ | exact bbox _ | exact ballocs (bbox _) _)) hS8'
             have hS8 : Step g w4 w8 := hS6.trans hS68
             have hle8 : w6.heap.size ≤ w8.heap.size := hS68.size
             have hCC := secret_list (th := th) hsa1 (HDS.out ds hds)
             have hoT8i := hoT8.ints
             first
               | have hZ8 : Blk w8 w4.heap.size 33 #[.slice none 0 0, .int .i64 0] := Step.block hS68 hZ6 (by omega)
               | have hZ8 : Blk w8 (w4.heap.size + 1) 33 #[.slice none 0 0, .int .i64 0] := Step.block hS68 hZ6 (by omega)
               | have hZ8 : Blk w8 w6.heap.size 33 #[.slice none 0 0, .int .i64 0] := Step.block hS8' (by first | exact Blk.new w6 33 #[.slice none 0 0, .int .i64 0] | exact (Blk.new w6 33 #[.slice none 0 0, .int .i64 0]).alloc (.cells #[.int .i64 p, .int .i64 p, .int .i64 p] 3)) (by omega)
               | have hZ8 : Blk w8 (w6.heap.size + 1) 33 #[.slice none 0 0, .int .i64 0] := Step.block hS8' (Blk.new1 w6 (.cells #[.int .i64 p, .int .i64 p, .int .i64 p] 3) 33 #[.slice none 0 0, .int .i64 0]) (by omega)
               | skip)
          | (go_at_call 18; (refine (split_ok p sa th 6 T8 k8 tc8 ds _ HO.out hsa1 (by first | exact hoT8i | exact hoT8i.upto (bbox _)) (by omega) (by omega) (by omega) (HDS.out ds hds) (by omega) (by omega)).mono ?_); rintro e w9 ⟨⟨A9, c9, T9, tc9, rfl, hoS9⟩, hb9⟩
             have hC9 : Below w8.heap.size w8 w9 := by first | exact hb9 | exact bnext (bbox _) hb9
             have hS9 : Step g w4 w9 := hS8.trans (Step.of_below hC9)
             have hD9 := hD8.belowAll hC9
             have hle9 := hC9.size
             have hZb8 := bbox (w0 := w8) (.cells #[.slice none 0 0, .int .i64 0] 33)
             have hZs8 := hZb8.size
             first
               | (have hBx : Blk w9 w4.heap.size 33 #[.slice none 0 0, .int .i64 0] := hZ8.below hC9 hZ8.lt
                  have hle : w4.heap.size ≤ w4.heap.size := Nat.le_refl _
                  have hbx := hZ8.lt
                  have hx0 := (hBx.cell 0).trans rfl
                  have hx1 := (hBx.cell 1).trans rfl
                  have hxf0 := hBx.frozen 0
                  have hxf1 := hBx.frozen 1)
               | (have hBx : Blk w9 (w4.heap.size + 1) 33 #[.slice none 0 0, .int .i64 0] := hZ8.below hC9 hZ8.lt
                  have hle : w4.heap.size ≤ w4.heap.size + 1 := Nat.le_succ _
                  have hbx := hZ8.lt
                  have hx0 := (hBx.cell 0).trans rfl
                  have hx1 := (hBx.cell 1).trans rfl
                  have hxf0 := hBx.frozen 0
                  have hxf1 := hBx.frozen 1)
               | (have hBx : Blk w9 w6.heap.size 33 #[.slice none 0 0, .int .i64 0] := hZ8.below hC9 hZ8.lt
                  have hle : w4.heap.size ≤ w6.heap.size := hle6
                  have hbx := hZ8.lt
                  have hx0 := (hBx.cell 0).trans rfl
                  have hx1 := (hBx.cell 1).trans rfl
                  have hxf0 := hBx.frozen 0
                  have hxf1 := hBx.frozen 1)
               | (have hBx : Blk w9 (w6.heap.size + 1) 33 #[.slice none 0 0, .int .i64 0] := hZ8.below hC9 hZ8.lt
                  have hle : w4.heap.size ≤ w6.heap.size + 1 := Nat.le_succ_of_le hle6
                  have hbx := hZ8.lt
                  have hx0 := (hBx.cell 0).trans rfl
                  have hx1 := (hBx.cell 1).trans rfl
                  have hxf0 := hBx.frozen 0
                  have hxf1 := hBx.frozen 1)
               | (have hBx : Blk w9 w8.heap.size 33 #[.slice none 0 0, .int .i64 0] := (Blk.new w8 33 #[.slice none 0 0, .int .i64 0]).below hb9 (Blk.new w8 33 #[.slice none 0 0, .int .i64 0]).lt
                  have hle : w4.heap.size ≤ w8.heap.size := by omega
                  have hbx := (Blk.new w8 33 #[.slice none 0 0, .int .i64 0]).lt
                  have hx0 := (hBx.cell 0).trans rfl
                  have hx1 := (hBx.cell 1).trans rfl
                  have hxf0 := hBx.frozen 0
                  have hxf1 := hBx.frozen 1)
               | (have hle : w4.heap.size ≤ w9.heap.size := by omega)))
      all_goals go_wp2_with fail
      all_goals go_meet
      all_goals first
        | exact ⟨sa, SplitAt.new hCC hoS9 hD9 hS9 (by first | omega | (simp; omega)) _⟩
        | exact ⟨sa, SplitAt.box hCC hoS9 hD9 hS9 hle (Nat.lt_of_lt_of_le hbx (by first | exact Nat.le_refl _ | omega)) hg4 _ _⟩
    case rest =>
      obtain ⟨sa, A9, c9, cs, q7, rfl, rfl, HC, hoS, hD7, hS7⟩ := hcut
      have hF_7 := Step.block hS7 hF_4 hgf
      have hbb7 := Step.below hbb4 hS7 hbb4.size hg
      obtain ⟨w7, hw7⟩ : ∃ w7, w7 = wc := ⟨_, rfl⟩
      subst hw7
      have hS := hoS.sh
      have hcap := hoS.cap
      clear HDD HFF hQ0 hQB hQZ hQBZ hQZB hS7 hD7 hD4 hF_4 hbb4 hoS HLI HDS
      obtain ⟨us, HUS⟩ : ∃ us, Hid (ptsL 6 = us) := ⟨_, Lib.hid rfl⟩
      have HUA : Hid (allP p us = true) := Lib.hid (by rw [← HUS.out]; exact ptsL_allP hp6)
      have HUD : Hid (Apart2 us) := Lib.hid (by rw [← HUS.out]; exact ptsL_apart 6)
      have HUL : Hid (us.length = 6) := Lib.hid (by rw [← HUS.out]; exact ptsL_len 6)
      rw [HUS.out] at hS
      clear HUS
      obtain ⟨ys, HYS⟩ : ∃ ys, Hid (valsP p cs us = ys) := ⟨_, Lib.hid rfl⟩
      rw [HYS.out] at hS
      have HYA : Hid (allP p ys = true) := Lib.hid (by rw [← HYS.out]; exact valsP_allP hp.1 _ _)
      obtain ⟨t2, ht2⟩ : ∃ t2 : Nat, (th : Int) + 2 = t2 := ⟨th + 2, by omega⟩
      have ht2N : t2 = th + 2 := by omega
      have HT2 := Lib.hid ht2N
      have ht2w : IntKind.i64.wrap ((th : Int) + 2) = t2 := by rw [IntWalk.i64_in _ (by omega)]; exact ht2
      have ht2c : (t2 : Int) ≤ (c9 : Int) := by omega
      have ht20 : (0 : Int) ≤ (t2 : Int) := by omega
      have ht26 : (t2 : Int) ≤ 6 := by omega
      have ht2v : IntKind.i64.wrap (t2 : Int) = t2 := IntWalk.i64_in _ (by omega)
      have ht2z : ¬ (t2 : Int) = 0 := by omega
      have ht2zn : ¬ t2 = 0 := by omega
      have ht6 : t2 ≤ 6 := by omega
      obtain ⟨t1, ht1⟩ : ∃ t1 : Nat, (th : Int) + 1 = t1 := ⟨th + 1, by omega⟩
      have ht1N : t1 = th + 1 := by omega
      have HT1 := Lib.hid ht1N
      have ht14 : t1 ≤ 4 := by omega
      have ht1w : IntKind.i64.wrap ((th : Int) + 1) = t1 := by rw [IntWalk.i64_in _ (by omega)]; exact ht1
      have ht2k : th + 1 ≤ t2 := by omega
      obtain ⟨uk, HUK⟩ : ∃ uk, Hid (us.take t2 = uk) := ⟨_, Lib.hid rfl⟩
      obtain ⟨yk, HYK⟩ : ∃ yk, Hid (ys.take t2 = yk) := ⟨_, Lib.hid rfl⟩
      have hSk : Sh w7 w7.heap.size A9 t2 uk yk := by have := hS.take_ t2 ht6; rwa [HUK.out, HYK.out] at this
      have HUKA : Hid (allP p uk = true) := Lib.hid (by rw [← HUK.out]; exact take_allP HUA.out t2)
      have HUKD : Hid (Apart2 uk) := Lib.hid (by rw [← HUK.out]; exact HUD.out.take t2)
      have HUKL : Hid (uk.length = t2) := Lib.hid hSk.1
      have HYKL : Hid (yk.length = t2) := Lib.hid hSk.2.1
      have HYKA : Hid (allP p yk = true) := Lib.hid (by rw [← HYK.out]; exact take_allP HYA.out t2)
      obtain ⟨kk, hkk⟩ : ∃ kk : Nat, at_ % (t2 : Int) = kk := ⟨(at_ % (t2 : Int)).toNat, by rw [Int.toNat_of_nonneg (Int.emod_nonneg _ (by omega))]⟩
      have HKK := Lib.hid hkk
      have hatw : IntKind.i64.wrap at_ = at_ := IntWalk.i64_in _ (by omega)
      have hkl : kk < t2 := by have := Int.emod_lt_of_pos at_ (b := (t2 : Int)) (by omega); omega
      have hkli : (kk : Int) < (t2 : Int) := by omega
      have hkk0 : (0 : Int) ≤ (kk : Int) := by omega
      obtain ⟨y, HY⟩ : ∃ y, Hid (yk.getD kk 0 = y) := ⟨_, Lib.hid rfl⟩
      have hvb : 0 ≤ by_ % p ∧ by_ % p < p := ⟨Int.emod_nonneg _ (by omega), Int.emod_lt_of_pos _ (by omega)⟩
      obtain ⟨v, HV⟩ : ∃ v, Hid (by_ % p = v) := ⟨_, Lib.hid rfl⟩
      rw [HV.out] at hvb
      have HZA : Hid (allP p (yk.set kk v) = true) := Lib.hid (allP_iff.2 fun x hx => by
        rcases List.mem_or_eq_of_mem_set hx with h1 | h1
        · exact allP_iff.1 HYKA.out x h1
        · rw [h1]; exact hvb)
      have HG1 : Hid (∀ R, Through p (uk.take (th + 1)) ((yk.set kk v).take (th + 1)) R → agreeB p uk (yk.set kk v) R = (y == v)) := Lib.hid fun R hR => by
        have hyk : valsP p cs uk = yk := by rw [← HYK.out, ← HYS.out, valsP_take, HUK.out]
        rw [← HY.out, ← hyk]
        rw [← hyk] at hR
        exact share_changed (m := th + 1) HO.out HC.out.2.2.1 HC.out.1 HUKA.out HUKD.out (by rw [HUKL.out, HT2.out]) (by rw [HUKL.out]; exact hkl) hR
      have HG2 : Hid (∀ R, Through p (us.take (t1 + 1)) (ys.take (t1 + 1)) R → agreeB p us ys R = true) := Lib.hid fun R hR => by
        have hR2 := hR
        rw [← HYS.out] at hR2
        rw [share_join (m := t1 + 1) HO.out HC.out.2.2.1 (by have := HC.out.1; have := HT1.out; omega) HUA.out HUD.out (by rw [HUL.out]; omega) hR2, ← HYS.out]
        exact share_agree hp.1 _ _
      clear ht2N ht1N ht2 ht1 hkk
      go_wp2_with ((at_builtin; refine wpList_append_shares rfl _ _ 31 rfl Try.underlying31 w7.heap.size none 0 0 [] [] rfl OwnS.nil_ w7.heap.size A9 t2 c9 uk yk rfl hSk t2 (Nat.zero_add t2) (by omega) (Nat.le_refl _) ?_; intro A10 c10 w10 hoP hb10))
      rw [HKK.out]
      obtain ⟨g10, rfl, hg10, hg10l⟩ := hoP.form (by omega)
      rw [List.nil_append, List.nil_append] at hoP
      have hc10 := (hoP.cellAt hkl).2
      rw [HY.out] at hc10
      have hz10 := hoP.frozenAt (kk * 2 + 1)
      have hF10 := hF_7.below hb10 hF_7.lt
      have hcF10 : w10.cell? ⟨w3.heap.size, 0, none⟩ = some (.int .i64 p) := (hF10.cell 0).trans rfl
      have hfl := hF_7.lt
      have hoQ := hoP.stored hkl v
      have hcap10 := hoP.cap
      go_quiet ((go_at_call 24; exact quiet_left (mod_any by_ p _ (by omega) (by omega))))
      rw [HV.out]
      obtain ⟨w11, hw11⟩ : ∃ w11, w11 = w10.drewN nq := ⟨_, rfl⟩
      rw [← hw11]
      have hoQ : OwnS w11 w7.heap.size (some ⟨g10, 0, none⟩) t2 c10 uk yk := by rw [hw11]; exact hoP
      have hb11 : Below w7.heap.size w7 w11 := by rw [hw11]; exact below_drewN hb10 nq
      have hc11 : w11.cell? ⟨g10, kk * 2 + 1, none⟩ = some (.int .i64 y) := by rw [hw11]; exact hc10
      have hF11 := hF_7.below hb11 hF_7.lt
      have hcF11 : w11.cell? ⟨w3.heap.size, 0, none⟩ = some (.int .i64 p) := (hF11.cell 0).trans rfl
      have hz11 := hoQ.frozenAt (kk * 2 + 1)
      have hoR := hoQ.stored hkl v
      have hbR : Below w7.heap.size w7 (w11.setCell ⟨g10, kk * 2 + 1, none⟩ (.int .i64 v)) := hb11.setCell hg10 _
      have hSh2 := hoR.sh
      have hS12 := (hS.below hbR).more hbR.size
      have hF12 := hF_7.below hbR hF_7.lt
      have hcF12 : (w11.setCell ⟨g10, kk * 2 + 1, none⟩ (.int .i64 v)).cell? ⟨w3.heap.size, 0, none⟩ = some (.int .i64 p) := (hF12.cell 0).trans rfl
      have hbb12 := bnext hbb7 hbR
      clear hw11 hoP hb10 hc10 hF10 hcF10 hz10 hg10l hoQ hoR hF11
      go_wp2_with (first
        | (go_at_call 24; refine (mod_any by_ p _ (by omega) (by omega)).mono ?_; rintro e w' ⟨rfl, rfl⟩; rw [HV.out])
        | (go_at_call 22; (with_reducible refine (agree_share_ok p (some ⟨g10, 0, none⟩) t2 c10 th uk (yk.set kk v) _ HO.out hSh2 HUKA.out HZA.out (by omega) hcap10 ht2k (by omega) HUKD.out).mono ?_); rintro e w13 ⟨⟨R, rfl, hT⟩, hb13⟩
           rw [HG1.out R hT]
           have hF13 := hF12.below hb13 hF12.lt
           have hcF13 : w13.cell? ⟨w3.heap.size, 0, none⟩ = some (.int .i64 p) := (hF13.cell 0).trans rfl
           have hS13 := hS12.upto hb13
           have hbb13 := bnext hbb12 hb13
           clear hT)
        | (go_at_call 22; (refine (agree_share_ok p A9 6 c9 t1 us ys _ HO.out hS13 HUA.out HYA.out (by omega) hcap (by omega) (by omega) HUD.out).mono ?_); rintro e w14 ⟨⟨R2, rfl, hT2⟩, hb14⟩
           rw [HG2.out R2 hT2]
           have hbb14 := bnext hbb13 hb14
           clear hT2))
      go_ret
      exact ⟨rfl, hbb14⟩
  · have hd : decide (n ≤ 500) = false := by simpa using hn
    go_enter Try.func5, Try.ntmps5
    go_wp2_with (first
      | (go_at_call 13; refine (sane07_any _).mono ?_; rintro e w1 ⟨rfl, hb1⟩)
      | (go_at_call 14; refine (few_any A n c _).mono ?_; rintro e w' ⟨rfl, rfl⟩))
    go_ret
    exact ⟨rfl, hb1⟩
end Go.Proofs.Ytieejgkheijgeaa
