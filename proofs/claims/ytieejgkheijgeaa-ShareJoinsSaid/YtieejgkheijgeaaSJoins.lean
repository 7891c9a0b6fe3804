/-
  ShareJoins returns true: the walk of the law. Conditions: none beyond the reading of its arguments.
-/
import Derived.Test.YtieejgkheijgeaaShares3
import Derived.Test.YtieejgkheijgeaaShare4
import Derived.Test.YtieejgkheijgeaaJoinsA
import Derived.Test.YtieejgkheijgeaaS07
import Derived.Test.YtieejgkheijgeaaBig
import Derived.Test.YtieejgkheijgeaaPolyA
import Derived.Deep.QuietTactic
import Derived.BigQuiet
import Derived.Deep.RegionHeld3
import Derived.Deep.DeepCutAuto
namespace Go.Proofs.Ytieejgkheijgeaa
open Go.RowKit
set_option linter.unusedVariables false

set_option maxHeartbeats 6400000 in
set_option maxRecDepth 100000 in
theorem shareJoins_walk (A : Option Addr) (n c : Nat) (zs : List Int) (w : World) (w0 : IsRow .i64 w A n c zs) :
    Calls Try.prog 3 #[.slice A n c] w fun e w' => e = .returned (.bool true) ∧ Below w.heap.size w w' := by
  obtain ⟨h, hw⟩ := w0.ints
  generalize zs.take n = xs at h hw
  clear w0
  by_cases hn : n ≤ 500
  · have hd : decide (n ≤ 500) = true := by simpa using hn
    go_enter Try.func3, Try.ntmps3
    go_upto_region 9 with (first
      | (go_at_call 13; refine (sane07_any _).mono ?_; rintro e w1 ⟨rfl, hb1⟩)
      | (go_at_call 14; refine (few_any A n c _).mono ?_; rintro e w' ⟨rfl, rfl⟩)
      | (go_at_call 15; refine (new_any A n c xs _ (h.upto hb1) hn).mono ?_; rintro e w2 ⟨⟨g, rfl, hge, hD2⟩, hb2⟩
         have hbb2 := bnext hb1 hb2
         have hg : w.heap.size ≤ g := by rw [hge]; exact hb1.size
         clear hge)
      | (go_at_call 16; refine (big_any g A n c xs _ 6 _ hD2 (by omega)).mono ?_; rintro e w3 ⟨p, q3, rfl, hkn, hp6, hD3, hS3⟩
         have hok := okP_known hkn
         have hp := okP_pos hok
         have HO := Lib.hid hok
         have hbb3 := ballocs (Step.below hbb2 hS3 hbb2.size hg) (.cells #[.int .i64 p] 28)
         have hF_3 := Blk.new w3 28 #[.int .i64 p]
         have hD3' := hD3.alloc (.cells #[.int .i64 p] 28)
         have hgf : w3.heap.size ≠ g := by have := hD3.1.lt; omega
         clear hok hkn hD2 hD3 hS3 hbb2 hb1 hb2)
      | (go_at_call 17; (with_reducible refine (next_any g A n c xs q4 p _ hD4 (by omega)).mono ?_); rintro e w5 ⟨se, q5, rfl, hse, _, hD5, hS5, hz5⟩
         have hse1 := hse (by omega)
         have hF_5 := Step.block hS5 hF_4 hgf
         have hbb5 := Step.below hbb4 hS5 hbb4.size hg
         have hg5 := hD5.1.lt
         clear hse hz5 hS5)
      | (go_at_call 17; refine (next_any g A n c xs q3 6 _ hD3' (by omega)).mono ?_; rintro e w4 ⟨r', q4, rfl, hr, hr0, hD4, hS4, hz4⟩
         obtain ⟨th, rfl⟩ : ∃ r : Nat, r' = r := ⟨r'.toNat, by have := hr (by omega); omega⟩
         have hth : th ≤ 5 := by have := hr (by omega); omega
         have hF_4 := Step.block hS4 hF_3 hgf
         have hcf_4 : w4.cell? ⟨w3.heap.size, 0, none⟩ = some (.int .i64 p) := (hF_4.cell 0).trans rfl
         have hbb4 := Step.below hbb3 hS4 hbb3.size hg
         clear hr hr0 hz4 hS4))
    clear hF_3 hD3' hbb3 hcf_4 hF_4 hD4 hbb4
    have HLI : Hid (∀ i, i < 5 → 1 ≤ ([p, p, p, p, p] : List Int).getD i 0 ∧ ([p, p, p, p, p] : List Int).getD i 0 ≤ 4611686018427387904) := Lib.hid fun i hi => by
      rcases (by omega : i = 0 ∨ i = 1 ∨ i = 2 ∨ i = 3 ∨ i = 4) with rfl | rfl | rfl | rfl | rfl <;> exact ⟨by show 1 ≤ p; omega, by show p ≤ _; omega⟩
    have HDS : Hid (∀ ds : List Int, (∀ i, i < 5 → 0 ≤ ds.getD i 0 ∧ ds.getD i 0 < ([p, p, p, p, p] : List Int).getD i 0) → ∀ i, i < th → 0 ≤ ds.getD i 0 ∧ ds.getD i 0 < p) := Lib.hid fun ds h i hi => by
      have h1 := h i (by omega)
      rcases (by omega : i = 0 ∨ i = 1 ∨ i = 2 ∨ i = 3 ∨ i = 4) with rfl | rfl | rfl | rfl | rfl <;> exact h1
    have hQ0 : Step g w5 w5.drew := (Step.refl g w5).drew
    have HFF : Hid (∀ wx, Step g w5 wx → wx.cell? ⟨w3.heap.size, 0, none⟩ = some (.int .i64 p)) := Lib.hid fun wx hx => ((Step.block hx hF_5 hgf).cell 0).trans rfl
    have hQ1 : Step g w5 (w5.alloc (.cells #[.int .i64 p, .int .i64 p, .int .i64 p, .int .i64 p, .int .i64 p] 3)).drew := ((Step.refl g w5).alloc (.cells #[.int .i64 p, .int .i64 p, .int .i64 p, .int .i64 p, .int .i64 p] 3)).drew
    have hQ2 : Step g w5 ((w5.alloc (.cells #[.int .i64 p, .int .i64 p, .int .i64 p, .int .i64 p, .int .i64 p] 3)).alloc (.cells #[.slice none 0 0, .int .i64 0] 33)).drew := (((Step.refl g w5).alloc (.cells #[.int .i64 p, .int .i64 p, .int .i64 p, .int .i64 p, .int .i64 p] 3)).alloc (.cells #[.slice none 0 0, .int .i64 0] 33)).drew
    have hQ3 : Step g w5 ((w5.alloc (.cells #[.slice none 0 0, .int .i64 0] 33)).alloc (.cells #[.int .i64 p, .int .i64 p, .int .i64 p, .int .i64 p, .int .i64 p] 3)).drew := (((Step.refl g w5).alloc (.cells #[.slice none 0 0, .int .i64 0] 33)).alloc (.cells #[.int .i64 p, .int .i64 p, .int .i64 p, .int .i64 p, .int .i64 p] 3)).drew
    have hQ4 : Step g w5 (w5.alloc (.cells #[.slice none 0 0, .int .i64 0] 33)).drew := ((Step.refl g w5).alloc (.cells #[.slice none 0 0, .int .i64 0] 33)).drew
    go_cut [7, 8, 9] (fun s7 s8 s9 wx => SplitAt g A n c xs p se th 6 w5 s7 s9 wx)
    case first =>
      go_region_held3 (fun w' => w'.cell? ⟨w3.heap.size, 0, none⟩ = some (.int .i64 p)) (first | exact HFF.out _ hQ0 | exact HFF.out _ hQ1 | exact HFF.out _ hQ2 | exact HFF.out _ hQ3 | exact HFF.out _ hQ4 | exact HFF.out _ hS8 | exact HFF.out _ (hS8.alloc _) | exact HFF.out _ hS9 | exact HFF.out _ (hS9.alloc _) | exact HFF.out _ ((hS9.setNew (p := ⟨_, 0, none⟩) hle _).setNew (p := ⟨_, 1, none⟩) hle _))
        (first
          | (go_at_call 19; (with_reducible refine (mtape_any g A n c xs q5 (some ⟨_, 0, none⟩) 5 5 [p, p, p, p, p] _ (by first | exact (hD5.alloc (.cells #[.int .i64 p, .int .i64 p, .int .i64 p, .int .i64 p, .int .i64 p] 3)).drew | exact ((hD5.alloc _).alloc _).drew) (Blk.ints (t := 3) (cs := #[.int .i64 p, .int .i64 p, .int .i64 p, .int .i64 p, .int .i64 p]) (by first | exact Blk.drew (Blk.new w5 3 #[.int .i64 p, .int .i64 p, .int .i64 p, .int .i64 p, .int .i64 p]) | exact Blk.drew ((Blk.new w5 3 #[.int .i64 p, .int .i64 p, .int .i64 p, .int .i64 p, .int .i64 p]).alloc (.cells #[.slice none 0 0, .int .i64 0] 33)) | exact Blk.drew (Blk.new1 w5 (.cells #[.slice none 0 0, .int .i64 0] 33) 3 #[.int .i64 p, .int .i64 p, .int .i64 p, .int .i64 p, .int .i64 p])) [p, p, p, p, p] 5 rfl rfl) HLI.out (by omega) (fun b off s e _ => by injection e with e; injection e with e1; omega)).mono ?_); rintro e w8 ⟨T8, k8, tc8, ds, q8, rfl, hoT8, hk8, hk8', hds, hD8, hS8'⟩
             have hS8 : Step g w5 w8 := Step.trans (by first | exact hQ1 | exact hQ2 | exact hQ3) hS8'
             have hle8 := hS8.size
             have hCC := secret_list (th := th) hse1 (HDS.out ds hds)
             have hoT8i := hoT8.ints
             first
               | have hZ8 : Blk w8 w5.heap.size 33 #[.slice none 0 0, .int .i64 0] := Step.block hS8' (by exact Blk.drew ((Blk.new w5 33 #[.slice none 0 0, .int .i64 0]).alloc (.cells #[.int .i64 p, .int .i64 p, .int .i64 p, .int .i64 p, .int .i64 p] 3))) (by omega)
               | have hZ8 : Blk w8 (w5.heap.size + 1) 33 #[.slice none 0 0, .int .i64 0] := Step.block hS8' (Blk.drew (Blk.new1 w5 (.cells #[.int .i64 p, .int .i64 p, .int .i64 p, .int .i64 p, .int .i64 p] 3) 33 #[.slice none 0 0, .int .i64 0])) (by omega)
               | skip)
          | (go_at_call 18; (refine (split_ok p se th 6 T8 k8 tc8 ds _ HO.out hse1 (by first | exact hoT8i | exact hoT8i.upto (bbox _)) (by omega) (by omega) (by omega) (HDS.out ds hds) (by omega) (by omega)).mono ?_); rintro e w9 ⟨⟨A9, c9, T9, tc9, rfl, hoS9⟩, hb9⟩
             have hC9 : Below w8.heap.size w8 w9 := by first | exact hb9 | exact bnext (bbox _) hb9
             have hS9 : Step g w5 w9 := hS8.trans (Step.of_below hC9)
             have hD9 := hD8.belowAll hC9
             have hle9 := hC9.size
             have hZb8 := bbox (w0 := w8) (.cells #[.slice none 0 0, .int .i64 0] 33)
             have hZs8 := hZb8.size
             first
               | (have hBx : Blk w9 w5.heap.size 33 #[.slice none 0 0, .int .i64 0] := hZ8.below hC9 hZ8.lt
                  have hle : w5.heap.size ≤ w5.heap.size := Nat.le_refl _
                  have hbx := hZ8.lt
                  have hx0 := (hBx.cell 0).trans rfl
                  have hx1 := (hBx.cell 1).trans rfl
                  have hxf0 := hBx.frozen 0
                  have hxf1 := hBx.frozen 1)
               | (have hBx : Blk w9 (w5.heap.size + 1) 33 #[.slice none 0 0, .int .i64 0] := hZ8.below hC9 hZ8.lt
                  have hle : w5.heap.size ≤ w5.heap.size + 1 := Nat.le_succ _
                  have hbx := hZ8.lt
                  have hx0 := (hBx.cell 0).trans rfl
                  have hx1 := (hBx.cell 1).trans rfl
                  have hxf0 := hBx.frozen 0
                  have hxf1 := hBx.frozen 1)
               | (have hBx : Blk w9 w8.heap.size 33 #[.slice none 0 0, .int .i64 0] := (Blk.new w8 33 #[.slice none 0 0, .int .i64 0]).below hb9 (Blk.new w8 33 #[.slice none 0 0, .int .i64 0]).lt
                  have hle : w5.heap.size ≤ w8.heap.size := by omega
                  have hbx := (Blk.new w8 33 #[.slice none 0 0, .int .i64 0]).lt
                  have hx0 := (hBx.cell 0).trans rfl
                  have hx1 := (hBx.cell 1).trans rfl
                  have hxf0 := hBx.frozen 0
                  have hxf1 := hBx.frozen 1)
               | (have hle : w5.heap.size ≤ w9.heap.size := by omega)))
      all_goals go_wp2_with fail
      all_goals go_meet
      all_goals first
        | exact SplitAt.new hCC hoS9 hD9 hS9 (by first | omega | (simp; omega)) _
        | exact SplitAt.box hCC hoS9 hD9 hS9 hle (Nat.lt_of_lt_of_le hbx (by first | exact Nat.le_refl _ | omega)) hg5 _ _
    case rest =>
      obtain ⟨A9, c9, cs, q7, rfl, rfl, HC, hoS, hD7, hS7⟩ := hcut
      have hF_7 := Step.block hS7 hF_5 hgf
      have hbb7 := Step.below hbb5 hS7 hbb5.size hg
      obtain ⟨w7, hw7⟩ : ∃ w7, w7 = wc := ⟨_, rfl⟩
      subst hw7
      have hg7 := hD7.1.lt
      clear HFF hQ0 hQ1 hQ2 hQ3 hQ4 hS7 hD5 hF_5 hbb5 HLI HDS
      obtain ⟨us, HUS⟩ : ∃ us, Hid (ptsL 6 = us) := ⟨_, Lib.hid rfl⟩
      have HUAT : Hid (∀ j, j < 6 → us.getD j 0 = (j : Int) + 1) := Lib.hid fun j hj => by rw [← HUS.out]; exact ptsL_at hj
      have HUL : Hid (us.length = 6) := Lib.hid (by rw [← HUS.out]; exact ptsL_len 6)
      rw [HUS.out] at hoS
      clear HUS
      obtain ⟨ys, HYS⟩ : ∃ ys, Hid (valsP p cs us = ys) := ⟨_, Lib.hid rfl⟩
      rw [HYS.out] at hoS
      have HSEC : Hid (valueP p 0 (trimL cs) = se) := Lib.hid (by rw [value_trim p 0 hp.1, value_zero hp.1 HC.out.2.2.1 HC.out.2.1, HC.out.2.2.2])
      go_wp2_with (go_at_call 20; refine (order_any g A n c xs q7 6 _ hD7 (by omega)).mono ?_; rintro e w8 ⟨A4, c4, ks, q8, rfl, hown8, hord, hD8, hS8⟩
                   have HK := Lib.hid hord
                   have hoS8 := hoS.step hS8 hg5
                   have hF_8 := Step.block hS8 hF_7 hgf
                   have hIks := hown8.ints
                   have hSl := hoS8.sh
                   have hbb8 := Step.below hbb7 hS8 hbb7.size hg
                   clear hord)
      clear hD7 hD8 hS8 hown8 hoS hoS8 hF_7 hbb7 hg7
      have HKL : Hid (ks.length = 6) := Lib.hid (order_len HK.out)
      obtain ⟨pu, HPU⟩ : ∃ pu, Hid (ordP ks = pu) := ⟨_, Lib.hid rfl⟩
      obtain ⟨py, HPY⟩ : ∃ py, Hid (valsP p cs pu = py) := ⟨_, Lib.hid rfl⟩
      have HPUA : Hid (allP p pu = true) := Lib.hid (by rw [← HPU.out]; exact ordP_allP HK.out hp6)
      have HPUD : Hid (Apart2 pu) := Lib.hid (by rw [← HPU.out]; exact ordP_apart HK.out)
      have HPUL : Hid (pu.length = 6) := Lib.hid (by rw [← HPU.out, ordP_len, HKL.out])
      have HPYL : Hid (py.length = 6) := Lib.hid (by rw [← HPY.out, valsP_len, HPUL.out])
      have HPYA : Hid (allP p py = true) := Lib.hid (by rw [← HPY.out]; exact valsP_allP hp.1 _ _)
      have HAT : Hid (∀ m, m < 6 → ∃ k : Nat, k < 6 ∧ ks.getD m 0 = k ∧ us.getD k 0 = pu.getD m 0 ∧ ys.getD k 0 = py.getD m 0) := Lib.hid fun m hm => by
        obtain ⟨k, hk, hk6⟩ := order_at HK.out hm
        have h1 : us.getD k 0 = pu.getD m 0 := by rw [HUAT.out k hk6, ← HPU.out, ordP_at (by rw [HKL.out]; exact hm), hk]
        exact ⟨k, hk6, hk, h1, by rw [← HYS.out, ← HPY.out, valsP_at p cs us (by rw [HUL.out]; exact hk6), valsP_at p cs pu (by rw [HPUL.out]; exact hm), h1]⟩
      have HTR : Hid (∀ R, Through p (pu.take (th + 1)) (py.take (th + 1)) R → R = trimL cs) := Lib.hid fun R hR => by
        rw [← HPY.out] at hR
        exact share_join (m := th + 1) HO.out HC.out.2.2.1 HC.out.1 HPUA.out HPUD.out (by rw [HPUL.out]; omega) hR
      have HAG : Hid (∀ R, Through p (pu.take (th + 1)) (py.take (th + 1)) R → agreeB p pu py R = true) := Lib.hid fun R hR => by
        rw [HTR.out R hR, ← HPY.out]; exact share_agree hp.1 _ _
      have HJO : Hid (∀ R, Through p (pu.take (th + 1)) (py.take (th + 1)) R → valueP p 0 R = se) := Lib.hid fun R hR => by
        rw [HTR.out R hR]; exact HSEC.out
      have HVA : Hid (∀ R, Through p (pu.take (th + 1)) (py.take (th + 1)) R → valueP p (pu.getD 5 0) R = py.getD 5 0) := Lib.hid fun R hR => by
        rw [HTR.out R hR, value_trim p _ hp.1, ← HPY.out, valsP_at p cs pu (by rw [HPUL.out]; omega)]
      have hX5 := allP_getD HPUA.out (k := 5) (by rw [HPUL.out]; omega)
      go_loopw [10, 67] (fun s i wz => ∃ (m : Nat) (L : Option Addr) (lc : Nat), m ≤ 6 ∧ s = .slice L m lc ∧ i = .int .i64 m ∧ Hid (OwnS wz w8.heap.size L m lc (pu.take m) (py.take m)) ∧ Below w8.heap.size w8 wz) (fun _ i _ => 6 - (intOf i).toNat)
      case atStart => exact ⟨0, none, 0, by omega, rfl, rfl, Lib.hid OwnS.nil_, Below.refl _ _⟩
      case round =>
        obtain ⟨m, L, lc, hm, rfl, rfl, HS, hbz⟩ := hrel
        by_cases hlt : m < 6
        · obtain ⟨b1, o1, rfl, hb1, hc1⟩ := hIks.2 (by omega)
          obtain ⟨b2, o2, rfl, hb2, hc2⟩ := hSl.2.2 (by omega)
          obtain ⟨k, hk6, hkm, hku, hky⟩ := HAT.out m hlt
          have hcx := (hbz.cell (p := ⟨b1, o1 + m, none⟩) hb1).trans (hc1 m hlt)
          have hcu := (hbz.cell (p := ⟨b2, o2 + k * 2, none⟩) hb2).trans (hc2 k hk6).1
          have hcy := (hbz.cell (p := ⟨b2, o2 + k * 2 + 1, none⟩) hb2).trans (hc2 k hk6).2
          rw [hkm] at hcx
          rw [hku] at hcu
          rw [hky] at hcy
          have HTU := Lib.hid (take_succ_getD pu m (by rw [HPUL.out]; exact hlt))
          have HTY := Lib.hid (take_succ_getD py m (by rw [HPYL.out]; exact hlt))
          obtain ⟨x, HX⟩ : ∃ x, Hid (pu.getD m 0 = x) := ⟨_, Lib.hid rfl⟩
          obtain ⟨y, HY⟩ : ∃ y, Hid (py.getD m 0 = y) := ⟨_, Lib.hid rfl⟩
          rw [HX.out] at hcu HTU
          rw [HY.out] at hcy HTY
          have hk0 : (0 : Int) ≤ (k : Int) := by omega
          have hk6i : (k : Int) < 6 := by omega
          have hm6i : (m : Int) < 6 := by omega
          have hbza := hbz.alloc hbz.size (.cells #[.int .i64 x, .int .i64 y] 40)
          have hoA := HS.out.belowAll (bbox (.cells #[.int .i64 x, .int .i64 y] 40))
          have hN9 := Blk.new wr 40 #[.int .i64 x, .int .i64 y]
          clear hc1 hc2 hkm hku hky
          go_wp2_with ((at_builtin; refine wpList_append_share rfl _ _ 31 rfl Try.underlying31 w8.heap.size L m lc (pu.take m) (py.take m) rfl hoA wr.heap.size 1 x y rfl ((hN9.cell 0).trans rfl) ((hN9.cell 1).trans rfl) (by omega) hbza.size ?_; intro L2 lc2 w10 hS10 hb10; have hbz10 := hbza.trans hb10))
          go_roundw
          case rel => exact ⟨m + 1, L2, lc2, by omega, rfl, by go_num, Lib.hid (by rw [HTU.out, HTY.out]; exact hS10), hbz10⟩
          case measure => simp [intOf]; omega
        · obtain rfl : m = 6 := by omega
          have hcap := HS.out.cap
          have hSh := HS.out.sh
          obtain ⟨gP, rfl, hgP, hgPl⟩ := HS.out.form (by omega)
          rw [List.take_of_length_le (by rw [HPUL.out]; exact Nat.le_refl _), List.take_of_length_le (by rw [HPYL.out]; exact Nat.le_refl _)] at hSh
          have hc5 : wr.cell? ⟨gP, 10, none⟩ = some (.int .i64 (pu.getD 5 0)) ∧ wr.cell? ⟨gP, 11, none⟩ = some (.int .i64 (py.getD 5 0)) := by
            have := HS.out.cellAt (j := 5) (by omega)
            rw [List.take_of_length_le (by rw [HPUL.out]; exact Nat.le_refl _), List.take_of_length_le (by rw [HPYL.out]; exact Nat.le_refl _)] at this
            exact this
          obtain ⟨x5, HX5⟩ : ∃ x5, Hid (pu.getD 5 0 = x5) := ⟨_, Lib.hid rfl⟩
          obtain ⟨y5, HY5⟩ : ∃ y5, Hid (py.getD 5 0 = y5) := ⟨_, Lib.hid rfl⟩
          rw [HX5.out] at hc5 hX5
          rw [HY5.out] at hc5
          have HV5 : Hid (∀ R, Through p (pu.take (th + 1)) (py.take (th + 1)) R → valueP p x5 R = y5) := Lib.hid fun R hR => by rw [← HX5.out, ← HY5.out]; exact HVA.out R hR
          obtain ⟨t1, ht1⟩ : ∃ t1 : Nat, (th : Int) + 1 = t1 := ⟨th + 1, by omega⟩
          have ht1N : t1 = th + 1 := by omega
          have ht1k : th + 1 ≤ t1 := by omega
          have ht1w : IntKind.i64.wrap ((th : Int) + 1) = t1 := by rw [IntWalk.i64_in _ (by omega)]; exact ht1
          have ht1c : (t1 : Int) ≤ (lc : Int) := by omega
          have ht10 : (0 : Int) ≤ (t1 : Int) := by omega
          have ht1v : IntKind.i64.wrap (t1 : Int) = t1 := IntWalk.i64_in _ (by omega)
          have ht1cN : t1 ≤ lc := by omega
          have hthc : (th : Int) ≤ (lc : Int) := by omega
          have hthcN : th ≤ lc := by omega
          have hth0 : (0 : Int) ≤ (th : Int) := by omega
          have hthv : IntKind.i64.wrap (th : Int) = th := IntWalk.i64_in _ (by omega)
          have hc6 : (6 : Int) ≤ (lc : Int) := by omega
          have ht160 : t1 ≤ 60 := by omega
          have hth9 : th ≤ 9 := by omega
          have hF := hF_8.below hbz hF_8.lt
          have hbw := bnext hbb8 hbz
          have HU1A := Lib.hid (take_allP HPUA.out t1)
          have HY1A := Lib.hid (take_allP HPYA.out t1)
          have HU1D := Lib.hid (HPUD.out.take t1)
          have HU2A := Lib.hid (take_allP HPUA.out th)
          have HY2A := Lib.hid (take_allP HPYA.out th)
          have HJ1 : Hid (∀ R, Through p ((pu.take t1).take (th + 1)) ((py.take t1).take (th + 1)) R → valueP p 0 R = se) := Lib.hid fun R hR => by
            rw [ht1N, List.take_take, List.take_take, Nat.min_self] at hR
            exact HJO.out R hR
          have HFd : Hid (∀ wx, Below wr.heap.size wr wx → wx.cell? ⟨w3.heap.size, 0, none⟩ = some (.int .i64 p)) := Lib.hid fun wx hx => ((hF.below hx hF.lt).cell 0).trans rfl
          have H5 : Hid (∀ wx, Below wr.heap.size wr wx → wx.cell? ⟨gP, 10, none⟩ = some (.int .i64 x5) ∧ wx.cell? ⟨gP, 11, none⟩ = some (.int .i64 y5)) := Lib.hid fun wx hx => ⟨(hx.cell (p := ⟨gP, 10, none⟩) hgPl).trans hc5.1, (hx.cell (p := ⟨gP, 11, none⟩) hgPl).trans hc5.2⟩
          have hb0 : Below wr.heap.size wr wr.drew := (Below.refl _ wr).drew
          have hSh1 := (hSh.upto hb0).take_ t1 (by omega)
          clear HS ht1 ht1N hc5 HVA HAT HJO HTR
          go_wp2_with fail
          go_region_held3 (fun w' => w'.cell? ⟨w3.heap.size, 0, none⟩ = some (.int .i64 p)) (first | exact HFd.out _ hb0 | exact HFd.out _ hb11)
            (first
              | (go_at_call 21; (with_reducible refine (join_share_ok p (some ⟨gP, 0, none⟩) t1 lc th (pu.take t1) (py.take t1) _ HO.out hSh1 HU1A.out HY1A.out ht160 ht1cN ht1k hth9 HU1D.out).mono ?_); rintro e w11 ⟨⟨R, rfl, hT⟩, hb11'⟩
                 rw [HJ1.out R hT]
                 have hb11 := bnext hb0 hb11'
                 clear hT))
          have hcf11 := HFd.out _ hb11
          have hSh11 := hSh.upto hb11
          go_wp2_with ((go_at_call 22; (refine (agree_share_ok p (some ⟨gP, 0, none⟩) 6 lc th pu py _ HO.out hSh11 HPUA.out HPYA.out (by omega) hcap (by omega) hth9 HPUD.out).mono ?_); rintro e w12 ⟨⟨R2, rfl, hT2⟩, hb12'⟩; rw [HAG.out R2 hT2]; have hb12 := bnext hb11 hb12'; clear hT2))
          have hcf12 := HFd.out _ hb12.drew
          have hSh12 := (hSh.upto hb12.drew).take_ th (by omega)
          go_region_held3 (fun w' => w'.cell? ⟨w3.heap.size, 0, none⟩ = some (.int .i64 p)) (first | exact hcf12 | exact HFd.out _ hb13)
            (first
              | (go_at_call 21; (with_reducible refine (join_share_few p (some ⟨gP, 0, none⟩) th lc th (pu.take th) (py.take th) _ HO.out hSh12 HU2A.out HY2A.out (by omega) (Nat.le_refl _) hth9).mono ?_); rintro e w13 ⟨rfl, hb13'⟩
                 have hb13 := bnext hb12.drew hb13'))
          go_wp2_with fail
          have hcf13 : w13.drew.cell? ⟨w3.heap.size, 0, none⟩ = some (.int .i64 p) ∧ w13.drew.cell? ⟨gP, 10, none⟩ = some (.int .i64 x5) := ⟨HFd.out _ hb13.drew, (H5.out _ hb13.drew).1⟩
          have hSh13 := hSh.upto hb13.drew
          go_region_held3 (fun w' => w'.cell? ⟨w3.heap.size, 0, none⟩ = some (.int .i64 p) ∧ w'.cell? ⟨gP, 10, none⟩ = some (.int .i64 x5)) (first | exact hcf13 | exact ⟨HFd.out _ hb14, (H5.out _ hb14).1⟩)
            (first
              | (go_at_call 23; (refine (at_share_ok p x5 (some ⟨gP, 0, none⟩) 6 lc th pu py _ HO.out hSh13 hX5 HPUA.out HPYA.out (by omega) hcap (by omega) hth9 HPUD.out).mono ?_); rintro e w14 ⟨⟨R4, rfl, hT4⟩, hb14'⟩
                 rw [HV5.out R4 hT4]
                 have hb14 := bnext hb13.drew hb14'
                 clear hT4))
          have h511 := (H5.out _ hb14).2
          have hbw14 := bnext hbw hb14
          go_wp2
          go_ret
          exact ⟨rfl, hbw14⟩
  · have hd : decide (n ≤ 500) = false := by simpa using hn
    go_enter Try.func3, Try.ntmps3
    go_wp2_with (first
      | (go_at_call 13; refine (sane07_any _).mono ?_; rintro e w1 ⟨rfl, hb1⟩)
      | (go_at_call 14; refine (few_any A n c _).mono ?_; rintro e w' ⟨rfl, rfl⟩))
    go_ret
    exact ⟨rfl, hb1⟩
end Go.Proofs.Ytieejgkheijgeaa
