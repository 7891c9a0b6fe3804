/-
  PolyValues returns true: the walk of the law. Conditions: none beyond the reading of its arguments.
-/
import Derived.Test.YtpkieikiakikmaaP05
import Derived.Deep.QuietTactic
import Derived.BigQuiet
namespace Go.Proofs.Ytpkieikiakikmaa
open Go.RowKit
set_option linter.unusedVariables false

set_option maxHeartbeats 3200000 in
set_option maxRecDepth 100000 in
theorem polyValues_walk (A : Option Addr) (n c : Nat) (zs : List Int) (x : Int) (w : World) (w0 : IsRow .i64 w A n c zs) (w1 : (Lit.int .i64 x).wf = true) :
    Calls Try.prog 10 #[.slice A n c, .int .i64 x] w fun e w' => e = .returned (.bool true) ∧ Below w.heap.size w w' := by
  obtain ⟨h, hw⟩ := w0.ints
  generalize zs.take n = xs at h hw
  have hx := wf64_of w1
  clear w0 w1
  by_cases hn : n ≤ 500
  · have hd : decide (n ≤ 500) = true := by simpa using hn
    go_enter Try.func10, Try.ntmps10
    go_wp2_with (first
      | (go_at_call 35; refine (sane05_any _).mono ?_; rintro e w1 ⟨rfl, hb1⟩)
      | (go_at_call 14; refine (few_any A n c _).mono ?_; rintro e w' ⟨rfl, rfl⟩)
      | (go_at_call 15; refine (new_any A n c xs _ (h.upto hb1) hn).mono ?_; rintro e w2 ⟨⟨g, rfl, hge, hD2⟩, hb2⟩
         have hbb2 := bnext hb1 hb2
         have hg : w.heap.size ≤ g := by rw [hge]; exact hb1.size
         clear hge)
      | (go_at_call 45; refine (two05_any g A n c xs _ _ hD2).mono ?_; rintro e w3 ⟨p, A1, n1, c1, us, A2, n2, c2, vs, q3, rfl, hok, hl1, hl2, hown1, hown2, hX, hY, hD3, hS3⟩
         have hp := okP_pos hok
         have HO := Lib.hid hok
         have HPus := Lib.hid hX
         have HPvs := Lib.hid hY
         have hcus := hown1.cap
         have hcvs := hown2.cap
         have hbb3 := ballocs (Step.below hbb2 hS3 hbb2.size hg) (.cells #[.int .i64 p] 47)
         have hF_3 := Blk.new w3 47 #[.int .i64 p]
         have hcf_3 : (w3.alloc (.cells #[.int .i64 p] 47)).cell? ⟨w3.heap.size, 0, none⟩ = some (.int .i64 p) := (hF_3.cell 0).trans rfl
         have hIus_3 := hown1.ints.upto (bbox (.cells #[.int .i64 p] 47))
         have hIvs_3 := hown2.ints.upto (bbox (.cells #[.int .i64 p] 47))
         have HVS := Lib.hid (fun y => value_addL hp.1 y us vs)
         have HVP := Lib.hid (fun y => value_mulL hp.1 y us vs)
         have hls := addL_len_le p us vs
         have hlp := mulL_len_le p us vs
         have hul := hown1.len
         have hvl := hown2.len
         rw [hul, hvl] at hls hlp
         obtain ⟨sm, Hsm⟩ : ∃ sm, Hid (addL p us vs = sm) := ⟨_, Lib.hid rfl⟩
         obtain ⟨pr, Hpr⟩ : ∃ pr, Hid (mulL p us vs = pr) := ⟨_, Lib.hid rfl⟩
         have HPsm : Hid (allP p sm = true) := Lib.hid (by rw [← Hsm.out]; exact addL_allP hp.1 _ _)
         have HPpr : Hid (allP p pr = true) := Lib.hid (by rw [← Hpr.out]; exact mulL_allP hp.1 _ _)
         rw [Hsm.out] at hls HVS
         rw [Hpr.out] at hlp HVP
         clear hok hX hY hD2 hD3 hS3 hbb2 hb1 hb2 hown1 hown2 hul hvl)
      | (go_at_call 24; refine (mod_any x p _ (by omega) (by omega)).mono ?_; rintro e w' ⟨rfl, rfl⟩
         have hy : 0 ≤ x % p ∧ x % p < p := ⟨Int.emod_nonneg _ (by omega), Int.emod_lt_of_pos _ (by omega)⟩
         generalize x % p = y at *
         obtain ⟨u, Hu⟩ : ∃ u, Hid (valueP p y us = u) := ⟨_, Lib.hid rfl⟩
         obtain ⟨v, Hv⟩ : ∃ v, Hid (valueP p y vs = v) := ⟨_, Lib.hid rfl⟩
         have hu := valueP_in hp.1 y us
         have hv := valueP_in hp.1 y vs
         rw [Hu.out] at hu
         rw [Hv.out] at hv
         have Hm : Hid (valueP p y sm = (u + v) % p) := Lib.hid (by rw [HVS.out, Hu.out, Hv.out])
         have Hk : Hid (valueP p y pr = u * v % p) := Lib.hid (by rw [HVP.out, Hu.out, Hv.out])
         have huv : 0 ≤ u * v ∧ u * v ≤ 65521 * 65521 := ⟨Int.mul_nonneg hu.1 hv.1, Int.mul_le_mul (by omega) (by omega) hv.1 (by omega)⟩)
      | (go_at_call 46; (with_reducible refine (padd_ok p A1 A2 n1 n2 c1 c2 us vs (w3.alloc (.cells #[.int .i64 p] 47)) HO.out hIus_3 hIvs_3 HPus.out HPvs.out (by omega) (by omega)).mono ?_); rintro e w4 ⟨⟨Asm, csm, rfl, hownsm⟩, hb4⟩
         rw [Hsm.out] at hownsm
         rw [Hsm.out]
         have hIus_4 := hIus_3.upto hb4
         have hIvs_4 := hIvs_3.upto hb4
         have hF_4 := hF_3.below hb4 hF_3.lt
         have hcf_4 : w4.cell? ⟨w3.heap.size, 0, none⟩ = some (.int .i64 p) := (hF_4.cell 0).trans rfl
         have hbb4 := bnext hbb3 hb4
         clear hIus_3 hIvs_3 hF_3 hcf_3 hbb3
         have hIsm_4 := hownsm.ints
         have hcsm := hownsm.cap
         clear hownsm)
      | (go_at_call 43; (with_reducible refine (pmul_ok p A1 A2 n1 n2 c1 c2 us vs w4 HO.out hIus_4 hIvs_4 HPus.out HPvs.out hcus hcvs (by omega)).mono ?_); rintro e w5 ⟨⟨Apr, cpr, rfl, hownpr⟩, hb5⟩
         rw [Hpr.out] at hownpr
         rw [Hpr.out]
         have hIus_5 := hIus_4.upto hb5
         have hIvs_5 := hIvs_4.upto hb5
         have hIsm_5 := hIsm_4.upto hb5
         have hF_5 := hF_4.below hb5 hF_4.lt
         have hcf_5 : w5.cell? ⟨w3.heap.size, 0, none⟩ = some (.int .i64 p) := (hF_5.cell 0).trans rfl
         have hbb5 := bnext hbb4 hb5
         clear hIus_4 hIvs_4 hIsm_4 hF_4 hcf_4 hbb4
         have hIpr_5 := hownpr.ints
         have hcpr := hownpr.cap
         clear hownpr)
      | (go_at_call 38; (with_reducible refine (pvalue_ok p y A1 n1 c1 us w5 HO.out hIus_5 HPus.out hy (by omega)).mono ?_); rintro e w6 ⟨rfl, hb6⟩
         rw [Hu.out]
         have hIus_6 := hIus_5.upto hb6
         have hIvs_6 := hIvs_5.upto hb6
         have hIsm_6 := hIsm_5.upto hb6
         have hIpr_6 := hIpr_5.upto hb6
         have hF_6 := hF_5.below hb6 hF_5.lt
         have hcf_6 : w6.cell? ⟨w3.heap.size, 0, none⟩ = some (.int .i64 p) := (hF_6.cell 0).trans rfl
         have hbb6 := bnext hbb5 hb6
         clear hIus_5 hIvs_5 hIsm_5 hIpr_5 hF_5 hcf_5 hbb5)
      | (go_at_call 38; (with_reducible refine (pvalue_ok p y A2 n2 c2 vs w6 HO.out hIvs_6 HPvs.out hy (by omega)).mono ?_); rintro e w7 ⟨rfl, hb7⟩
         rw [Hv.out]
         have hIus_7 := hIus_6.upto hb7
         have hIvs_7 := hIvs_6.upto hb7
         have hIsm_7 := hIsm_6.upto hb7
         have hIpr_7 := hIpr_6.upto hb7
         have hF_7 := hF_6.below hb7 hF_6.lt
         have hcf_7 : w7.cell? ⟨w3.heap.size, 0, none⟩ = some (.int .i64 p) := (hF_7.cell 0).trans rfl
         have hbb7 := bnext hbb6 hb7
         clear hIus_6 hIvs_6 hIsm_6 hIpr_6 hF_6 hcf_6 hbb6)
      | (go_at_call 38; (with_reducible refine (pvalue_ok p y Asm sm.length csm sm w7 HO.out hIsm_7 HPsm.out hy (by omega)).mono ?_); rintro e w8 ⟨rfl, hb8⟩
         rw [Hm.out]
         have hIus_8 := hIus_7.upto hb8
         have hIvs_8 := hIvs_7.upto hb8
         have hIsm_8 := hIsm_7.upto hb8
         have hIpr_8 := hIpr_7.upto hb8
         have hF_8 := hF_7.below hb8 hF_7.lt
         have hcf_8 : w8.cell? ⟨w3.heap.size, 0, none⟩ = some (.int .i64 p) := (hF_8.cell 0).trans rfl
         have hbb8 := bnext hbb7 hb8
         clear hIus_7 hIvs_7 hIsm_7 hIpr_7 hF_7 hcf_7 hbb7)
      | (go_at_call 38; (with_reducible refine (pvalue_ok p y Apr pr.length cpr pr w8 HO.out hIpr_8 HPpr.out hy (by omega)).mono ?_); rintro e w9 ⟨rfl, hb9⟩
         rw [Hk.out]
         have hIus_9 := hIus_8.upto hb9
         have hIvs_9 := hIvs_8.upto hb9
         have hIsm_9 := hIsm_8.upto hb9
         have hIpr_9 := hIpr_8.upto hb9
         have hF_9 := hF_8.below hb9 hF_8.lt
         have hcf_9 : w9.cell? ⟨w3.heap.size, 0, none⟩ = some (.int .i64 p) := (hF_9.cell 0).trans rfl
         have hbb9 := bnext hbb8 hb9
         clear hIus_8 hIvs_8 hIsm_8 hIpr_8 hF_8 hcf_8 hbb8))
    go_ret
    exact ⟨rfl, hbb9⟩
  · have hd : decide (n ≤ 500) = false := by simpa using hn
    go_enter Try.func10, Try.ntmps10
    go_wp2_with (first
      | (go_at_call 35; refine (sane05_any _).mono ?_; rintro e w1 ⟨rfl, hb1⟩)
      | (go_at_call 14; refine (few_any A n c _).mono ?_; rintro e w' ⟨rfl, rfl⟩))
    go_ret
    exact ⟨rfl, hb1⟩
end Go.Proofs.Ytpkieikiakikmaa
