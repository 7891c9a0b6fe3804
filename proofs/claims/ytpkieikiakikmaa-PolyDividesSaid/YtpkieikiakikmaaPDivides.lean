/-
  PolyDivides returns true: the walk of the law. Conditions: none beyond the reading of its arguments.
-/
import Derived.Test.YtpkieikiakikmaaP05
import Derived.Test.YtpkieikiakikmaaDivide
import Derived.Deep.QuietTactic
import Derived.BigQuiet
namespace Go.Proofs.Ytpkieikiakikmaa
open Go.RowKit
set_option linter.unusedVariables false

set_option maxHeartbeats 3200000 in
set_option maxRecDepth 100000 in
theorem polyDivides_walk (A : Option Addr) (n c : Nat) (zs : List Int) (w : World) (w0 : IsRow .i64 w A n c zs) :
    Calls Try.prog 11 #[.slice A n c] w fun e w' => e = .returned (.bool true) ∧ Below w.heap.size w w' := by
  obtain ⟨h, hw⟩ := w0.ints
  generalize zs.take n = xs at h hw
  clear w0
  by_cases hn : n ≤ 500
  · have hd : decide (n ≤ 500) = true := by simpa using hn
    go_enter Try.func11, Try.ntmps11
    go_wp2_with (first
      | (go_at_call 35; refine (sane05_any _).mono ?_; rintro e w1 ⟨rfl, hb1⟩)
      | (go_at_call 14; refine (few_any A n c _).mono ?_; rintro e w' ⟨rfl, rfl⟩)
      | (go_at_call 15; refine (new_any A n c xs _ (h.upto hb1) hn).mono ?_; rintro e w2 ⟨⟨g, rfl, hge, hD2⟩, hb2⟩
         have hbb2 := bnext hb1 hb2
         have hg : w.heap.size ≤ g := by rw [hge]; exact hb1.size
         clear hge)
      | (go_at_call 45; refine (two05_any g A n c xs _ _ hD2).mono ?_; rintro e w3 ⟨p, A1, n1, c1, us, A2, n2, c2, vs, q3, rfl, hok, hl1, hl2, hown1, hown2, hX, hY, hD3, hS3⟩
         have hp := okP_pos hok
         have HO := Lib.hid hok
         have HPus := Lib.hid hX
         have HPvs := Lib.hid hY
         have hcus := hown1.cap
         have hcvs := hown2.cap
         have hbb3 := ballocs (Step.below hbb2 hS3 hbb2.size hg) (.cells #[.int .i64 p] 47)
         have hF_3 := Blk.new w3 47 #[.int .i64 p]
         have hcf_3 : (w3.alloc (.cells #[.int .i64 p] 47)).cell? ⟨w3.heap.size, 0, none⟩ = some (.int .i64 p) := (hF_3.cell 0).trans rfl
         have hIus_3 := hown1.ints.upto (bbox (.cells #[.int .i64 p] 47))
         have hIvs_3 := hown2.ints.upto (bbox (.cells #[.int .i64 p] 47))
         have HUL := Lib.hid hown1.len
         have HVL := Lib.hid hown2.len
         clear hok hX hY hD2 hD3 hS3 hbb2 hb1 hb2 hown1 hown2))
    have hnb2 := tn_le vs n2
    obtain ⟨nb, HNB⟩ : ∃ nb, Hid (tn vs n2 = nb) := ⟨_, Lib.hid rfl⟩
    rw [HNB.out] at hnb2
    by_cases hz : nb = 0
    · subst hz
      go_wp2_with (first
      | (go_at_call 44; (with_reducible refine (pdeg_ok p A2 n2 c2 vs (w3.alloc (.cells #[.int .i64 p] 47)) HO.out hIvs_3 HPvs.out hcvs (by omega)).mono ?_); rintro e w4 ⟨rfl, hb4⟩
         rw [HNB.out]
         have hIus_4 := hIus_3.upto hb4
         have hIvs_4 := hIvs_3.upto hb4
         have hF_4 := hF_3.below hb4 hF_3.lt
         have hcf_4 : w4.cell? ⟨w3.heap.size, 0, none⟩ = some (.int .i64 p) := (hF_4.cell 0).trans rfl
         have hbb4 := bnext hbb3 hb4
         clear hIus_3 hIvs_3 hF_3 hcf_3 hbb3)
      | (go_at_call 47; (with_reducible refine (pdivide_zero p A1 A2 n1 n2 c1 c2 us vs w4 HO.out hIus_4 hIvs_4 HPus.out HPvs.out hcus hcvs (by omega) (by omega) HNB.out).mono ?_); rintro e w5 ⟨rfl, hb5⟩
         have hbb5 := bnext hbb4 hb5))
      go_ret
      exact ⟨rfl, hbb5⟩
    · have hnb : ¬ ((nb : Int) - 1 < 0) := by omega
      obtain ⟨tw, Htw⟩ : ∃ tw, Hid (trimL us = tw) := ⟨_, Lib.hid rfl⟩
      have HTL : Hid (tn us n1 = tw.length) := Lib.hid (by rw [← Htw.out, trimL_len, HUL.out])
      have htl := tn_le us n1
      rw [HTL.out] at htl
      obtain ⟨xx, Hxx⟩ : ∃ xx, Hid (mulL p us vs = xx) := ⟨_, Lib.hid rfl⟩
      have HPxx : Hid (allP p xx = true) := Lib.hid (by rw [← Hxx.out]; exact mulL_allP hp.1 _ _)
      have hlxx := mulL_len_le p us vs
      rw [Hxx.out, HUL.out, HVL.out] at hlxx
      clear hz
      go_wp2_with (first
      | (go_at_call 44; (with_reducible refine (pdeg_ok p A2 n2 c2 vs (w3.alloc (.cells #[.int .i64 p] 47)) HO.out hIvs_3 HPvs.out hcvs (by omega)).mono ?_); rintro e w4 ⟨rfl, hb4⟩
         rw [HNB.out]
         have hIus_4 := hIus_3.upto hb4
         have hIvs_4 := hIvs_3.upto hb4
         have hF_4 := hF_3.below hb4 hF_3.lt
         have hcf_4 : w4.cell? ⟨w3.heap.size, 0, none⟩ = some (.int .i64 p) := (hF_4.cell 0).trans rfl
         have hbb4 := bnext hbb3 hb4
         clear hIus_3 hIvs_3 hF_3 hcf_3 hbb3)
      | (go_at_call 47; (with_reducible refine (pdivide_ok p A1 A2 n1 n2 c1 c2 us vs w4 HO.out hIus_4 hIvs_4 HPus.out HPvs.out hcus hcvs (by omega) (by omega) (by rw [HNB.out]; omega)).mono ?_); rintro e w5 ⟨⟨qq, rr, Aqq, capqq, Arr, caprr, rfl, hownqq, hownrr, hdivqq, hlenqq⟩, hb5⟩
         have hIus_5 := hIus_4.upto hb5
         have hIvs_5 := hIvs_4.upto hb5
         have hF_5 := hF_4.below hb5 hF_4.lt
         have hcf_5 : w5.cell? ⟨w3.heap.size, 0, none⟩ = some (.int .i64 p) := (hF_5.cell 0).trans rfl
         have hbb5 := bnext hbb4 hb5
         clear hIus_4 hIvs_4 hF_4 hcf_4 hbb4
         have hIqq_5 := hownqq.ints
         have hIrr_5 := hownrr.ints
         have hcqq := hownqq.cap
         have hcrr := hownrr.cap
         have HBK := Lib.hid (hdivqq.back hp.1 HPus.out)
         have HPqq := Lib.hid hdivqq.aq
         have HPrr := Lib.hid hdivqq.ar
         have hrl : rr.length < nb := by have := hdivqq.ln; rw [HVL.out, HNB.out] at this; exact this
         have HRT : Hid (tn rr rr.length = rr.length) := Lib.hid (by have := trimL_len rr; rw [hdivqq.tr.trimL] at this; exact this.symm)
         obtain ⟨pp, Hpp⟩ : ∃ pp, Hid (mulL p qq vs = pp) := ⟨_, Lib.hid rfl⟩
         rw [Hpp.out] at HBK
         have HPpp : Hid (allP p pp = true) := Lib.hid (by rw [← Hpp.out]; exact mulL_allP hp.1 _ _)
         have hlpp := mulL_len_le p qq vs
         rw [Hpp.out, HVL.out] at hlpp
         obtain ⟨ss, Hss⟩ : ∃ ss, Hid (addL p pp rr = ss) := ⟨_, Lib.hid rfl⟩
         have hlss := addL_len_le p pp rr
         rw [Hss.out] at HBK hlss
         have HEss : Hid (sameL ss tw = true) := Lib.hid (sameL_iff.2 (by rw [← Htw.out]; exact HBK.out))
         have hrn : (rr.length : Int) - 1 < (nb : Int) - 1 := by omega
         clear hownqq hownrr hdivqq)
      | (go_at_call 43; (with_reducible refine (pmul_ok p Aqq A2 qq.length n2 capqq c2 qq vs w5 HO.out hIqq_5 hIvs_5 HPqq.out HPvs.out hcqq hcvs (by omega)).mono ?_); rintro e w6 ⟨⟨App, cappp, rfl, hownpp⟩, hb6⟩
         rw [Hpp.out] at hownpp
         rw [Hpp.out]
         have hIus_6 := hIus_5.upto hb6
         have hIvs_6 := hIvs_5.upto hb6
         have hIqq_6 := hIqq_5.upto hb6
         have hIrr_6 := hIrr_5.upto hb6
         have hF_6 := hF_5.below hb6 hF_5.lt
         have hcf_6 : w6.cell? ⟨w3.heap.size, 0, none⟩ = some (.int .i64 p) := (hF_6.cell 0).trans rfl
         have hbb6 := bnext hbb5 hb6
         clear hIus_5 hIvs_5 hIqq_5 hIrr_5 hF_5 hcf_5 hbb5
         have hIpp_6 := hownpp.ints
         have hcpp := hownpp.cap
         clear hownpp)
      | (go_at_call 46; (with_reducible refine (padd_ok p App Arr pp.length rr.length cappp caprr pp rr w6 HO.out hIpp_6 hIrr_6 HPpp.out HPrr.out (by omega) (by omega)).mono ?_); rintro e w7 ⟨⟨Ass, capss, rfl, hownss⟩, hb7⟩
         rw [Hss.out] at hownss
         rw [Hss.out]
         have hIus_7 := hIus_6.upto hb7
         have hIvs_7 := hIvs_6.upto hb7
         have hIqq_7 := hIqq_6.upto hb7
         have hIrr_7 := hIrr_6.upto hb7
         have hIpp_7 := hIpp_6.upto hb7
         have hF_7 := hF_6.below hb7 hF_6.lt
         have hcf_7 : w7.cell? ⟨w3.heap.size, 0, none⟩ = some (.int .i64 p) := (hF_7.cell 0).trans rfl
         have hbb7 := bnext hbb6 hb7
         clear hIus_6 hIvs_6 hIqq_6 hIrr_6 hIpp_6 hF_6 hcf_6 hbb6
         have hIss_7 := hownss.ints
         have hcss := hownss.cap
         clear hownss)
      | (go_at_call 40; (with_reducible refine (ptrim_ok p A1 n1 c1 us w7 HO.out hIus_7 HPus.out hcus (by omega)).mono ?_); rintro e w8 ⟨⟨Atw, captw, rfl, howntw⟩, hb8⟩
         rw [HTL.out, Htw.out] at howntw
         rw [HTL.out]
         have hIus_8 := hIus_7.upto hb8
         have hIvs_8 := hIvs_7.upto hb8
         have hIqq_8 := hIqq_7.upto hb8
         have hIrr_8 := hIrr_7.upto hb8
         have hIpp_8 := hIpp_7.upto hb8
         have hIss_8 := hIss_7.upto hb8
         have hF_8 := hF_7.below hb8 hF_7.lt
         have hcf_8 : w8.cell? ⟨w3.heap.size, 0, none⟩ = some (.int .i64 p) := (hF_8.cell 0).trans rfl
         have hbb8 := bnext hbb7 hb8
         clear hIus_7 hIvs_7 hIqq_7 hIrr_7 hIpp_7 hIss_7 hF_7 hcf_7 hbb7
         have hItw_8 := howntw.ints
         clear howntw)
      | (go_at_call 44; (with_reducible refine (pdeg_ok p Arr rr.length caprr rr w8 HO.out hIrr_8 HPrr.out hcrr (by omega)).mono ?_); rintro e w9 ⟨rfl, hb9⟩
         rw [HRT.out]
         have hIus_9 := hIus_8.upto hb9
         have hIvs_9 := hIvs_8.upto hb9
         have hIqq_9 := hIqq_8.upto hb9
         have hIrr_9 := hIrr_8.upto hb9
         have hIpp_9 := hIpp_8.upto hb9
         have hIss_9 := hIss_8.upto hb9
         have hItw_9 := hItw_8.upto hb9
         have hF_9 := hF_8.below hb9 hF_8.lt
         have hcf_9 : w9.cell? ⟨w3.heap.size, 0, none⟩ = some (.int .i64 p) := (hF_9.cell 0).trans rfl
         have hbb9 := bnext hbb8 hb9
         clear hIus_8 hIvs_8 hIqq_8 hIrr_8 hIpp_8 hIss_8 hItw_8 hF_8 hcf_8 hbb8)
      | (go_at_call 43; (with_reducible refine (pmul_ok p A1 A2 n1 n2 c1 c2 us vs w9 HO.out hIus_9 hIvs_9 HPus.out HPvs.out hcus hcvs (by omega)).mono ?_); rintro e w10 ⟨⟨Axx, capxx, rfl, hownxx⟩, hb10⟩
         rw [Hxx.out] at hownxx
         rw [Hxx.out]
         have hIus_10 := hIus_9.upto hb10
         have hIvs_10 := hIvs_9.upto hb10
         have hIqq_10 := hIqq_9.upto hb10
         have hIrr_10 := hIrr_9.upto hb10
         have hIpp_10 := hIpp_9.upto hb10
         have hIss_10 := hIss_9.upto hb10
         have hItw_10 := hItw_9.upto hb10
         have hF_10 := hF_9.below hb10 hF_9.lt
         have hcf_10 : w10.cell? ⟨w3.heap.size, 0, none⟩ = some (.int .i64 p) := (hF_10.cell 0).trans rfl
         have hbb10 := bnext hbb9 hb10
         clear hIus_9 hIvs_9 hIqq_9 hIrr_9 hIpp_9 hIss_9 hItw_9 hF_9 hcf_9 hbb9
         have hIxx_10 := hownxx.ints
         have hcxx := hownxx.cap
         clear hownxx)
      | (go_at_call 47; (with_reducible refine (pdivide_ok p Axx A2 xx.length n2 capxx c2 xx vs w10 HO.out hIxx_10 hIvs_10 HPxx.out HPvs.out hcxx hcvs (by omega) (by omega) (by rw [HNB.out]; omega)).mono ?_); rintro e w11 ⟨⟨yy, zz, Ayy, capyy, Azz, capzz, rfl, hownyy, hownzz, hdivyy, hlenyy⟩, hb11⟩
         have hIus_11 := hIus_10.upto hb11
         have hIvs_11 := hIvs_10.upto hb11
         have hIqq_11 := hIqq_10.upto hb11
         have hIrr_11 := hIrr_10.upto hb11
         have hIpp_11 := hIpp_10.upto hb11
         have hIss_11 := hIss_10.upto hb11
         have hItw_11 := hItw_10.upto hb11
         have hIxx_11 := hIxx_10.upto hb11
         have hF_11 := hF_10.below hb11 hF_10.lt
         have hcf_11 : w11.cell? ⟨w3.heap.size, 0, none⟩ = some (.int .i64 p) := (hF_11.cell 0).trans rfl
         have hbb11 := bnext hbb10 hb11
         clear hIus_10 hIvs_10 hIqq_10 hIrr_10 hIpp_10 hIss_10 hItw_10 hIxx_10 hF_10 hcf_10 hbb10
         have hIyy_11 := hownyy.ints
         have hIzz_11 := hownzz.ints
         have hcyy := hownyy.cap
         have hczz := hownzz.cap
         have HEX := Lib.hid (DivOf.exact_ HO.out HPus.out HPvs.out (by rw [Hxx.out]; exact hdivyy))
         have hzz := HEX.out.2
         subst hzz
         have HEyy : Hid (sameL yy tw = true) := Lib.hid (sameL_iff.2 (by rw [← Htw.out]; exact HEX.out.1))
         clear hownyy hownzz hdivyy)
      | (go_at_call 41; (with_reducible refine (same_any Ass Atw ss.length tw.length capss captw ss tw _ (hIss_11) (hItw_11) (by omega) (by omega)).mono ?_); rintro e w' ⟨rfl, qss, rfl⟩
         rw [HEss.out])
      | (go_at_call 41; (with_reducible refine (same_any Ayy Atw yy.length tw.length capyy captw yy tw _ (hIyy_11.drewN (qss)) (hItw_11.drewN (qss)) (by omega) (by omega)).mono ?_); rintro e w' ⟨rfl, qyy, rfl⟩
         rw [HEyy.out]))
      go_ret
      exact ⟨rfl, below_drewN hbb11 _⟩
  · have hd : decide (n ≤ 500) = false := by simpa using hn
    go_enter Try.func11, Try.ntmps11
    go_wp2_with (first
      | (go_at_call 35; refine (sane05_any _).mono ?_; rintro e w1 ⟨rfl, hb1⟩)
      | (go_at_call 14; refine (few_any A n c _).mono ?_; rintro e w' ⟨rfl, rfl⟩))
    go_ret
    exact ⟨rfl, hb1⟩
end Go.Proofs.Ytpkieikiakikmaa
