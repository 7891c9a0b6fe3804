/-
  PolyCommutes returns true: the walk of the law. Conditions: none beyond the reading of its arguments.
-/
import Derived.Test.YtpkieikiakikmaaP05
import Derived.Deep.QuietTactic
import Derived.BigQuiet
import Derived.Deep.RegionHeld3
namespace Go.Proofs.Ytpkieikiakikmaa
open Go.RowKit
set_option linter.unusedVariables false

set_option maxHeartbeats 3200000 in
set_option maxRecDepth 100000 in
theorem polyCommutes_walk (A : Option Addr) (n c : Nat) (zs : List Int) (w : World) (w0 : IsRow .i64 w A n c zs) :
    Calls Try.prog 9 #[.slice A n c] w fun e w' => e = .returned (.bool true) ∧ Below w.heap.size w w' := by
  obtain ⟨h, hw⟩ := w0.ints
  generalize zs.take n = xs at h hw
  clear w0
  by_cases hn : n ≤ 500
  · have hd : decide (n ≤ 500) = true := by simpa using hn
    go_enter Try.func9, Try.ntmps9
    go_wp2_with (first
      | (go_at_call 35; refine (sane05_any _).mono ?_; rintro e w1 ⟨rfl, hb1⟩)
      | (go_at_call 14; refine (few_any A n c _).mono ?_; rintro e w' ⟨rfl, rfl⟩)
      | (go_at_call 15; refine (new_any A n c xs _ (h.upto hb1) hn).mono ?_; rintro e w2 ⟨⟨g, rfl, hge, hD2⟩, hb2⟩
         have hbb2 := bnext hb1 hb2
         have hg : w.heap.size ≤ g := by rw [hge]; exact hb1.size
         clear hge)
      | (go_at_call 45; refine (two05_any g A n c xs _ _ hD2).mono ?_; rintro e w3 ⟨p, A1, n1, c1, us, A2, n2, c2, vs, q3, rfl, hok, hl1, hl2, hown1, hown2, hX, hY, hD3, hS3⟩
         have hp := okP_pos hok
         have HO := Lib.hid hok
         have HPus := Lib.hid hX
         have HPvs := Lib.hid hY
         have hcus := hown1.cap
         have hcvs := hown2.cap
         have hbb3 := ballocs (Step.below hbb2 hS3 hbb2.size hg) (.cells #[.int .i64 p] 47)
         have hF_3 := Blk.new w3 47 #[.int .i64 p]
         have hcf_3 : (w3.alloc (.cells #[.int .i64 p] 47)).cell? ⟨w3.heap.size, 0, none⟩ = some (.int .i64 p) := (hF_3.cell 0).trans rfl
         have hD3' := hD3.alloc (.cells #[.int .i64 p] 47)
         have hgf : w3.heap.size ≠ g := by have := hD3.1.lt; omega
         have hg2 := hD2.1.lt
         have hO1 := (hown1.alloc (.cells #[.int .i64 p] 47)).drew
         have hO2 := (hown2.alloc (.cells #[.int .i64 p] 47)).drew
         have hsz2 := World.grownBy.size hS3
         clear hok hX hY hD2 hD3 hS3 hbb2 hb1 hb2 hown1 hown2))
    go_region_held3 (fun w' => w'.cell? ⟨w3.heap.size, 0, none⟩ = some (.int .i64 p)) (first | exact hcf_3 | exact hc4 | exact hcf_5)
      (first
        | (go_at_call 19; refine (next_any g A n c xs q3 6 _ hD3'.drew (by omega)).mono ?_; rintro e w4 ⟨r', q4, rfl, hr, hr0, hD4, hS4, hz4⟩
           obtain ⟨n3, rfl⟩ : ∃ r : Nat, r' = r := ⟨r'.toNat, by have := hr (by omega); omega⟩
           have hn3 : n3 < 6 := by have := hr (by omega); omega
           have hF4 := Step.block hS4 hF_3.drew hgf
           have hc4 : w4.cell? ⟨w3.heap.size, 0, none⟩ = some (.int .i64 p) := (hF4.cell 0).trans rfl
           clear hr hr0 hz4)
        | (go_at_call 30; (with_reducible refine (elements_any g A n c xs q4 p n3 w4 hD4 hp (by omega)).mono ?_); rintro e w5 ⟨A3, c3, cs, q5, rfl, hown5, hZ, hD5, hS5⟩
           have hF_5 := Step.block hS5 hF4 hgf
           have hcf_5 : w5.cell? ⟨w3.heap.size, 0, none⟩ = some (.int .i64 p) := (hF_5.cell 0).trans rfl
           have hbd := hbb3.drew
           have hbd4 := Step.below hbd hS4 hbd.size hg
           have hbb5 := Step.below hbd4 hS5 hbd4.size hg
           have hO1' := (hO1.step hS4 hg2).step hS5 hg2
           have hO2' := (hO2.step hS4 hg2).step hS5 hg2
           have hul := hO1'.len
           have hvl := hO2'.len
           have hcl := hown5.len
           have hIus_5 := hO1'.ints
           have hIvs_5 := hO2'.ints
           have hIcs_5 := hown5.ints
           have hccs := hown5.cap
           have HPcs := Lib.hid hZ
           have hb5 : True := trivial))
    obtain ⟨s, Hs⟩ : ∃ s, Hid (addL p us vs = s) := ⟨_, Lib.hid rfl⟩
    have HPs : Hid (allP p s = true) := Lib.hid (by rw [← Hs.out]; exact addL_allP hp.1 _ _)
    have hls := addL_len_le p us vs
    rw [Hs.out, hul, hvl] at hls
    obtain ⟨u, Hu⟩ : ∃ u, Hid (addL p vs us = u) := ⟨_, Lib.hid rfl⟩
    have HPu : Hid (allP p u = true) := Lib.hid (by rw [← Hu.out]; exact addL_allP hp.1 _ _)
    have hlu := addL_len_le p vs us
    rw [Hu.out, hul, hvl] at hlu
    obtain ⟨pr, Hpr⟩ : ∃ pr, Hid (mulL p us vs = pr) := ⟨_, Lib.hid rfl⟩
    have HPpr : Hid (allP p pr = true) := Lib.hid (by rw [← Hpr.out]; exact mulL_allP hp.1 _ _)
    have hlpr := mulL_len_le p us vs
    rw [Hpr.out, hul, hvl] at hlpr
    obtain ⟨qr, Hqr⟩ : ∃ qr, Hid (mulL p vs us = qr) := ⟨_, Lib.hid rfl⟩
    have HPqr : Hid (allP p qr = true) := Lib.hid (by rw [← Hqr.out]; exact mulL_allP hp.1 _ _)
    have hlqr := mulL_len_le p vs us
    rw [Hqr.out, hul, hvl] at hlqr
    obtain ⟨x, Hx⟩ : ∃ x, Hid (mulL p s cs = x) := ⟨_, Lib.hid rfl⟩
    have HPx : Hid (allP p x = true) := Lib.hid (by rw [← Hx.out]; exact mulL_allP hp.1 _ _)
    have hlx := mulL_len_le p s cs
    rw [Hx.out, hcl] at hlx
    obtain ⟨y, Hy⟩ : ∃ y, Hid (mulL p us cs = y) := ⟨_, Lib.hid rfl⟩
    have HPy : Hid (allP p y = true) := Lib.hid (by rw [← Hy.out]; exact mulL_allP hp.1 _ _)
    have hly := mulL_len_le p us cs
    rw [Hy.out, hul, hcl] at hly
    obtain ⟨z, Hz⟩ : ∃ z, Hid (mulL p vs cs = z) := ⟨_, Lib.hid rfl⟩
    have HPz : Hid (allP p z = true) := Lib.hid (by rw [← Hz.out]; exact mulL_allP hp.1 _ _)
    have hlz := mulL_len_le p vs cs
    rw [Hz.out, hvl, hcl] at hlz
    obtain ⟨t, Ht⟩ : ∃ t, Hid (addL p y z = t) := ⟨_, Lib.hid rfl⟩
    have HPt : Hid (allP p t = true) := Lib.hid (by rw [← Ht.out]; exact addL_allP hp.1 _ _)
    have hlt := addL_len_le p y z
    rw [Ht.out] at hlt
    have HEs : Hid (sameL s u = true) := Lib.hid (sameL_iff.2 (by rw [← Hs.out, ← Hu.out]; exact addL_comm p us vs))
    have HEpr : Hid (sameL pr qr = true) := Lib.hid (sameL_iff.2 (by rw [← Hpr.out, ← Hqr.out]; exact mulL_comm HO.out HPus.out HPvs.out))
    have HEx : Hid (sameL x t = true) := Lib.hid (sameL_iff.2 (by rw [← Hx.out, ← Ht.out, ← Hy.out, ← Hz.out, ← Hs.out]; exact mulL_add HO.out HPus.out HPvs.out HPcs.out))
    clear hZ hD4 hD5 hS4 hS5 hO1 hO2 hO1' hO2' hown5 hbb3 hF_3 hcf_3 hF4 hc4 hD3' hul hvl hcl
    go_wp2_with (first
      | (go_at_call 46; (with_reducible refine (padd_ok p A1 A2 n1 n2 c1 c2 us vs w5 HO.out hIus_5 hIvs_5 HPus.out HPvs.out (by omega) (by omega)).mono ?_); rintro e w6 ⟨⟨As, caps, rfl, howns⟩, hb6⟩
         rw [Hs.out] at howns
         rw [Hs.out]
         have hIus_6 := hIus_5.upto hb6
         have hIvs_6 := hIvs_5.upto hb6
         have hIcs_6 := hIcs_5.upto hb6
         have hF_6 := hF_5.below hb6 hF_5.lt
         have hcf_6 : w6.cell? ⟨w3.heap.size, 0, none⟩ = some (.int .i64 p) := (hF_6.cell 0).trans rfl
         have hbb6 := bnext hbb5 hb6
         clear hIus_5 hIvs_5 hIcs_5 hF_5 hcf_5 hbb5
         have hIs_6 := howns.ints
         have hcs := howns.cap
         clear howns)
      | (go_at_call 46; (with_reducible refine (padd_ok p A2 A1 n2 n1 c2 c1 vs us w6 HO.out hIvs_6 hIus_6 HPvs.out HPus.out (by omega) (by omega)).mono ?_); rintro e w7 ⟨⟨Au, capu, rfl, hownu⟩, hb7⟩
         rw [Hu.out] at hownu
         rw [Hu.out]
         have hIus_7 := hIus_6.upto hb7
         have hIvs_7 := hIvs_6.upto hb7
         have hIcs_7 := hIcs_6.upto hb7
         have hIs_7 := hIs_6.upto hb7
         have hF_7 := hF_6.below hb7 hF_6.lt
         have hcf_7 : w7.cell? ⟨w3.heap.size, 0, none⟩ = some (.int .i64 p) := (hF_7.cell 0).trans rfl
         have hbb7 := bnext hbb6 hb7
         clear hIus_6 hIvs_6 hIcs_6 hIs_6 hF_6 hcf_6 hbb6
         have hIu_7 := hownu.ints
         have hcu := hownu.cap
         clear hownu)
      | (go_at_call 43; (with_reducible refine (pmul_ok p A1 A2 n1 n2 c1 c2 us vs w7 HO.out hIus_7 hIvs_7 HPus.out HPvs.out hcus hcvs (by omega)).mono ?_); rintro e w8 ⟨⟨Apr, cappr, rfl, hownpr⟩, hb8⟩
         rw [Hpr.out] at hownpr
         rw [Hpr.out]
         have hIus_8 := hIus_7.upto hb8
         have hIvs_8 := hIvs_7.upto hb8
         have hIcs_8 := hIcs_7.upto hb8
         have hIs_8 := hIs_7.upto hb8
         have hIu_8 := hIu_7.upto hb8
         have hF_8 := hF_7.below hb8 hF_7.lt
         have hcf_8 : w8.cell? ⟨w3.heap.size, 0, none⟩ = some (.int .i64 p) := (hF_8.cell 0).trans rfl
         have hbb8 := bnext hbb7 hb8
         clear hIus_7 hIvs_7 hIcs_7 hIs_7 hIu_7 hF_7 hcf_7 hbb7
         have hIpr_8 := hownpr.ints
         have hcpr := hownpr.cap
         clear hownpr)
      | (go_at_call 43; (with_reducible refine (pmul_ok p A2 A1 n2 n1 c2 c1 vs us w8 HO.out hIvs_8 hIus_8 HPvs.out HPus.out hcvs hcus (by omega)).mono ?_); rintro e w9 ⟨⟨Aqr, capqr, rfl, hownqr⟩, hb9⟩
         rw [Hqr.out] at hownqr
         rw [Hqr.out]
         have hIus_9 := hIus_8.upto hb9
         have hIvs_9 := hIvs_8.upto hb9
         have hIcs_9 := hIcs_8.upto hb9
         have hIs_9 := hIs_8.upto hb9
         have hIu_9 := hIu_8.upto hb9
         have hIpr_9 := hIpr_8.upto hb9
         have hF_9 := hF_8.below hb9 hF_8.lt
         have hcf_9 : w9.cell? ⟨w3.heap.size, 0, none⟩ = some (.int .i64 p) := (hF_9.cell 0).trans rfl
         have hbb9 := bnext hbb8 hb9
         clear hIus_8 hIvs_8 hIcs_8 hIs_8 hIu_8 hIpr_8 hF_8 hcf_8 hbb8
         have hIqr_9 := hownqr.ints
         have hcqr := hownqr.cap
         clear hownqr)
      | (go_at_call 43; (with_reducible refine (pmul_ok p As A3 s.length n3 caps c3 s cs w9 HO.out hIs_9 hIcs_9 HPs.out HPcs.out hcs hccs (by omega)).mono ?_); rintro e w10 ⟨⟨Ax, capx, rfl, hownx⟩, hb10⟩
         rw [Hx.out] at hownx
         rw [Hx.out]
         have hIus_10 := hIus_9.upto hb10
         have hIvs_10 := hIvs_9.upto hb10
         have hIcs_10 := hIcs_9.upto hb10
         have hIs_10 := hIs_9.upto hb10
         have hIu_10 := hIu_9.upto hb10
         have hIpr_10 := hIpr_9.upto hb10
         have hIqr_10 := hIqr_9.upto hb10
         have hF_10 := hF_9.below hb10 hF_9.lt
         have hcf_10 : w10.cell? ⟨w3.heap.size, 0, none⟩ = some (.int .i64 p) := (hF_10.cell 0).trans rfl
         have hbb10 := bnext hbb9 hb10
         clear hIus_9 hIvs_9 hIcs_9 hIs_9 hIu_9 hIpr_9 hIqr_9 hF_9 hcf_9 hbb9
         have hIx_10 := hownx.ints
         have hcx := hownx.cap
         clear hownx)
      | (go_at_call 43; (with_reducible refine (pmul_ok p A1 A3 n1 n3 c1 c3 us cs w10 HO.out hIus_10 hIcs_10 HPus.out HPcs.out hcus hccs (by omega)).mono ?_); rintro e w11 ⟨⟨Ay, capy, rfl, howny⟩, hb11⟩
         rw [Hy.out] at howny
         rw [Hy.out]
         have hIus_11 := hIus_10.upto hb11
         have hIvs_11 := hIvs_10.upto hb11
         have hIcs_11 := hIcs_10.upto hb11
         have hIs_11 := hIs_10.upto hb11
         have hIu_11 := hIu_10.upto hb11
         have hIpr_11 := hIpr_10.upto hb11
         have hIqr_11 := hIqr_10.upto hb11
         have hIx_11 := hIx_10.upto hb11
         have hF_11 := hF_10.below hb11 hF_10.lt
         have hcf_11 : w11.cell? ⟨w3.heap.size, 0, none⟩ = some (.int .i64 p) := (hF_11.cell 0).trans rfl
         have hbb11 := bnext hbb10 hb11
         clear hIus_10 hIvs_10 hIcs_10 hIs_10 hIu_10 hIpr_10 hIqr_10 hIx_10 hF_10 hcf_10 hbb10
         have hIy_11 := howny.ints
         have hcy := howny.cap
         clear howny)
      | (go_at_call 43; (with_reducible refine (pmul_ok p A2 A3 n2 n3 c2 c3 vs cs w11 HO.out hIvs_11 hIcs_11 HPvs.out HPcs.out hcvs hccs (by omega)).mono ?_); rintro e w12 ⟨⟨Az, capz, rfl, hownz⟩, hb12⟩
         rw [Hz.out] at hownz
         rw [Hz.out]
         have hIus_12 := hIus_11.upto hb12
         have hIvs_12 := hIvs_11.upto hb12
         have hIcs_12 := hIcs_11.upto hb12
         have hIs_12 := hIs_11.upto hb12
         have hIu_12 := hIu_11.upto hb12
         have hIpr_12 := hIpr_11.upto hb12
         have hIqr_12 := hIqr_11.upto hb12
         have hIx_12 := hIx_11.upto hb12
         have hIy_12 := hIy_11.upto hb12
         have hF_12 := hF_11.below hb12 hF_11.lt
         have hcf_12 : w12.cell? ⟨w3.heap.size, 0, none⟩ = some (.int .i64 p) := (hF_12.cell 0).trans rfl
         have hbb12 := bnext hbb11 hb12
         clear hIus_11 hIvs_11 hIcs_11 hIs_11 hIu_11 hIpr_11 hIqr_11 hIx_11 hIy_11 hF_11 hcf_11 hbb11
         have hIz_12 := hownz.ints
         have hcz := hownz.cap
         clear hownz)
      | (go_at_call 46; (with_reducible refine (padd_ok p Ay Az y.length z.length capy capz y z w12 HO.out hIy_12 hIz_12 HPy.out HPz.out (by omega) (by omega)).mono ?_); rintro e w13 ⟨⟨At, capt, rfl, hownt⟩, hb13⟩
         rw [Ht.out] at hownt
         rw [Ht.out]
         have hIus_13 := hIus_12.upto hb13
         have hIvs_13 := hIvs_12.upto hb13
         have hIcs_13 := hIcs_12.upto hb13
         have hIs_13 := hIs_12.upto hb13
         have hIu_13 := hIu_12.upto hb13
         have hIpr_13 := hIpr_12.upto hb13
         have hIqr_13 := hIqr_12.upto hb13
         have hIx_13 := hIx_12.upto hb13
         have hIy_13 := hIy_12.upto hb13
         have hIz_13 := hIz_12.upto hb13
         have hF_13 := hF_12.below hb13 hF_12.lt
         have hcf_13 : w13.cell? ⟨w3.heap.size, 0, none⟩ = some (.int .i64 p) := (hF_13.cell 0).trans rfl
         have hbb13 := bnext hbb12 hb13
         clear hIus_12 hIvs_12 hIcs_12 hIs_12 hIu_12 hIpr_12 hIqr_12 hIx_12 hIy_12 hIz_12 hF_12 hcf_12 hbb12
         have hIt_13 := hownt.ints
         have hct := hownt.cap
         clear hownt)
      | (go_at_call 41; (with_reducible refine (same_any As Au s.length u.length caps capu s u _ (hIs_13) (hIu_13) (by omega) (by omega)).mono ?_); rintro e w' ⟨rfl, qs, rfl⟩
         rw [HEs.out])
      | (go_at_call 41; (with_reducible refine (same_any Apr Aqr pr.length qr.length cappr capqr pr qr _ (hIpr_13.drewN (qs)) (hIqr_13.drewN (qs)) (by omega) (by omega)).mono ?_); rintro e w' ⟨rfl, qpr, rfl⟩
         rw [HEpr.out])
      | (go_at_call 41; (with_reducible refine (same_any Ax At x.length t.length capx capt x t _ (hIx_13.drewN (qs + qpr)) (hIt_13.drewN (qs + qpr)) (by omega) (by omega)).mono ?_); rintro e w' ⟨rfl, qx, rfl⟩
         rw [HEx.out]))
    go_ret
    exact ⟨rfl, below_drewN hbb13 _⟩
  · have hd : decide (n ≤ 500) = false := by simpa using hn
    go_enter Try.func9, Try.ntmps9
    go_wp2_with (first
      | (go_at_call 35; refine (sane05_any _).mono ?_; rintro e w1 ⟨rfl, hb1⟩)
      | (go_at_call 14; refine (few_any A n c _).mono ?_; rintro e w' ⟨rfl, rfl⟩))
    go_ret
    exact ⟨rfl, hb1⟩
end Go.Proofs.Ytpkieikiakikmaa
