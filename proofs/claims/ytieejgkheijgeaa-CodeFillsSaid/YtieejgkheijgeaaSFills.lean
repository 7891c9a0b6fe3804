/-
  CodeFills returns true: the walk of the law. Conditions: none beyond the reading of its arguments.
-/
import Derived.Test.YtieejgkheijgeaaCode4
import Derived.Test.YtieejgkheijgeaaMCells
import Derived.Test.YtieejgkheijgeaaRightA
import Derived.Test.YtieejgkheijgeaaBig
import Derived.Test.YtieejgkheijgeaaShape
import Derived.Deep.QuietTactic
import Derived.BigQuiet
import Derived.Deep.RegionHeld3
import Derived.Deep.DeepCutAuto
namespace Go.Proofs.Ytieejgkheijgeaa
open Go.RowKit
set_option linter.unusedVariables false

set_option maxHeartbeats 6400000 in
set_option maxRecDepth 100000 in
theorem codeFills_walk (A : Option Addr) (n c : Nat) (zs : List Int) (w : World) (w0 : IsRow .i64 w A n c zs) :
    Calls Try.prog 11 #[.slice A n c] w fun e w' => e = .returned (.bool true) ∧ Below w.heap.size w w' := by
  obtain ⟨h, hw⟩ := w0.ints
  generalize zs.take n = xs at h hw
  clear w0
  by_cases hn : n ≤ 500
  · have hd : decide (n ≤ 500) = true := by simpa using hn
    go_enter Try.func11, Try.ntmps11
    go_upto_region 9 with (first
      | (go_at_call 35; refine (sane08_any _).mono ?_; rintro e w1 ⟨rfl, hb1⟩)
      | (go_at_call 14; refine (few_any A n c _).mono ?_; rintro e w' ⟨rfl, rfl⟩)
      | (go_at_call 15; refine (new_any A n c xs _ (h.upto hb1) hn).mono ?_; rintro e w2 ⟨⟨g, rfl, hge, hD2⟩, hb2⟩
         have hbb2 := bnext hb1 hb2
         have hg : w.heap.size ≤ g := by rw [hge]; exact hb1.size
         clear hge)
      | (go_at_call 16; refine (big_any g A n c xs _ 10 _ hD2 (by omega)).mono ?_; rintro e w3 ⟨p, q3, rfl, hkn, hp10, hD3, hS3⟩
         have hok := okP_known hkn
         have hp := okP_pos hok
         have HO := Lib.hid hok
         have hbb3 := ballocs (Step.below hbb2 hS3 hbb2.size hg) (.cells #[.int .i64 p] 28)
         have hF_3 := Blk.new w3 28 #[.int .i64 p]
         have hD3' := hD3.alloc (.cells #[.int .i64 p] 28)
         have hgf : w3.heap.size ≠ g := by have := hD3.1.lt; omega
         clear hok hkn hD2 hD3 hS3 hbb2 hb1 hb2)
      | (go_at_call 17; (with_reducible refine (next_any g A n c xs q4 N _ hD4 (by omega)).mono ?_); rintro e w5 ⟨r1, q5, rfl, hr1, _, hD5, hS5, hz5⟩
         obtain ⟨K, hK⟩ : ∃ K : Nat, 1 + r1 = K := ⟨(1 + r1).toNat, by have := hr1 (by omega); omega⟩
         have hK1 : 1 ≤ K ∧ K ≤ N := by have := hr1 (by omega); omega
         have hKw : IntKind.i64.wrap (1 + r1) = K := by rw [hK]; exact IntWalk.i64_in _ (by omega)
         have hF_5 := Step.block hS5 hF_4 hgf
         have hbb5 := Step.below hbb4 hS5 hbb4.size hg
         have hg5 := hD5.1.lt
         clear hr1 hz5 hS5)
      | (go_at_call 17; refine (next_any g A n c xs q3 10 _ hD3' (by omega)).mono ?_; rintro e w4 ⟨r', q4, rfl, hr, hr0, hD4, hS4, hz4⟩
         obtain ⟨N, hN⟩ : ∃ N : Nat, 1 + r' = N := ⟨(1 + r').toNat, by have := hr (by omega); omega⟩
         have hN8 : 1 ≤ N ∧ N ≤ 10 := by have := hr (by omega); omega
         have hNw : IntKind.i64.wrap (1 + r') = N := by rw [hN]; exact IntWalk.i64_in _ (by omega)
         have hF_4 := Step.block hS4 hF_3 hgf
         have hbb4 := Step.below hbb3 hS4 hbb3.size hg
         clear hr hr0 hz4 hS4))
    clear hF_3 hD3' hbb3 hF_4 hD4 hbb4 hNw hN hKw hK
    obtain ⟨K1, hK1e⟩ : ∃ K1 : Nat, K + 1 = K1 := ⟨_, rfl⟩
    have hK1w : IntKind.i64.wrap ((K : Int) + 1) = K1 := by rw [IntWalk.i64_in _ (by omega)]; omega
    obtain ⟨D0, hD0e⟩ : ∃ D0 : Nat, N - K = D0 := ⟨_, rfl⟩
    have hD0w : IntKind.i64.wrap ((N : Int) - (K : Int)) = D0 := by rw [IntWalk.i64_in _ (by omega)]; omega
    obtain ⟨D1, hD1e⟩ : ∃ D1 : Nat, D0 + 1 = D1 := ⟨_, rfl⟩
    have hD1w : IntKind.i64.wrap ((D0 : Int) + 1) = D1 := by rw [IntWalk.i64_in _ (by omega)]; omega
    have hD1N : D1 + K = N + 1 := by omega
    have hK1N : K1 = K + 1 := by omega
    have HK1 := Lib.hid hK1N
    have hD12 : 1 ≤ D1 ∧ D1 ≤ 10 := by omega
    have hK12 : 1 ≤ K1 ∧ K1 ≤ 11 := by omega
    clear hK1e hD0e hD1e hK1N
    have HFF : Hid (∀ wx, Step g w5 wx → wx.cell? ⟨w3.heap.size, 0, none⟩ = some (.int .i64 p)) := Lib.hid fun wx hx => ((Step.block hx hF_5 hgf).cell 0).trans rfl
    have hQ0 : Step g w5 w5.drew := (Step.refl g w5).drew
    have hD5d := hD5.drew
    go_region_held3 (fun w' => w'.cell? ⟨w3.heap.size, 0, none⟩ = some (.int .i64 p)) (first | exact HFF.out _ hQ0 | exact HFF.out _ hS6 | exact HFF.out _ hS7)
      (first
        | (go_at_call 36; (with_reducible refine (elements_any g A n c xs q6 p m1 _ hD6 hp (by omega)).mono ?_); rintro e w7 ⟨A7, c7, P, q7, rfl, hown7, hPa, hD7, hS7'⟩
           have hS7 := hS6.trans hS7')
        | (go_at_call 17; (with_reducible refine (next_any g A n c xs q5 K1 _ hD5d (by omega)).mono ?_); rintro e w6 ⟨r2, q6, rfl, hr2, _, hD6, hS6', hz6⟩
           obtain ⟨m1, rfl⟩ : ∃ r : Nat, r2 = r := ⟨r2.toNat, by have := hr2 (by omega); omega⟩
           have hm1 : m1 < K1 := by have := hr2 (by omega); omega
           have hS6 := hQ0.trans hS6'
           have hg6 : g < w6.heap.size := hD6.1.lt
           clear hr2 hz6))
    go_wp2_with fail
    have hQ7 := hS7.drew
    have hD7d := hD7.drew
    have hown7d := hown7.drew
    go_region_held3 (fun w' => w'.cell? ⟨w3.heap.size, 0, none⟩ = some (.int .i64 p)) (first | exact HFF.out _ hQ7 | exact HFF.out _ hS8 | exact HFF.out _ hS9)
      (first
        | (go_at_call 43; (refine (mcells_ok g A n c xs q8 p A7 m1 c7 P N sil _ hD8 HO.out hown8.ints hPa hown8.cap (by omega) (by omega) (by omega) (by omega)).mono ?_); rintro e w9 ⟨A9, c9, vs, bs, q9, rfl, hoC, HV, HCN, hD9, hS9'⟩
           have hS9 := hS8.trans hS9'
           have hown9 := hown8.step hS9' hg6)
        | (go_at_call 17; (with_reducible refine (next_any g A n c xs q7 D1 _ hD7d (by omega)).mono ?_); rintro e w8 ⟨r3, q8, rfl, hr3, _, hD8, hS8', hz8⟩
           obtain ⟨sil, rfl⟩ : ∃ r : Nat, r3 = r := ⟨r3.toNat, by have := hr3 (by omega); omega⟩
           have hsil : sil < D1 := by have := hr3 (by omega); omega
           have hS8 := hQ7.trans hS8'
           have hown8 := hown7d.step hS8' hg6
           clear hr3 hz8))
    have hbb9 := Step.below hbb5 hS9 hbb5.size hg
    have hF9 := Step.block hS9 hF_5 hgf
    have hcf9 : w9.cell? ⟨w3.heap.size, 0, none⟩ = some (.int .i64 p) := (hF9.cell 0).trans rfl
    have hIP := hown9.ints
    have hcP := hown9.cap
    have hCe := hoC.cel
    have HPA := Lib.hid hPa
    have HPL := Lib.hid hIP.len
    have hvl := hCe.1
    have hbl := hCe.2.1
    have HVL := Lib.hid hvl
    have HBL := Lib.hid hbl
    have HKV : Hid (KnV p P (knL vs bs)) := Lib.hid (knV_of HV.out hvl)
    have HKO : Hid (knOk p vs bs) := Lib.hid (HKV.out.ok hp.1)
    have hNp : (N : Int) < p := by omega
    have hN32 : N ≤ 32 := by omega
    have hkl : K ≤ (knL vs bs).length := by have := HCN.out; omega
    have HFI : Hid (∀ R, Through p (ptK ((knL vs bs).take K)) (vlK ((knL vs bs).take K)) R → R = trimL P) := Lib.hid fun R hR => fills HO.out HPA.out (by rw [HPL.out]; have := HK1.out; omega) HKV.out (by rw [HVL.out]; exact hNp) hkl hR
    have HKL := Lib.hid hkl
    have HAT : Hid (((agr p (trimL P) (knL vs bs) : Int) == ((knL vs bs).length : Int)) = true) := Lib.hid (by rw [(HKV.out.trim hp.1).agr]; simp)
    have HAP : Hid (agr p P (knL vs bs) = (knL vs bs).length) := Lib.hid HKV.out.agr
    obtain ⟨kn, HKN⟩ : ∃ kn, Hid ((knL vs bs).length = kn) := ⟨_, Lib.hid rfl⟩
    have hknN : kn ≤ N := by have := knL_len vs bs; rw [HKN.out, hvl] at this; exact this
    rw [HKN.out] at HAP
    obtain ⟨tp, HTP⟩ : ∃ tp, Hid (trimL P = tp) := ⟨_, Lib.hid rfl⟩
    have htl : tp.length ≤ 20 := by rw [← HTP.out, trimL_len, HPL.out]; have := tn_le P m1; omega
    rw [HTP.out] at HFI HAT
    have HSM : Hid (sameL tp tp = true) := Lib.hid (sameL_iff.2 rfl)
    obtain ⟨wl, HWL⟩ : ∃ wl, Hid (valsP p P (ptsL N) = wl) := ⟨_, Lib.hid rfl⟩
    have HWV : Hid (∀ j, j < N → bs.getD j false = true → wl.getD j 0 = vs.getD j 0) := Lib.hid fun j hj hb => by rw [← HWL.out, valsP_at p P _ (by rw [ptsL_len]; exact hj), ptsL_at hj, HV.out j hj hb]
    have hm11 : m1 ≤ 11 := by omega
    clear HFF hQ0 hQ7 hD5 hD5d hD6 hD7 hD7d hD8 hD9 hS6 hS6' hS7 hS7' hS8 hS8' hS9 hS9' hown7 hown7d hown8 hown9 hoC hPa hF_5 hbb5 hkl hvl hbl HCN
    go_wp2_with (first
      | (go_at_call 45; (with_reducible refine (fill_ok p A9 N c9 K vs bs _ HO.out hCe hN32 hNp HKO.out hK1.1 hK1.2 HKL.out).mono ?_); rintro e w10 ⟨⟨R, A10, c10, rfl, hown10, hT⟩, hb10⟩
         have hRe := (HFI.out R hT).symm
         subst hRe
         have hF10 := hF9.below hb10 hF9.lt
         have hcf10 : w10.cell? ⟨w3.heap.size, 0, none⟩ = some (.int .i64 p) := (hF10.cell 0).trans rfl
         have hbb10 := bnext hbb9 hb10
         have hIq := hown10.ints
         have hIP10 := hIP.upto hb10
         have hCe10 := hCe.upto hb10
         clear hT)
      | (go_at_call 52; (with_reducible refine (rTrim_ok p A7 m1 c7 P _ HO.out hIP10 HPA.out hcP (by omega)).mono ?_); rintro e w11 ⟨⟨A11, c11, rfl, hown11⟩, hb11⟩
         rw [HTP.out] at hown11
         rw [HTP.out]
         have hF11 := hF10.below hb11 hF10.lt
         have hcf11 : w11.cell? ⟨w3.heap.size, 0, none⟩ = some (.int .i64 p) := (hF11.cell 0).trans rfl
         have hbb11 := bnext hbb10 hb11
         have hIt := hown11.ints
         have hIq11 := hIq.upto hb11
         have hIP11 := hIP10.upto hb11
         have hCe11 := hCe10.upto hb11)
      | (go_at_call 47; (with_reducible refine (right_ok p A9 N c9 K vs bs _ HO.out hCe11 hN32 hNp HKO.out hK1.1 hK1.2 HKL.out).mono ?_); rintro e w12 ⟨⟨R2, rfl, hT2⟩, hb12⟩
         have hRe2 := (HFI.out R2 hT2).symm
         subst hRe2
         rw [HAT.out]
         have hF12 := hF11.below hb12 hF11.lt
         have hcf12 : w12.cell? ⟨w3.heap.size, 0, none⟩ = some (.int .i64 p) := (hF12.cell 0).trans rfl
         have hbb12 := bnext hbb11 hb12
         have hIt12 := hIt.upto hb12
         have hIq12 := hIq11.upto hb12
         have hIP12 := hIP11.upto hb12
         have hCe12 := hCe11.upto hb12
         clear hT2)
      | (go_at_call 38; (with_reducible refine (encode_ok p A7 m1 c7 N P _ HO.out hIP12 HPA.out hcP (by omega) hN32 hNp).mono ?_); rintro e w13 ⟨⟨A13, c13, rfl, hown13⟩, hb13⟩
         rw [HWL.out] at hown13
         have hF13 := hF12.below hb13 hF12.lt
         have hcf13 : w13.cell? ⟨w3.heap.size, 0, none⟩ = some (.int .i64 p) := (hF13.cell 0).trans rfl
         have hbb13 := bnext hbb12 hb13
         have hIw := hown13.ints
         have hIt13 := hIt12.upto hb13
         have hIq13 := hIq12.upto hb13
         have hIP13 := hIP12.upto hb13
         have hCe13 := hCe12.upto hb13)
      | (go_at_call 49; (with_reducible refine (agree_code_ok p A9 A7 N c9 m1 c7 vs bs P _ HO.out hCe13 hN32 hNp HKO.out hIP13 HPA.out hcP (by omega)).mono ?_); rintro e w14 ⟨rfl, hb14⟩
         rw [HAP.out]
         have hbb14 := bnext hbb13 hb14
         have hIw14 := hIw.upto hb14
         have hIt14 := hIt13.upto hb14
         have hIq14 := hIq13.upto hb14
         have hCe14 := hCe13.upto hb14)
      | (go_at_call 41; (with_reducible refine (same_any A10 A11 tp.length tp.length c10 c11 tp tp _ hIq14 hIt14 (by omega) (by omega)).mono ?_); rintro e w' ⟨rfl, q15, rfl⟩
         rw [HSM.out]))
    obtain ⟨w15, hw15⟩ : ∃ w15, w15 = w14.drewN q15 := ⟨_, rfl⟩
    rw [← hw15]
    have hIwz : Ints w15 w15.heap.size A13 N wl := by rw [hw15]; exact hIw14.drewN q15
    have hCez : Cel w15 w15.heap.size A9 N vs bs := by rw [hw15]; exact hCe14
    have hbb15 : Below w.heap.size w w15 := by rw [hw15]; exact below_drewN hbb14 q15
    clear hw15 hIw14 hCe14 hIq14 hIt14 hIP13 hCe13 hIw hIt13 hIq13 hIP12 hCe12 hIt12 hIq12 hIt hIq11 hIP11 hCe11 hIq hIP10 hCe10 hCe hIP hbb14
    go_loopw [19, 122] (fun mm i wz => ∃ j d : Nat, j ≤ N ∧ i = .int .i64 j ∧ mm = .int .i64 d ∧ Hid ((knL (vs.take j) (bs.take j)).length = d) ∧ Below w15.heap.size w15 wz) (fun _ i _ => N - (intOf i).toNat)
    case atStart => exact ⟨0, 0, Nat.zero_le _, rfl, rfl, Lib.hid rfl, Below.refl _ _⟩
    case round =>
      obtain ⟨j, d, hj, rfl, rfl, HD, hbz⟩ := hrel
      by_cases hlt : j < N
      · obtain ⟨b1, o1, rfl, hb1, hc1⟩ := hCez.2.2 (by omega)
        obtain ⟨b2, o2, rfl, hb2, hc2⟩ := hIwz.2 (by omega)
        have hcv := (hbz.cell (p := ⟨b1, o1 + j * 2, none⟩) hb1).trans (hc1 j hlt).1
        have hcb := (hbz.cell (p := ⟨b1, o1 + j * 2 + 1, none⟩) hb1).trans (hc1 j hlt).2
        have hcw := (hbz.cell (p := ⟨b2, o2 + j, none⟩) hb2).trans (hc2 j hlt)
        clear hc1 hc2
        have HST := Lib.hid (knL_step (vs := vs) (bs := bs) (by rw [HVL.out, HBL.out]) (j := j) (by rw [HVL.out]; exact hlt))
        have HWJ := Lib.hid (HWV.out j hlt)
        have hdN := knL_len (vs.take j) (bs.take j)
        rw [HD.out, List.length_take] at hdN
        have hdw : IntKind.i64.wrap ((d : Int) + 1) = (d : Int) + 1 := IntWalk.i64_in _ (by omega)
        have hj0 : (0 : Int) ≤ (j : Int) := by omega
        have hjN : (j : Int) < (N : Int) := by omega
        obtain ⟨v, HVv⟩ : ∃ v, Hid (vs.getD j 0 = v) := ⟨_, Lib.hid rfl⟩
        rw [HVv.out] at hcv HWJ HST
        by_cases hb : bs.getD j false = true
        · have hwe := HWJ.out hb
          rw [hwe] at hcw
          rw [hb] at hcb
          have hbza := hbz.alloc hbz.size (.cells #[.int .i64 v, .bool true] 75)
          have hN := Blk.new wr 75 #[.int .i64 v, .bool true]
          have hn0 : (wr.alloc (.cells #[.int .i64 v, .bool true] 75)).cell? ⟨wr.heap.size, 0, none⟩ = some (.int .i64 v) := (hN.cell 0).trans rfl
          have hn1 : (wr.alloc (.cells #[.int .i64 v, .bool true] 75)).cell? ⟨wr.heap.size, 1, none⟩ = some (.bool true) := (hN.cell 1).trans rfl
          have hb2w : b2 < wr.heap.size := Nat.lt_of_lt_of_le hb2 hbz.size
          have hcwa : (wr.alloc (.cells #[.int .i64 v, .bool true] 75)).cell? ⟨b2, o2 + j, none⟩ = some (.int .i64 v) := (World.cell?_alloc_lt wr _ ⟨b2, o2 + j, none⟩ hb2w).trans hcw
          have HD2 : Hid ((knL (vs.take (j + 1)) (bs.take (j + 1))).length = d + 1) := Lib.hid (by rw [HST.out, List.length_append, HD.out, hb]; rfl)
          clear hb hwe
          go_wp2_with fail
          go_quiet (fail)
          go_wp2
          go_roundw
          case rel => exact ⟨j + 1, d + 1, by omega, by go_num, by go_num, HD2, below_drewN hbza _⟩
          case measure => simp [intOf]; omega
        · have hbf : bs.getD j false = false := by simpa using hb
          rw [hbf] at hcb
          have hbza := hbz.alloc hbz.size (.cells #[.int .i64 v, .bool false] 75)
          have HD2 : Hid ((knL (vs.take (j + 1)) (bs.take (j + 1))).length = d) := Lib.hid (by rw [HST.out, List.length_append, HD.out, hbf]; rfl)
          clear hb hbf
          go_wp2
          go_roundw
          case rel => exact ⟨j + 1, d, by omega, by go_num, rfl, HD2, hbza⟩
          case measure => simp [intOf]; omega
      · obtain rfl : j = N := by omega
        have hde := HD.out
        rw [List.take_of_length_le (by rw [HVL.out]; exact Nat.le_refl _), List.take_of_length_le (by rw [HBL.out]; exact Nat.le_refl _), HKN.out] at hde
        subst hde
        go_wp2
        go_ret
        exact ⟨rfl, bnext hbb15 hbz⟩
  · have hd : decide (n ≤ 500) = false := by simpa using hn
    go_enter Try.func11, Try.ntmps11
    go_wp2_with (first
      | (go_at_call 35; refine (sane08_any _).mono ?_; rintro e w1 ⟨rfl, hb1⟩)
      | (go_at_call 14; refine (few_any A n c _).mono ?_; rintro e w' ⟨rfl, rfl⟩))
    go_ret
    exact ⟨rfl, hb1⟩
end Go.Proofs.Ytieejgkheijgeaa
