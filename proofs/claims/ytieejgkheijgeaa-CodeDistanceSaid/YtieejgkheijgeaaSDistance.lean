/-
  CodeDistance returns true: the walk of the law. Conditions: none beyond the reading of its arguments.
-/
import Derived.Test.YtieejgkheijgeaaCode3
import Derived.Test.YtieejgkheijgeaaRef5
import Derived.Test.YtieejgkheijgeaaMul5
import Derived.Test.YtieejgkheijgeaaDistA
import Derived.Test.YtieejgkheijgeaaBig
import Derived.Test.YtieejgkheijgeaaShape
import Derived.Deep.QuietTactic
import Derived.BigQuiet
import Derived.Deep.RegionHeld3
import Derived.Deep.DeepCutAuto
namespace Go.Proofs.Ytieejgkheijgeaa
open Go.RowKit
set_option linter.unusedVariables false

set_option maxHeartbeats 6400000 in
set_option maxRecDepth 100000 in
theorem codeDistance_walk (A : Option Addr) (n c : Nat) (zs : List Int) (w : World) (w0 : IsRow .i64 w A n c zs) :
    Calls Try.prog 8 #[.slice A n c] w fun e w' => e = .returned (.bool true) ∧ Below w.heap.size w w' := by
  obtain ⟨h, hw⟩ := w0.ints
  generalize zs.take n = xs at h hw
  clear w0
  by_cases hn : n ≤ 500
  · have hd : decide (n ≤ 500) = true := by simpa using hn
    go_enter Try.func8, Try.ntmps8
    go_upto_region 9 with (first
      | (go_at_call 35; refine (sane08_any _).mono ?_; rintro e w1 ⟨rfl, hb1⟩)
      | (go_at_call 14; refine (few_any A n c _).mono ?_; rintro e w' ⟨rfl, rfl⟩)
      | (go_at_call 15; refine (new_any A n c xs _ (h.upto hb1) hn).mono ?_; rintro e w2 ⟨⟨g, rfl, hge, hD2⟩, hb2⟩
         have hbb2 := bnext hb1 hb2
         have hg : w.heap.size ≤ g := by rw [hge]; exact hb1.size
         clear hge)
      | (go_at_call 16; refine (big_any g A n c xs _ 8 _ hD2 (by omega)).mono ?_; rintro e w3 ⟨p, q3, rfl, hkn, hp8, hD3, hS3⟩
         have hok := okP_known hkn
         have hp := okP_pos hok
         have HO := Lib.hid hok
         have hbb3 := ballocs (Step.below hbb2 hS3 hbb2.size hg) (.cells #[.int .i64 p] 28)
         have hF_3 := Blk.new w3 28 #[.int .i64 p]
         have hD3' := hD3.alloc (.cells #[.int .i64 p] 28)
         have hgf : w3.heap.size ≠ g := by have := hD3.1.lt; omega
         clear hok hkn hD2 hD3 hS3 hbb2 hb1 hb2)
      | (go_at_call 17; (with_reducible refine (next_any g A n c xs q4 N _ hD4 (by omega)).mono ?_); rintro e w5 ⟨r1, q5, rfl, hr1, _, hD5, hS5, hz5⟩
         obtain ⟨K, hK⟩ : ∃ K : Nat, 1 + r1 = K := ⟨(1 + r1).toNat, by have := hr1 (by omega); omega⟩
         have hK1 : 1 ≤ K ∧ K ≤ N := by have := hr1 (by omega); omega
         have hKw : IntKind.i64.wrap (1 + r1) = K := by rw [hK]; exact IntWalk.i64_in _ (by omega)
         have hF_5 := Step.block hS5 hF_4 hgf
         have hbb5 := Step.below hbb4 hS5 hbb4.size hg
         have hg5 := hD5.1.lt
         clear hr1 hz5 hS5)
      | (go_at_call 17; refine (next_any g A n c xs q3 8 _ hD3' (by omega)).mono ?_; rintro e w4 ⟨r', q4, rfl, hr, hr0, hD4, hS4, hz4⟩
         obtain ⟨N, hN⟩ : ∃ N : Nat, 1 + r' = N := ⟨(1 + r').toNat, by have := hr (by omega); omega⟩
         have hN8 : 1 ≤ N ∧ N ≤ 8 := by have := hr (by omega); omega
         have hNw : IntKind.i64.wrap (1 + r') = N := by rw [hN]; exact IntWalk.i64_in _ (by omega)
         have hF_4 := Step.block hS4 hF_3 hgf
         have hbb4 := Step.below hbb3 hS4 hbb3.size hg
         clear hr hr0 hz4 hS4))
    clear hF_3 hD3' hbb3 hF_4 hD4 hbb4 hNw hN hKw hK
    have HFF : Hid (∀ wx, Step g w5 wx → wx.cell? ⟨w3.heap.size, 0, none⟩ = some (.int .i64 p)) := Lib.hid fun wx hx => ((Step.block hx hF_5 hgf).cell 0).trans rfl
    have hQ0 : Step g w5 w5.drew := (Step.refl g w5).drew
    have hD5d := hD5.drew
    go_region_held3 (fun w' => w'.cell? ⟨w3.heap.size, 0, none⟩ = some (.int .i64 p)) (first | exact HFF.out _ hQ0 | exact HFF.out _ hS6 | exact HFF.out _ hS8)
      (first
        | (go_at_call 36; (with_reducible refine (elements_any g A n c xs q6 p K _ hD6 hp (by omega)).mono ?_); rintro e w8 ⟨A8, c8, Q, q8, rfl, hown8, hQa, hD8, hS8'⟩
           have hS8 := hS6.trans hS8'
           have hownP := hown6.step hS8' hg5)
        | (go_at_call 36; (with_reducible refine (elements_any g A n c xs q5 p K _ hD5d hp (by omega)).mono ?_); rintro e w6 ⟨A6, c6, P, q6, rfl, hown6, hPa, hD6, hS6'⟩
           have hS6 := hQ0.trans hS6'))
    have hbb8 := Step.below hbb5 hS8 hbb5.size hg
    have hF8 := Step.block hS8 hF_5 hgf
    have hcf8 : w8.cell? ⟨w3.heap.size, 0, none⟩ = some (.int .i64 p) := (hF8.cell 0).trans rfl
    have hIP := hownP.ints
    have hIQ := hown8.ints
    have hcP := hownP.cap
    have hcQ := hown8.cap
    have HPA := Lib.hid hPa
    have HQA := Lib.hid hQa
    have HPL := Lib.hid hIP.len
    have HQL := Lib.hid hIQ.len
    clear HFF hQ0 hD5 hD5d hD6 hD8 hS6 hS8 hS6' hS8' hown6 hownP hown8 hPa hQa hF_5 hbb5
    obtain ⟨pts, HPT⟩ : ∃ pts, Hid (ptsL N = pts) := ⟨_, Lib.hid rfl⟩
    have hNp : (N : Int) < p := by omega
    have hN32 : N ≤ 32 := by omega
    have hK512 : K ≤ 512 := by omega
    have hdist : (N : Int) - K + 1 = ((N - K + 1 : Nat) : Int) := by omega
    obtain ⟨least, hleast⟩ : ∃ l : Nat, N - K + 1 = l := ⟨_, rfl⟩
    have hleastN : least + K = N + 1 := by omega
    rw [hleast] at hdist
    have HDI : Hid ((N : Int) - K + 1 = least) := Lib.hid hdist
    clear hleast hdist
    go_wp2_with (first
      | (go_at_call 37; (with_reducible refine (distance_ok N K _ hK1.1 hK1.2 hN32).mono ?_); rintro e w' ⟨rfl, rfl⟩; rw [HDI.out])
      | (go_at_call 38; (with_reducible refine (encode_ok p A6 K c6 N P _ HO.out hIP HPA.out hcP hK512 hN32 hNp).mono ?_); rintro e w9 ⟨⟨A9, c9, rfl, hown9⟩, hb9⟩
         rw [HPT.out] at hown9
         have hF9 := hF8.below hb9 hF8.lt
         have hcf9 : w9.cell? ⟨w3.heap.size, 0, none⟩ = some (.int .i64 p) := (hF9.cell 0).trans rfl
         have hbb9 := bnext hbb8 hb9
         have hIa9 := hown9.ints
         have hIP9 := hIP.upto hb9
         have hIQ9 := hIQ.upto hb9)
      | (go_at_call 38; (with_reducible refine (encode_ok p A8 K c8 N Q _ HO.out hIQ9 HQA.out hcQ hK512 hN32 hNp).mono ?_); rintro e w10 ⟨⟨A10, c10, rfl, hown10⟩, hb10⟩
         rw [HPT.out] at hown10
         have hF10 := (hF9.below hb10 hF9.lt).alloc (.cells #[.int .i64 1] 3)
         have hbb10 := ballocs (bnext hbb9 hb10) (.cells #[.int .i64 1] 3)
         have hIa := (hIa9.upto hb10).upto (bbox (.cells #[.int .i64 1] 3))
         have hIb := hown10.ints.upto (bbox (.cells #[.int .i64 1] 3))
         have hIPz := (hIP9.upto hb10).upto (bbox (.cells #[.int .i64 1] 3))
         have hIQz := (hIQ9.upto hb10).upto (bbox (.cells #[.int .i64 1] 3))
         have hZ0 : Ints (w10.alloc (.cells #[.int .i64 1] 3)) (w10.alloc (.cells #[.int .i64 1] 3)).heap.size (some ⟨w10.heap.size, 0, none⟩) 1 [1] := Ints.oneAt w10 1 3 _ rfl))
    obtain ⟨w11, hw11⟩ : ∃ w11, w11 = w10.alloc (.cells #[.int .i64 1] 3) := ⟨_, rfl⟩
    rw [← hw11] at hF10 hbb10 hIa hIb hIPz hIQz hZ0 ⊢
    obtain ⟨L0, hL0⟩ : ∃ L0, (some ⟨w10.heap.size, 0, none⟩ : Option Addr) = L0 := ⟨_, rfl⟩
    rw [hL0] at hZ0 ⊢
    have HZ0 := Lib.hid (Zer.start hp.1)
    clear hw11 hL0 hIa9 hIP9 hIQ9 hIP hIQ hF8 hF9 hcf8 hcf9 hbb8 hbb9 hown9 hown10 hb9 hb10
    go_loopw [15, 16] (fun z x wz => ∃ (m : Nat) (L : Option Addr) (lc : Nat) (zl : List Int), 1 ≤ m ∧ m ≤ K ∧ z = .slice L m lc ∧ x = .int .i64 m ∧ Ints wz wz.heap.size L m zl ∧ m ≤ lc ∧ Hid (Zer p (ptsL (m - 1)) zl) ∧ Below w11.heap.size w11 wz) (fun _ x _ => K - (intOf x).toNat)
    case atStart => exact ⟨1, L0, 1, [1], Nat.le_refl _, hK1.1, rfl, rfl, hZ0, Nat.le_refl _, HZ0, Below.refl _ _⟩
    case round =>
      obtain ⟨m, L, lc, zl, hm1, hmK, rfl, rfl, hIz, hlc, HZ, hbz⟩ := hrel
      have hFz := hF10.below hbz hF10.lt
      have hcz : wr.cell? ⟨w3.heap.size, 0, none⟩ = some (.int .i64 p) := (hFz.cell 0).trans rfl
      have hzl := hIz.len
      have HZLN := Lib.hid hzl
      by_cases hlt : m < K
      · have hlti : (m : Int) < (K : Int) := by omega
        obtain ⟨f1, hf1⟩ : ∃ f1, p - (m : Int) = f1 := ⟨_, rfl⟩
        have hf1b : 0 < f1 ∧ f1 < p := by omega
        have hf1w : IntKind.i64.wrap (p - (m : Int)) = f1 := by rw [hf1]; exact IntWalk.i64_in _ (by omega)
        have HFA : Hid (allP p [f1, 1] = true) := Lib.hid (allP_iff.2 fun x hx => by
          rcases List.mem_cons.1 hx with h1 | h1
          · rw [h1]; omega
          · rw [List.mem_singleton.1 h1]; omega)
        have HFT : Hid (0 < (trimL [f1, 1]).length) := Lib.hid (by
          have : Trimd [f1, 1] := fun n hn => by
            obtain rfl : n = 1 := by simp at hn; omega
            show (1 : Int) ≠ 0
            decide
          rw [this.trimL]; simp)
        have HZT : Hid (0 < (trimL zl).length) := Lib.hid (by rw [HZ.out.tr.trimL, HZ.out.ln]; omega)
        have HZN : Hid (Zer p (ptsL m) (mulL p zl [f1, 1])) := Lib.hid (by
          have h1 := HZ.out.step HO.out (((m - 1 : Nat) : Int) + 1) (by omega)
          rw [← ptsL_succ, show m - 1 + 1 = m by omega] at h1
          have h2 : (p - (((m - 1 : Nat) : Int) + 1)) % p = f1 := by rw [Int.emod_eq_of_lt (by omega) (by omega)]; omega
          rw [h2] at h1; exact h1)
        obtain ⟨m', hm'⟩ : ∃ m', m + 1 = m' := ⟨_, rfl⟩
        have HZL : Hid ((mulL p zl [f1, 1]).length = m') := Lib.hid (by rw [HZN.out.ln, ptsL_len]; exact hm')
        have HZN2 : Hid (Zer p (ptsL (m' - 1)) (mulL p zl [f1, 1])) := Lib.hid (by rw [← hm', Nat.add_sub_cancel]; exact HZN.out)
        have hIz2 := hIz.upto (bbox (.cells #[.int .i64 f1, .int .i64 1] 3))
        have hbz2 := ballocs hbz (.cells #[.int .i64 f1, .int .i64 1] 3)
        have hxn : IntKind.i64.wrap ((m : Int) + 1) = (m' : Int) := by rw [IntWalk.i64_in _ (by omega)]; omega
        have hxn2 : (m : Int) + 1 = (m' : Int) := by omega
        have hj7 : m ≤ 200 := by omega
        have HZA := Lib.hid HZ.out.al
        clear hf1 hzl
        go_wp2_with (go_at_call 39; (refine (rmul5_ok p L _ m 2 lc 2 zl [f1, 1] _ HO.out hIz2 (by exact Ints.lit _ _ [f1, 1] 3 2 _ rfl rfl rfl) HZA.out HFA.out hj7 (by omega) hlc (by omega) HZT.out HFT.out).mono ?_); rintro e w12 ⟨⟨A12, c12, rfl, hown12⟩, hb12⟩
                     rw [HZL.out] at hown12
                     rw [HZL.out]
                     have hbz12 := bnext hbz2 hb12)
        go_roundw
        case rel => exact ⟨m', A12, c12, _, by omega, by omega, rfl, by go_num, hown12.ints, hown12.cap, HZN2, hbz12⟩
        case measure => simp [intOf]; omega
      · obtain rfl : m = K := by omega
        clear hzl
        have hbw := bnext hbb10 hbz
        have hIaz := hIa.upto hbz
        have hIbz := hIb.upto hbz
        have hIPw := hIPz.upto hbz
        have hIQw := hIQz.upto hbz
        have HZA := Lib.hid HZ.out.al
        have HSA : Hid (allP p (addL p P zl) = true) := Lib.hid (addL_allP hp.1 P zl)
        have HSL : Hid ((addL p P zl).length ≤ 20) := Lib.hid (by have := addL_len_le p P zl; rw [HPL.out, HZLN.out] at this; omega)
        have HO2 : Hid (dif (valsP p P pts) (valsP p (addL p P zl) pts) N = least) := Lib.hid (by
          have := dif_most HO.out (P := P) HZ.out (show m - 1 ≤ N by omega) hNp N (Nat.le_refl _)
          rw [HPT.out] at this
          omega)
        have HM2 : Hid (least ≤ dif (valsP p P pts) (valsP p Q pts) N ∨ P = Q) := Lib.hid (by
          by_cases hPQ : P = Q
          · exact .inr hPQ
          · have := dif_least HO.out HPA.out HQA.out HPL.out HQL.out hNp hPQ
            rw [HPT.out] at this
            exact .inl (by omega))
        have HAL : Hid ((valsP p P pts).length = N) := Lib.hid (by rw [valsP_len, ← HPT.out, ptsL_len])
        obtain ⟨S, HSE⟩ : ∃ S, Hid (addL p P zl = S) := ⟨_, Lib.hid rfl⟩
        rw [HSE.out] at HSA HSL HO2
        have hsl := HSL.out
        go_wp2_with (first
          | (go_at_call 40; (refine (radd5_ok p A6 L m m c6 lc P zl _ HO.out hIPw hIz HPA.out HZA.out (by omega) (by omega)).mono ?_); rintro e w12 ⟨⟨A12, c12, rfl, hown12⟩, hb12⟩
             rw [HSE.out] at hown12
             rw [HSE.out]
             have hF12 := hFz.below hb12 hFz.lt
             have hcf12 : w12.cell? ⟨w3.heap.size, 0, none⟩ = some (.int .i64 p) := (hF12.cell 0).trans rfl
             have hbw12 := bnext hbw hb12
             have hIS := hown12.ints
             have hcS := hown12.cap
             have hIa12 := hIaz.upto hb12
             have hIb12 := hIbz.upto hb12
             have hIP12 := hIPw.upto hb12
             have hIQ12 := hIQw.upto hb12)
          | (go_at_call 38; (with_reducible refine (encode_ok p A12 S.length c12 N S _ HO.out hIS HSA.out hcS (by omega) hN32 hNp).mono ?_); rintro e w13 ⟨⟨A13, c13, rfl, hown13⟩, hb13⟩
             rw [HPT.out] at hown13
             have hbw13 := bnext hbw12 hb13
             have hIc := hown13.ints
             have hIa13 := hIa12.upto hb13
             have hIb13 := hIb12.upto hb13
             have hIP13 := hIP12.upto hb13
             have hIQ13 := hIQ12.upto hb13))
        obtain ⟨la, HLA⟩ : ∃ la, Hid (valsP p P pts = la) := ⟨_, Lib.hid rfl⟩
        obtain ⟨lb, HLB⟩ : ∃ lb, Hid (valsP p Q pts = lb) := ⟨_, Lib.hid rfl⟩
        obtain ⟨ls, HLS⟩ : ∃ ls, Hid (valsP p S pts = ls) := ⟨_, Lib.hid rfl⟩
        rw [HLA.out] at HO2 HM2 hIa13
        rw [HLB.out] at HM2 hIb13
        rw [HLS.out] at HO2 hIc
        clear hIa12 hIb12 hIP12 hIQ12 hIaz hIbz hIPw hIQw hIa hIb hIPz hIQz hIS hcf12 hF12 hFz hcz HAL HLA HLB HLS
        go_loopw [21, 22, 133] (fun mm oo i wz => ∃ j q d1 d2 : Nat, j ≤ N ∧ i = .int .i64 j ∧ mm = .int .i64 d1 ∧ oo = .int .i64 d2 ∧ Hid (dif la lb j = d1) ∧ Hid (dif la ls j = d2) ∧ wz = w13.drewN q) (fun _ _ i _ => N - (intOf i).toNat)
        case atStart => exact ⟨0, 0, 0, 0, Nat.zero_le _, rfl, rfl, rfl, Lib.hid rfl, Lib.hid rfl, rfl⟩
        case round =>
          obtain ⟨j, q, d1, d2, hj, rfl, rfl, rfl, HD1, HD2, rfl⟩ := hrel
          by_cases hlt : j < N
          · obtain ⟨b1, o1, rfl, hb1, hc1⟩ := hIa13.2 (by omega)
            obtain ⟨b2, o2, rfl, hb2, hc2⟩ := hIb13.2 (by omega)
            obtain ⟨b3, o3, rfl, hb3, hc3⟩ := hIc.2 (by omega)
            have hx : w13.cell? ⟨b1, o1 + j, none⟩ = some (.int .i64 (la.getD j 0)) := hc1 j hlt
            have hy : w13.cell? ⟨b2, o2 + j, none⟩ = some (.int .i64 (lb.getD j 0)) := hc2 j hlt
            have hz : w13.cell? ⟨b3, o3 + j, none⟩ = some (.int .i64 (ls.getD j 0)) := hc3 j hlt
            clear hc1 hc2 hc3
            have HE1 : Hid (dif la lb (j + 1) = dif la lb j + if la.getD j 0 = lb.getD j 0 then 0 else 1) := Lib.hid rfl
            have HE2 : Hid (dif la ls (j + 1) = dif la ls j + if la.getD j 0 = ls.getD j 0 then 0 else 1) := Lib.hid rfl
            have hl1 := dif_le la lb j
            have hl2 := dif_le la ls j
            rw [HD1.out] at HE1 hl1
            rw [HD2.out] at HE2 hl2
            generalize la.getD j 0 = x at *
            generalize lb.getD j 0 = y at *
            generalize ls.getD j 0 = z at *
            have hj0 : (0 : Int) ≤ (j : Int) := by omega
            have hjN : (j : Int) < (N : Int) := by omega
            have hd1w : IntKind.i64.wrap ((d1 : Int) + 1) = (d1 : Int) + 1 := IntWalk.i64_in _ (by omega)
            have hd2w : IntKind.i64.wrap ((d2 : Int) + 1) = (d2 : Int) + 1 := IntWalk.i64_in _ (by omega)
            by_cases hxy : x = y
            · rw [if_pos hxy] at HE1
              have hxyb : (x != y) = false := by simp [hxy]
              by_cases hxz : x = z
              · rw [if_pos hxz] at HE2
                have hxzb : (x != z) = false := by simp [hxz]
                go_wp2_with fail
                go_quiet (fail)
                go_wp2_with fail
                go_quiet (fail)
                go_wp2_with fail
                go_roundw
                case rel => exact ⟨j + 1, _, d1, d2, by omega, by go_num, by go_num, by go_num, HE1, HE2, rfl⟩
                case measure => simp [intOf]; omega
              · rw [if_neg hxz] at HE2
                have hxzb : (x != z) = true := by simp [hxz]
                go_wp2_with fail
                go_quiet (fail)
                go_wp2_with fail
                go_quiet (fail)
                go_wp2_with fail
                go_roundw
                case rel => exact ⟨j + 1, _, d1, d2 + 1, by omega, by go_num, by go_num, by go_num, HE1, HE2, rfl⟩
                case measure => simp [intOf]; omega
            · rw [if_neg hxy] at HE1
              have hxyb : (x != y) = true := by simp [hxy]
              by_cases hxz : x = z
              · rw [if_pos hxz] at HE2
                have hxzb : (x != z) = false := by simp [hxz]
                go_wp2_with fail
                go_quiet (fail)
                go_wp2_with fail
                go_quiet (fail)
                go_wp2_with fail
                go_roundw
                case rel => exact ⟨j + 1, _, d1 + 1, d2, by omega, by go_num, by go_num, by go_num, HE1, HE2, rfl⟩
                case measure => simp [intOf]; omega
              · rw [if_neg hxz] at HE2
                have hxzb : (x != z) = true := by simp [hxz]
                go_wp2_with fail
                go_quiet (fail)
                go_wp2_with fail
                go_quiet (fail)
                go_wp2_with fail
                go_roundw
                case rel => exact ⟨j + 1, _, d1 + 1, d2 + 1, by omega, by go_num, by go_num, by go_num, HE1, HE2, rfl⟩
                case measure => simp [intOf]; omega
          · obtain rfl : j = N := by omega
            have HM3 := HM2.out
            have HO3 := HO2.out
            rw [HD1.out] at HM3
            rw [HD2.out] at HO3
            subst HO3
            clear HD1 HD2
            by_cases hM : d2 ≤ d1
            · have hMi : (d2 : Int) ≤ (d1 : Int) := by omega
              go_wp2
              go_ret
              exact ⟨rfl, below_drewN hbw13 _⟩
            · have hMi : ¬ ((d2 : Int) ≤ (d1 : Int)) := by omega
              have hPQ : P = Q := by
                rcases HM3 with h1 | h1
                · exact absurd h1 hM
                · exact h1
              have HSM : Hid (sameL P Q = true) := Lib.hid (sameL_iff.2 hPQ)
              clear hPQ HM3
              go_wp2_with (go_at_call 41; (with_reducible refine (same_any A6 A8 m m c6 c8 P Q _ (hIP13.drewN _) (hIQ13.drewN _) (by omega) (by omega)).mono ?_); rintro e w' ⟨rfl, q9, rfl⟩
                           rw [HSM.out])
              go_ret
              exact ⟨rfl, below_drewN hbw13 _⟩
  · have hd : decide (n ≤ 500) = false := by simpa using hn
    go_enter Try.func8, Try.ntmps8
    go_wp2_with (first
      | (go_at_call 35; refine (sane08_any _).mono ?_; rintro e w1 ⟨rfl, hb1⟩)
      | (go_at_call 14; refine (few_any A n c _).mono ?_; rintro e w' ⟨rfl, rfl⟩))
    go_ret
    exact ⟨rfl, hb1⟩
end Go.Proofs.Ytieejgkheijgeaa
