/-
  UniqueSilent returns true: the walk of the law. Conditions: none beyond the reading of its arguments and of the variable errWrong.
-/
import Derived.Test.YteipcjmkhacdgaaDoorS09
import Derived.Test.YteipcjmkhacdgaaDoorUWord
import Derived.Test.YteipcjmkhacdgaaDoorUKp
namespace Go.Proofs.YteipcjmkhacdgaaDoor
open Go.RowKit
set_option linter.unusedVariables false

theorem Step.at_ {g : Nat} {w w' : World} (hs : Step g w w') {b o : Nat} {v : Value} (hlt : b < w.heap.size) (hg : b ≠ g) (h : w.cell? ⟨b, o, none⟩ = some v) : w'.cell? ⟨b, o, none⟩ = some v := (World.cell?_of_block (World.grownBy.block hs b hlt (fun e => hg (by injection e)))).trans h
theorem OwnC.drewN_ {w : World} {base n c : Nat} {A : Option Addr} {us : List Int} {ys : List Bool} (h : OwnC w base A n c us ys) (k : Nat) : OwnC (w.drewN k) base A n c us ys := h

set_option maxRecDepth 100000 in
set_option maxHeartbeats 16000000 in
theorem uniqueSilent_walk (A : Option Addr) (n c : Nat) (zs : List Int) (w : World) (w0 : IsRow .i64 w A n c zs) (hW : ErrW w) :
    Calls Tryd.prog 8 #[.slice A n c] w fun e w' => e = .returned (.bool true) ∧ Below w.heap.size w w' := by
  obtain ⟨i0, hi0, hz0, hz1, hz2⟩ := info_parts info_int
  obtain ⟨h, hw⟩ := w0.ints
  generalize zs.take n = xs at h hw
  clear w0
  by_cases hn : n ≤ 500
  · have hd : decide (n ≤ 500) = true := by simpa using hn
    go_enter Tryd.func8, Tryd.ntmps8
    go_upto_region 7 with (first
      | (go_at_call 9; refine (sane09_any _ hW).mono ?_; rintro e w1 ⟨rfl, hb1⟩
         have hE1 := hW.below hb1)
      | (go_at_call 10; refine (few_any A n c _).mono ?_; rintro e w' ⟨rfl, rfl⟩)
      | (go_at_call 11; refine (new_any A n c xs _ (h.upto hb1) hn).mono ?_; rintro e w2 ⟨⟨g, rfl, hge, hD2⟩, hb2⟩
         have hbb2 := bnext hb1 hb2
         have hE2 := hE1.below hb2
         have hg : w.heap.size ≤ g := by rw [hge]; exact hb1.size
         have hg1 : 0 < g := by rw [hge]; exact hE1.2
         clear hge hb1 hb2 hE1)
      | (go_at_call 27; refine (uword_any g A n c xs 0 _ hD2).mono ?_; rintro e w3 ⟨p, k, N, B1, pn, d1, pl, B2, d2, vs, bs, q3, rfl, hok, hlp, hk1, hkN, hN10, hpnk, hpa, hO3, hC3, hkn, hkl, hwr, hD3, hS3⟩))
    have hbb3 := ballocs (Step.below hbb2 hS3 hbb2.size hg) (.cells #[.int .i64 p] 24)
    have hE3 := (hE2.step hS3 hg1).below (bbox (.cells #[.int .i64 p] 24))
    have hI3 := hO3.ints.upto (bbox (.cells #[.int .i64 p] 24))
    have hK3 := hC3.cel.upto (bbox (.cells #[.int .i64 p] 24))
    have hF3 := Blk.new w3 24 #[.int .i64 p]
    have hD3' := hD3.alloc (.cells #[.int .i64 p] 24)
    have hcap := hO3.cap
    have hg3 : g < w3.heap.size := hD3.1.lt
    obtain ⟨F, hF⟩ : ∃ F, w3.heap.size = F := ⟨_, rfl⟩
    obtain ⟨W, hWe⟩ : ∃ W, w3.alloc (.cells #[.int .i64 p] 24) = W := ⟨_, rfl⟩
    rw [hWe] at hbb3 hE3 hI3 hK3 hF3 hD3' ⊢
    rw [hF] at hF3 hg3 ⊢
    have hvl := hC3.1
    have hbl := hC3.2.1
    have HVL := Lib.hid hvl
    have HBL := Lib.hid hbl
    have HO := Lib.hid hok
    have hp := okP_pos hok
    have HPA := Lib.hid hpa
    have HKN := Lib.hid hkn
    have HKL := Lib.hid hkl
    have HWR := Lib.hid hwr
    have hln : (knL vs bs).length ≤ N := by have := knL_len vs bs; rw [hvl] at this; exact this
    have hcf : W.cell? ⟨F, 0, none⟩ = some (.int .i64 p) := (hF3.cell 0).trans rfl
    have HW1 : Hid (∀ (vs' : List Int) (bs' : List Bool), vs'.length = N → k ≤ (knL vs' bs').length → (wrL p pl (knL vs' bs')).length ≤ ((knL vs' bs').length - k) / 2 → ∀ a, DecOf p k (((knL vs' bs').length - k) / 2) (knL vs' bs') a → a = some (trimL pl)) := Lib.hid fun vs' bs' hl hk hw a ha =>
      DecOf.one HO.out ha (knL_apart (by rw [hl]; omega)) (by omega) HPA.out (by rw [hO3.len]; exact hpnk) hw
    obtain ⟨tl, htl⟩ : ∃ tl, trimL pl = tl := ⟨_, rfl⟩
    obtain ⟨tn1, htn⟩ : ∃ tn1, tl.length = tn1 := ⟨_, rfl⟩
    obtain ⟨bad, hbad⟩ : ∃ bad, wrL p pl (knL vs bs) = bad := ⟨_, rfl⟩
    obtain ⟨bn, hbn⟩ : ∃ bn, bad.length = bn := ⟨_, rfl⟩
    rw [htl] at HW1
    have HTL := Lib.hid htl
    have HTN := Lib.hid htn
    have HBD := Lib.hid hbad
    have HBN := Lib.hid hbn
    have hplen := hO3.len
    have htk : tn1 ≤ k := by rw [← htn, ← htl]; exact Nat.le_trans (trimL_le_ pl) (by rw [hplen]; exact hpnk)
    have hbN : bn ≤ N := by rw [← hbn, ← hbad]; exact Nat.le_trans (wrL_len _ _ _) hln
    have HTR : Hid (∀ l, wrL p tl l = wrL p pl l) := Lib.hid fun l => by rw [← htl, wrL_trim p hp.1]
    clear hF hWe hvl hbl hok hpa hkn hkl hwr hO3 hC3 hS3 hD3 hD2 hE2 hbb2 hplen htl htn hbad hbn hln
    go_wp2_with fail
    go_at_call 18
    refine (uDecode_ok p B2 N d2 k vs bs _ HO.out hK3 (by omega) (by omega) HKN.out hk1 hkN HKL.out hE3).mono ?_
    rintro e w4 ⟨⟨hD, rfl⟩ | ⟨P, A1, c1, A2, c2, hD, rfl, hI1, hI2, hc1, hc2, hn1, hn2⟩, hb4⟩
    · exfalso
      have := HW1.out vs bs HVL.out HKL.out HWR.out _ hD
      cases this
    · have hP : P = tl := by
        have := HW1.out vs bs HVL.out HKL.out HWR.out _ hD
        injection this
      subst hP
      rw [HTR.out, HBD.out] at hI2 hc2 hn2
      rw [HTN.out] at hI1 hc1 hn1
      rw [HBN.out] at hI2 hc2 hn2
      rw [HTR.out, HBD.out, HBN.out, HTN.out]
      have hN4 := Blk.new w4 27 #[.slice A1 tn1 c1, .slice A2 bn c2]
      have hbb4 := ballocs (bnext hbb3 hb4) (.cells #[.slice A1 tn1 c1, .slice A2 bn c2] 27)
      have hF4 := (hF3.below hb4 hF3.lt).alloc (.cells #[.slice A1 tn1 c1, .slice A2 bn c2] 27)
      have hI4 := (hI3.upto hb4).upto (bbox (.cells #[.slice A1 tn1 c1, .slice A2 bn c2] 27))
      have hK4 := (hK3.upto hb4).upto (bbox (.cells #[.slice A1 tn1 c1, .slice A2 bn c2] 27))
      have hJ1 := hI1.upto (bbox (.cells #[.slice A1 tn1 c1, .slice A2 bn c2] 27))
      have hJ2 := hI2.upto (bbox (.cells #[.slice A1 tn1 c1, .slice A2 bn c2] 27))
      have hE4 := (hE3.below hb4).below (bbox (.cells #[.slice A1 tn1 c1, .slice A2 bn c2] 27))
      have hD4 := (hD3'.belowAll hb4).alloc (.cells #[.slice A1 tn1 c1, .slice A2 bn c2] 27)
      have hcf4 : (w4.alloc (.cells #[.slice A1 tn1 c1, .slice A2 bn c2] 27)).cell? ⟨F, 0, none⟩ = some (.int .i64 p) := (hF4.cell 0).trans rfl
      have HFr1 : Hid (∀ b o s, A1 = some ⟨b, o, s⟩ → 0 < tn1 → g < b) := Lib.hid fun b o s e h0 => by have := hn1 b o s e h0; have := hF3.lt; omega
      have HFr2 : Hid (∀ b o s, A2 = some ⟨b, o, s⟩ → 0 < bn → g < b) := Lib.hid fun b o s e h0 => by have := hn2 b o s e h0; have := hF3.lt; omega
      have hFD : F < w4.heap.size := (hF3.below hb4 hF3.lt).lt
      obtain ⟨D8, hD8⟩ : ∃ D8, w4.heap.size = D8 := ⟨_, rfl⟩
      go_upto_region 12 with (first
        | (go_at_call 29; (refine (rencode_ok p B1 pn d1 N pl _ HO.out hI4 HPA.out hcap (by omega) (by omega) (by omega)).mono ?_); rintro e w6 ⟨⟨A6, c6, rfl, hO6⟩, hb6⟩
           have hbb6 := bnext hbb4 hb6
           have hN6 := hN4.below hb6 hN4.lt
           have hF6 := hF4.below hb6 hF4.lt
           have hK6 := hK4.upto hb6
           have hJ16 := hJ1.upto hb6
           have hJ26 := hJ2.upto hb6
           have hE6 := hE4.below hb6
           have hD6 := hD4.belowAll hb6)
        | (at_builtin
           refine wpList_append_cells rfl _ _ _ rfl Tryd.underlying25 w6.heap.size none 0 0 [] [] rfl OwnC.nil_ w6.heap.size B2 N d2 vs bs rfl hK6 N (Nat.zero_add _) (by omega) (Nat.le_refl _) ?_
           intro A7 c7 w7 hC7 hb7))
      go_wp2_with fail
      have hbb7 := bnext hbb6 hb7
      have hN7 := hN6.below hb7 hN6.lt
      have hF7 := hF6.below hb7 hF6.lt
      have hK7 := hK6.upto hb7
      have hJ17 := hJ16.upto hb7
      have hJ27 := hJ26.upto hb7
      have hE7 := hE6.below hb7
      have hD7 := hD6.belowAll hb7
      have hO7 := hO6.belowAll hb7
      have hfr7 : w7.heap.size = w7.heap.size := rfl
      go_loopw [13, 54] (fun n i wz => ∃ j q : Nat, j ≤ N ∧ q ≤ j ∧ i = .int .i64 j ∧ n = .int .i64 q ∧ Hid ((knL (vs.take j) (bs.take j)).length = q) ∧ Below w7.heap.size w7 wz) (fun _ i _ => N - (intOf i).toNat)
      case atStart => exact ⟨0, 0, Nat.zero_le _, Nat.le_refl _, rfl, rfl, Lib.hid (by simp [knL, knF]), Below.refl _ _⟩
      case round =>
        obtain ⟨j, q, hj, hqj, rfl, rfl, HQ, hb⟩ := hrel
        by_cases hlt : j < N
        · obtain ⟨b1, o1, rfl, hb1, hc1⟩ := hK7.2.2 (by omega)
          have hx0 := (hb.cell (p := ⟨b1, o1 + j * 2, none⟩) hb1).trans (hc1 j hlt).1
          have hx1 := (hb.cell (p := ⟨b1, o1 + j * 2 + 1, none⟩) hb1).trans (hc1 j hlt).2
          clear hc1
          have HS := Lib.hid (knL_step (vs := vs) (bs := bs) (by rw [HVL.out, HBL.out]) (j := j) (by rw [HVL.out]; exact hlt))
          have hki : (j : Int) < (N : Int) := by omega
          have hk0 : (0 : Int) ≤ (j : Int) := by omega
          obtain ⟨y, hy⟩ : ∃ y, vs.getD j 0 = y := ⟨_, rfl⟩
          rw [hy] at hx0
          clear hy
          by_cases hbk : bs.getD j false = true
          · have HQ2 : Hid ((knL (vs.take (j + 1)) (bs.take (j + 1))).length = q + 1) := Lib.hid (by rw [HS.out, if_pos hbk, List.length_append, HQ.out]; rfl)
            rw [hbk] at hx1
            clear hbk HS
            go_wp2
            go_roundw
            case rel => exact ⟨j + 1, q + 1, by omega, by omega, by go_num, by go_num, HQ2, ballocs hb _⟩
            case measure => simp [intOf]; omega
          · have HQ2 : Hid ((knL (vs.take (j + 1)) (bs.take (j + 1))).length = q) := Lib.hid (by rw [HS.out, if_neg hbk, List.append_nil, HQ.out])
            have hbf : bs.getD j false = false := by simpa using hbk
            rw [hbf] at hx1
            clear hbk hbf HS
            go_wp2
            go_roundw
            case rel => exact ⟨j + 1, q, by omega, by omega, by go_num, rfl, HQ2, ballocs hb _⟩
            case measure => simp [intOf]; omega
        · obtain rfl : N = j := by omega
          have HKQ : Hid ((knL vs bs).length = q) := Lib.hid (by have := HQ.out; rw [List.take_of_length_le (by rw [HVL.out]; exact Nat.le_refl _), List.take_of_length_le (by rw [HBL.out]; exact Nat.le_refl _)] at this; exact this)
          obtain ⟨gM, rfl, hgM, hgMl⟩ := hC7.form (by omega)
          have h67 := hb7.size
          have h48 : D8 < w6.heap.size := by rw [← hD8]; exact hN6.lt
          have hFw6 : F < w6.heap.size := hF6.lt
          have hgF : g < F := hg3
          have hgD : g < D8 := by omega
          have hCr := Lib.hid (hC7.belowAll hb)
          have hDr := hD7.belowAll hb
          have hbwr := bnext hbb7 hb
          have hNr := hN7.below hb hN7.lt
          have hFr := hF7.below hb hF7.lt
          have hEr := hE7.below hb
          have hb6r : Below w6.heap.size w6 wr := hb7.trans (hb.mono hb7.size)
          have hF8r := hO6.frs
          have hA6 : IntsA g gM wr A6 N _ := IntsA.of (hO6.ints.below hb6r) hb6r.size fun b o s e h0 hlt => ⟨by have := hF8r b o s e h0; simp at this; omega, by omega⟩
          have hA1 : IntsA g gM wr A1 tn1 P := IntsA.of (hJ16.below hb6r) hb6r.size fun b o s e h0 hlt => ⟨by have := HFr1.out b o s e h0; omega, by omega⟩
          have hA2 : IntsA g gM wr A2 bn bad := IntsA.of (hJ26.below hb6r) hb6r.size fun b o s e h0 hlt => ⟨by have := HFr2.out b o s e h0; omega, by omega⟩
          have hgw : w.heap.size ≤ gM := by have := hbb6.size; omega
          obtain ⟨wv, hwv⟩ : ∃ wv, valsP p pl (ptsL N) = wv := ⟨_, rfl⟩
          rw [hwv] at hA6
          have HWL : Hid (wv.length = N) := Lib.hid (by rw [← hwv, valsP_len, ptsL_len])
          have HWV : Hid (∀ j, j < N → wv.getD j 0 = valueP p ((j : Int) + 1) pl) := Lib.hid fun j hj => by rw [← hwv, valsP_at p pl _ (by rw [ptsL_len]; exact hj), ptsL_at hj]
          have hq0 : k + 2 * bn ≤ q := by have h1 := HWR.out; have h2 := HKL.out; rw [HBD.out, HBN.out, HKQ.out] at h1; rw [HKQ.out] at h2; omega
          have HC := hCr
          have hgMr : gM < wr.heap.size := Nat.lt_of_lt_of_le hgMl hb.size
          have HA6 := hA6
          have HA1 := Lib.hid hA1
          have HA2 := Lib.hid hA2
          rw [hD8] at hNr
          have HNr := Lib.hid hNr
          have HFr := Lib.hid hFr
          have HEr := Lib.hid hEr
          have hqN : q ≤ N := hqj
          clear hwv hA1 hA2 hNr hFr hEr hCr hF8r hF7 hN7 hE7 hD7 hO7 hfr7 hJ17 hJ27 hK7 hbb7 hC7 hb7 hN6 hF6 hK6 hJ16 hJ26 hE6 hD6 hO6 hbb6 hb6 hcf4 hD4 hE4 hJ1 hJ2 hK4 hI4 hF4 hbb4 hN4 hb4 hI1 hI2 hc1 hc2 hn1 hn2 hD3' hF3 hK3 hI3 hE3 hbb3 hFD hb HQ HFr1 HFr2 HWR hD hA6
          go_wp2_with fail
          go_loopw [13, 65] (fun kk i wz => ∃ (j kn q2 : Nat) (us : List Int) (ys : List Bool), j ≤ N ∧ i = .int .i64 j ∧ kk = .int .i64 kn ∧ k + 2 * bn ≤ kn ∧ kn ≤ N ∧ Hid (OwnC wz w6.heap.size (some ⟨gM, 0, none⟩) N c7 us ys) ∧ Hid (knOk p us ys) ∧ Hid (wrL p pl (knL us ys) = bad) ∧ Hid ((knL us ys).length = kn) ∧ Deck wz g A n c xs q2 ∧ Hid (KP g gM wr wz) ∧ Below w.heap.size w wz) (fun _ i _ => N - (intOf i).toNat)
          case atStart => exact ⟨0, q, _, vs, bs, Nat.zero_le _, rfl, rfl, hq0, hqN, HC, HKN, HBD, HKQ, hDr, Lib.hid (KP.refl _ _ _), hbwr⟩
          case round =>
            rename_i wy
            obtain ⟨j, kn, q2, us, ys, hj, rfl, rfl, hkn1, hkn2, HOC, HOK, HBD2, HKQ2, hD2, HKP, hb2⟩ := hrel
            by_cases hlt : j < N
            · have hNi : N = N := rfl
              obtain ⟨b6, o6, rfl, hb6l, hb6g, hb6m, hc6⟩ := HA6.2 (by omega)
              have hcw := (HKP.out.cell (p := ⟨b6, o6 + j, none⟩) hb6l hb6g hb6m).trans (hc6 j hlt)
              clear hc6
              have hcd : World.cell? _ ⟨D8, 1, none⟩ = some (.slice A2 bn c2) := ((HKP.out.blk HNr.out (by omega) (by omega)).cell 1).trans rfl
              have hjN : (j : Int) < (N : Int) := by omega
              have hj0 : (0 : Int) ≤ (j : Int) := by omega
              have hgq : gM < _ := Nat.lt_of_lt_of_le hgMr HKP.out.1
              have hxx0 := (HOC.out.cellAt hlt).1
              have hxx1 := (HOC.out.cellAt hlt).2
              obtain ⟨y, hy⟩ : ∃ y, wv.getD j 0 = y := ⟨_, rfl⟩
              obtain ⟨x, hx⟩ : ∃ x, us.getD j 0 = x := ⟨_, rfl⟩
              rw [hy] at hcw
              rw [hx] at hxx0
              have HY := Lib.hid hy
              have HX := Lib.hid hx
              clear hy hx
              by_cases hbk : ys.getD j false = true
              · rw [hbk] at hxx1
                have HBK := Lib.hid hbk
                clear hbk
                by_cases hxy : x = y
                · have hxe : (x == y) = true := by simpa using hxy
                  have hw1 : IntKind.i64.wrap ((kn : Int) - 1) = (kn : Int) - 1 := IntWalk.i64_in _ (by omega)
                  obtain ⟨r8, hr8⟩ : ∃ r8 : Int, (kn : Int) - 1 - (k : Int) = r8 := ⟨_, rfl⟩
                  obtain ⟨b8, hb8⟩ : ∃ b8 : Int, 2 * (bn : Int) = b8 := ⟨_, rfl⟩
                  have hw2 : IntKind.i64.wrap ((kn : Int) - 1 - (k : Int)) = r8 := by rw [IntWalk.i64_in _ (by omega)]; exact hr8
                  have hw3 : IntKind.i64.wrap (2 * (bn : Int)) = b8 := by rw [IntWalk.i64_in _ (by omega)]; exact hb8
                  by_cases hge : k + 2 * bn + 1 ≤ kn
                  · have hge2 : b8 ≤ r8 := by omega
                    have hge3 : ¬ r8 < b8 := by omega
                    clear hr8 hb8
                    go_wp2_with fail
                    have hDd := hD2.drew
                    have hb1q := hgq
                    have hb6q := Nat.lt_of_lt_of_le hb6l HKP.out.1
                    have hb8q := Nat.lt_of_lt_of_le HNr.out.lt HKP.out.1
                    have HC1 := Lib.hid hxx0
                    have HC2 := Lib.hid hxx1
                    have HC3 := Lib.hid hcw
                    have HC4 := Lib.hid hcd
                    go_region_held3 (fun w' => w'.cell? ⟨gM, j * 2, none⟩ = some (.int .i64 x) ∧ w'.cell? ⟨gM, j * 2 + 1, none⟩ = some (.bool true) ∧ w'.cell? ⟨b6, o6 + j, none⟩ = some (.int .i64 y) ∧ w'.cell? ⟨D8, 1, none⟩ = some (.slice A2 bn c2)) (first | exact ⟨hxx0, hxx1, hcw, hcd⟩ | exact hd4)
                      (first
                       | (go_at_call 13; (with_reducible refine (next_any g A n c xs q2 2 _ hDd (by omega)).mono ?_); rintro e w9 ⟨r, q9, rfl, hr, _, hD9, hS9, hz9⟩
                          have hrb := hr (by omega)
                          have hS9 := Step.undrewW hS9
                          have hb9 := Step.below hb2 hS9 hb2.size hg
                          have hO9 := HOC.out.step hS9 (by omega)
                          have hP9 := HKP.out.step hS9
                          have hd4 : _ ∧ _ ∧ _ ∧ _ := ⟨(hS9.at_ hb1q (by omega) HC1.out), (hS9.at_ hb1q (by omega) HC2.out), (hS9.at_ hb6q hb6g HC3.out), (hS9.at_ hb8q (by omega) HC4.out)⟩
                          clear hr hz9))
                    have hD9' : Deck w9 g A n c xs q9 := hD9
                    by_cases hr0 : r = 0
                    · have hre : (r == 0) = true := by simpa using hr0
                      go_wp2_with (go_at_call 13; (refine (next_any g A n c xs q9 99 _ hD9' (by omega)).mono ?_); rintro e w10 ⟨r2, q10, rfl, hr2, _, hD10, hS10, hz10⟩
                                   have hrb2 := hr2 (by omega)
                                   have hoC9 := hO9.step hS10 (by omega)
                                   have hx10 := (hoC9.cellAt hlt).1
                                   have hx11 := (hoC9.cellAt hlt).2
                                   have hf10 := hoC9.frozenAt (j * 2)
                                   have hf11 := hoC9.frozenAt (j * 2 + 1)
                                   have HCn := Lib.hid ((hoC9.stored hlt r2).storedB hlt false)
                                   have HPn := Lib.hid (((hP9.step hS10).set (j * 2) (.int .i64 r2)).set (j * 2 + 1) (.bool false))
                                   have hDn := (hD10.setCell (p := ⟨gM, j * 2, none⟩) (by show g < gM; omega) (.int .i64 r2)).setCell (p := ⟨gM, j * 2 + 1, none⟩) (by show g < gM; omega) (.bool false)
                                   have hbn := ((Step.below hb9 hS10 hb9.size hg).setCell (p := ⟨gM, j * 2, none⟩) (by show _ ≤ gM; omega) (.int .i64 r2)).setCell (p := ⟨gM, j * 2 + 1, none⟩) (by show _ ≤ gM; omega) (.bool false)
                                   have HLN : Hid ((knL (us.set j r2) (ys.set j false)).length + 1 = kn) := Lib.hid (by rw [← HKQ2.out]; exact knF_forget r2 us ys 1 j (by rw [HOC.out.1, HOC.out.2.1]) HBK.out)
                                   have HWN : Hid (wrL p pl (knL (us.set j r2) (ys.set j false)) = bad) := Lib.hid (by rw [← HBD2.out]; exact wrF_forget (p := p) (P := pl) r2 us ys 1 j HBK.out (by rw [HX.out, hxy, ← HY.out, HWV.out j hlt, Int.add_comm]))
                                   have HON : Hid (knOk p (us.set j r2) (ys.set j false)) := Lib.hid (knOk_silent HOK.out (by rw [HOC.out.1, HOC.out.2.1]) j r2)
                                   have hkw : IntKind.i64.wrap ((kn : Int) - 1) = ((kn - 1 : Nat) : Int) := by rw [IntWalk.i64_in _ (by omega)]; omega
                                   clear hr2 hz10)
                      go_roundw
                      case rel => exact ⟨j + 1, kn - 1, q10, _, _, by omega, by go_num, by go_num, by omega, by omega, HCn, HON, HWN, Lib.hid (by have := HLN.out; omega), hDn, HPn, hbn⟩
                      case measure => simp [intOf]; omega
                    · have hre : (r == 0) = false := by simpa using hr0
                      go_wp2
                      go_roundw
                      case rel => exact ⟨j + 1, kn, q9, us, ys, by omega, by go_num, rfl, hkn1, hkn2, Lib.hid hO9, HOK, HBD2, HKQ2, hD9', Lib.hid hP9, hb9⟩
                      case measure => simp [intOf]; omega
                  · have hge2 : ¬ b8 ≤ r8 := by omega
                    have hge4 : ¬ r8 ≥ b8 := hge2
                    have hge5 : decide (r8 ≥ b8) = false := decide_eq_false hge2
                    have hge6 : decide (b8 ≤ r8) = false := decide_eq_false hge2
                    have hge3 : r8 < b8 := by omega
                    clear hr8 hb8
                    go_wp2_with fail
                    go_quiet (fail)
                    go_wp2
                    go_roundw
                    case rel => exact ⟨j + 1, kn, q2, us, ys, by omega, by go_num, rfl, hkn1, hkn2, Lib.hid (HOC.out.drewN_ _), HOK, HBD2, HKQ2, hD2.drewN _, Lib.hid (HKP.out.drewN _), below_drewN hb2 _⟩
                    case measure => simp [intOf]; omega
                · have hxe : (x == y) = false := by simpa using hxy
                  go_wp2_with fail
                  go_quiet (fail)
                  go_wp2
                  go_roundw
                  case rel => exact ⟨j + 1, kn, q2, us, ys, by omega, by go_num, rfl, hkn1, hkn2, Lib.hid (HOC.out.drewN_ _), HOK, HBD2, HKQ2, hD2.drewN _, Lib.hid (HKP.out.drewN _), below_drewN hb2 _⟩
                  case measure => simp [intOf]; omega
              · have hbf : ys.getD j false = false := by simpa using hbk
                rw [hbf] at hxx1
                clear hbk hbf
                go_wp2_with fail
                go_quiet (fail)
                go_wp2
                go_roundw
                case rel => exact ⟨j + 1, kn, q2, us, ys, by omega, by go_num, rfl, hkn1, hkn2, Lib.hid (HOC.out.drewN_ _), HOK, HBD2, HKQ2, hD2.drewN _, Lib.hid (HKP.out.drewN _), below_drewN hb2 _⟩
                case measure => simp [intOf]; omega
            · obtain rfl : N = j := by omega
              have hcfr : World.cell? _ ⟨F, 0, none⟩ = some (.int .i64 p) := ((HKP.out.blk HFr.out (by omega) (by omega)).cell 0).trans rfl
              have hKz := HOC.out.cel
              have hEz := HKP.out.errW HEr.out hg1 (by omega)
              have hWq : (wrL p pl (knL us ys)).length ≤ ((knL us ys).length - k) / 2 := by rw [HBD2.out, HKQ2.out, HBN.out]; omega
              have hkq : k ≤ (knL us ys).length := by rw [HKQ2.out]; omega
              have HUL := Lib.hid HOC.out.1
              have HWQ := Lib.hid hWq
              have HKLq := Lib.hid hkq
              clear hWq hkq
              go_wp2_with fail
              go_at_call 18
              refine (uDecode_ok p (some ⟨gM, 0, none⟩) N c7 k us ys _ HO.out hKz (by omega) (by omega) HOK.out hk1 hkN HKLq.out hEz).mono ?_
              rintro e w8 ⟨⟨hDq, rfl⟩ | ⟨P2, A3, c3, A4, c4, hDq, rfl, hI3, hI4, hc3, hc4, hn3, hn4⟩, hb8⟩
              · exfalso
                have := HW1.out us ys HUL.out HKLq.out HWQ.out _ hDq
                cases this
              · have hP2 : P2 = P := by
                  have := HW1.out us ys HUL.out HKLq.out HWQ.out _ hDq
                  injection this
                subst hP2
                rw [HTR.out, HBD2.out] at hI4
                rw [HTN.out] at hI3
                rw [HBN.out] at hI4
                rw [HTR.out, HBD2.out, HBN.out, HTN.out]
                obtain ⟨W, hW9⟩ : ∃ W, w8.alloc (.cells #[.slice A3 tn1 c3, .slice A4 bn c4] 27) = W := ⟨_, rfl⟩
                have hM1 := hI3.upto (bbox (.cells #[.slice A3 tn1 c3, .slice A4 bn c4] 27))
                have hM2 := hI4.upto (bbox (.cells #[.slice A3 tn1 c3, .slice A4 bn c4] 27))
                have hB9 := ballocs (bnext hb2 hb8) (.cells #[.slice A3 tn1 c3, .slice A4 bn c4] 27)
                have hU9 := ballocs hb8 (.cells #[.slice A3 tn1 c3, .slice A4 bn c4] 27)
                have hZ9 := Blk.new w8 27 #[.slice A3 tn1 c3, .slice A4 bn c4]
                have hD89 := (HKP.out.blk HNr.out (by omega) (by omega)).below hU9 (by have := HNr.out.lt; have := HKP.out.1; omega)
                have hL1 := (HA1.out.kp HKP.out).ints.upto hU9
                have hL2 := (HA2.out.kp HKP.out).ints.upto hU9
                rw [hW9] at hM1 hM2 hB9 hZ9 hD89 hL1 hL2
                have hs0 : W.cell? ⟨D8, 0, none⟩ = some (.slice A1 tn1 c1) := (hD89.cell 0).trans rfl
                have hs1 : W.cell? ⟨D8, 1, none⟩ = some (.slice A2 bn c2) := (hD89.cell 1).trans rfl
                obtain ⟨D9, hD9⟩ : ∃ D9, w8.heap.size = D9 := ⟨_, rfl⟩
                rw [hD9] at hZ9
                have hs2 : W.cell? ⟨D9, 0, none⟩ = some (.slice A3 tn1 c3) := (hZ9.cell 0).trans rfl
                have hs3 : W.cell? ⟨D9, 1, none⟩ = some (.slice A4 bn c4) := (hZ9.cell 1).trans rfl
                go_wp2_with fail
                go_at_call 24
                refine (same_any A1 A3 tn1 tn1 c1 c3 P2 P2 _ hL1 hM1 (by omega) (by omega)).mono ?_
                rintro e w9 ⟨rfl, q1, rfl⟩
                rw [show sameL P2 P2 = true by simp [sameL]]
                have hs11 : (W.drewN q1).cell? ⟨D8, 1, none⟩ = some (.slice A2 bn c2) := hs1
                have hs13 : (W.drewN q1).cell? ⟨D9, 1, none⟩ = some (.slice A4 bn c4) := hs3
                have hL21 := hL2.drewN q1
                have hM21 := hM2.drewN q1
                go_wp2_with fail
                go_at_call 24
                refine (same_any A2 A4 bn bn c2 c4 bad bad _ hL21 hM21 (by omega) (by omega)).mono ?_
                rintro e w10 ⟨rfl, q2, rfl⟩
                rw [show sameL bad bad = true by simp [sameL]]
                go_wp2_with fail
                go_ret
                exact ⟨rfl, below_drewN hB9 (q1 + q2)⟩
  · have hd : decide (n ≤ 500) = false := by simpa using hn
    go_enter Tryd.func8, Tryd.ntmps8
    go_wp2_with (first
      | (go_at_call 9; refine (sane09_any _ hW).mono ?_; rintro e w1 ⟨rfl, hb1⟩)
      | (go_at_call 10; refine (few_any A n c _).mono ?_; rintro e w' ⟨rfl, rfl⟩))
    go_ret
    exact ⟨rfl, hb1⟩
end Go.Proofs.YteipcjmkhacdgaaDoor
