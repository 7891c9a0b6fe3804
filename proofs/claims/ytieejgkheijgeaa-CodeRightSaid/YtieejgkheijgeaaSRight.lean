/-
  CodeRight returns true: the walk of the law. Conditions: none beyond the reading of its arguments.
-/
import Derived.Test.YtieejgkheijgeaaCode4
import Derived.Test.YtieejgkheijgeaaMCells
import Derived.Test.YtieejgkheijgeaaRightA
import Derived.Test.YtieejgkheijgeaaBig
import Derived.Test.YtieejgkheijgeaaShape
import Derived.Deep.QuietTactic
import Derived.BigQuiet
import Derived.Deep.RegionHeld3
import Derived.Deep.DeepCutAuto
namespace Go.Proofs.Ytieejgkheijgeaa
open Go.RowKit
set_option linter.unusedVariables false

set_option maxHeartbeats 6400000 in
set_option maxRecDepth 100000 in
theorem codeRight_walk (A : Option Addr) (n c : Nat) (zs : List Int) (at_ by_ : Int) (w : World) (w0 : IsRow .i64 w A n c zs) (w1 : (Lit.int .u8 at_).wf = true) (w2 : (Lit.int .i64 by_).wf = true) :
    Calls Try.prog 12 #[.slice A n c, .int .u8 at_, .int .i64 by_] w fun e w' => e = .returned (.bool true) ∧ Below w.heap.size w w' := by
  have hat : 0 ≤ at_ ∧ at_ ≤ 255 := by simpa [Lit.wf, IntKind.min, IntKind.max, IntKind.signed, IntKind.bits] using w1
  obtain ⟨h, hw⟩ := w0.ints
  generalize zs.take n = xs at h hw
  clear w0 w1 w2
  by_cases hn : n ≤ 500
  · have hd : decide (n ≤ 500) = true := by simpa using hn
    go_enter Try.func12, Try.ntmps12
    go_upto_region 9 with (first
      | (go_at_call 35; refine (sane08_any _).mono ?_; rintro e w1 ⟨rfl, hb1⟩)
      | (go_at_call 14; refine (few_any A n c _).mono ?_; rintro e w' ⟨rfl, rfl⟩)
      | (go_at_call 15; refine (new_any A n c xs _ (h.upto hb1) hn).mono ?_; rintro e w2 ⟨⟨g, rfl, hge, hD2⟩, hb2⟩
         have hbb2 := bnext hb1 hb2
         have hg : w.heap.size ≤ g := by rw [hge]; exact hb1.size
         clear hge)
      | (go_at_call 16; refine (big_any g A n c xs _ 10 _ hD2 (by omega)).mono ?_; rintro e w3 ⟨p, q3, rfl, hkn, hp10, hD3, hS3⟩
         have hok := okP_known hkn
         have hp := okP_pos hok
         have HO := Lib.hid hok
         have hbb3 := ballocs (Step.below hbb2 hS3 hbb2.size hg) (.cells #[.int .i64 p] 28)
         have hF_3 := Blk.new w3 28 #[.int .i64 p]
         have hD3' := hD3.alloc (.cells #[.int .i64 p] 28)
         have hgf : w3.heap.size ≠ g := by have := hD3.1.lt; omega
         clear hok hkn hD2 hD3 hS3 hbb2 hb1 hb2)
      | (go_at_call 17; (with_reducible refine (next_any g A n c xs q4 N _ hD4 (by omega)).mono ?_); rintro e w5 ⟨r1, q5, rfl, hr1, _, hD5, hS5, hz5⟩
         obtain ⟨K, hK⟩ : ∃ K : Nat, 1 + r1 = K := ⟨(1 + r1).toNat, by have := hr1 (by omega); omega⟩
         have hK1 : 1 ≤ K ∧ K ≤ N := by have := hr1 (by omega); omega
         have hKw : IntKind.i64.wrap (1 + r1) = K := by rw [hK]; exact IntWalk.i64_in _ (by omega)
         have hF_5 := Step.block hS5 hF_4 hgf
         have hbb5 := Step.below hbb4 hS5 hbb4.size hg
         have hg5 := hD5.1.lt
         clear hr1 hz5 hS5)
      | (go_at_call 17; refine (next_any g A n c xs q3 10 _ hD3' (by omega)).mono ?_; rintro e w4 ⟨r', q4, rfl, hr, hr0, hD4, hS4, hz4⟩
         obtain ⟨N, hN⟩ : ∃ N : Nat, 1 + r' = N := ⟨(1 + r').toNat, by have := hr (by omega); omega⟩
         have hN8 : 1 ≤ N ∧ N ≤ 10 := by have := hr (by omega); omega
         have hNw : IntKind.i64.wrap (1 + r') = N := by rw [hN]; exact IntWalk.i64_in _ (by omega)
         have hF_4 := Step.block hS4 hF_3 hgf
         have hbb4 := Step.below hbb3 hS4 hbb3.size hg
         clear hr hr0 hz4 hS4))
    clear hF_3 hD3' hbb3 hF_4 hD4 hbb4 hNw hN hKw hK
    have HFF : Hid (∀ wx, Step g w5 wx → wx.cell? ⟨w3.heap.size, 0, none⟩ = some (.int .i64 p)) := Lib.hid fun wx hx => ((Step.block hx hF_5 hgf).cell 0).trans rfl
    have hQ0 : Step g w5 w5.drew := (Step.refl g w5).drew
    have hD5d := hD5.drew
    go_region_held3 (fun w' => w'.cell? ⟨w3.heap.size, 0, none⟩ = some (.int .i64 p)) (first | exact HFF.out _ hQ0 | exact HFF.out _ hS7 | exact HFF.out _ hS8 | exact HFF.out _ hS9)
      (first
        | (go_at_call 43; (refine (mcells_ok g A n c xs q8 p A7 K c7 P N sil _ hD8 HO.out hown8.ints hPa hown8.cap (by omega) (by omega) (by omega) (by omega)).mono ?_); rintro e w9 ⟨A9, c9, vs, bs, q9, rfl, hoC, HV, HCN, hD9, hS9'⟩
           have hS9 := hS8.trans hS9'
           have hown9 := hown8.step hS9' hg5)
        | (go_at_call 36; (with_reducible refine (elements_any g A n c xs q5 p K _ hD5d hp (by omega)).mono ?_); rintro e w7 ⟨A7, c7, P, q7, rfl, hown7, hPa, hD7, hS7'⟩
           have hS7 := hQ0.trans hS7')
        | (go_at_call 17; (with_reducible refine (next_any g A n c xs q7 N _ hD7 (by omega)).mono ?_); rintro e w8 ⟨r3, q8, rfl, hr3, _, hD8, hS8', hz8⟩
           obtain ⟨sil, rfl⟩ : ∃ r : Nat, r3 = r := ⟨r3.toNat, by have := hr3 (by omega); omega⟩
           have hsil : sil < N := by have := hr3 (by omega); omega
           have hS8 := hS7.trans hS8'
           have hown8 := hown7.step hS8' hg5
           clear hr3 hz8))
    have hbb9 := Step.below hbb5 hS9 hbb5.size hg
    have hF9 := Step.block hS9 hF_5 hgf
    have hcf9 : w9.cell? ⟨w3.heap.size, 0, none⟩ = some (.int .i64 p) := (hF9.cell 0).trans rfl
    have hPL0 := hown9.ints.len
    have HPA := Lib.hid hPa
    have HPL := Lib.hid hPL0
    have hb0w : w.heap.size ≤ w8.heap.size := by have h1 := hbb5.size; have h2 := hS8.size; omega
    have hle89 : w3.heap.size < w8.heap.size := by have h1 := hF_5.lt; have h2 := hS8.size; omega
    have hvl0 := hoC.cel.1
    have hbl0 := hoC.cel.2.1
    have HVL := Lib.hid hvl0
    have HBL := Lib.hid hbl0
    have HVB : Hid (vs.length = bs.length) := Lib.hid (by rw [hvl0, hbl0])
    have HKV : Hid (KnV p P (knL vs bs)) := Lib.hid (knV_of HV.out hvl0)
    have HKO : Hid (knOk p vs bs) := Lib.hid (HKV.out.ok hp.1)
    have hNp : (N : Int) < p := by omega
    have hN32 : N ≤ 32 := by omega
    obtain ⟨kn, HKN⟩ : ∃ kn, Hid ((knL vs bs).length = kn) := ⟨_, Lib.hid rfl⟩
    have hkn1 : 1 ≤ kn := by have := HCN.out; rw [HKN.out] at this; omega
    have hknN : kn ≤ N := by have := knL_len vs bs; rw [HKN.out, hvl0] at this; exact this
    obtain ⟨gC, rfl, hgC, hgCl⟩ := hoC.form (by omega)
    have hcapC : N ≤ N := Nat.le_refl _
    clear HFF hQ0 hD5 hD5d hD7 hD8 hD9 hS7 hS7' hS8 hS8' hS9 hS9' hown7 hown8 hown9 hPa hF_5 hbb5 hvl0 hbl0 HCN hPL0
    have hCe := hoC.cel
    -- what Right says: true at first
    have HR1 : Hid (K ≤ kn → ∀ R, Through p (ptK ((knL vs bs).take K)) (vlK ((knL vs bs).take K)) R → ((agr p R (knL vs bs) : Int) == ((knL vs bs).length : Int)) = true) := Lib.hid fun hk R hR => by
      rw [fills HO.out HPA.out (by rw [HPL.out]; exact Nat.le_refl _) HKV.out (by rw [HVL.out]; exact hNp) (by rw [HKN.out]; exact hk) hR, (HKV.out.trim hp.1).agr]
      simp
    have HRC : Hid (∀ w : World, Cel w w.heap.size (some ⟨gC, 0, none⟩) N vs bs → Calls Try.prog 47 #[.agg #[.int .i64 p], .slice (some ⟨gC, 0, none⟩) N c9, .int .i64 K] w fun e w' => e = .returned (.tuple #[.bool true, .int .i64 0]) ∧ Below w.heap.size w w') := Lib.hid fun wx hx => by
      by_cases hk : K ≤ kn
      · refine (right_ok p _ N c9 K vs bs wx HO.out hx hN32 hNp HKO.out hK1.1 hK1.2 (by rw [HKN.out]; exact hk)).mono ?_
        rintro e w' ⟨⟨R, rfl, hT⟩, hb⟩
        rw [HR1.out hk R hT]
        exact ⟨rfl, hb⟩
      · exact right_few p _ N c9 K vs bs wx HO.out hx hN32 hNp HKO.out hK1.1 hK1.2 (by rw [HKN.out]; omega)
    go_wp2_with (go_at_call 47; refine (HRC.out _ hCe).mono ?_; rintro e w10 ⟨rfl, hb10⟩
                 have hbb10 := bnext hbb9 hb10
                 have hF10 := hF9.below hb10 hF9.lt
                 have hoC10 := hoC.belowAll hb10
                 have hCe10 := hoC10.cel)
    obtain ⟨i0, hi0, hz0, hz1, hz2⟩ := info_parts info_int
    go_loopw [14, 15, 56] (fun mm s i wz => ∃ (j d : Nat) (L : Option Addr) (lc : Nat), j ≤ N ∧ i = .int .i64 j ∧ mm = .int .i64 d ∧ s = .slice L d lc ∧ Hid ((knL (vs.take j) (bs.take j)).length = d) ∧ Hid (OwnI wz w10.heap.size 3 L d lc (plK (knL (vs.take j) (bs.take j)))) ∧ Below w10.heap.size w10 wz) (fun _ _ i _ => N - (intOf i).toNat)
    case atStart => exact ⟨0, 0, none, 0, Nat.zero_le _, rfl, rfl, rfl, Lib.hid rfl, Lib.hid OwnI.nil_, Below.refl _ _⟩
    case round =>
      obtain ⟨j, d, L, lc, hj, rfl, rfl, rfl, HD, HOI, hbz⟩ := hrel
      by_cases hlt : j < N
      · have hgl10 : gC < w10.heap.size := Nat.lt_of_lt_of_le hgCl hb10.size
        have hcv := (hbz.cell (p := ⟨gC, j * 2, none⟩) hgl10).trans (hoC10.cellAt hlt).1
        have hcb := (hbz.cell (p := ⟨gC, j * 2 + 1, none⟩) hgl10).trans (hoC10.cellAt hlt).2
        have HST := Lib.hid (knL_step (vs := vs) (bs := bs) HVB.out (j := j) (by rw [HVL.out]; exact hlt))
        have hdN := knL_len (vs.take j) (bs.take j)
        rw [HD.out, List.length_take] at hdN
        have hdw : IntKind.i64.wrap ((d : Int) + 1) = (d : Int) + 1 := IntWalk.i64_in _ (by omega)
        have hj0 : (0 : Int) ≤ (j : Int) := by omega
        have hjN : (j : Int) < (N : Int) := by omega
        obtain ⟨v, HVv⟩ : ∃ v, Hid (vs.getD j 0 = v) := ⟨_, Lib.hid rfl⟩
        rw [HVv.out] at hcv HST
        by_cases hb : bs.getD j false = true
        · rw [hb] at hcb
          have hbza := hbz.alloc hbz.size (.cells #[.int .i64 v, .bool true] 75)
          have hN := Blk.new wr 75 #[.int .i64 v, .bool true]
          have hn0 : (wr.alloc (.cells #[.int .i64 v, .bool true] 75)).cell? ⟨wr.heap.size, 0, none⟩ = some (.int .i64 v) := (hN.cell 0).trans rfl
          have hn1 : (wr.alloc (.cells #[.int .i64 v, .bool true] 75)).cell? ⟨wr.heap.size, 1, none⟩ = some (.bool true) := (hN.cell 1).trans rfl
          have hbzb := hbza.alloc hbza.size (.cells #[.int .i64 (j : Int)] 3)
          have hoI := (HOI.out.alloc (.cells #[.int .i64 v, .bool true] 75)).alloc (.cells #[.int .i64 (j : Int)] 3)
          have HD2 : Hid ((knL (vs.take (j + 1)) (bs.take (j + 1))).length = d + 1) := Lib.hid (by rw [HST.out, List.length_append, HD.out, hb]; rfl)
          have HPK : Hid (plK (knL (vs.take j) (bs.take j)) ++ [(j : Int)] = plK (knL (vs.take (j + 1)) (bs.take (j + 1)))) := Lib.hid (by
            rw [HST.out, hb]
            unfold plK
            rw [if_pos rfl, List.map_append]
            congr 1
            show [(j : Int)] = [(j : Int) + 1 - 1]
            rw [Int.add_sub_cancel])
          clear hb
          go_wp2_with ((at_builtin; refine wpList_append_ints rfl _ _ _ rfl w10.heap.size 3 i0 _ Try.underlying22 hi0 hz0 hz1 hz2 rfl L d lc _ rfl hoI _ _ 1 1 [(j : Int)] rfl (Ints.oneAt _ _ _ _ (by simp)) (d + 1) rfl _ HPK.out (by omega) hbzb.size ?_; intro A2 c2 w4 hown4 hgr hbw4 hab; have hbz4 := hbzb.trans hbw4))
          go_roundw
          case rel => exact ⟨j + 1, d + 1, A2, c2, by omega, by go_num, by go_num, rfl, HD2, Lib.hid hown4, hbz4⟩
          case measure => simp [intOf]; omega
        · have hbf : bs.getD j false = false := by simpa using hb
          rw [hbf] at hcb
          have hbza := hbz.alloc hbz.size (.cells #[.int .i64 v, .bool false] 75)
          have hoI := HOI.out.alloc (.cells #[.int .i64 v, .bool false] 75)
          have HD2 : Hid ((knL (vs.take (j + 1)) (bs.take (j + 1))).length = d) := Lib.hid (by rw [HST.out, List.length_append, HD.out, hbf]; rfl)
          have HPK : Hid (plK (knL (vs.take j) (bs.take j)) = plK (knL (vs.take (j + 1)) (bs.take (j + 1)))) := Lib.hid (by rw [HST.out, hbf]; simp)
          clear hb hbf
          go_wp2
          go_roundw
          case rel => exact ⟨j + 1, d, L, lc, by omega, by go_num, rfl, rfl, HD2, Lib.hid (by rw [← HPK.out]; exact hoI), hbza⟩
          case measure => simp [intOf]; omega
      · obtain rfl : N = j := by omega
        have hde := HD.out
        have hOI := HOI.out
        rw [List.take_of_length_le (by rw [HVL.out]; exact Nat.le_refl _), List.take_of_length_le (by rw [HBL.out]; exact Nat.le_refl _)] at hde hOI
        rw [HKN.out] at hde
        subst hde
        obtain ⟨gL, rfl, hgL, hgLl⟩ := hOI.form (by omega)
        have hoCz := hoC10.belowAll hbz
        have hbw := bnext hbb10 hbz
        have hFz := hF10.below hbz hF10.lt
        have hczF : wr.cell? ⟨w3.heap.size, 0, none⟩ = some (.int .i64 p) := (hFz.cell 0).trans rfl
        have hknz : ¬ (kn : Int) = 0 := by omega
        have hknb : ((kn : Int) == 0) = false := by simp; omega
        obtain ⟨r, hr⟩ : ∃ r : Nat, at_ % (kn : Int) = r := ⟨(at_ % (kn : Int)).toNat, by rw [Int.toNat_of_nonneg (Int.emod_nonneg _ (by omega))]⟩
        have hrk : r < kn := by have := Int.emod_lt_of_pos at_ (b := (kn : Int)) (by omega); omega
        have hatw : IntKind.i64.wrap at_ = at_ := IntWalk.i64_in _ (by omega)
        have hrki : (r : Int) < (kn : Int) := by omega
        have hr0 : (0 : Int) ≤ (r : Int) := by omega
        obtain ⟨i, hiN, hib, hir⟩ := plK_at (vs := vs) (bs := bs) (r := r) (by rw [HKN.out]; exact hrk)
        rw [HVL.out] at hiN
        have hcr := hOI.cellAt hrk
        rw [hir] at hcr
        have HIB := Lib.hid hib
        obtain ⟨y, HY⟩ : ∃ y, Hid (vs.getD i 0 = y) := ⟨_, Lib.hid rfl⟩
        have hci := (hoCz.cellAt hiN).1
        rw [HY.out] at hci
        have hfi := hoCz.frozenAt (i * 2)
        have hvb : 0 ≤ by_ % p ∧ by_ % p < p := ⟨Int.emod_nonneg _ (by omega), Int.emod_lt_of_pos _ (by omega)⟩
        obtain ⟨v, HV2⟩ : ∃ v, Hid (by_ % p = v) := ⟨_, Lib.hid rfl⟩
        rw [HV2.out] at hvb
        have hi0 : (0 : Int) ≤ (i : Int) := by omega
        have hiNi : (i : Int) < (N : Int) := by omega
        have HKO2 : Hid (knOk p (vs.set i v) bs) := Lib.hid (HKV.out.okSet hp.1 HVB.out hvb)
        have HKN2 : Hid ((knL (vs.set i v) bs).length = kn) := Lib.hid (by rw [knL_setlen, HKN.out])
        obtain ⟨ans, HANS⟩ : ∃ ans, Hid (((y == v) || decide (kn ≤ K)) = ans) := ⟨_, Lib.hid rfl⟩
        have HRD : Hid (∀ w : World, Cel w w.heap.size (some ⟨gC, 0, none⟩) N (vs.set i v) bs → Calls Try.prog 47 #[.agg #[.int .i64 p], .slice (some ⟨gC, 0, none⟩) N c9, .int .i64 K] w fun e w' => e = .returned (.tuple #[.bool ans, .int .i64 0]) ∧ Below w.heap.size w w') := Lib.hid fun wx hx => by
          by_cases hk : K ≤ kn
          · refine (right_ok p _ N c9 K (vs.set i v) bs wx HO.out hx hN32 hNp HKO2.out hK1.1 hK1.2 (by rw [HKN2.out]; exact hk)).mono ?_
            rintro e w' ⟨⟨R, rfl, hT⟩, hb⟩
            rw [right_changed HO.out HPA.out (by rw [HPL.out]; exact Nat.le_refl _) HKV.out HVB.out (by rw [HVL.out]; exact hNp) (by rw [HVL.out]; exact hiN) HIB.out (by rw [HKN.out]; exact hk) hT, HY.out, HKN.out, HANS.out]
            exact ⟨rfl, hb⟩
          · refine (right_few p _ N c9 K (vs.set i v) bs wx HO.out hx hN32 hNp HKO2.out hK1.1 hK1.2 (by rw [HKN2.out]; omega)).mono ?_
            rintro e w' ⟨rfl, hb⟩
            rw [← HANS.out, decide_eq_true (show kn ≤ K by omega), Bool.or_true]
            exact ⟨rfl, hb⟩
        clear hir hib hoC hoC10 hCe10 hF10 hgCl HD HOI hOI hCe hcf9 hF9 hbb10 hbb9
        go_wp2_with fail
        go_quiet ((go_at_call 24; exact quiet_left (mod_any by_ p _ (by omega) (by omega))))
        rw [HV2.out]
        obtain ⟨w11, hw11⟩ : ∃ w11, w11 = wr.drewN nq := ⟨_, rfl⟩
        rw [← hw11]
        have hoC11 : OwnC w11 w8.heap.size (some ⟨gC, 0, none⟩) N c9 vs bs := by rw [hw11]; exact hoCz
        have hb11 : Below w.heap.size w w11 := by rw [hw11]; exact below_drewN hbw nq
        have hF11 : Blk w11 w3.heap.size 28 #[.int .i64 p] := by rw [hw11]; exact hFz.drewN nq
        have hcF11 : w11.cell? ⟨w3.heap.size, 0, none⟩ = some (.int .i64 p) := (hF11.cell 0).trans rfl
        have hc11 : w11.cell? ⟨gC, i * 2, none⟩ = some (.int .i64 y) := by rw [hw11]; exact hci
        have hf11 := hoC11.frozenAt (i * 2)
        have hoCn := hoC11.stored hiN v
        have hCn := hoCn.cel
        have hgCw : w.heap.size ≤ gC := by have := hb0w; omega
        have hbn : Below w.heap.size w (w11.setCell ⟨gC, i * 2, none⟩ (.int .i64 v)) := hb11.setCell (p := ⟨gC, i * 2, none⟩) hgCw _
        have hgF : w3.heap.size ≠ gC := by omega
        have hFn := hF11.far (p := ⟨gC, i * 2, none⟩) hgF (.int .i64 v)
        have hcFn : (w11.setCell ⟨gC, i * 2, none⟩ (.int .i64 v)).cell? ⟨w3.heap.size, 0, none⟩ = some (.int .i64 p) := (hFn.cell 0).trans rfl
        have HRN := Lib.hid (HRD.out _ hCn)
        obtain ⟨sb, hsb⟩ : ∃ sb, (y == v) = sb := ⟨_, rfl⟩
        rw [hsb]
        rw [hsb] at HANS
        clear hw11 hoCz hoC11 hbw hFz hczF hci hfi HRC HRD hsb hF11 hFn
        by_cases hkK : kn ≤ K
        · have hkKi : (kn : Int) ≤ (K : Int) := by omega
          have ha : ans = true := by rw [← HANS.out, decide_eq_true hkK, Bool.or_true]
          subst ha
          cases sb
          all_goals
            go_wp2_with (first
              | (go_at_call 24; refine (mod_any by_ p _ (by omega) (by omega)).mono ?_; rintro e w' ⟨rfl, rfl⟩; rw [HV2.out])
              | (go_at_call 47; refine HRN.out.mono ?_; rintro e w12 ⟨rfl, hb12⟩))
            go_ret
            exact ⟨rfl, bnext hbn hb12⟩
        · have hkKi : ¬ ((kn : Int) ≤ (K : Int)) := by omega
          have ha : ans = sb := by rw [← HANS.out, decide_eq_false hkK, Bool.or_false]
          subst ha
          cases ans
          all_goals
            go_wp2_with (first
              | (go_at_call 24; refine (mod_any by_ p _ (by omega) (by omega)).mono ?_; rintro e w' ⟨rfl, rfl⟩; rw [HV2.out])
              | (go_at_call 47; refine HRN.out.mono ?_; rintro e w12 ⟨rfl, hb12⟩))
            go_ret
            exact ⟨rfl, bnext hbn hb12⟩
  · have hd : decide (n ≤ 500) = false := by simpa using hn
    go_enter Try.func12, Try.ntmps12
    go_wp2_with (first
      | (go_at_call 35; refine (sane08_any _).mono ?_; rintro e w1 ⟨rfl, hb1⟩)
      | (go_at_call 14; refine (few_any A n c _).mono ?_; rintro e w' ⟨rfl, rfl⟩))
    go_ret
    exact ⟨rfl, hb1⟩
end Go.Proofs.Ytieejgkheijgeaa
