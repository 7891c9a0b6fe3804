/-
  What the step of solve's reduction does where a row can lead in the column. Conditions: the block of a reduced form, as reduce lays it.
-/
import Derived.Test.YtmcgnpdfpfgfpaaGreatDoorGLea
import Derived.Deep.DeepCutAuto
import Derived.Deep.QuietTactic
import Derived.BigQuiet
namespace Go.Proofs.YtmcgnpdfpfgfpaaGreatDoor
open Go.RowKit
set_option linter.unusedVariables false

set_option maxHeartbeats 8000000 in
set_option maxRecDepth 100000 in
/-- A row leads. -/
theorem lead_yes (base gs : Nat) (p : Int) (c : Nat) (R : Option Addr) (n cap : Nat) (bs : List (Nat × Nat)) (m : List (List Int)) (lead : List Nat) (k r i : Nat) (w : World)
    (h : RedW w base gs p c R n cap bs m lead) (hok : okP p = true) (hI : RInv p k lead m) (he : Elts p (c + 1) m) (hk : k < c) (hc : c ≤ 32) (hn : n ≤ 32) (hr : Hid (lead.length = r)) (hri : r ≤ i) (hin : i < n) (hne : mx m i k ≠ 0) (hz : Hid (∀ q, r ≤ q → q < i → mx m q k = 0)) :
    Calls Tryz.prog 184 #[.pointer (some ⟨gs, 0, none⟩), .int .i64 k] w (LeadPost base gs p c R n cap k m w) := by
  have hp := okP_pos hok
  have hx0 := he.mx_in hp.1 (i := i) (by rw [h.ln]; exact hin) k
  have hx1 : 0 < mx m i k ∧ mx m i k < p := by omega
  have HV := Lib.hid (invF_mul hok hx1)
  obtain ⟨go, hRe, hgb, hgl, hgg, hbn, hrow⟩ := h.form (by omega)
  subst hRe
  have hrl : r < n := by omega
  have hc0 : w.cell? ⟨gs, 0, none⟩ = some (.int .i64 p) := (h.blk.cell 0).trans (redC_0 _ _ _ _ _)
  have hc2 : w.cell? ⟨gs, 2, none⟩ = some (.slice (some ⟨go, 0, none⟩) n cap) := (h.blk.cell 2).trans (redC_2 _ _ _ _ _)
  have hc3 : w.cell? ⟨gs, 3, none⟩ = some (.int .i64 r) := by rw [← hr.out]; exact (h.blk.cell 3).trans (redC_3 _ _ _ _ _)
  have hk0 : (0 : Int) ≤ (k : Int) := by omega
  have hkc : (k : Int) < ((c + 1 : Nat) : Int) := by omega
  have hkc2 : k < c + 1 := by omega
  have HF := Lib.hid (fun q (hq : q < n) => (hrow q hq).1)
  have HC : Hid (∀ q, q < n → w.cell? ⟨(bs.getD q (0, 0)).1, k, none⟩ = some (.int .i64 (mx m q k))) := Lib.hid fun q hq => (h.rws.own q (by rw [h.ln]; exact hq)).cellAt (by omega)
  have hri2 := HF.out r hrl
  have hii := HF.out i hin
  have hfr := (hrow r hrl).2
  have hfi := (hrow i hin).2
  have hci := HC.out i hin
  -- the rows exchanged
  have hbl : bs.length = n := by rw [h.rws.ln, h.ln]
  have HSW := Lib.hid (h.swapped (r := r) (i := i) hrl hin)
  have hml := h.ln
  have HROW : Hid ((swapM m r i).getD r [] = m.getD i []) := Lib.hid (by rw [swapM_at m (by omega) (by omega)]; unfold swI; rw [if_pos rfl])
  have HBR1 : Hid ((swapB bs r i).getD r (0, 0) = bs.getD i (0, 0)) := Lib.hid (by rw [swapB_at bs (by omega) (by omega)]; unfold swI; rw [if_pos rfl])
  have HE := Lib.hid he
  have hE0 := Lib.hid he
  have HI := Lib.hid hI
  have HH := Lib.hid h
  have HB := Lib.hid hbn
  obtain ⟨bi, hbi⟩ : ∃ b, (bs.getD i (0, 0)).1 = b := ⟨_, rfl⟩
  obtain ⟨ci, hci2⟩ : ∃ b, (bs.getD i (0, 0)).2 = b := ⟨_, rfl⟩
  obtain ⟨br, hbr⟩ : ∃ b, (bs.getD r (0, 0)).1 = b := ⟨_, rfl⟩
  obtain ⟨cr, hcr⟩ : ∃ b, (bs.getD r (0, 0)).2 = b := ⟨_, rfl⟩
  rw [hbi, hci2] at hii
  rw [hbi] at hci
  rw [hbr, hcr] at hri2
  obtain ⟨x0, hx0e⟩ : ∃ x, mx m i k = x := ⟨_, rfl⟩
  rw [hx0e] at hci hx1
  have hx2 : ¬ x0 = 0 := by omega
  obtain ⟨vy, hvy⟩ := cell?_setCell_some (w := w) (p := ⟨go, r, none⟩) (x := .slice (some ⟨bi, 0, none⟩) (c + 1) ci) (q := ⟨go, i, none⟩) (v := .slice (some ⟨bi, 0, none⟩) (c + 1) ci) hii
  have HX := Lib.hid hx0e
  have HXX : Hid ((m.getD i []).getD k 0 = x0) := Lib.hid hx0e
  have HR0 := hr
  have HBI := Lib.hid hbi
  have HBR := Lib.hid hbr
  have HCI := Lib.hid hci2
  have HCR := Lib.hid hcr
  obtain ⟨c1, hc1⟩ : ∃ c1 : Nat, c + 1 = c1 := ⟨_, rfl⟩
  rw [hc1] at hkc hkc2 hii hri2 hvy HF
  have HC1 := Lib.hid hc1
  have hc33 : c1 ≤ 33 := by omega
  have h1i : (i : Int) < (n : Int) := by omega
  have h1r : (r : Int) < (n : Int) := by omega
  have h0i : (0 : Int) ≤ (i : Int) := by omega
  have h0r : (0 : Int) ≤ (r : Int) := by omega
  have hine : ¬ (i : Int) = (n : Int) := by omega
  have HRA := Lib.hid (he i (by omega)).2
  have HRL : Hid ((m.getD i []).length = c1) := Lib.hid (by rw [← hc1]; exact (he i (by omega)).1)
  obtain ⟨row, hrw⟩ : ∃ l, m.getD i [] = l := ⟨_, rfl⟩
  rw [hrw] at HROW HXX HRA HRL
  have HRW0 := Lib.hid hrw
  obtain ⟨v, hv⟩ : ∃ v, invF p x0 = v := ⟨_, rfl⟩
  have hv0 : 0 ≤ v ∧ v < p := by rw [← hv]; exact invF_in hp.1 _
  have HVE := Lib.hid hv
  have hbg : bi ≠ gs := by rw [← hbi]; exact (hbn i hin).2
  have hkl : k ∉ lead := fun e => by have := hI.mem_lt e; omega
  have hgsl := h.blk.lt
  have hlo := h.lo
  have hmn : m.length = n := hml
  have HMN := Lib.hid hmn
  clear hmn hml hv hrw
  clear h hI he hr hc1 hrow hbn hbi hci2 hbr hcr hx0e hx0 hne hbl
  go_enter Tryz.func184, Tryz.ntmps184
  go_wp2
  go_loop [4] (fun v => ∃ q : Nat, r ≤ q ∧ q ≤ i ∧ v = .int .i64 q) (fun v => i - (intOf v).toNat)
  case atStart => exact ⟨r, Nat.le_refl _, hri, rfl⟩
  case round =>
    obtain ⟨q, hq1, hq2, rfl⟩ := hrel
    by_cases hlt : q < i
    · have hrq := HF.out q (by omega)
      have hcq := HC.out q (by omega)
      rw [hz.out q hq1 hlt] at hcq
      obtain ⟨bq, hbq⟩ : ∃ b, (bs.getD q (0, 0)).1 = b := ⟨_, rfl⟩
      obtain ⟨cq, hcq2⟩ : ∃ b, (bs.getD q (0, 0)).2 = b := ⟨_, rfl⟩
      rw [hbq] at hrq hcq
      rw [hcq2] at hrq
      clear hbq hcq2
      have h1 : (q : Int) < (n : Int) := by omega
      have h0 : (0 : Int) ≤ (q : Int) := by omega
      go_wp2
      go_round
      case rel => exact ⟨q + 1, by omega, by omega, by go_num⟩
      case measure => simp [intOf]; omega
    · obtain rfl : i = q := by omega
      go_wp2
      have hsw := HSW.out
      rw [HBI.out, HCI.out, HBR.out, HCR.out, HC1.out] at hsw
      obtain ⟨W, hW⟩ : ∃ W, (w.setCell ⟨go, r, none⟩ (.slice (some ⟨bi, 0, none⟩) c1 ci)).setCell ⟨go, i, none⟩ (.slice (some ⟨br, 0, none⟩) c1 cr) = W := ⟨_, rfl⟩
      rw [hW] at hsw
      have HWE := Lib.hid hW
      clear hW
      go_cut [4] (fun s4 wx => s4 = .int .i64 i ∧ wx = W.drew)
      case first =>
        as_aux_lemma =>
          clear hsw
          go_region
          go_wp2
          go_meet
          case rel => exact ⟨rfl, by rw [← HWE.out]⟩
      case rest =>
      obtain ⟨rfl, rfl⟩ := hcut
      obtain ⟨hRW, hSt⟩ := hsw
      have hown1 := hRW.rws.own r (by rw [hRW.ln]; exact hrl)
      rw [HBR1.out, HBI.out, HCI.out, HROW.out, HC1.out] at hown1
      have hw0 : W.cell? ⟨gs, 0, none⟩ = some (.int .i64 p) := (hRW.blk.cell 0).trans (redC_0 _ _ _ _ _)
      have hw2 : W.cell? ⟨gs, 2, none⟩ = some (.slice (some ⟨go, 0, none⟩) n cap) := (hRW.blk.cell 2).trans (redC_2 _ _ _ _ _)
      have hw3 : W.cell? ⟨gs, 3, none⟩ = some (.int .i64 r) := by rw [← HR0.out]; exact (hRW.blk.cell 3).trans (redC_3 _ _ _ _ _)
      obtain ⟨go2, hgo2, _, _, _, _, hrow2⟩ := hRW.form (by omega)
      injection hgo2 with hgo2
      injection hgo2 with hgo2
      subst hgo2
      have hwr := (hrow2 r hrl).1
      rw [HBR1.out, HBI.out, HCI.out, HC1.out] at hwr
      have hwk := hown1.cellAt hkc2
      rw [HXX.out] at hwk
      clear hc0 hc2 hc3 hvy hri2 hii hfr hfi hci HSW hrow2
      have HRW := Lib.hid hRW
      have HOW := Lib.hid hown1
      have HST := Lib.hid hSt
      clear hRW hown1 hSt
      go_wp2_with fail
      go_quiet (fail)
      go_wp2_with fail
      go_quiet ((go_at_call 123; exact quiet_add_left (inv_eq p x0 v _ hok hx1 HVE.out)))
      go_wp2_with fail
      have hWgs : gs < W.heap.size := HRW.out.blk.lt
      have hbW : bi < W.heap.size := (World.ownsRow.lt HOW.out bi rfl).2
      go_loopw [97] (fun i97 wr => ∃ q : Nat, q ≤ c1 ∧ i97 = .int .i64 q ∧ OwnI wr base 3 (some ⟨bi, 0, none⟩) c1 ci (partly (fun t _ => mulP p t v) row row q) ∧ Step bi W wr) (fun i _ => c1 - (intOf i).toNat)
      case atStart => exact ⟨0, Nat.zero_le _, rfl, by rw [partly_zero]; exact HOW.out.drewN _, (Step.refl _ _).drewN _⟩
      case round =>
        obtain ⟨q, hq, rfl, hown, hS⟩ := hrel
        by_cases hlt : q < c1
        · have hz0 : wr.cell? ⟨gs, 0, none⟩ = some (.int .i64 p) := (World.cell?_of_block (World.grownBy.block hS gs hWgs (fun e => hbg (by injection e with e; exact e.symm)))).trans hw0
          have hzx := hown.cellAt hlt
          rw [partly_at _ row row rfl q (by rw [HRL.out]; exact hlt)] at hzx
          have hfz := hown.frozenAt q
          have hst := hown.stored q (mulP p (row.getD q 0) v)
          rw [partly_set (fun t _ => mulP p t v) row row rfl q (by rw [HRL.out]; exact hlt)] at hst
          have hS2 := hS.set q (.int .i64 (mulP p (row.getD q 0) v))
          have hy := allP_getD HRA.out (k := q) (by rw [HRL.out]; exact hlt)
          generalize row.getD q 0 = y at *
          have HS := Lib.hid hst
          have HS2 := Lib.hid hS2
          clear hst hS2 hown hS
          have h1 : (q : Int) < (c1 : Int) := by omega
          have h0 : (0 : Int) ≤ (q : Int) := by omega
          go_wp2_with (go_at_call 119; refine (mulP_any p y v _ hp hy hv0).mono ?_; rintro e w' ⟨rfl, rfl⟩)
          go_roundw
          case rel => exact ⟨q + 1, by omega, by go_num, HS.out, HS2.out⟩
          case measure => simp [intOf]; omega
        · obtain rfl : c1 = q := by omega
          have HSC : Hid (partly (fun t _ => mulP p t v) row row c1 = scaleP p v row) := Lib.hid (by have := partly_all (fun t _ => mulP p t v) row row rfl; rw [HRL.out] at this; rw [this, scale_all])
          rw [HSC.out] at hown
          have hR2 := HRW.out.row_set (j := r) hrl (l := scaleP p v row) (w' := wr) (by rw [HBR1.out, HBI.out]; exact hS) (by rw [HBR1.out, HBI.out, HCI.out, HC1.out]; exact hown)
          have hm2 : (swapM m r i).set r (scaleP p v row) = scaleM p v (swapM m r i) r := by unfold scaleM; rw [HROW.out]
          rw [hm2] at hR2
          have hBW : Below base w wr := Step.below (Step.below (Below.refl base w) HST.out (by omega) hgb) hS (by have := HRW.out.lo; omega) (by have := World.ownsRow.lt hown bi rfl; exact this.1)
          have hE2 : Elts p c1 (scaleM p v (swapM m r i) r) := by
            have := scaleM_elts (v := v) hp.1 (swapM_elts (n := c1) (r := r) (i := i) (by rw [← HC1.out]; exact HE.out) (by rw [HMN.out]; exact hrl) (by rw [HMN.out]; exact hin)) (r := r) (by rw [swapM_len, HMN.out]; exact hrl)
            exact this
          have hM2 : (scaleM p v (swapM m r i) r).length = n := by rw [scaleM_len, swapM_len]; exact HMN.out
          have HLM : Hid (∀ z : List (List Int), elimM p k r n (scaleM p v (swapM m r i) r) = z → leadM p v k r i m = z) := Lib.hid fun z hz2 => by unfold leadM; rw [HMN.out]; exact hz2
          have HM2 := Lib.hid hM2
          have HE2 := Lib.hid hE2
          have hz2 : wr.cell? ⟨gs, 2, none⟩ = some (.slice (some ⟨go, 0, none⟩) n cap) := (hR2.blk.cell 2).trans (redC_2 _ _ _ _ _)
          obtain ⟨m2, hm2e⟩ : ∃ m2, scaleM p v (swapM m r i) r = m2 := ⟨_, rfl⟩
          rw [hm2e] at hR2 HM2 HE2 HLM
          have HB1 := Lib.hid HBR1.out
          obtain ⟨bs1, hbs1⟩ : ∃ b, swapB bs r i = b := ⟨_, rfl⟩
          rw [hbs1] at hR2 HB1
          have HR2 := Lib.hid hR2
          have HBW := Lib.hid hBW
          clear hR2 hown hS hm2 hM2 hE2 hm2e hbs1 hBW hw0 hw2 hw3 hwr hwk
          go_wp2_with fail
          have HMA : Hid (∀ q z, q < n → (elimM p k r z m2).getD q [] = if q < z ∧ q ≠ r then elimR p k (m2.getD r []) (m2.getD q []) else m2.getD q []) := Lib.hid fun q z hq => elimM_at _ _ _ _ _ (by rw [HM2.out]; exact hq)
          go_loopw [118] (fun i118 wz => ∃ q : Nat, q ≤ n ∧ i118 = .int .i64 q ∧ Hid (RedW wz base gs p c (some ⟨go, 0, none⟩) n cap bs1 (elimM p k r q m2) lead) ∧ Below base w wz) (fun i _ => n - (intOf i).toNat)
          case atStart => exact ⟨0, Nat.zero_le _, rfl, Lib.hid (by rw [elimM_zero]; exact HR2.out), HBW.out⟩
          case round =>
            rename_i wo _
            obtain ⟨q, hq, rfl, HR3, hbz⟩ := hrel
            by_cases hlt : q < n
            · have hz0 : wr.cell? ⟨gs, 0, none⟩ = some (.int .i64 p) := (HR3.out.blk.cell 0).trans (redC_0 _ _ _ _ _)
              have hz3 : wr.cell? ⟨gs, 3, none⟩ = some (.int .i64 r) := by rw [← HR0.out]; exact (HR3.out.blk.cell 3).trans (redC_3 _ _ _ _ _)
              obtain ⟨go3, hgo3, _, _, _, hbn3, hrow3⟩ := HR3.out.form (by omega)
              injection hgo3 with hgo3
              injection hgo3 with hgo3
              subst hgo3
              have hzr := (hrow3 q hlt).1
              have hownq := HR3.out.rws.own q (by rw [elimM_len, HM2.out]; exact hlt)
              have hown1 := HR3.out.rws.own r (by rw [elimM_len, HM2.out]; exact hrl)
              rw [HMA.out q q hlt, if_neg (by omega)] at hownq
              rw [HMA.out r q hrl, if_neg (by omega), HB1.out, HBI.out, HCI.out, HC1.out] at hown1
              rw [HC1.out] at hownq hzr
              have hLe := HE2.out q (by rw [HM2.out]; exact hlt)
              have hL1 := HE2.out r (by rw [HM2.out]; exact hrl)
              have hapq : q ≠ r → (bs1.getD q (0, 0)).1 ≠ bi := fun hne e => hne (HR3.out.rws.apart q r (by rw [elimM_len, HM2.out]; exact hlt) (by rw [elimM_len, HM2.out]; exact hrl) (by rw [HB1.out, HBI.out]; exact e))
              have hbq0 := HR3.out.rws.row (j := q) (by rw [elimM_len, HM2.out]; exact hlt)
              have HSET : Hid (∀ (l : List Int) (w2 : World), Step (bs1.getD q (0, 0)).1 wr w2 → OwnI w2 base 3 (some ⟨(bs1.getD q (0, 0)).1, 0, none⟩) c1 (bs1.getD q (0, 0)).2 l → RedW w2 base gs p c (some ⟨go, 0, none⟩) n cap bs1 ((elimM p k r q m2).set q l) lead) := Lib.hid fun l w2 h1 h2 => HR3.out.row_set hlt h1 (by rw [HC1.out]; exact h2)
              have hzk := hownq.cellAt hkc2
              have HSK : Hid (q = r ∨ cf (m2.getD q []) k = 0 → elimM p k r q m2 = elimM p k r (q + 1) m2) := Lib.hid fun h => elimM_skip p k r q m2 h
              have HST2 : Hid (q ≠ r → cf (m2.getD q []) k ≠ 0 → (elimM p k r q m2).set q (zipI (timesP p (subP p 0 (cf (m2.getD q []) k))) (m2.getD q []) (m2.getD r [])) = elimM p k r (q + 1) m2) := Lib.hid fun h1 h2 => elimM_set_at (by rw [HM2.out]; exact hlt) h1 h2
              have hyin := allP_getD hLe.2 (k := k) (by rw [hLe.1]; exact hkc2)
              have HAPQ := Lib.hid hapq
              obtain ⟨bq, hbq⟩ : ∃ b, (bs1.getD q (0, 0)).1 = b := ⟨_, rfl⟩
              obtain ⟨cq, hcq⟩ : ∃ b, (bs1.getD q (0, 0)).2 = b := ⟨_, rfl⟩
              obtain ⟨rq, hrq⟩ : ∃ l, m2.getD q [] = l := ⟨_, rfl⟩
              obtain ⟨r1, hr1⟩ : ∃ l, m2.getD r [] = l := ⟨_, rfl⟩
              rw [hbq] at hzr hownq HSET hzk HAPQ hbq0
              rw [hcq] at hzr hownq HSET
              rw [hrq] at hownq hLe HSK HST2 hzk hyin
              rw [hr1] at hown1 hL1 HST2
              obtain ⟨y, hy⟩ : ∃ y, rq.getD k 0 = y := ⟨_, rfl⟩
              have hycf : cf rq k = y := hy
              rw [hy] at hzk hyin
              rw [hycf] at HSK HST2
              have HOQ := Lib.hid hownq
              have HO1 := Lib.hid hown1
              have HLE := Lib.hid hLe
              have HL1 := Lib.hid hL1
              have h1 : (q : Int) < (n : Int) := by omega
              have h0 : (0 : Int) ≤ (q : Int) := by omega
              clear hbq hcq hrq hr1 hy hycf hownq hown1 hrow3 hbn3 hLe hL1 hapq
              by_cases hqr : q = r
              · obtain rfl : r = q := hqr.symm
                have HRZ : Hid (RedW wr base gs p c (some ⟨go, 0, none⟩) n cap bs1 (elimM p k r (r + 1) m2) lead) := Lib.hid (by rw [← HSK.out (.inl rfl)]; exact HR3.out)
                clear hqr
                go_wp2_with fail
                go_roundw
                case rel => exact ⟨r + 1, by omega, by go_num, HRZ, hbz⟩
                case measure => simp [intOf]; omega
              · have hqr2 : ¬ (q : Int) = (r : Int) := by omega
                by_cases hy0 : y = 0
                · have HRZ : Hid (RedW wr base gs p c (some ⟨go, 0, none⟩) n cap bs1 (elimM p k r (q + 1) m2) lead) := Lib.hid (by rw [← HSK.out (.inr hy0)]; exact HR3.out)
                  go_wp2_with fail
                  go_roundw
                  case rel => exact ⟨q + 1, by omega, by go_num, HRZ, hbz⟩
                  case measure => simp [intOf]; omega
                · have HSZ := Lib.hid (HST2.out hqr hy0)
                  have hbqi := HAPQ.out hqr
                  have hsy := subP_in 0 y hp.1
                  obtain ⟨sy, hsy2⟩ : ∃ s, subP p 0 y = s := ⟨_, rfl⟩
                  rw [hsy2] at hsy HSZ
                  have HSY := Lib.hid hsy2
                  clear hsy2
                  have hyin2 : 0 ≤ y ∧ y < p := hyin
                  have hyb1 : (y == 0) = false := by simpa using hy0
                  have hyb2 : (y != 0) = true := by simpa using hy0
                  have hsize := World.ownsRow.lt HOQ.out bq rfl
                  have hTd : OwnI wr.drew base 3 (some ⟨bq, 0, none⟩) c1 cq rq := HOQ.out.drew
                  have hld : Ints wr.drew wr.drew.heap.size (some ⟨bi, 0, none⟩) c1 r1 := HO1.out.ints
                  have HLG : Hid (∀ b off s, (some ⟨bi, 0, none⟩ : Option Addr) = some ⟨b, off, s⟩ → 0 < c1 → b ≠ bq) := Lib.hid fun b off s e _ e2 => by
                    injection e with e
                    injection e with e
                    exact hbqi (by rw [← e2, e])
                  have hc4 : c1 ≤ 17592186044416 := by omega
                  have hsz : base ≤ wr.heap.size := by omega
                  go_wp2_with fail
                  go_region_with (first
                    | (go_at_call 122; refine (subP_any p 0 y _ hp (by omega) hyin2).mono ?_; rintro e w1 ⟨rfl, rfl⟩; rw [HSY.out])
                    | (go_at_call 92; refine (addTimes_any p sy bq c1 cq ci (some ⟨bi, 0, none⟩) rq r1 _ hp hsy hTd hld HLG.out HLE.out.2 HL1.out.2 hc4).mono ?_; rintro e w2 ⟨rfl, hown3, hS3⟩; have hS4 : Step bq wr w2 := hS3.undrew; have hRz := HSET.out _ _ hS4 hown3; rw [HSZ.out] at hRz; have HRz := Lib.hid hRz; have hbz4 := Step.below hbz hS4 hsz hbq0.1; clear hS3 hS4 hown3 hRz))
                  all_goals go_wp2
                  all_goals go_roundw
                  all_goals first
                    | exact ⟨⟨q + 1, by omega, by go_num, HRz, hbz4⟩, by simp [intOf]; omega⟩
                    | exact ⟨q + 1, by omega, by go_num, HRz, hbz4⟩
                    | exact ⟨⟨q + 1, by omega, by go_num, Lib.hid HRz.out.drew, hbz4.drew⟩, by simp [intOf]; omega⟩
                    | exact ⟨q + 1, by omega, by go_num, Lib.hid HRz.out.drew, hbz4.drew⟩
                    | (simp [intOf]; omega)
            · obtain rfl : n = q := by omega
              have HM3 := Lib.hid (HLM.out _ rfl)
              have hz3 : wr.cell? ⟨gs, 3, none⟩ = some (.int .i64 r) := by rw [← HR0.out]; exact (HR3.out.blk.cell 3).trans (redC_3 _ _ _ _ _)
              have hf3 := HR3.out.blk.frozen 3
              have hblk3 := HR3.out.blk.set_ 3 (.int .i64 ((r : Int) + 1))
              rw [redC_set_rank] at hblk3
              have hc4 := (hblk3.cell (4 + k)).trans (redC_ld _ _ _ _ (ldL_len lead) (by omega))
              have hf4 := hblk3.frozen (4 + k)
              have hRL := HR3.out.leads (k := k) (by omega) hkl
              rw [← HM3.out, HR0.out] at hRL
              have HRL2 := Lib.hid hRL
              have hk32 : (k : Int) < 32 := by omega
              clear hblk3 hRL
              go_wp2_with fail
              go_region
              go_wp2
              go_end0
              have h9 := hE0.out
              have hrm : r < m.length := by rw [HMN.out]; exact hrl
              have him : i < m.length := by rw [HMN.out]; exact hin
              have hri4 : lead.length ≤ i := by rw [HR0.out]; exact hri
              have hv4 : Cong p (mx m i k * v) 1 := by rw [HX.out, ← HVE.out, ← HX.out]; exact HV.out
              have h10 := HI.out.lead_ hp.1 h9 hri4 him hv4
              rw [HR0.out] at h10
              exact ⟨bs1, _, lead ++ [k], rfl, HRL2.out.1.drew, h10, leadM_elts hp.1 h9 hrm him, leadM_ker hp.1 h9 hrm him hv4, (Step.below hbz HRL2.out.2 (by have := HR3.out.blk.lt; omega) hlo).drew⟩
end Go.Proofs.YtmcgnpdfpfgfpaaGreatDoor
