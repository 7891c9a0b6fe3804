/-
  What the reference's Combine hands back for valid arguments. Conditions: the lists read as their numbers, all of them elements, the rows of one width.
-/
import Derived.Test.YtoblofilaegnaaaComb
import Derived.Test.YtoblofilaegnaaaRef
namespace Go.Proofs.Ytoblofilaegnaaa
open Go.RowKit
set_option linter.unusedVariables false

theorem timesP_mod (p x t a : Int) : timesP p x t a = (t + x * a) % p := by
  unfold timesP addP mulP
  rw [Int.add_emod, Int.emod_emod_of_dvd _ (Int.dvd_refl p), ← Int.add_emod]

set_option maxRecDepth 100000 in
set_option maxHeartbeats 1600000 in
theorem rcombine_ok (p : Int) (A C : Option Addr) (n wd c d : Nat) (cs : List Int) (rows : List (List Int)) (w : World) {lo : Nat} (hok : okP p = true) (h : Ints w w.heap.size A n cs) (hM : Mat w lo w.heap.size C n rows) (hc : allP p cs = true)
    (hr : ∀ r ∈ rows, allP p r = true ∧ r.length = wd) (hn : n ≤ 17592186044416) (hw : wd ≤ 64) :
    Calls Try.prog 31 #[.agg #[.int .i64 p], .slice A n c, .slice C n d, .int .i64 wd] w fun e w' =>
      (∃ A' c', e = .returned (.tuple #[.slice A' wd c', .int .i64 0]) ∧ OwnI w' w.heap.size 3 A' wd c' (combP p cs rows wd)) ∧ Below w.heap.size w w' := by
  have hp := okP_pos hok
  have HO := Lib.hid hok
  have HC := Lib.hid hc
  have HI1 : Hid (inF p cs = true) := Lib.hid (inF_iff.2 ⟨hok, hc⟩)
  have HI2 : Hid (∀ r ∈ rows, inF p r = true) := Lib.hid fun r h => inF_iff.2 ⟨hok, (hr r h).1⟩
  have HR := Lib.hid hr
  have HL := Lib.hid h.len
  have HM := Lib.hid hM.len
  obtain ⟨i0, hi0, hz0, hz1, hz2⟩ := info_parts info_int
  clear hok hc hr
  go_enter Try.func31, Try.ntmps31
  go_wp2_with (go_at_call 128; refine (check_yes p _ HO.out).mono ?_; rintro e w1 ⟨rfl, hb1⟩
               have hbb1 := bnext (bbox _) hb1
               have hF1 := (Blk.new w 24 #[.int .i64 p]).below hb1 (by simp)
               have hc1 : w1.cell? ⟨w.heap.size, 0, none⟩ = some (.int .i64 p) := (hF1.cell 0).trans rfl
               clear hb1)
  go_loop [38] (fun i => ∃ k : Nat, k ≤ n ∧ i = .int .i64 k) (fun i => n - (intOf i).toNat)
  case atStart => exact ⟨0, Nat.zero_le _, rfl⟩
  case round =>
    obtain ⟨k, hk, rfl⟩ := hrel
    by_cases hlt : k < n
    · obtain ⟨b, off, B1, m, d1, rfl, _, hb1, hcell, hm, hI, _⟩ := (hM.upto hbb1).at_ hlt
      have hrow := HR.out _ (getD_mem2 (d := []) (k := k) (by rw [HM.out]; exact hlt))
      generalize rows.getD k [] = row at *
      obtain rfl : m = wd := by rw [← hrow.2, hI.len]
      clear hrow
      go_wp2
      go_round
      case rel => exact ⟨k + 1, by omega, by go_num⟩
      case measure => simp [intOf]; omega
    · have hkn : k = n := by omega
      subst hkn
      go_wp2_with (go_at_call 126; refine (in_any p A k c cs _ (h.upto hbb1) (by omega)).mono ?_; rintro e w2 ⟨rfl, hb2⟩; rw [HI1.out]
                   have hbb2 := bnext hbb1 hb2
                   have hF2 := hF1.below hb2 hF1.lt
                   clear hb2)
      clear hbb1 hF1 hc1
      go_loopw [53] (fun i wr => ∃ j : Nat, j ≤ k ∧ i = .int .i64 j ∧ Below w.heap.size w wr ∧ Blk wr w.heap.size 24 #[.int .i64 p]) (fun i _ => k - (intOf i).toNat)
      case atStart => exact ⟨0, Nat.zero_le _, rfl, hbb2, hF2⟩
      case round =>
        obtain ⟨j, hj, rfl, hbr, hFr⟩ := hrel
        have hcr : wr.cell? ⟨w.heap.size, 0, none⟩ = some (.int .i64 p) := (hFr.cell 0).trans rfl
        by_cases hlt : j < k
        · obtain ⟨b, off, B1, m, d1, rfl, _, hb1, hcell, hm, hI, _⟩ := (hM.upto hbr).at_ hlt
          have hin := HI2.out _ (getD_mem2 (d := []) (k := j) (by rw [HM.out]; exact hlt))
          generalize rows.getD j [] = row at *
          have HA := Lib.hid hin
          clear hin
          go_wp2_with (go_at_call 126; refine (in_any p B1 m d1 row _ hI (by omega)).mono ?_; rintro e w3 ⟨rfl, hb3⟩; rw [HA.out]
                       have hbr3 := bnext hbr hb3
                       have hFr3 := hFr.below hb3 hFr.lt
                       clear hb3)
          go_roundw
          case rel => exact ⟨j + 1, by omega, by go_num, hbr3, hFr3⟩
          case measure => simp [intOf]; omega
        · have hkn : j = k := by omega
          subst hkn
          go_wp2_with (
            at_make
            refine wpList_make_full _ rfl _ _ 22 rfl (w.heap.size + 1) 3 i0 (.int .i64 0) 1 Try.underlying22 hi0 hz0 hz1 .i64 .i64 wd wd wd rfl rfl rfl rfl (by rw [hz2]; omega) (by unfold maxLen; omega) hFr.lt ?_
            intro w4 hown hgr
            have hown4 : OwnI w4 (w.heap.size + 1) 3 (some ⟨wr.heap.size, 0, none⟩) wd wd (List.replicate wd 0) := by rw [made_zeros] at hown; exact hown
            have hb4 := hbr.grown hgr hbr.size (fun k hk => by cases hk)
            have hF4 := hFr.grown hgr (fun e => by cases e)
            clear hown hgr)
          have hgs := hFr.lt
          clear hFr hcr hF2 hbb2 hbr
          generalize wr.heap.size = g at *
          go_loopw [66] (fun i wx => ∃ k : Nat, k ≤ j ∧ i = .int .i64 k ∧ OwnI wx (w.heap.size + 1) 3 (some ⟨g, 0, none⟩) wd wd (combP p (cs.take k) (rows.take k) wd) ∧ Below w.heap.size w wx ∧ Blk wx w.heap.size 24 #[.int .i64 p]) (fun i _ => j - (intOf i).toNat)
          case atStart => exact ⟨0, Nat.zero_le _, rfl, hown4, hb4, hF4⟩
          case round =>
            obtain ⟨k, hk, rfl, hown, hbx, hFx⟩ := hrel
            by_cases hlt2 : k < j
            · obtain ⟨b, off, B1, m, d1, rfl, _, hb1, hcell, hm, hI, _⟩ := (hM.below hbx).at_ hlt2
              obtain ⟨b2, o2, rfl, hb2, hc2⟩ := h.2 (by omega)
              have hcj := (hbx.cell (p := ⟨b2, o2 + k, none⟩) hb2).trans (hc2 k hlt2)
              clear hc2
              have hrow := HR.out _ (getD_mem2 (d := []) (k := k) (by rw [HM.out]; exact hlt2))
              have HT := Lib.hid (combP_take_succ p cs rows wd k (by rw [HL.out]; exact hlt2) (by rw [HM.out]; exact hlt2))
              have hcx := allP_getD HC.out (k := k) (by rw [HL.out]; exact hlt2)
              have HTA := Lib.hid (combP_all hp.1 (cs.take k) (rows.take k) wd)
              have hk0 : (0 : Int) ≤ (k : Int) := by omega
              have hk1 : (k : Int) < (j : Int) := by omega
              generalize rows.getD k [] = row at *
              generalize cs.getD k 0 = cf at *
              have HA := Lib.hid hrow.1
              obtain rfl : m = wd := by rw [← hrow.2, hI.len]
              clear hrow
              have HRL := Lib.hid hI.len
              have HOL := Lib.hid hown.len
              go_wp2
              have hx0 : (0 : Int) ≤ (m : Int) := by omega
              generalize combP p (cs.take k) (rows.take k) m = ts at *
              clear hb4 hF4 hown4 hM
              go_loopw [73] (fun i wy => ∃ q : Nat, q ≤ m ∧ i = .int .i64 q ∧ OwnI wy (w.heap.size + 1) 3 (some ⟨g, 0, none⟩) m m (partly (timesP p cf) ts row q) ∧ Step g wr wy) (fun i _ => m - (intOf i).toNat)
              case atStart => exact ⟨0, Nat.zero_le _, rfl, by rw [partly_zero]; exact hown, Step.refl _ _⟩
              case round =>
                obtain ⟨q, hq, rfl, howny, hS⟩ := hrel
                by_cases hlt3 : q < m
                · obtain ⟨b3, o3, rfl, hb3, hc3⟩ := hI.2 (by omega)
                  have hlw := hFx.lt
                  have hb3g : b3 ≠ g := by omega
                  have hb2g : b2 ≠ g := by omega
                  have hbs := hbx.size
                  have hry : wr.cell? ⟨b3, o3 + q, none⟩ = some (.int .i64 (row.getD q 0)) := (World.cell?_of_block (World.grownBy.block hS b3 (by omega) (fun e => hb3g (by injection e)))).trans (hc3 q hlt3)
                  have hrc : wr.cell? ⟨b2, o2 + k, none⟩ = some (.int .i64 cf) := (World.cell?_of_block (World.grownBy.block hS b2 (by omega) (fun e => hb2g (by injection e)))).trans hcj
                  have hrp : wr.cell? ⟨w.heap.size, 0, none⟩ = some (.int .i64 p) := (World.cell?_of_block (World.grownBy.block hS w.heap.size (by omega) (fun e => by injection e; omega))).trans ((hFx.cell 0).trans rfl)
                  have hrt := howny.cellAt hlt3
                  rw [partly_at _ ts row (by rw [HRL.out, HOL.out]) q (by rw [HOL.out]; exact hlt3)] at hrt
                  have hfz := howny.frozenAt q
                  have hst := howny.stored q (timesP p cf (ts.getD q 0) (row.getD q 0))
                  rw [partly_set _ ts row (by rw [HRL.out, HOL.out]) q (by rw [HOL.out]; exact hlt3)] at hst
                  have hS2 := hS.set q (.int .i64 (timesP p cf (ts.getD q 0) (row.getD q 0)))
                  have htk := allP_getD HTA.out (k := q) (by rw [HOL.out]; exact hlt3)
                  have hyk := allP_getD HA.out (k := q) (by rw [HRL.out]; exact hlt3)
                  generalize ts.getD q 0 = t at *
                  generalize row.getD q 0 = y at *
                  have hq0 : (0 : Int) ≤ (q : Int) := by omega
                  have hq1 : (q : Int) < (m : Int) := by omega
                  have hmm : 0 ≤ cf * y ∧ cf * y ≤ 65521 * 65521 := ⟨Int.mul_nonneg hcx.1 hyk.1, Int.mul_le_mul (by omega) (by omega) hyk.1 (by omega)⟩
                  have hw1 : IntKind.i64.wrap (cf * y) = cf * y := IntWalk.i64_in _ (by omega)
                  have hw2 : IntKind.i64.wrap (t + cf * y) = t + cf * y := IntWalk.i64_in _ (by omega)
                  have hp0 : ¬ p = 0 := by omega
                  have hv : timesP p cf t y = (t + cf * y) % p := timesP_mod _ _ _ _
                  rw [hv] at hst hS2
                  have HS := Lib.hid hst
                  have HS2 := Lib.hid hS2
                  clear hst hS2 hc3 hv hcj
                  go_wp2_with fail
                  go_region
                  all_goals go_wp2
                  all_goals go_roundw
                  case rel => exact ⟨q + 1, by omega, by go_num, HS.out.drew, HS2.out.drew⟩
                  case measure => simp [intOf]; omega
                · have hqm : q = m := by omega
                  subst hqm
                  have HE : Hid (partly (timesP p cf) ts row q = zipI (timesP p cf) ts row) := Lib.hid (by have := partly_all (timesP p cf) ts row (by rw [HRL.out, HOL.out]); rwa [HOL.out] at this)
                  rw [HE.out, ← HT.out] at howny
                  have hbx5 := Step.below hbx hS hbx.size (by omega)
                  have hFx5 := Step.block hS hFx (by omega)
                  go_wp2
                  go_roundw
                  case rel => exact ⟨k + 1, by omega, by go_num, howny, hbx5, hFx5⟩
                  case measure => simp [intOf]; omega
            · have hjk : k = j := by omega
              subst hjk
              rw [List.take_of_length_le (by rw [HL.out]; omega), List.take_of_length_le (by rw [HM.out]; omega)] at hown
              go_wp2
              go_ret2
              exact ⟨⟨_, _, rfl, hown.base (by omega)⟩, hbx⟩
end Go.Proofs.Ytoblofilaegnaaa
