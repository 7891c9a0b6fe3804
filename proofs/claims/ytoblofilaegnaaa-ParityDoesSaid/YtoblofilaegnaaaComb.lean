/-
  What vector's Combine hands back for valid arguments. Conditions: the lists read as their numbers, all of them elements, the rows of one width.
-/
import Derived.Test.YtoblofilaegnaaaMat
import Derived.Test.YtoblofilaegnaaaPlain
import Derived.Test.YtoblofilaegnaaaAddT
import Derived.Test.YtoblofilaegnaaaMadeZ
import Derived.Outline
namespace Go.Proofs.Ytoblofilaegnaaa
open Go.RowKit
set_option linter.unusedVariables false

set_option maxRecDepth 100000 in
set_option maxHeartbeats 1000000 in
theorem combine_ok (p : Int) (A C : Option Addr) (n wd c d : Nat) (cs : List Int) (rows : List (List Int)) (w : World) {lo : Nat} (hok : okP p = true) (h : Ints w w.heap.size A n cs) (hM : Mat w lo w.heap.size C n rows) (hc : allP p cs = true)
    (hr : ∀ r ∈ rows, allP p r = true ∧ r.length = wd) (hn : n ≤ 17592186044416) (hw : wd ≤ 64) :
    Calls Try.prog 30 #[.agg #[.int .i64 p], .slice A n c, .slice C n d, .int .i64 wd] w fun e w' =>
      (∃ A' c', e = .returned (.tuple #[.slice A' wd c', .int .i64 0]) ∧ OwnI w' w.heap.size 3 A' wd c' (combP p cs rows wd)) ∧ Below w.heap.size w w' := by
  have hp := okP_pos hok
  have HO := Lib.hid hok
  have HC := Lib.hid hc
  have HR := Lib.hid hr
  have HL := Lib.hid h.len
  have HM := Lib.hid hM.len
  obtain ⟨i0, hi0, hz0, hz1, hz2⟩ := info_parts info_int
  clear hok hc hr
  go_enter Try.func30, Try.ntmps30
  go_wp2_with (first
    | (go_at_call 118; refine (of_yes p _ HO.out).mono ?_; rintro e w1 ⟨rfl, hb1⟩
       have hbb1 := bnext (bbox _) hb1
       clear hb1)
    | (go_at_call 119; (refine (all_any p A n c cs _ (h.upto hbb1) (by omega)).mono ?_); rintro e w2 ⟨rfl, hb2⟩; rw [HC.out]
       have hbb2 := bnext hbb1 hb2
       clear hb2))
  clear hbb1
  go_loopw [12, 41] (fun el i wr => ∃ k : Nat, k ≤ n ∧ el = .bool true ∧ i = .int .i64 k ∧ Below w.heap.size w wr) (fun _ i _ => n - (intOf i).toNat)
  case atStart => exact ⟨0, Nat.zero_le _, rfl, rfl, hbb2⟩
  case round =>
    obtain ⟨k, hk, rfl, rfl, hbr⟩ := hrel
    by_cases hlt : k < n
    · obtain ⟨b, off, B1, m, d1, rfl, _, hb1, hcell, hm, hI, _⟩ := (hM.upto hbr).at_ hlt
      have hrow := HR.out _ (getD_mem2 (d := []) (k := k) (by rw [HM.out]; exact hlt))
      generalize rows.getD k [] = row at *
      have HA := Lib.hid hrow.1
      obtain rfl : m = wd := by rw [← hrow.2, hI.len]
      clear hrow
      go_wp2_with (go_at_call 119; refine (all_any p B1 m d1 row _ hI (by omega)).mono ?_; rintro e w3 ⟨rfl, hb3⟩; rw [HA.out]
                   have hbr3 := bnext hbr hb3
                   clear hb3)
      go_roundw
      case rel => exact ⟨k + 1, by omega, rfl, by go_num, hbr3⟩
      case measure => simp [intOf]; omega
    · have hkn : k = n := by omega
      subst hkn
      go_wp2_with (
        at_make
        refine wpList_make_full _ rfl _ _ 22 rfl w.heap.size 3 i0 (.int .i64 0) 1 Try.underlying22 hi0 hz0 hz1 .i64 .i64 wd wd wd rfl rfl rfl rfl (by rw [hz2]; omega) (by unfold maxLen; omega) hbr.size ?_
        intro w4 hown hgr
        have hown4 : OwnI w4 w.heap.size 3 (some ⟨wr.heap.size, 0, none⟩) wd wd (List.replicate wd 0) := by rw [made_zeros] at hown; exact hown
        have hb4 := hbr.grown hgr hbr.size (fun k hk => by cases hk)
        clear hown hgr)
      have hgs := hbr.size
      generalize wr.heap.size = g at *
      go_loopw [62] (fun i wx => ∃ j : Nat, j ≤ k ∧ i = .int .i64 j ∧ OwnI wx w.heap.size 3 (some ⟨g, 0, none⟩) wd wd (combP p (cs.take j) (rows.take j) wd) ∧ Below w.heap.size w wx) (fun i _ => k - (intOf i).toNat)
      case atStart => exact ⟨0, Nat.zero_le _, rfl, hown4, hb4⟩
      case round =>
        obtain ⟨j, hj, rfl, hown, hbx⟩ := hrel
        by_cases hlt2 : j < k
        · obtain ⟨b, off, B1, m, d1, rfl, _, hb1, hcell, hm, hI, _⟩ := (hM.below hbx).at_ hlt2
          obtain ⟨b2, o2, rfl, hb2, hc2⟩ := h.2 (by omega)
          have hcj := (hbx.cell (p := ⟨b2, o2 + j, none⟩) hb2).trans (hc2 j hlt2)
          clear hc2
          have hrow := HR.out _ (getD_mem2 (d := []) (k := j) (by rw [HM.out]; exact hlt2))
          have HT := Lib.hid (combP_take_succ p cs rows wd j (by rw [HL.out]; exact hlt2) (by rw [HM.out]; exact hlt2))
          have hcx := allP_getD HC.out (k := j) (by rw [HL.out]; exact hlt2)
          have HTA := Lib.hid (combP_all hp.1 (cs.take j) (rows.take j) wd)
          generalize rows.getD j [] = row at *
          generalize cs.getD j 0 = cf at *
          have HA := Lib.hid hrow.1
          obtain rfl : m = wd := by rw [← hrow.2, hI.len]
          have hlg : ∀ b off s, B1 = some ⟨b, off, s⟩ → 0 < m → b ≠ g := fun b off s e h0 => by
            subst e
            have := hI.lt h0
            omega
          have HLG := Lib.hid hlg
          clear hrow hlg
          go_wp2_with (go_at_call 127; refine (addTimes_any p cf g m m d1 B1 (combP p (cs.take j) (rows.take j) m) row _ hp hcx hown hI HLG.out HTA.out HA.out (by omega)).mono ?_; rintro e w5 ⟨rfl, hown5, hS5⟩
                       rw [← HT.out] at hown5
                       have hbx5 := Step.below hbx hS5 hbx.size hgs
                       clear hS5)
          go_roundw
          case rel => exact ⟨j + 1, by omega, by go_num, hown5, hbx5⟩
          case measure => simp [intOf]; omega
        · have hjk : j = k := by omega
          subst hjk
          rw [List.take_of_length_le (by rw [HL.out]; omega), List.take_of_length_le (by rw [HM.out]; omega)] at hown
          go_wp2
          go_ret2
          exact ⟨⟨_, _, rfl, hown⟩, hbx⟩
end Go.Proofs.Ytoblofilaegnaaa
