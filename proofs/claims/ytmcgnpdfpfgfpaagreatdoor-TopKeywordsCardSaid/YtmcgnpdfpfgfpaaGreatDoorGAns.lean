/-
  Words for memory and contracts of small functions of the second form. Conditions: those of each lemma.
-/
import Derived.Test.YtmcgnpdfpfgfpaaGreatDoorGBas
import Derived.Test.YtmcgnpdfpfgfpaaGreatDoorPlain
import Derived.Deep.DeepFit
import Derived.Test.YtmcgnpdfpfgfpaaGreatDoorGLea
import Derived.Outline
import Derived.Deep.QuietTactic
import Derived.BigQuiet
/-! MadeZ -/
namespace Go.Proofs.YtmcgnpdfpfgfpaaGreatDoor
open Go.RowKit

theorem made_zeros (n : Nat) : (madeCells (Value.int .i64 0).cells (n * 1)).toList = vals (List.replicate n 0) := by
  simp only [madeCells, vals, Value.cells]
  simp [Nat.mod_one]
  rw [List.map_const', List.length_range]
end Go.Proofs.YtmcgnpdfpfgfpaaGreatDoor

/-! Comb -/
namespace Go.Proofs.YtmcgnpdfpfgfpaaGreatDoor
open Go.RowKit
set_option linter.unusedVariables false

set_option maxRecDepth 100000 in
set_option maxHeartbeats 1000000 in
theorem combine_ok (p : Int) (A C : Option Addr) (n wd c d : Nat) (cs : List Int) (rows : List (List Int)) (w : World) {lo : Nat} (hok : okP p = true) (h : Ints w w.heap.size A n cs) (hM : Mat w lo w.heap.size C n rows) (hc : allP p cs = true)
    (hr : ∀ r ∈ rows, allP p r = true ∧ r.length = wd) (hn : n ≤ 17592186044416) (hw : wd ≤ 64) :
    Calls Tryz.prog 62 #[.agg #[.int .i64 p], .slice A n c, .slice C n d, .int .i64 wd] w fun e w' =>
      (∃ A' c', e = .returned (.tuple #[.slice A' wd c', .int .i64 0]) ∧ OwnI w' w.heap.size 3 A' wd c' (combP p cs rows wd)) ∧ Below w.heap.size w w' := by
  have hp := okP_pos hok
  have HO := Lib.hid hok
  have HC := Lib.hid hc
  have HR := Lib.hid hr
  have HL := Lib.hid h.len
  have HM := Lib.hid hM.len
  obtain ⟨i0, hi0, hz0, hz1, hz2⟩ := info_parts info_int
  clear hok hc hr
  go_enter Tryz.func62, Tryz.ntmps62
  go_wp2_with (first
    | (go_at_call 39; refine (of_yes p _ HO.out).mono ?_; rintro e w1 ⟨rfl, hb1⟩
       have hbb1 := bnext (bbox _) hb1
       clear hb1)
    | (go_at_call 47; (refine (all_any p A n c cs _ (h.upto hbb1) (by omega)).mono ?_); rintro e w2 ⟨rfl, hb2⟩; rw [HC.out]
       have hbb2 := bnext hbb1 hb2
       clear hb2))
  clear hbb1
  go_loopw [12, 41] (fun el i wr => ∃ k : Nat, k ≤ n ∧ el = .bool true ∧ i = .int .i64 k ∧ Below w.heap.size w wr) (fun _ i _ => n - (intOf i).toNat)
  case atStart => exact ⟨0, Nat.zero_le _, rfl, rfl, hbb2⟩
  case round =>
    obtain ⟨k, hk, rfl, rfl, hbr⟩ := hrel
    by_cases hlt : k < n
    · obtain ⟨b, off, B1, m, d1, rfl, _, hb1, hcell, hm, hI, _⟩ := (hM.upto hbr).at_ hlt
      have hrow := HR.out _ (getD_mem2 (d := []) (k := k) (by rw [HM.out]; exact hlt))
      generalize rows.getD k [] = row at *
      have HA := Lib.hid hrow.1
      obtain rfl : m = wd := by rw [← hrow.2, hI.len]
      clear hrow
      go_wp2_with (go_at_call 47; refine (all_any p B1 m d1 row _ hI (by omega)).mono ?_; rintro e w3 ⟨rfl, hb3⟩; rw [HA.out]
                   have hbr3 := bnext hbr hb3
                   clear hb3)
      go_roundw
      case rel => exact ⟨k + 1, by omega, rfl, by go_num, hbr3⟩
      case measure => simp [intOf]; omega
    · have hkn : k = n := by omega
      subst hkn
      go_wp2_with (
        at_make
        refine wpList_make_full _ rfl _ _ 22 rfl w.heap.size 3 i0 (.int .i64 0) 1 Tryz.underlying22 hi0 hz0 hz1 .i64 .i64 wd wd wd rfl rfl rfl rfl (by rw [hz2]; omega) (by unfold maxLen; omega) hbr.size ?_
        intro w4 hown hgr
        have hown4 : OwnI w4 w.heap.size 3 (some ⟨wr.heap.size, 0, none⟩) wd wd (List.replicate wd 0) := by rw [made_zeros] at hown; exact hown
        have hb4 := hbr.grown hgr hbr.size (fun k hk => by cases hk)
        clear hown hgr)
      have hgs := hbr.size
      generalize wr.heap.size = g at *
      go_loopw [62] (fun i wx => ∃ j : Nat, j ≤ k ∧ i = .int .i64 j ∧ OwnI wx w.heap.size 3 (some ⟨g, 0, none⟩) wd wd (combP p (cs.take j) (rows.take j) wd) ∧ Below w.heap.size w wx) (fun i _ => k - (intOf i).toNat)
      case atStart => exact ⟨0, Nat.zero_le _, rfl, hown4, hb4⟩
      case round =>
        obtain ⟨j, hj, rfl, hown, hbx⟩ := hrel
        by_cases hlt2 : j < k
        · obtain ⟨b, off, B1, m, d1, rfl, _, hb1, hcell, hm, hI, _⟩ := (hM.below hbx).at_ hlt2
          obtain ⟨b2, o2, rfl, hb2, hc2⟩ := h.2 (by omega)
          have hcj := (hbx.cell (p := ⟨b2, o2 + j, none⟩) hb2).trans (hc2 j hlt2)
          clear hc2
          have hrow := HR.out _ (getD_mem2 (d := []) (k := j) (by rw [HM.out]; exact hlt2))
          have HT := Lib.hid (combP_take_succ p cs rows wd j (by rw [HL.out]; exact hlt2) (by rw [HM.out]; exact hlt2))
          have hcx := allP_getD HC.out (k := j) (by rw [HL.out]; exact hlt2)
          have HTA := Lib.hid (combP_all hp.1 (cs.take j) (rows.take j) wd)
          generalize rows.getD j [] = row at *
          generalize cs.getD j 0 = cf at *
          have HA := Lib.hid hrow.1
          obtain rfl : m = wd := by rw [← hrow.2, hI.len]
          have hlg : ∀ b off s, B1 = some ⟨b, off, s⟩ → 0 < m → b ≠ g := fun b off s e h0 => by
            subst e
            have := hI.lt h0
            omega
          have HLG := Lib.hid hlg
          clear hrow hlg
          go_wp2_with (go_at_call 92; refine (addTimes_any p cf g m m d1 B1 (combP p (cs.take j) (rows.take j) m) row _ hp hcx hown hI HLG.out HTA.out HA.out (by omega)).mono ?_; rintro e w5 ⟨rfl, hown5, hS5⟩
                       rw [← HT.out] at hown5
                       have hbx5 := Step.below hbx hS5 hbx.size hgs
                       clear hS5)
          go_roundw
          case rel => exact ⟨j + 1, by omega, by go_num, hown5, hbx5⟩
          case measure => simp [intOf]; omega
        · have hjk : j = k := by omega
          subst hjk
          rw [List.take_of_length_le (by rw [HL.out]; omega), List.take_of_length_le (by rw [HM.out]; omega)] at hown
          go_wp2
          go_ret2
          exact ⟨⟨_, _, rfl, hown⟩, hbx⟩
end Go.Proofs.YtmcgnpdfpfgfpaaGreatDoor

/-! PAns -/
namespace Go.Proofs.YtmcgnpdfpfgfpaaGreatDoor
open Go.RowKit
set_option linter.unusedVariables false

theorem panswer_ok (p : Int) (A C : Option Addr) (n wd c d : Nat) (cs : List Int) (rows : List (List Int)) (w : World) {lo : Nat} (hok : okP p = true) (h : Ints w w.heap.size A n cs) (hM : Mat w lo w.heap.size C n rows) (hc : allP p cs = true)
    (hr : ∀ r ∈ rows, allP p r = true ∧ r.length = wd) (hn : n ≤ 17592186044416) (hw : wd ≤ 64) :
    Calls Tryz.prog 27 #[.agg #[.int .i64 p], .int .i64 wd, .slice C n d, .slice A n c] w fun e w' =>
      (∃ A' c', e = .returned (.tuple #[.slice A' wd c', .int .i64 0]) ∧ OwnI w' w.heap.size 3 A' wd c' (combP p cs rows wd)) ∧ Below w.heap.size w w' := by
  have HO := Lib.hid hok
  have HC := Lib.hid hc
  have HR := Lib.hid hr
  have hb0 : Below w.heap.size w (w.alloc (.cells #[.int .i64 p] 44)) := bbox _
  clear hok hc hr
  go_enter Tryz.func27, Tryz.ntmps27
  go_wp2_with (go_at_call 62; refine (combine_ok p A C n wd c d cs rows _ HO.out (h.upto hb0) (hM.upto hb0) HC.out HR.out hn hw).mono ?_; rintro e w1 ⟨⟨A', c', rfl, hown⟩, hb1⟩)
  go_ret2
  exact ⟨⟨A', c', rfl, hown.base (by simp)⟩, bnext hb0 hb1⟩
end Go.Proofs.YtmcgnpdfpfgfpaaGreatDoor

/-! Same -/
namespace Go.Proofs.YtmcgnpdfpfgfpaaGreatDoor
open Go.RowKit
set_option linter.unusedVariables false

/-- Two lists are the same. -/
def sameL (xs ys : List Int) : Bool := xs == ys

theorem sameL_iff {xs ys : List Int} : sameL xs ys = true ↔ xs = ys := by simp [sameL]

theorem same_any (A B : Option Addr) (n m c d : Nat) (xs ys : List Int) (w : World) {B1 B2 : Nat} (h : Ints w B1 A n xs) (h2 : Ints w B2 B m ys) (hn : n ≤ 17592186044416) (hm : m ≤ 17592186044416) :
    Calls Tryz.prog 32 #[.slice A n c, .slice B m d] w fun e w' => e = .returned (.bool (sameL xs ys)) ∧ ∃ q, w' = w.drewN q := by
  by_cases hl : n = m
  · subst hl
    have HL := Lib.hid h.len
    have HM := Lib.hid h2.len
    go_enter Tryz.func32, Tryz.ntmps32
    go_wp2
    go_loopw [13] (fun i wr => ∃ k q : Nat, k ≤ n ∧ i = .int .i64 k ∧ Hid (xs.take k = ys.take k) ∧ wr = w.drewN q) (fun i _ => n - (intOf i).toNat)
    case atStart => exact ⟨0, 0, Nat.zero_le _, rfl, Lib.hid rfl, rfl⟩
    case round =>
      obtain ⟨k, q, hk, rfl, HE, rfl⟩ := hrel
      by_cases hlt : k < n
      · obtain ⟨b1, o1, rfl, hb1, hc1⟩ := h.2 (by omega)
        obtain ⟨b2, o2, rfl, hb2, hc2⟩ := h2.2 (by omega)
        have hr1 := hc1 k hlt
        have hr2 := hc2 k hlt
        clear hc1 hc2
        have HT1 := Lib.hid (take_snoc_int xs k (by rw [HL.out]; exact hlt))
        have HT2 := Lib.hid (take_snoc_int ys k (by rw [HM.out]; exact hlt))
        have HX := Lib.hid (show ∀ j, xs = ys → xs.getD j 0 = ys.getD j 0 from fun j e => by rw [e])
        have HXk := Lib.hid (HX.out k)
        clear HX
        generalize xs.getD k 0 = x at *
        generalize ys.getD k 0 = y at *
        by_cases hxy : x = y
        · subst hxy
          go_wp2
          go_quiet (fail)
          go_wp2
          go_roundw
          case rel => exact ⟨k + 1, _, by omega, by go_num, Lib.hid (by rw [HT1.out, HT2.out, HE.out]), rfl⟩
          case measure => simp [intOf]; omega
        · have hxb : (x != y) = true := by simpa using hxy
          have hf : sameL xs ys = false := by
            rw [← Bool.not_eq_true, sameL_iff]; intro e; exact hxy (HXk.out e)
          have HF := Lib.hid hf
          clear hf hxy
          go_wp2
          go_quiet (fail)
          go_wp2
          go_ret
          exact ⟨ret_bool HF.out.symm, _, World.drewN_drewN _ _ _⟩
      · go_wp2
        go_ret
        refine ⟨ret_bool ?_, q, rfl⟩
        have := HE.out
        rw [List.take_of_length_le (by rw [HL.out]; omega), List.take_of_length_le (by rw [HM.out]; omega)] at this
        exact (sameL_iff.2 this).symm
  · have hf : sameL xs ys = false := by
      rw [← Bool.not_eq_true, sameL_iff]; intro e; apply hl; rw [← h.len, ← h2.len, e]
    have HF := Lib.hid hf
    have hne : ((n : Int) != (m : Int)) = true := by simp; omega
    clear hf
    go_enter Tryz.func32, Tryz.ntmps32
    go_wp2
    go_ret
    exact ⟨ret_bool HF.out.symm, 0, rfl⟩
end Go.Proofs.YtmcgnpdfpfgfpaaGreatDoor
