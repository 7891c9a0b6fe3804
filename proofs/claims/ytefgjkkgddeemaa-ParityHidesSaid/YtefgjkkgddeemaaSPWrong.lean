/-
  ParityWrong returns true: the walk of the law. Conditions: none beyond the reading of its arguments.
-/
import Derived.Test.YtefgjkkgddeemaaS16
import Derived.Test.YtefgjkkgddeemaaFld
import Derived.Test.YtefgjkkgddeemaaRef4
import Derived.Deep.QuietTactic
import Derived.BigQuiet
import Derived.Deep.RegionHeld3
import Derived.Deep.DeepCutAuto
namespace Go.Proofs.Ytefgjkkgddeemaa
open Go.RowKit
set_option linter.unusedVariables false

theorem trues_at {s j : Nat} (h : j < s) : (List.replicate s true).getD j false = true := by
  rw [List.getD_eq_getElem?_getD, List.getElem?_replicate, if_pos h]; rfl
theorem trues_set {s k j : Nat} (h : j < s) : ((List.replicate s true).set k true).getD j false = true := by
  rw [List.getD_eq_getElem?_getD, List.getElem?_set]
  by_cases e : k = j
  · rw [if_pos e, List.length_replicate, if_pos (by omega)]; rfl
  · rw [if_neg e, ← List.getD_eq_getElem?_getD]; exact trues_at h
theorem rows_at {p : Int} {wd j : Nat} {rows : List (List Int)} (h : ∀ r ∈ rows, allP p r = true ∧ r.length = wd) (hj : j < rows.length) : allP p (rows.getD j []) = true ∧ (rows.getD j []).length = wd := h _ (getD_mem2 hj)

set_option maxHeartbeats 6400000 in
set_option maxRecDepth 100000 in
theorem parityWrong_walk (A : Option Addr) (n c : Nat) (zs : List Int) (w : World) (w0 : IsRow .i64 w A n c zs) :
    Calls Try.prog 5 #[.slice A n c] w fun e w' => e = .returned (.bool true) ∧ Below w.heap.size w w' := by
  obtain ⟨h, hw⟩ := w0.ints
  generalize zs.take n = xs at h hw
  clear w0
  by_cases hn : n ≤ 500
  · have hd : decide (n ≤ 500) = true := by simpa using hn
    go_enter Try.func5, Try.ntmps5
    go_wp2_with (first
      | (go_at_call 14; refine (sane16_any _).mono ?_; rintro e w1 ⟨rfl, hb1⟩)
      | (go_at_call 15; refine (few_any A n c _).mono ?_; rintro e w' ⟨rfl, rfl⟩)
      | (go_at_call 16; refine (new_any A n c xs _ (h.upto hb1) hn).mono ?_; rintro e w2 ⟨⟨g, rfl, hge, hD2⟩, hb2⟩
         have hbb2 := bnext hb1 hb2
         have hg : w.heap.size ≤ g := by rw [hge]; exact hb1.size
         clear hge)
      | (go_at_call 22; refine (field_any g A n c xs _ _ hD2).mono ?_; rintro e w3 ⟨p, q3, rfl, hkn, hD3, hS3⟩
         have hok := okP_known hkn
         have hp := okP_pos hok
         have HO := Lib.hid hok
         have hbb3 := ballocs (Step.below hbb2 hS3 hbb2.size hg) (.cells #[.int .i64 p] 28)
         have hF_3 := Blk.new w3 28 #[.int .i64 p]
         have hD3' := hD3.alloc (.cells #[.int .i64 p] 28)
         have hgf : w3.heap.size ≠ g := by have := hD3.1.lt; omega
         clear hok hkn hD2 hD3 hS3 hbb2 hb1 hb2)
      | (go_at_call 17; (with_reducible refine (next_any g A n c xs q3 5 _ hD3' (by omega)).mono ?_); rintro e w4 ⟨r1, q4, rfl, hr1, _, hD4, hS4, hz4⟩
         obtain ⟨s, hs⟩ : ∃ s : Nat, 2 + r1 = s := ⟨(2 + r1).toNat, by have := hr1 (by omega); omega⟩
         have hs26 : 2 ≤ s ∧ s ≤ 6 := by have := hr1 (by omega); omega
         have hsw : IntKind.i64.wrap (2 + r1) = s := by rw [hs]; exact IntWalk.i64_in _ (by omega)
         have hF_4 := Step.block hS4 hF_3 hgf
         have hbb4 := Step.below hbb3 hS4 hbb3.size hg
         have hg4 := hD4.1.lt
         clear hr1 hz4 hS4)
      | (go_at_call 17; (with_reducible refine (next_any g A n c xs q4 5 _ hD4 (by omega)).mono ?_); rintro e w5 ⟨r2, q5, rfl, hr2, _, hD5, hS5, hz5⟩
         obtain ⟨wd, hwd⟩ : ∃ s : Nat, 1 + r2 = s := ⟨(1 + r2).toNat, by have := hr2 (by omega); omega⟩
         have hwd6 : 1 ≤ wd ∧ wd ≤ 5 := by have := hr2 (by omega); omega
         have hwdw : IntKind.i64.wrap (1 + r2) = wd := by rw [hwd]; exact IntWalk.i64_in _ (by omega)
         have hF_5 := Step.block hS5 hF_4 hgf
         have hbb5 := Step.below hbb4 hS5 hbb4.size hg
         have hg5 := hD5.1.lt
         clear hr2 hz5 hS5))
    clear hF_3 hF_4 hD3' hD4 hbb3 hbb4
    have HTR := Lib.hid (fun k : Nat => (List.replicate_succ' (n := k) (a := true)).symm)
    go_loopw [7, 34] (fun v7 v34 wr => ∃ (k : Nat) (A' : Option Addr) (c' : Nat) (rows : List (List Int)) (q' : Nat), k ≤ s ∧ v34 = .int .i64 k ∧ v7 = .slice A' k c' ∧ OwnA wr w5.heap.size w5.heap.size A' k c' (List.replicate k true) rows ∧ Hid (∀ r ∈ rows, allP p r = true ∧ r.length = wd) ∧ Deck wr g A n c xs q' ∧ Step g w5 wr) (fun _ v34 _ => s - (intOf v34).toNat)
    case atStart => exact ⟨0, none, 0, [], q5, Nat.zero_le _, rfl, rfl, OwnA.nil_, Lib.hid (fun r hr => by cases hr), hD5, Step.refl _ _⟩
    case round =>
      obtain ⟨k, A', c', rows, q', hk, rfl, rfl, hown, HA, hD, hS⟩ := hrel
      have hFr := Step.block hS hF_5 hgf
      have hfc : wr.cell? ⟨w3.heap.size, 0, none⟩ = some (.int .i64 p) := (hFr.cell 0).trans rfl
      have hsr := hS.size
      by_cases hlt : k < s
      · have hki : (k : Int) < (s : Int) := by omega
        go_wp2_with (first
          | (go_at_call 27; refine (elements_any g A n c xs q' p wd _ hD hp (by omega)).mono ?_; rintro e w7 ⟨B1, d1, ys, q2, rfl, hown7, hY, hD7, hS7⟩
             have hba : Below w7.heap.size w7 (w7.alloc (.cells #[.bool true, .slice B1 wd d1] 53)) := bbox _
             have hBk := Blk.new w7 53 #[.bool true, .slice B1 wd d1]
             have hk0 : (w7.alloc (.cells #[.bool true, .slice B1 wd d1] 53)).cell? ⟨w7.heap.size, 0, none⟩ = some (.bool true) := (hBk.cell 0).trans rfl
             have hk1 : (w7.alloc (.cells #[.bool true, .slice B1 wd d1] 53)).cell? ⟨w7.heap.size, 1, none⟩ = some (.slice B1 wd d1) := (hBk.cell 1).trans rfl
             have hIa := hown7.ints.upto hba
             have howna := (hown.step hS7 hg5 hg5).belowAll hba
             have hDa := hD7.belowAll hba
             have hSa := (hS.trans hS7).trans (Step.of_below hba)
             have hs7 := World.grownBy.size hS7
             have HLO : Hid (Lo w5.heap.size B1 wd) := Lib.hid fun h0 b off s e => by have := hown7.row b (by rw [e]; rfl); omega
             have HAP : Hid (0 < wd → ∀ b off s, B1 = some ⟨b, off, s⟩ → (Value.slice A' k c').ownBlock ≠ some b) := Lib.hid fun h0 b off s e e2 => by
               have h1 := hown7.row b (by rw [e]; rfl)
               have h2 := (hown.row b e2).2
               omega
             have HYL : Hid (allP p ys = true ∧ ys.length = wd) := Lib.hid ⟨hY, hown7.len⟩
             clear hS7 hD7 hown7 hY)
          | (at_builtin
             refine wpList_append_ans rfl _ _ 50 rfl Try.underlying50 w5.heap.size w5.heap.size A' k c' (List.replicate k true) rows rfl howna w7.heap.size 1 true B1 wd d1 ys rfl hk0 hk1 (by omega) hIa HLO.out HAP.out (by omega) (by simp; omega) ?_
             intro A2 c2 w8 hown8 hb8
             rw [HTR.out k] at hown8
             have hD8 := hDa.below hb8 hg5
             have hS8 := hSa.thenBelow (hb8.mono (Nat.le_refl _))))
        go_roundw
        case rel => exact ⟨k + 1, A2, c2, rows ++ [ys], q2, by omega, by go_num, rfl, hown8, Lib.hid (fun r hr => by
          rcases List.mem_append.1 hr with h1 | h1
          · exact HA.out r h1
          · simp at h1; subst h1; exact HYL.out), hD8, hS8⟩
        case measure => simp [intOf]; omega
      · obtain rfl : k = s := by omega
        have HL := Lib.hid hown.2.1
        have hbbr := Step.below hbb5 hS hbb5.size hg
        have HRW : Hid (∀ j, j < k → (List.replicate k true).getD j false = true → allP p (rows.getD j []) = true ∧ (rows.getD j []).length = wd) := Lib.hid fun j hj _ => rows_at HA.out (by rw [HL.out]; exact hj)
        have HTT : Hid (∀ j, j < k → (List.replicate k true).getD j false = true) := Lib.hid fun j hj => trues_at hj
        go_upto_region 14 with (go_at_call 28; refine (decode_any p A' k c' wd _ rows _ HO.out hown.ans HRW.out (by omega) (by omega)).mono ?_; rintro e w6 ⟨hyes, _, hb6⟩; obtain ⟨A6, c6, rfl, hown6⟩ := hyes HTT.out; clear hyes)
        have HFF : Hid (∀ wx, Step g w5 wx → wx.cell? ⟨w3.heap.size, 0, none⟩ = some (.int .i64 p)) := Lib.hid fun wx hx => ((Step.block hx hF_5 hgf).cell 0).trans rfl
        obtain ⟨W6, hW6⟩ : ∃ W6, w6.alloc (.cells #[.slice A6 wd c6, .slice none 0 0] 55) = W6 := ⟨_, rfl⟩
        have hb6a : Below w6.heap.size w6 W6 := by rw [← hW6]; exact bbox _
        have bT6 : Blk W6 w6.heap.size 55 #[.slice A6 wd c6, .slice none 0 0] := by rw [← hW6]; exact Blk.new _ _ _
        rw [hW6]
        clear hW6
        have hb6w := bnext hb6 hb6a
        have hQ6 : Step g w5 W6.drew := (hS.trans (Step.of_below hb6w)).drew
        have hownA6 : OwnA W6.drew w5.heap.size w5.heap.size A' k c' (List.replicate k true) rows := (hown.belowAll hb6w : OwnA W6 _ _ _ _ _ _ _)
        have hownS6 : OwnI W6.drew wr.heap.size 3 A6 wd c6 (plusL p wd rows) := (hown6.belowAll hb6a : OwnI W6 _ _ _ _ _ _)
        have hD6 : Deck W6.drew g A n c xs q' := (hD.belowAll hb6w).drew
        have hgr : g < wr.heap.size := hD.1.lt
        have hg6 : g < w6.heap.size := Nat.lt_of_lt_of_le hgr hb6.size
        have hsc := HFF.out _ hQ6
        go_region_held3 (fun w' => w'.cell? ⟨w3.heap.size, 0, none⟩ = some (.int .i64 p)) (first | exact HFF.out _ hQ6 | exact HFF.out _ hQ9 | exact HFF.out _ hQ10)
          (first
            | (go_at_call 17; (with_reducible refine (next_any g A n c xs q' k _ hD6 (by omega)).mono ?_); rintro e w9 ⟨r3, q9, rfl, hr3, _, hD9, hS9, hz9⟩
               obtain ⟨j, rfl⟩ : ∃ r : Nat, r3 = r := ⟨r3.toNat, by have := hr3 (by omega); omega⟩
               have hjk : j < k := by have := hr3 (by omega); omega
               have hQ9 := hQ6.trans hS9
               clear hr3 hz9)
            | (go_at_call 27; (with_reducible refine (elements_any g A n c xs q9 p wd _ hD9 hp (by omega)).mono ?_); rintro e w10 ⟨E10, d10, es, q10, rfl, hownE, hEY, hD10, hS10⟩
               have hQ10 := hQ9.trans hS10))
        have hownA10 := (hownA6.step hS9 hg5 hg5).step hS10 hg5 hg5
        have hownS10 := (hownS6.step hS9 hgr).step hS10 hgr
        have bT10 := Step.block hS10 (Step.block hS9 bT6.drew (by omega)) (by omega)
        have hbb10 := Step.below hbb5 hQ10 hbb5.size hg
        have HEY := Lib.hid hEY
        have hg9 : g < w9.heap.size := hD9.1.lt
        have hr9 : wr.heap.size ≤ w9.heap.size := by
          have h1 := World.grownBy.size hS9
          have h2 : W6.heap.size ≤ w9.heap.size := h1
          have h3 := hb6w.size
          omega
        have hle10 := World.grownBy.size hS10
        obtain ⟨ga, Aj, nj, cj, rfl, hgaB, hcj0, hcj1, hnj, hIj⟩ := hownA10.ans.at_ hjk
        have hga := hownA10.row ga rfl
        have hgaw := (hown.row ga rfl).2
        have hrj := rows_at HA.out (j := j) (by rw [HL.out]; exact hjk)
        obtain rfl : nj = wd := by rw [← hIj.len]; exact hrj.2
        have HJ := Lib.hid hrj.1
        have hscf := HFF.out _ hQ10
        have hj0 : (0 : Int) ≤ (j : Int) := by omega
        have hjk2 : (j : Int) < (k : Int) := by omega
        have hsd : w10.drew.cell? ⟨w3.heap.size, 0, none⟩ = some (.int .i64 p) ∧ w10.drew.cell? ⟨ga, j * 2 + 1, none⟩ = some (.slice Aj nj cj) := ⟨hscf, hcj1⟩
        have hF10 := Step.block hQ10 hF_5 hgf
        have hfl : w3.heap.size < w10.heap.size := hF10.lt
        clear hD6 hownA6 hownS6 bT6 hcj0 hsc
        go_upto_region 15 with fail
        go_region_held3 (fun w' => w'.cell? ⟨w3.heap.size, 0, none⟩ = some (.int .i64 p) ∧ w'.cell? ⟨ga, j * 2 + 1, none⟩ = some (.slice Aj nj cj)) (first | exact hsd | exact ⟨(hb12.cell (p := ⟨w3.heap.size, 0, none⟩) hfl).trans hscf, (hb12.cell (p := ⟨ga, j * 2 + 1, none⟩) hga.2).trans hcj1⟩)
          (first
            | (go_at_call 29; (refine (radd_ok p Aj E10 nj cj d10 (rows.getD j []) es _ HO.out (by exact hIj) (by exact hownE.ints) HJ.out HEY.out (by omega)).mono ?_); rintro e w12 ⟨⟨A12, c12, rfl, hown12⟩, hb12⟩))
        obtain ⟨W12, hW12⟩ : ∃ W12, W12 = w12 := ⟨_, rfl⟩
        subst hW12
        have hb12' : Below w10.heap.size w10.drew W12 := hb12
        have hownA12 : OwnA W12 w5.heap.size w5.heap.size (some ⟨ga, 0, none⟩) k c' (List.replicate k true) rows := (show OwnA w10.drew _ _ _ _ _ _ _ from hownA10).belowAll hb12
        have hownS12 : OwnI W12 wr.heap.size 3 A6 nj c6 (plusL p nj rows) := (show OwnI w10.drew _ _ _ _ _ _ from hownS10).belowAll hb12
        have hownE12 : OwnI W12 w9.heap.size 3 E10 nj d10 es := (show OwnI w10.drew _ _ _ _ _ _ from hownE).belowAll hb12
        have bT12 := (Blk.drew bT10).below hb12' bT10.lt
        have hF12 := (Blk.drew hF10).below hb12' hF10.lt
        have hbb12 : Below w.heap.size w W12 := hbb10.drew.trans (hb12'.mono hbb10.size)
        have HLO : Hid (Lo w5.heap.size A12 nj) := Lib.hid fun h0 b off s e => by
          have h1 := hown12.row b (by rw [e]; rfl)
          have h2 : w10.heap.size ≤ b := h1
          have h3 := hga.2
          have h4 := hga.1
          omega
        have HAP : Hid (0 < nj → ∀ b off s, A12 = some ⟨b, off, s⟩ → ga ≠ b) := Lib.hid fun h0 b off s e => by
          have h1 := hown12.row b (by rw [e]; rfl)
          have h2 : w10.heap.size ≤ b := h1
          have h3 := hga.2
          omega
        have hk0 : W12.cell? ⟨ga, j * 2, none⟩ = some (.bool ((List.replicate k true).getD j false)) := by
          obtain ⟨b, A', n', c', e, _, h0, _⟩ := hownA12.ans.at_ hjk
          injection e with e
          injection e with e
          subst e
          exact h0
        have hk1 := (hb12'.cell (p := ⟨ga, j * 2 + 1, none⟩) hga.2).trans hcj1
        have hz0 := hownA12.frozenAt (j * 2)
        have hz1 := hownA12.frozenAt (j * 2 + 1)
        have hS13 : Step ga W12 ((W12.setCell ⟨ga, j * 2, none⟩ (.bool true)).setCell ⟨ga, j * 2 + 1, none⟩ (.slice A12 nj c12)) := ((Step.refl ga W12).set _ _).set _ _
        have hown13 := hownA12.put (b := true) hjk (by omega) hown12.ints HLO.out HAP.out (c' := c12)
        have hownS13 := hownS12.step hS13 hgaw
        have hownE13 := hownE12.step hS13 (by omega)
        have bT13 := Step.block hS13 bT12 (by have := hb6.size; omega)
        have hF13 := Step.block hS13 hF12 (by have h1 := hF_5.lt; have h2 := hga.1; omega)
        have hbb13 : Below w.heap.size w ((W12.setCell ⟨ga, j * 2, none⟩ (.bool true)).setCell ⟨ga, j * 2 + 1, none⟩ (.slice A12 nj c12)) := (hbb12.setCell (p := ⟨ga, j * 2, none⟩) (by have h1 := hbb5.size; have h2 := hga.1; show w.heap.size ≤ ga; omega) _).setCell (p := ⟨ga, j * 2 + 1, none⟩) (by have h1 := hbb5.size; have h2 := hga.1; show w.heap.size ≤ ga; omega) _
        have hcf13 : ((W12.setCell ⟨ga, j * 2, none⟩ (.bool true)).setCell ⟨ga, j * 2 + 1, none⟩ (.slice A12 nj c12)).cell? ⟨w3.heap.size, 0, none⟩ = some (.int .i64 p) := (hF13.cell 0).trans rfl
        have HRW2 : Hid (∀ i, i < k → ((List.replicate k true).set j true).getD i false = true → allP p ((rows.set j (zipI (addP p) (rows.getD j []) es)).getD i []) = true ∧ ((rows.set j (zipI (addP p) (rows.getD j []) es)).getD i []).length = nj) := Lib.hid fun i hi _ => by
          refine rows_at (fun r hr => ?_) (by rw [List.length_set, HL.out]; exact hi)
          rcases List.mem_or_eq_of_mem_set hr with h1 | h1
          · exact HA.out r h1
          · rw [h1]; exact ⟨zipI_add_all hp.1 _ _, zipI_len2 _ _ _ hIj.len hownE.len⟩
        have HTT2 : Hid (∀ i, i < k → ((List.replicate k true).set j true).getD i false = true) := Lib.hid fun i hi => trues_set hi
        have HLAW : Hid (plusL p nj (rows.set j (zipI (addP p) (rows.getD j []) es)) = zipI (addP p) (plusL p nj rows) es) := Lib.hid (plusL_wrong hp.1 (fun r hr => (HA.out r hr).2) hownE.len (by rw [HL.out]; exact hjk))
        have HPA : Hid (allP p (plusL p nj rows) = true) := Lib.hid (plusL_all hp.1 _ _)
        have HSM : Hid (sameL (zipI (addP p) (plusL p nj rows) es) (zipI (addP p) (plusL p nj rows) es) = true) := Lib.hid (sameL_iff.2 rfl)
        clear hsd hscf hcj1 hownA10 hownS10 bT10 hF10 hb12 hownA12 hownS12 hownE12 bT12 hF12 hS13 hrj hIj
        go_upto_region 18 with (go_at_call 28; refine (decode_any p _ k c' nj _ (rows.set j (zipI (addP p) (rows.getD j []) es)) _ HO.out hown13.ans HRW2.out (by omega) (by omega)).mono ?_; rintro e w14 ⟨hyes, _, hb14⟩; obtain ⟨A14, c14, rfl, hown14⟩ := hyes HTT2.out; rw [HLAW.out] at hown14; clear hyes)
        generalize (W12.setCell ⟨ga, j * 2, none⟩ (.bool true)).setCell ⟨ga, j * 2 + 1, none⟩ (.slice A12 nj c12) = W13 at *
        obtain ⟨W14, hW14⟩ : ∃ W14, w14.alloc (.cells #[.slice A14 nj c14, .slice none 0 0] 55) = W14 := ⟨_, rfl⟩
        have hb14a : Below w14.heap.size w14 W14 := by rw [← hW14]; exact bbox _
        have bT14 : Blk W14 w14.heap.size 55 #[.slice A14 nj c14, .slice none 0 0] := by rw [← hW14]; exact Blk.new _ _ _
        rw [hW14]
        clear hW14
        have hb14w := bnext hb14 hb14a
        have hI14 := (hown14.belowAll hb14a).ints
        have hIS14 := (hownS13.belowAll hb14w).ints
        have hIE14 := (hownE13.belowAll hb14w).ints
        have bT14' := bT13.below hb14w bT13.lt
        have hF14 := hF13.below hb14w hF13.lt
        have hcf14 : W14.cell? ⟨w3.heap.size, 0, none⟩ = some (.int .i64 p) := (hF14.cell 0).trans rfl
        have hct14 : W14.cell? ⟨w6.heap.size, 0, none⟩ = some (.slice A6 nj c6) := (bT14'.cell 0).trans rfl
        have hbb14 := hbb13.trans (hb14w.mono hbb13.size)
        clear hown13 hownS13 hownE13 hk0 hk1 hz0 hz1 hcf13 bT13 hF13
        go_wp2_with (first
          | (go_at_call 29; (refine (radd_ok p A6 E10 nj c6 d10 (plusL p nj rows) es _ HO.out hIS14 hIE14 HPA.out HEY.out (by omega)).mono ?_); rintro e w16 ⟨⟨A16, c16, rfl, hown16⟩, hb16⟩
             have hI16 := hI14.upto hb16
             have hct16 : w16.cell? ⟨w14.heap.size, 0, none⟩ = some (.slice A14 nj c14) := ((bT14.below hb16 bT14.lt).cell 0).trans rfl
             have hbb16 := hbb14.trans (hb16.mono hbb14.size))
          | (go_at_call 30; (refine (same_any A14 A16 nj nj c14 c16 _ _ _ hI16 hown16.ints (by omega) (by omega)).mono ?_); rintro e w17 ⟨rfl, q17, rfl⟩; rw [HSM.out]))
        go_ret
        exact ⟨rfl, below_drewN hbb16 _⟩
  · have hd : decide (n ≤ 500) = false := by simpa using hn
    go_enter Try.func5, Try.ntmps5
    go_wp2_with (first
      | (go_at_call 14; refine (sane16_any _).mono ?_; rintro e w1 ⟨rfl, hb1⟩)
      | (go_at_call 15; refine (few_any A n c _).mono ?_; rintro e w' ⟨rfl, rfl⟩))
    go_ret
    exact ⟨rfl, hb1⟩
end Go.Proofs.Ytefgjkkgddeemaa
