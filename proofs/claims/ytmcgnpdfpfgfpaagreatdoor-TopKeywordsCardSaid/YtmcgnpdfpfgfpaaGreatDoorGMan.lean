/-
  Words for memory and contracts of small functions of the second form. Conditions: those of each lemma.
-/
import Derived.Test.YtmcgnpdfpfgfpaaGreatDoorGMem
import Derived.Test.YtmcgnpdfpfgfpaaGreatDoorGCrv
import Derived.Test.YtmcgnpdfpfgfpaaGreatDoorGBas
import Derived.Test.YtmcgnpdfpfgfpaaGreatDoorMkRows
import Derived.Deep.DeepCutAuto
import Derived.Deep.RegionLaw
import Derived.Test.YtmcgnpdfpfgfpaaGreatDoorPlain
/-! MAns -/
namespace Go.Proofs.YtmcgnpdfpfgfpaaGreatDoor
open Go.RowKit
set_option linter.unusedVariables false

theorem Step.undrewA {g : Nat} {a b : World} (h : Step g a.drew b) : Step g a b := by
  obtain ⟨h1, h2, h3, h4, h5⟩ : World.grownBy a.drew b (some g) := h
  exact ⟨h1, h2, h3, h4, h5⟩
theorem set_allPA {p : Int} {l : List Int} (h : allP p l = true) (j : Nat) {v : Int} (hv : 0 ≤ v ∧ v < p) : allP p (l.set j v) = true := allP_iff.2 fun x hx => by
  rcases List.mem_or_eq_of_mem_set hx with h1 | h1
  · exact allP_iff.1 h x h1
  · rw [h1]; exact hv

theorem OwnI.setA {w : World} {base n c : Nat} {e : TypeId} {A : Option Addr} {xs : List Int} (h : OwnI w base e A n c xs) {p : Addr} (hp : p.block < base) (v : Value) : OwnI (w.setCell p v) base e A n c xs := by
  refine h.kept (row := some p.block) ⟨rfl, rfl, rfl, by simp [World.setCell], fun k hk hne => Below.heap_setCell w p v k (fun e => hne (by rw [e]))⟩ ?_
  right
  intro e
  have := h.row p.block e
  omega

/-- What is true of the answers. -/
structure AnsF (p : Int) (S W : Nat) (rows : List (List Int)) (ks : List Bool) (m : List (List Int)) (bd : List Bool) : Prop where
  len : ks.length = S ∧ m.length = S ∧ bd.length = S
  el : ∀ i, i < S → ks.getD i false = true → (m.getD i []).length = W ∧ allP p (m.getD i []) = true
  no : ∀ i, i < S → ks.getD i false = false → (m.getD i []).length = 0
  same : ∀ i, i < S → bd.getD i false = false → ks.getD i false = true → m.getD i [] = rows.getD i []

/-- What Answers leaves. -/
def MAPost (g : Nat) (A : Option Addr) (n c : Nat) (xs : List Int) (p : Int) (S W : Nat) (rows : List (List Int)) (nw sil : Nat) (w : World) (e : Ending) (w' : World) : Prop :=
  ∃ (L : Option Addr) (lc : Nat) (ks : List Bool) (bs : List (Option Addr × Nat × Nat)) (m : List (List Int)) (bd : List Bool) (O : Option Addr) (oc : Nat) (q' : Nat), e = .returned (.tuple #[.slice L S lc, .slice O (cntT bd) oc]) ∧
    AnW w' w.heap.size L S lc ks bs m ∧ AnsF p S W rows ks m bd ∧ cntT bd ≤ nw ∧ S ≤ cntT ks + sil ∧ Deck w' g A n c xs q' ∧ Step g w w'

theorem AnsF.start {p : Int} {S W : Nat} {rows : List (List Int)} (hr : rows.length = S) (h : ∀ r ∈ rows, allP p r = true ∧ r.length = W) : AnsF p S W rows (List.replicate S true) rows (List.replicate S false) :=
  ⟨⟨List.length_replicate, hr, List.length_replicate⟩, fun i hi _ => by
    have := h _ (getD_mem2 (l := rows) (d := []) (by omega : i < rows.length))
    exact ⟨this.2, this.1⟩, fun i hi hk => (by
    rw [List.getD_eq_getElem?_getD, List.getElem?_replicate, if_pos hi] at hk
    exact absurd hk (by simp)), fun _ _ _ _ => rfl⟩
theorem AnsF.wrong {p : Int} {S W : Nat} {rows m : List (List Int)} {ks bd : List Bool} (h : AnsF p S W rows ks m bd) {k x : Nat} {y : Int} (hk : k < S) (hkk : ks.getD k false = true) (hy : 0 ≤ y ∧ y < p) : AnsF p S W rows ks (m.set k ((m.getD k []).set x y)) (bd.set k true) := by
  obtain ⟨h1, h2, h3⟩ := h.len
  refine ⟨⟨h1, by rw [List.length_set]; exact h2, by rw [List.length_set]; exact h3⟩, fun i hi hi2 => ?_, fun i hi hi2 => ?_, fun i hi hb hi2 => ?_⟩
  · rw [getD_setG _ _ _ _ _ (by omega)]
    by_cases e : k = i
    · subst e
      rw [if_pos rfl, List.length_set]
      exact ⟨(h.el k hk hkk).1, set_allPA (h.el k hk hkk).2 x hy⟩
    · rw [if_neg e]; exact h.el i hi hi2
  · rw [getD_setG _ _ _ _ _ (by omega)]
    by_cases e : k = i
    · subst e
      rw [hkk] at hi2; cases hi2
    · rw [if_neg e]; exact h.no i hi hi2
  · rw [getD_setG _ _ _ _ _ (by omega)] at hb
    by_cases e : k = i
    · rw [if_pos e] at hb; cases hb
    · rw [if_neg e] at hb
      rw [getD_setG _ _ _ _ _ (by omega), if_neg e]
      exact h.same i hi hb hi2
theorem AnsF.silent {p : Int} {S W : Nat} {rows m : List (List Int)} {ks bd : List Bool} (h : AnsF p S W rows ks m bd) {k : Nat} (hk : k < S) : AnsF p S W rows (ks.set k false) (m.set k []) bd := by
  obtain ⟨h1, h2, h3⟩ := h.len
  refine ⟨⟨by rw [List.length_set]; exact h1, by rw [List.length_set]; exact h2, h3⟩, fun i hi hi2 => ?_, fun i hi hi2 => ?_, fun i hi hb hi2 => ?_⟩
  · rw [getD_setG _ _ _ _ _ (by omega)] at hi2
    by_cases e : k = i
    · rw [if_pos e] at hi2; cases hi2
    · rw [if_neg e] at hi2
      rw [getD_setG _ _ _ _ _ (by omega), if_neg e]; exact h.el i hi hi2
  · rw [getD_setG _ _ _ _ _ (by omega)] at hi2
    by_cases e : k = i
    · rw [getD_setG _ _ _ _ _ (by omega), if_pos e]; rfl
    · rw [if_neg e] at hi2
      rw [getD_setG _ _ _ _ _ (by omega), if_neg e]; exact h.no i hi hi2
  · rw [getD_setG _ _ _ _ _ (by omega)] at hi2
    by_cases e : k = i
    · rw [if_pos e] at hi2; cases hi2
    · rw [if_neg e] at hi2
      rw [getD_setG _ _ _ _ _ (by omega), if_neg e]; exact h.same i hi hb hi2

set_option maxRecDepth 100000 in
set_option maxHeartbeats 8000000 in
theorem manswers_ok (g : Nat) (A : Option Addr) (n c : Nat) (xs : List Int) (q : Nat) (p : Int) (R : Option Addr) (rc S W lo : Nat) (rows : List (List Int)) (nw sil : Nat) (w : World) (h : Deck w g A n c xs q) (hok : okP p = true) (hR : Mat w lo w.heap.size R S rows) (hlo : g < lo)
    (hrw : ∀ r ∈ rows, allP p r = true ∧ r.length = W) (hW : 1 ≤ W ∧ W ≤ 64) (hS : 1 ≤ S ∧ S ≤ 10) (hwr : nw ≤ 32) (hsil : sil ≤ 32) :
    Calls Tryz.prog 28 #[.pointer (some ⟨g, 0, none⟩), .agg #[.int .i64 p], .slice R S rc, .int .i64 nw, .int .i64 sil] w (MAPost g A n c xs p S W rows nw sil w) := by
  obtain ⟨i0, hi0, hz0, hz1, hz2⟩ := info_parts info_int
  obtain ⟨ib, hib, hb0', hb1', hb2'⟩ := info_parts info_bool
  have hp := okP_pos hok
  have hg := h.1.lt
  have HRW := Lib.hid hrw
  have hrl := hR.len
  have hb0 : Below w.heap.size w (w.alloc (.cells #[.int .i64 p] 44)) := bbox _
  have hR1 := hR.upto hb0
  have hD1 := h.belowAll hb0
  have hF1 := Blk.new w 44 #[.int .i64 p]
  have hg1 := hD1.1.lt
  have hwl1 := hF1.lt
  obtain ⟨w1, hw1⟩ : ∃ v, w.alloc (.cells #[.int .i64 p] 44) = v := ⟨_, rfl⟩
  rw [hw1] at hb0 hR1 hD1 hF1 hg1 hwl1
  clear hok hrw
  go_enter Tryz.func28, Tryz.ntmps28
  go_wp2
  clear hw1
  go_loopw [12, 24] (fun s i wz => ∃ (k : Nat) (L : Option Addr) (lc : Nat) (bs : List (Option Addr × Nat × Nat)), k ≤ S ∧ s = .slice L k lc ∧ i = .int .i64 k ∧ Hid (AnW wz w1.heap.size L k lc (List.replicate k true) bs (rows.take k)) ∧ Below w1.heap.size w1 wz) (fun _ i _ => S - (intOf i).toNat)
  case atStart => exact ⟨0, none, 0, [], Nat.zero_le _, rfl, rfl, Lib.hid AnW.nil_, Below.refl _ _⟩
  case round =>
    obtain ⟨k, L, lc, bs, hk, rfl, rfl, HS, hbz⟩ := hrel
    have hRr := hR1.upto hbz
    by_cases hlt : k < S
    · obtain ⟨bR, oR, A1, n1, c1, rfl, _, hbR, hc, hn1, hI1, hl1⟩ := hRr.at_ hlt
      have hn1W : n1 = W := by rw [← hI1.len]; exact (HRW.out _ (getD_mem2 (l := rows) (by omega : k < rows.length))).2
      subst hn1W
      have HT := Lib.hid (List.take_succ_eq_append_getElem (l := rows) (by omega : k < rows.length))
      have hge : rows.getD k [] = rows[k]'(by omega) := by rw [List.getD_eq_getElem?_getD, List.getElem?_eq_getElem (by omega)]; rfl
      rw [← hge] at HT
      clear hge
      have HRP : Hid (List.replicate (k + 1) true = List.replicate k true ++ [true]) := Lib.hid (List.replicate_succ' ..)
      obtain ⟨row, HX⟩ : ∃ x, Hid (rows.getD k [] = x) := ⟨_, Lib.hid rfl⟩
      rw [HX.out] at hI1 HT
      have hk0 : (0 : Int) ≤ (k : Int) := by omega
      have hkN : (k : Int) < (S : Int) := by omega
      have hszr := hbz.size
      go_wp2_with (first
        | (at_builtin
           refine wpList_append_ints rfl _ _ 22 rfl wr.heap.size 3 i0 _ Tryz.underlying22 hi0 hz0 hz1 hz2 rfl none 0 0 [] rfl OwnI.nil_ wr.heap.size A1 n1 c1 row rfl hI1 n1 (by omega) row rfl (by omega) (Nat.le_refl _) ?_
           intro A10 c10 w10 hown10 hgr10 hbz10 hat10
           have hAn11 := (HS.out.belowAll hbz10).alloc (.cells #[.bool true, .slice A10 n1 c10] 85)
           have hOw11 := (hown10.base hszr).alloc (.cells #[.bool true, .slice A10 n1 c10] 85)
           have hN11 := Blk.new w10 85 #[.bool true, .slice A10 n1 c10]
           have hbz11 := (hbz.trans (hbz10.mono hszr)).alloc (Nat.le_trans hszr hbz10.size) (.cells #[.bool true, .slice A10 n1 c10] 85)
           have hap11 : ∀ j, j < k → ∀ a d, A10 = some a → (bs.getD j (none, 0, 0)).1 = some d → a.block ≠ d.block := fun j hj a d ha hd e => by
             have h1 := hown10.row a.block (by rw [ha]; rfl)
             have h2 := (World.ownsRow.lt (HS.out.own j hj) d.block (by rw [hd]; rfl)).2
             omega)
        | (at_builtin
           refine wpList_append_anw rfl _ _ 80 rfl Tryz.underlying80 w1.heap.size L k lc (List.replicate k true) bs (rows.take k) rfl hAn11 w10.heap.size 1 true A10 n1 c10 row rfl ((hN11.cell 0).trans rfl) ((hN11.cell 1).trans rfl) hOw11 hap11 (by omega) hbz11.size ?_
           intro L2 lc2 w12 hA12 hb12
           have hbz12 := hbz11.trans hb12))
      go_roundw
      case rel => exact ⟨k + 1, L2, lc2, _, by omega, rfl, by go_num, Lib.hid (by rw [HT.out, HRP.out]; exact hA12), hbz12⟩
      case measure => simp [intOf]; omega
    · obtain rfl : S = k := by omega
      have hAn := HS.out
      rw [List.take_of_length_le (by omega)] at hAn
      have hbw := bnext hb0 hbz
      have hDr := hD1.belowAll hbz
      have hFr := hF1.below hbz hF1.lt
      have hs1r := hbz.size
      clear HS hR1 hD1 hF1
      go_upto_region 8 with (at_make
                             refine wpList_make_full _ rfl _ _ 139 rfl wr.heap.size 4 ib (.bool false) 1 Tryz.underlying139 hib hb0' hb1' .i64 .i64 S S S rfl rfl rfl rfl (by rw [hb2']; omega) (by unfold maxLen; omega) (Nat.le_refl _) ?_
                             intro w4 hown4 hgr4
                             rw [made_bools] at hown4
                             have hbz4 := (Below.refl wr.heap.size wr).grown hgr4 (Nat.le_refl _) (fun k hk => by cases hk))
      have hB4 : BlW w4 wr.heap.size wr.heap.size S (List.replicate S false) := hown4
      have hAn4 := hAn.belowAll hbz4
      have hD4 := hDr.belowAll hbz4
      have hF4 := hFr.below hbz4 hFr.lt
      have hbw4 := bnext hbw hbz4
      obtain ⟨gL, rfl, hgL, _⟩ := hAn4.form (by omega)
      have HBL4 : Hid (∀ j, j < S → ∀ a, (bs.getD j (none, 0, 0)).1 = some a → a.block < w4.heap.size) := Lib.hid fun j hj a ha => (World.ownsRow.lt (hAn4.own j hj) a.block (by rw [ha]; rfl)).2
      have hgB4 := hB4.lt
      clear hAn hDr hFr hRr hbz4 hown4 hgr4 hbz hbw
      generalize wr.heap.size = gB at *
      go_upto_region 9 with (go_at_call 63; (with_reducible refine (order_any g A n c xs q S _ hD4 (by omega)).mono ?_); rintro e w8 ⟨A4, c4, os, q8, rfl, hown8, hord, hD8, hS8⟩
                             have HK := Lib.hid hord
                             have hAn8 := hAn4.step hS8 hg1
                             have hB8 := hB4.step hS8 (by omega)
                             have HF8 := Lib.hid (Step.block hS8 hF4 (by omega))
                             have hbw8 : Step g w w8 := (Step.of_below hbw4).trans hS8
                             clear hord hS8 hD4)
      clear hB4 hAn4 hF4 hbw4
      have hwB : w.heap.size < gB := by omega
      have hL0 : g < w.heap.size := hg
      generalize w4.heap.size = M at *
      go_loopw [43] (fun i wz => ∃ (j q : Nat) (ks : List Bool) (bs : List (Option Addr × Nat × Nat)) (m : List (List Int)) (bd : List Bool), j ≤ S ∧ i = .int .i64 j ∧ Hid (AnW wz w1.heap.size (some ⟨gL, 0, none⟩) S lc ks bs m) ∧ Hid (BlW wz gB gB S bd) ∧ Hid (AnsF p S W rows ks m bd) ∧ Hid (cntT bd ≤ min j nw) ∧ Hid (S ≤ cntT ks + min (j - nw) sil) ∧ Hid (j ≤ nw → ∀ i, i < S → ks.getD i false = true) ∧
        Hid (∀ j, j < S → ∀ a, (bs.getD j (none, 0, 0)).1 = some a → a.block < M) ∧ OwnI wz M 3 A4 S c4 os ∧ Deck wz g A n c xs q ∧ Step g w wz ∧ Hid (Blk wz w.heap.size 44 #[.int .i64 p])) (fun i _ => S - (intOf i).toNat)
      case atStart => exact ⟨0, q8, List.replicate S true, bs, rows, List.replicate S false, Nat.zero_le _, rfl, Lib.hid hAn8, Lib.hid hB8, Lib.hid (AnsF.start hrl HRW.out), Lib.hid (by rw [cntT_no]; exact Nat.zero_le _), Lib.hid (by rw [cntT_yes]; omega), Lib.hid (fun _ i hi => by rw [List.getD_eq_getElem?_getD, List.getElem?_replicate, if_pos hi]; rfl), HBL4, hown8, hD8, hbw8, HF8⟩
      case round =>
        clear hAn8 hB8 HF8 hown8 hD8 hbw8 HBL4
        obtain ⟨j, q2, ks, bs, m, bd, hj, rfl, HAN, HBW, HAF, HCB, HCK, HAK, HBL, hoK, hD, hSt, HFB⟩ := hrel
        by_cases hlt2 : j < S
        · have hIk := hoK.ints
          obtain ⟨b2, o2, rfl, hb2, hc2⟩ := hIk.2 (by omega)
          have hcz := hc2 j hlt2
          obtain ⟨z, hz, hzk⟩ := order_at HK.out hlt2
          rw [hz] at hcz
          clear hc2 hIk
          have hj0 : (0 : Int) ≤ (j : Int) := by omega
          have hjk : (j : Int) < (S : Int) := by omega
          obtain ⟨ws, hws⟩ : ∃ ws, nw + sil = ws := ⟨_, rfl⟩
          have h0s : (nw : Int) + (sil : Int) = (ws : Int) := by omega
          have HWS := Lib.hid hws
          have hws64 : ws ≤ 64 := by omega
          clear hws
          have hz0 : (0 : Int) ≤ (z : Int) := by omega
          have hzki : (z : Int) < (S : Int) := by omega
          by_cases hjw : j < nw
          · have hjwi : (j : Int) < (nw : Int) := by omega
            have hkz := HAK.out (by omega) z hzk
            obtain ⟨hmzl, hmza⟩ := HAF.out.el z hzk hkz
            have hRz := hR.step hSt hlo
            obtain ⟨bR, oR, A1, n1, c1, hRe, _, hbR, hcR, hn1, hI1, _⟩ := hRz.at_ hzk
            have hn1W : n1 = W := by rw [← hI1.len]; exact (HRW.out _ (getD_mem2 (l := rows) (d := []) (by omega : z < rows.length))).2
            subst hRe hn1W
            clear hRz hI1
            have hWp : (0 : Int) < (n1 : Int) := by omega
            have hWp2 : 0 < n1 := by omega
            have hoz := HAN.out.own z hzk
            have hW' : (bs.getD z (none, 0, 0)).2.1 = n1 := by rw [← hoz.len]; exact hmzl
            obtain ⟨bk, hbk, hbkl, hbkh⟩ := hoz.form (by rw [hW']; exact hWp2)
            obtain ⟨ck, hck⟩ : ∃ ck, (bs.getD z (none, 0, 0)).2.2 = ck := ⟨_, rfl⟩
            rw [hbk, hW', hck] at hoz
            obtain ⟨mz, hmz⟩ : ∃ x, m.getD z [] = x := ⟨_, rfl⟩
            rw [hmz] at hoz hmzl hmza
            have hbkM := HBL.out z hzk _ hbk
            have hbkM : bk < M := hbkM
            have hgk : g ≠ bk := by omega
            have hgL' : g ≠ gL := by omega
            have hwbk : w.heap.size ≠ bk := by omega
            have hbkB : bk ≠ gB := HBW.out.ne_own hoz
            have HBK := Lib.hid hbk
            have HMZ := Lib.hid hmz
            have HKZ := Lib.hid hkz
            have HMA := Lib.hid hmza
            have HCE : Hid ((bs.getD z (none, 0, 0)).2.1 = n1 ∧ (bs.getD z (none, 0, 0)).2.2 = ck) := Lib.hid ⟨hW', hck⟩
            clear hbk hmz hkz hmza hck hW' hoz hbkh
            go_upto_region 13 with (go_at_call 22; (with_reducible refine (next_any g A n c xs q2 n1 _ hD (by omega)).mono ?_); rintro e w9 ⟨r, q9, rfl, hr, _, hD9, hS9, hz9⟩
                                    have hr9 := hr (by omega)
                                    have HAN9 := Lib.hid (HAN.out.step hS9 hg1)
                                    have HBW9 := Lib.hid (HBW.out.step hS9 (by omega))
                                    have hoK9 := hoK.step hS9 (by omega)
                                    have hSt9 := hSt.trans hS9
                                    have HF9 := Lib.hid (Step.block hS9 HFB.out (by omega))
                                    clear hr hz9 hS9)
            clear hD hSt hoK
            obtain ⟨ci, rfl⟩ : ∃ ci : Nat, r = ci := ⟨r.toNat, by omega⟩
            have hci : ci < n1 := by omega
            have hci0 : (0 : Int) ≤ (ci : Int) := by omega
            have hcin : (ci : Int) < (n1 : Int) := by omega
            obtain ⟨x, hx⟩ : ∃ x, mz.getD ci 0 = x := ⟨_, rfl⟩
            have hxin : 0 ≤ x ∧ x < p := by rw [← hx]; exact allP_getD HMA.out (k := ci) (by omega)
            have hFACT : ∀ W9 : World, AnW W9 w1.heap.size (some ⟨gL, 0, none⟩) S lc ks bs m → W9.cell? ⟨gL, z * 2 + 1, none⟩ = some (.slice (some ⟨bk, 0, none⟩) n1 ck) ∧ W9.cell? ⟨bk, ci, none⟩ = some (.int .i64 x) ∧ W9.frozen? ⟨bk, ci, none⟩ = false := fun W9 hA => by
              have h1 := (hA.at_ hzk).2.1
              have h2 := hA.own z hzk
              rw [HBK.out, HCE.out.1, HCE.out.2] at h1 h2
              rw [HMZ.out] at h2
              have h3 := h2.cellAt hci
              rw [hx] at h3
              exact ⟨h1, h3, h2.frozenAt ci⟩
            obtain ⟨hl9, hx9, hf9⟩ := hFACT _ HAN9.out
            have HFACT := Lib.hid hFACT
            clear hFACT hx
            have hp9 : w9.cell? ⟨w.heap.size, 0, none⟩ = some (.int .i64 p) := (HF9.out.cell 0).trans rfl
            have hDd := hD9.drew
            have hpw : IntKind.i64.wrap (p - 1) = p - 1 := IntWalk.i64_in _ (by omega)
            have hxw : IntKind.i64.wrap (x + 1) = x + 1 := IntWalk.i64_in _ (by omega)
            have hpn0 : ¬ p = 0 := by omega
            have hH0d : w9.drew.cell? ⟨gL, z * 2 + 1, none⟩ = some (.slice (some ⟨bk, 0, none⟩) n1 ck) ∧ w9.drew.cell? ⟨bk, ci, none⟩ = some (.int .i64 x) ∧ w9.drew.cell? ⟨w.heap.size, 0, none⟩ = some (.int .i64 p) := ⟨hl9, hx9, hp9⟩
            refine wp_region_M (S := fun w' => w'.cell? ⟨gL, z * 2 + 1, none⟩ = some (.slice (some ⟨bk, 0, none⟩) n1 ck) ∧ w'.cell? ⟨bk, ci, none⟩ = some (.int .i64 x) ∧ w'.cell? ⟨w.heap.size, 0, none⟩ = some (.int .i64 p)) (n := 25) (by kernel_rfl) hH0d (fun inv hS => ?_)
            refine wpM_take (i := 0) (v := ?va0) rfl (by kernel_rfl) (by kernel_rfl) (by kernel_rfl) (fun _ _ _ h => h) (by kernel_rfl) (by kernel_rfl) (of_decide_eq_true (by kernel_rfl)) (by decide) inv (Or.inl ⟨by rfl, ?hya0⟩) hS ?resta0
            case hya0 => (intro w' hSw; (try dsimp only at hSw); go_simp; try with_reducible rfl)
            clear inv
            intro inv
            (try simp only [Act.put, List.setIfInBounds_toArray, List.set_cons_zero, List.set_cons_succ])
            refine wpM_take (i := 1) (v := ?va1) rfl (by kernel_rfl) (by kernel_rfl) (by kernel_rfl) (fun _ _ _ h => h) (by kernel_rfl) (by kernel_rfl) (of_decide_eq_true (by kernel_rfl)) (by decide) inv (Or.inl ⟨by rfl, ?hya1⟩) hS ?resta1
            case hya1 => (intro w' hSw; (try dsimp only at hSw); go_simp; try with_reducible rfl)
            clear inv
            intro inv
            (try simp only [Act.put, List.setIfInBounds_toArray, List.set_cons_zero, List.set_cons_succ])
            refine wpM_take (i := 2) (v := ?va2) rfl (by kernel_rfl) (by kernel_rfl) (by kernel_rfl) (fun _ _ _ h => h) (by kernel_rfl) (by kernel_rfl) (of_decide_eq_true (by kernel_rfl)) (by decide) inv (Or.inl ⟨by rfl, ?hya2⟩) hS ?resta2
            case hya2 => (intro w' hSw; (try dsimp only at hSw); go_simp; try with_reducible rfl)
            clear inv
            intro inv
            (try simp only [Act.put, List.setIfInBounds_toArray, List.set_cons_zero, List.set_cons_succ])
            refine wpM_take (i := 3) (v := ?va3) rfl (by kernel_rfl) (by kernel_rfl) (by kernel_rfl) (fun _ _ _ h => h) (by kernel_rfl) (by kernel_rfl) (of_decide_eq_true (by kernel_rfl)) (by decide) inv (Or.inl ⟨by rfl, ?hya3⟩) hS ?resta3
            case hya3 => (intro w' hSw; (try dsimp only at hSw); go_simp; try with_reducible rfl)
            clear inv
            intro inv
            (try simp only [Act.put, List.setIfInBounds_toArray, List.set_cons_zero, List.set_cons_succ])
            refine wpM_take (i := 4) (v := ?va4) rfl (by kernel_rfl) (by kernel_rfl) (by kernel_rfl) (fun _ _ _ h => h) (by kernel_rfl) (by kernel_rfl) (of_decide_eq_true (by kernel_rfl)) (by decide) inv (Or.inl ⟨by rfl, ?hya4⟩) hS ?resta4
            case hya4 => (intro w' hSw; (try dsimp only at hSw); go_simp; try with_reducible rfl)
            clear inv
            intro inv
            (try simp only [Act.put, List.setIfInBounds_toArray, List.set_cons_zero, List.set_cons_succ])
            refine wpM_take (i := 5) (v := ?va5) rfl (by kernel_rfl) (by kernel_rfl) (by kernel_rfl) (fun _ _ _ h => h) (by kernel_rfl) (by kernel_rfl) (of_decide_eq_true (by kernel_rfl)) (by decide) inv (Or.inl ⟨by rfl, ?hya5⟩) hS ?resta5
            case hya5 => (intro w' hSw; (try dsimp only at hSw); go_simp; try with_reducible rfl)
            clear inv
            intro inv
            (try simp only [Act.put, List.setIfInBounds_toArray, List.set_cons_zero, List.set_cons_succ])
            refine wpM_take (i := 6) (v := ?va6) rfl (by kernel_rfl) (by kernel_rfl) (by kernel_rfl) (fun _ _ _ h => h) (by kernel_rfl) (by kernel_rfl) (of_decide_eq_true (by kernel_rfl)) (by decide) inv (Or.inl ⟨by rfl, ?hya6⟩) hS ?resta6
            case hya6 => (intro w' hSw; (try dsimp only at hSw); go_simp; try with_reducible rfl)
            clear inv
            intro inv
            (try simp only [Act.put, List.setIfInBounds_toArray, List.set_cons_zero, List.set_cons_succ])
            refine wpM_take (i := 7) (v := ?va7) rfl (by kernel_rfl) (by kernel_rfl) (by kernel_rfl) (fun _ _ _ h => h) (by kernel_rfl) (by kernel_rfl) (of_decide_eq_true (by kernel_rfl)) (by decide) inv (Or.inl ⟨by rfl, ?hya7⟩) hS ?resta7
            case hya7 => (intro w' hSw; (try dsimp only at hSw); go_simp; try with_reducible rfl)
            clear inv
            intro inv
            (try simp only [Act.put, List.setIfInBounds_toArray, List.set_cons_zero, List.set_cons_succ])
            refine wpM_take (i := 8) (v := ?va8) rfl (by kernel_rfl) (by kernel_rfl) (by kernel_rfl) (fun _ _ _ h => h) (by kernel_rfl) (by kernel_rfl) (of_decide_eq_true (by kernel_rfl)) (by decide) inv (Or.inl ⟨by rfl, ?hya8⟩) hS ?resta8
            case hya8 => (intro w' hSw; (try dsimp only at hSw); go_simp; try with_reducible rfl)
            clear inv
            intro inv
            (try simp only [Act.put, List.setIfInBounds_toArray, List.set_cons_zero, List.set_cons_succ])
            refine wpM_take (i := 9) (v := ?va9) rfl (by kernel_rfl) (by kernel_rfl) (by kernel_rfl) (fun _ _ _ h => h) (by kernel_rfl) (by kernel_rfl) (of_decide_eq_true (by kernel_rfl)) (by decide) inv (Or.inl ⟨by rfl, ?hya9⟩) hS ?resta9
            case hya9 => (intro w' hSw; (try dsimp only at hSw); go_simp; try with_reducible rfl)
            clear inv
            intro inv
            (try simp only [Act.put, List.setIfInBounds_toArray, List.set_cons_zero, List.set_cons_succ])
            refine wpM_take (i := 10) (v := ?va10) rfl (by kernel_rfl) (by kernel_rfl) (by kernel_rfl) (fun _ _ _ h => h) (by kernel_rfl) (by kernel_rfl) (of_decide_eq_true (by kernel_rfl)) (by decide) inv (Or.inl ⟨by rfl, ?hya10⟩) hS ?resta10
            case hya10 => (intro w' hSw; (try dsimp only at hSw); go_simp; try with_reducible rfl)
            clear inv
            intro inv
            (try simp only [Act.put, List.setIfInBounds_toArray, List.set_cons_zero, List.set_cons_succ])
            refine wpM_take (i := 11) (v := ?va11) rfl (by kernel_rfl) (by kernel_rfl) (by kernel_rfl) (fun _ _ _ h => h) (by kernel_rfl) (by kernel_rfl) (of_decide_eq_true (by kernel_rfl)) (by decide) inv (Or.inl ⟨by rfl, ?hya11⟩) hS ?resta11
            case hya11 => (intro w' hSw; (try dsimp only at hSw); go_simp; try with_reducible rfl)
            clear inv
            intro inv
            (try simp only [Act.put, List.setIfInBounds_toArray, List.set_cons_zero, List.set_cons_succ])
            refine wpM_take (i := 12) (v := ?va12) rfl (by kernel_rfl) (by kernel_rfl) (by kernel_rfl) (fun _ _ _ h => h) (by kernel_rfl) (by kernel_rfl) (of_decide_eq_true (by kernel_rfl)) (by decide) inv (Or.inl ⟨by rfl, ?hya12⟩) hS ?resta12
            case hya12 => (intro w' hSw; (try dsimp only at hSw); go_simp; try with_reducible rfl)
            clear inv
            intro inv
            (try simp only [Act.put, List.setIfInBounds_toArray, List.set_cons_zero, List.set_cons_succ])
            refine wpM_take (i := 13) (v := ?va13) rfl (by kernel_rfl) (by kernel_rfl) (by kernel_rfl) (fun _ _ _ h => h) (by kernel_rfl) (by kernel_rfl) (of_decide_eq_true (by kernel_rfl)) (by decide) inv (Or.inl ⟨by rfl, ?hya13⟩) hS ?resta13
            case hya13 => (intro w' hSw; (try dsimp only at hSw); go_simp; try with_reducible rfl)
            clear inv
            intro inv
            (try simp only [Act.put, List.setIfInBounds_toArray, List.set_cons_zero, List.set_cons_succ])
            refine wpM_take (i := 14) (v := ?va14) rfl (by kernel_rfl) (by kernel_rfl) (by kernel_rfl) (fun _ _ _ h => h) (by kernel_rfl) (by kernel_rfl) (of_decide_eq_true (by kernel_rfl)) (by decide) inv (Or.inl ⟨by rfl, ?hya14⟩) hS ?resta14
            case hya14 => (intro w' hSw; (try dsimp only at hSw); go_simp; try with_reducible rfl)
            clear inv
            intro inv
            (try simp only [Act.put, List.setIfInBounds_toArray, List.set_cons_zero, List.set_cons_succ])
            refine wpM_take (i := 15) (v := ?va15) rfl (by kernel_rfl) (by kernel_rfl) (by kernel_rfl) (fun _ _ _ h => h) (by kernel_rfl) (by kernel_rfl) (of_decide_eq_true (by kernel_rfl)) (by decide) inv (Or.inl ⟨by rfl, ?hya15⟩) hS ?resta15
            case hya15 => (intro w' hSw; (try dsimp only at hSw); go_simp; try with_reducible rfl)
            clear inv
            intro inv
            (try simp only [Act.put, List.setIfInBounds_toArray, List.set_cons_zero, List.set_cons_succ])
            refine wpM_take (i := 16) (v := ?va16) rfl (by kernel_rfl) (by kernel_rfl) (by kernel_rfl) (fun _ _ _ h => h) (by kernel_rfl) (by kernel_rfl) (of_decide_eq_true (by kernel_rfl)) (by decide) inv (Or.inl ⟨by rfl, ?hya16⟩) hS ?resta16
            case hya16 => (intro w' hSw; (try dsimp only at hSw); go_simp; try with_reducible rfl)
            clear inv
            intro inv
            (try simp only [Act.put, List.setIfInBounds_toArray, List.set_cons_zero, List.set_cons_succ])
            refine wpM_take (i := 17) (v := ?va17) rfl (by kernel_rfl) (by kernel_rfl) (by kernel_rfl) (fun _ _ _ h => h) (by kernel_rfl) (by kernel_rfl) (of_decide_eq_true (by kernel_rfl)) (by decide) inv (Or.inl ⟨by rfl, ?hya17⟩) hS ?resta17
            case hya17 => (intro w' hSw; (try dsimp only at hSw); go_simp; try with_reducible rfl)
            clear inv
            intro inv
            (try simp only [Act.put, List.setIfInBounds_toArray, List.set_cons_zero, List.set_cons_succ])
            refine wpM_take (i := 18) (v := ?va18) rfl (by kernel_rfl) (by kernel_rfl) (by kernel_rfl) (fun _ _ _ h => h) (by kernel_rfl) (by kernel_rfl) (of_decide_eq_true (by kernel_rfl)) (by decide) inv (Or.inl ⟨by rfl, ?hya18⟩) hS ?resta18
            case hya18 => (intro w' hSw; (try dsimp only at hSw); go_simp; try with_reducible rfl)
            clear inv
            intro inv
            (try simp only [Act.put, List.setIfInBounds_toArray, List.set_cons_zero, List.set_cons_succ])
            refine wpM_take (i := 21) (v := ?va21) rfl (by kernel_rfl) (by kernel_rfl) (by kernel_rfl) (fun _ _ _ h => h) (by kernel_rfl) (by kernel_rfl) (of_decide_eq_true (by kernel_rfl)) (by decide) inv (Or.inl ⟨by rfl, ?hya21⟩) hS ?resta21
            case hya21 => (intro w' hSw; (try dsimp only at hSw); go_simp; try with_reducible rfl)
            clear inv
            intro inv
            (try simp only [Act.put, List.setIfInBounds_toArray, List.set_cons_zero, List.set_cons_succ])
            refine wpM_take (i := 22) (v := ?va22) rfl (by kernel_rfl) (by kernel_rfl) (by kernel_rfl) (fun _ _ _ h => h) (by kernel_rfl) (by kernel_rfl) (of_decide_eq_true (by kernel_rfl)) (by decide) inv (Or.inl ⟨by rfl, ?hya22⟩) hS ?resta22
            case hya22 => (intro w' hSw; (try dsimp only at hSw); go_simp; try with_reducible rfl)
            clear inv
            intro inv
            (try simp only [Act.put, List.setIfInBounds_toArray, List.set_cons_zero, List.set_cons_succ])
            refine wpM_one (k := 19) rfl (by kernel_rfl) (by decide) inv (fun K hK => ?_)
            clear inv hS
            go_simp
            go_at_call 22
            refine (next_any g A n c xs q9 (p - 1) _ hDd (by omega)).mono ?_
            rintro e w10 ⟨r2, q10, rfl, hr, _, hD10, hS10, hz10⟩
            have hr2 : 0 ≤ r2 ∧ r2 < p := by
              have := hr (by omega); omega
            have hS10 := Step.undrewA hS10
            have hAn10 := HAN9.out.step hS10 hg1
            have hBw10 := HBW9.out.step hS10 (by omega)
            have hoK10 := hoK9.step hS10 (by omega)
            have hSt10 := hSt9.trans hS10
            have hF10 := Step.block hS10 HF9.out (by omega)
            have hp10 : w10.cell? ⟨w.heap.size, 0, none⟩ = some (.int .i64 p) := (hF10.cell 0).trans rfl
            obtain ⟨hl10, hx10, hf10⟩ := HFACT.out _ hAn10
            have hH10 : w10.cell? ⟨gL, z * 2 + 1, none⟩ = some (.slice (some ⟨bk, 0, none⟩) n1 ck) ∧ w10.cell? ⟨bk, ci, none⟩ = some (.int .i64 x) ∧ w10.cell? ⟨w.heap.size, 0, none⟩ = some (.int .i64 p) := ⟨hl10, hx10, hp10⟩
            have hrw : IntKind.i64.wrap (x + 1 + r2) = x + 1 + r2 := IntWalk.i64_in _ (by omega)
            have htm : (x + 1 + r2).tmod p = (x + 1 + r2) % p := Int.tmod_eq_emod_of_nonneg (by omega)
            obtain ⟨y, hy⟩ : ∃ y, (x + 1 + r2) % p = y := ⟨_, rfl⟩
            have hyb : 0 ≤ y ∧ y < p := by rw [← hy]; exact ⟨Int.emod_nonneg _ (by omega), Int.emod_lt_of_pos _ (by omega)⟩
            rw [hy] at htm
            have HYB := Lib.hid hyb
            have HANn := Lib.hid (hAn10.setRow (x := ci) (y := y) hzk HBK.out)
            have HBWn := hBw10.step ((Step.refl bk w10).set ci (.int .i64 y)) hbkB
            have HKn := Lib.hid (hoK10.setA (p := ⟨bk, ci, none⟩) (by show bk < M; omega) (.int .i64 y))
            have HDn := Lib.hid (hD10.setCell (p := ⟨bk, ci, none⟩) (by show g < bk; omega) (.int .i64 y))
            have HSn := Lib.hid (hSt10.setNew (p := ⟨bk, ci, none⟩) (by show w.heap.size ≤ bk; omega) (.int .i64 y))
            have HFn := Lib.hid (hF10.far (p := ⟨bk, ci, none⟩) (by show w.heap.size ≠ bk; omega) (.int .i64 y))
            clear hr hz10 hD10 hS10 hAn10 hBw10 hoK10 hSt10 hF10 hy hyb
            (try dsimp only)
            refine hK.out _ _ hH10 (fun inv hS => ?_)
            clear hK K
            (try simp only [Act.put, List.setIfInBounds_toArray, List.set_cons_zero, List.set_cons_succ])
            refine wpM_take (i := 20) (v := ?vb20) rfl (by kernel_rfl) (by kernel_rfl) (by kernel_rfl) (fun _ _ _ h => h) (by kernel_rfl) (by kernel_rfl) (of_decide_eq_true (by kernel_rfl)) (by decide) inv (Or.inl ⟨by rfl, ?hyb20⟩) hS ?restb20
            case hyb20 => (intro w' hSw; (try dsimp only at hSw); go_simp; try with_reducible rfl)
            clear inv
            intro inv
            (try simp only [Act.put, List.setIfInBounds_toArray, List.set_cons_zero, List.set_cons_succ])
            refine wpM_take (i := 23) (v := ?vb23) rfl (by kernel_rfl) (by kernel_rfl) (by kernel_rfl) (fun _ _ _ h => h) (by kernel_rfl) (by kernel_rfl) (of_decide_eq_true (by kernel_rfl)) (by decide) inv (Or.inl ⟨by rfl, ?hyb23⟩) hS ?restb23
            case hyb23 => (intro w' hSw; (try dsimp only at hSw); go_simp; try with_reducible rfl)
            clear inv
            intro inv
            (try simp only [Act.put, List.setIfInBounds_toArray, List.set_cons_zero, List.set_cons_succ])
            refine wpM_take (i := 24) (v := ?vb24) rfl (by kernel_rfl) (by kernel_rfl) (by kernel_rfl) (fun _ _ _ h => h) (by kernel_rfl) (by kernel_rfl) (of_decide_eq_true (by kernel_rfl)) (by decide) inv (Or.inl ⟨by rfl, ?hyb24⟩) hS ?restb24
            case hyb24 => (intro w' hSw; (try dsimp only at hSw); go_simp; try with_reducible rfl)
            clear inv
            intro inv
            (try simp only [Act.put, List.setIfInBounds_toArray, List.set_cons_zero, List.set_cons_succ])
            refine wpM_last rfl (by kernel_rfl) (by kernel_rfl) (fun K hK => ?_)
            clear inv hS
            go_simp
            refine hK.out _ _ ?_
            clear hK K
            have HMRK := Lib.hid (HANn.out.mark (k := z) (v := .bool true) HBWn)
            have HBW2 := Lib.hid (HBWn.set z true)
            obtain ⟨hcB, hfB⟩ := HBWn.at_ hzk
            have HAF2 := Lib.hid (HAF.out.wrong (k := z) (x := ci) (y := y) hzk HKZ.out HYB.out)
            have HK2 := Lib.hid (HKn.out.setA (p := ⟨gB, z, none⟩) (by show gB < M; omega) (.bool true))
            have HD2 := Lib.hid (HDn.out.setCell (p := ⟨gB, z, none⟩) (by show g < gB; omega) (.bool true))
            have HS2 := Lib.hid (HSn.out.setNew (p := ⟨gB, z, none⟩) (by show w.heap.size ≤ gB; omega) (.bool true))
            have HF2 := Lib.hid (HFn.out.far (p := ⟨gB, z, none⟩) (by show w.heap.size ≠ gB; omega) (.bool true))
            have HCB2 : Hid (cntT (bd.set z true) ≤ min (j + 1) nw) := Lib.hid (by have h1 := cntT_set_true bd z; have h2 := HCB.out; omega)
            have HCK2 : Hid (S ≤ cntT ks + min (j + 1 - nw) sil) := Lib.hid (by have h2 := HCK.out; omega)
            clear HBWn hl9 hx9 hf9 hp9 hDd
            go_wp2
            go_roundw
            case rel => exact ⟨j + 1, q10, ks, bs, _, bd.set z true, by omega, by go_num, HMRK, HBW2, HAF2, HCB2, HCK2, Lib.hid (fun _ => HAK.out (by omega)), HBL, HK2.out, HD2.out, HS2.out, HF2⟩
            case measure => simp [intOf]; omega
          · have hjwi : ¬ (j : Int) < (nw : Int) := by omega
            have hjwi2 : (nw : Int) ≤ (j : Int) := by omega
            by_cases hjs : j < ws
            · have hjsi : (j : Int) < (ws : Int) := by omega
              obtain ⟨hc0, hc1, hfr⟩ := HAN.out.at_ hzk
              have hf0 := hfr (z * 2)
              have hf1 := hfr (z * 2 + 1)
              have HANn := Lib.hid (HAN.out.silent hzk)
              have hgLB : gL ≠ gB := own_ne HAN.out.out HBW.out (fun e => types_bool.2 e.symm)
              have HBWn := Lib.hid (HBW.out.step (((Step.refl gL wr).set (z * 2) (.bool false)).set (z * 2 + 1) (.slice none 0 0)) hgLB)
              have HAFn := Lib.hid (HAF.out.silent hzk)
              have HCKn : Hid (S ≤ cntT (ks.set z false) + min (j + 1 - nw) sil) := Lib.hid (by have h1 := cntT_set_false ks z; have h2 := HCK.out; have h3 := HWS.out; omega)
              have HBLn : Hid (∀ j, j < S → ∀ a, ((bs.set z (none, 0, 0)).getD j (none, 0, 0)).1 = some a → a.block < M) := Lib.hid fun j hj a ha => by
                rw [getD_setG _ _ _ _ _ (by rw [HAN.out.lb]; exact hzk)] at ha
                by_cases e : z = j
                · rw [if_pos e] at ha; cases ha
                · rw [if_neg e] at ha; exact HBL.out j hj a ha
              have hoKn := (hoK.setA (p := ⟨gL, z * 2, none⟩) (by show gL < M; omega) (.bool false)).setA (p := ⟨gL, z * 2 + 1, none⟩) (by show gL < M; omega) (.slice none 0 0)
              have hDn := (hD.setCell (p := ⟨gL, z * 2, none⟩) (by show g < gL; omega) (.bool false)).setCell (p := ⟨gL, z * 2 + 1, none⟩) (by show g < gL; omega) (.slice none 0 0)
              have hStn := (hSt.setNew (p := ⟨gL, z * 2, none⟩) (by show w.heap.size ≤ gL; omega) (.bool false)).setNew (p := ⟨gL, z * 2 + 1, none⟩) (by show w.heap.size ≤ gL; omega) (.slice none 0 0)
              have HFn := Lib.hid ((HFB.out.far (p := ⟨gL, z * 2, none⟩) (by show w.heap.size ≠ gL; omega) (.bool false)).far (p := ⟨gL, z * 2 + 1, none⟩) (by show w.heap.size ≠ gL; omega) (.slice none 0 0))
              go_wp2
              go_roundw
              case rel => exact ⟨j + 1, q2, _, _, _, bd, by omega, by go_num, HANn, HBWn, HAFn, Lib.hid (by have := HCB.out; omega), HCKn, Lib.hid (fun h => absurd h (by omega)), HBLn, hoKn, hDn, hStn, HFn⟩
              case measure => simp [intOf]; omega
            · have hjsi : ¬ ((j : Int) < (ws : Int)) := by omega
              go_wp2
              go_roundw
              case rel => exact ⟨j + 1, q2, ks, bs, m, bd, by omega, by go_num, HAN, HBW, HAF, Lib.hid (by have := HCB.out; omega), Lib.hid (by have := HCK.out; have := HWS.out; omega), Lib.hid (fun h => absurd h (by omega)), HBL, hoK, hD, hSt, HFB⟩
              case measure => simp [intOf]; omega
        · obtain rfl : S = j := by omega
          obtain ⟨W9, hW9⟩ : ∃ v, v = wr := ⟨_, rfl⟩
          subst hW9
          have hgBl := HBW.out.lt.2
          have hbdl := HBW.out.len
          go_wp2
          go_loopw [19, 111] (fun s i wz => ∃ (k : Nat) (O : Option Addr) (oc : Nat) (ys : List Int), k ≤ S ∧ s = .slice O (cntT (bd.take k)) oc ∧ i = .int .i64 k ∧ OwnI wz W9.heap.size 3 O (cntT (bd.take k)) oc ys ∧ Below W9.heap.size W9 wz) (fun _ i _ => S - (intOf i).toNat)
          case atStart => exact ⟨0, none, 0, [], Nat.zero_le _, rfl, rfl, OwnI.nil_, Below.refl _ _⟩
          case round =>
            obtain ⟨k, O, oc, ys, hk, rfl, rfl, hO, hbz⟩ := hrel
            by_cases hlt : k < S
            · have hk0 : (0 : Int) ≤ (k : Int) := by omega
              have hkN : (k : Int) < (S : Int) := by omega
              have hcb := (hbz.cell (p := ⟨gB, k, none⟩) hgBl).trans (HBW.out.at_ hlt).1
              have HT := Lib.hid (cntT_take bd k (by omega))
              obtain ⟨nc, hnc⟩ : ∃ nc, cntT (bd.take k) = nc := ⟨_, rfl⟩
              have hncb : nc ≤ 10 := by
                have := cntT_le (bd.take k)
                rw [List.length_take] at this
                omega
              rw [hnc] at hO HT
              rw [hnc]
              clear hnc
              have hsz := hbz.size
              cases hb : bd.getD k false
              · rw [hb] at hcb HT
                clear hb
                go_wp2
                go_roundw
                case rel => exact ⟨k + 1, O, oc, ys, by omega, by rw [HT.out]; rfl, by go_num, by rw [HT.out]; exact hO, hbz⟩
                case measure => simp [intOf]; omega
              · rw [hb] at hcb HT
                clear hb
                have hOa := hO.alloc (.cells #[.int .i64 ((k : Int) + 1)] 3)
                have hR1 := Ints.oneAt wr ((k : Int) + 1) 3 wr.heap.size rfl
                have hba := hbz.alloc hbz.size (.cells #[.int .i64 ((k : Int) + 1)] 3)
                go_wp2_with (at_builtin
                             refine wpList_append_ints rfl _ _ 22 rfl W9.heap.size 3 i0 _ Tryz.underlying22 hi0 hz0 hz1 hz2 rfl O nc oc ys rfl hOa _ (some ⟨wr.heap.size, 0, none⟩) 1 1 [(k : Int) + 1] rfl hR1 (nc + 1) rfl _ rfl (by omega) hba.size ?_
                             intro O2 oc2 w12 hown12 _ hb12 _
                             have hbz12 := hba.trans hb12)
                go_roundw
                case rel => exact ⟨k + 1, O2, oc2, _, by omega, by rw [HT.out]; rfl, by go_num, by rw [HT.out]; exact hown12, hbz12⟩
                case measure => simp [intOf]; omega
            · obtain rfl : S = k := by omega
              rw [List.take_of_length_le (by omega)]
              go_wp2
              go_ret2
              exact ⟨some ⟨gL, 0, none⟩, lc, ks, bs, m, bd, O, oc, q2, rfl, (HAN.out.belowAll hbz).lower hb0.size, HAF.out, by have := HCB.out; omega, by have := HCK.out; omega, hD.belowAll hbz, hSt.trans (Step.of_below hbz)⟩
end Go.Proofs.YtmcgnpdfpfgfpaaGreatDoor

/-! TLiA -/
namespace Go.Proofs.YtmcgnpdfpfgfpaaGreatDoor
set_option linter.unusedVariables false

/-- What the servers answer. -/
def anL (p : Int) (n r d S wd : Nat) (ds : List Int) (rows : List (List Int)) (k : Nat) : List (List Int) := (List.range k).map fun s : Nat => combP p (cvQ p n r d ds ((s : Int) + 1)) rows wd
theorem anL_succ (p : Int) (n r d S wd : Nat) (ds : List Int) (rows : List (List Int)) (k : Nat) : anL p n r d S wd ds rows (k + 1) = anL p n r d S wd ds rows k ++ [combP p (cvQ p n r d ds ((k : Int) + 1)) rows wd] := by
  unfold anL
  rw [List.range_succ, List.map_append]; rfl
theorem anL_at (p : Int) (n r d S wd : Nat) (ds : List Int) (rows : List (List Int)) {k j : Nat} (hj : j < k) : (anL p n r d S wd ds rows k).getD j [] = combP p (cvQ p n r d ds ((j : Int) + 1)) rows wd := by
  unfold anL
  rw [List.getD_eq_getElem?_getD, List.getElem?_map, List.getElem?_range hj]; rfl
theorem anL_ok {p : Int} (hp : 2 ≤ p) {n r d S wd : Nat} {ds : List Int} {rows : List (List Int)} {k : Nat} (hr : ∀ x ∈ rows, x.length = wd) : ∀ a ∈ anL p n r d S wd ds rows k, allP p a = true ∧ a.length = wd := fun a ha => by
  obtain ⟨s, _, rfl⟩ := List.mem_map.1 ha
  exact ⟨combP_all hp _ _ _, combP_len p _ _ _ hr⟩

/-- How many answers of a column are wrong. -/
theorem an_wrong {p : Int} (hp : 2 ≤ p) {n r d S wd c : Nat} {ds : List Int} {rows m : List (List Int)} {ks bd : List Bool} (hds : ds.length = n * d) (hr : ∀ x ∈ rows, x.length = wd) (hc : c < wd) (hF : AnsF p S wd (anL p n r d S wd ds rows S) ks m bd) :
    (wrL p (trimL (cvP p n r d ds rows c)) (knL (colP m c) ks)).length ≤ cntT bd := by
  obtain ⟨h1, h2, h3⟩ := hF.len
  rw [wrL_trim p hp]
  refine wrL_cnt (by rw [colP_len]; omega) (by omega) fun j hj hb hk => ?_
  rw [colP_len] at hj
  rw [colP_at m c hj, hF.same j (by omega) hb hk, anL_at p n r d S wd ds rows (by omega : j < S), cv_answer hp hds hr hc]

/-- What is right about the polynomial of a column. -/
theorem an_poly {p : Int} (hp : 2 ≤ p) {n r d : Nat} {ds : List Int} (rows : List (List Int)) (c : Nat) (hds : ds.length = n * d) : allP p (trimL (cvP p n r d ds rows c)) = true ∧ Trimd (trimL (cvP p n r d ds rows c)) ∧ (trimL (cvP p n r d ds rows c)).length ≤ d + 1 := by
  refine ⟨trimL_allP (cvP_all hp n r d ds rows c), trimL_trimd _, ?_⟩
  have := trimL_le_ (cvP p n r d ds rows c)
  rw [cvP_len rows c hds] at this
  exact this

end Go.Proofs.YtmcgnpdfpfgfpaaGreatDoor
