/-
  What share's through, At, Join and Agree hand back for valid arguments. Conditions: the shares read as their points and values, all of them elements, the points apart.
-/
import Derived.Test.YtieejgkheijgeaaShare1
namespace Go.Proofs.Ytieejgkheijgeaa
open Go.RowKit
open Go.Maps
set_option linter.unusedVariables false

set_option maxRecDepth 100000 in
set_option maxHeartbeats 1600000 in
theorem through_ok (p : Int) (A M : Option Addr) (n c m d th : Nat) (us ys ms : List Int) (w : World) (hok : okP p = true) (h : Sh w w.heap.size A n us ys) (hM : Ints w w.heap.size M m ms) (hma : allP p ms = true) (ha : allP p us = true) (hy : allP p ys = true)
    (hn : n ≤ 60) (hm : m ≤ 60) (hc : n ≤ c) (hth : th + 1 ≤ n) (hth9 : th ≤ 9) (hd : Apart2 us) :
    Calls Try.prog 58 #[.agg #[.int .i64 p], .int .i64 th, .slice A n c, .slice M m d] w fun e w' =>
      (∃ R A' c', e = .returned (.tuple #[.int .i64 p, .slice A' R.length c', .int .i64 0]) ∧ OwnI w' w.heap.size 3 A' R.length c' R ∧ Through p (us.take (th + 1)) (ys.take (th + 1)) R) ∧ Below w.heap.size w w' := by
  have hp := okP_pos hok
  have HO := Lib.hid hok
  have HA := Lib.hid ha
  have HY := Lib.hid hy
  have HM := Lib.hid hma
  have HDI := Lib.hid hd
  have HLA := Lib.hid h.1
  have HLY := Lib.hid h.2.1
  have law : Keyed Try.prog 3 := int_keyed Try.underlying3
  have zeroE : ∀ w : World, (zeroValue 4).run Try.prog w = .ok (.bool false) w := fun w => by kernel_rfl
  have hmm := @run_makeMap Try.prog
  have HTH : Hid (decide ((0 : Int) ≤ (th : Int) ∧ (th : Int) ≤ 9) = true) := Lib.hid (decide_eq_true (by omega))
  have hbf0 : Below (w.alloc (.cells #[.int .i64 p] 28)).heap.size (w.alloc (.cells #[.int .i64 p] 28)) (w.alloc (.cells #[.int .i64 p] 28)) := Below.refl _ _
  have hF0 := Blk.new w 28 #[.int .i64 p]
  have hw0 : Below w.heap.size w (w.alloc (.cells #[.int .i64 p] 28)) := bbox _
  have hcap : n ≤ c := hc
  clear ha hy hok hd hma
  go_enter Try.func58, Try.ntmps58
  go_wp2_with (first
    | (go_at_call 53; refine (of_yes p _ HO.out).mono ?_; rintro e w1 ⟨rfl, hb1⟩
       have hbf1 := bnext hbf0 hb1
       clear hb1)
    | (go_at_call 81; (refine (all_any p M m d ms _ ((hM.upto hw0).upto hbf1) (by omega)).mono ?_); rintro e w2 ⟨rfl, hb2⟩; rw [HM.out]
       have hbf2 := bnext hbf1 hb2
       clear hb2))
  go_loopw [35] (fun i wz => ∃ k : Nat, k ≤ n ∧ i = .int .i64 k ∧ Below (w.alloc (.cells #[.int .i64 p] 28)).heap.size (w.alloc (.cells #[.int .i64 p] 28)) wz) (fun i _ => n - (intOf i).toNat)
  case atStart => exact ⟨0, Nat.zero_le _, rfl, hbf2⟩
  case round =>
    obtain ⟨k, hk, rfl, hbf⟩ := hrel
    have hbz := bnext hw0 hbf
    by_cases hlt : k < n
    · obtain ⟨b, off, rfl, hbl, hcell⟩ := h.2.2 (by omega)
      have hcA := (hbz.cell (p := ⟨b, off + k * 2, none⟩) hbl).trans (hcell k hlt).1
      have hcY := (hbz.cell (p := ⟨b, off + k * 2 + 1, none⟩) hbl).trans (hcell k hlt).2
      clear hcell
      have hxe := allP_getD HA.out (k := k) (by rw [HLA.out]; exact hlt)
      have hye := allP_getD HY.out (k := k) (by rw [HLY.out]; exact hlt)
      generalize us.getD k 0 = x at *
      generalize ys.getD k 0 = y at *
      have HI1 : Hid (inP p x = true) := Lib.hid (inP_iff.2 hxe)
      have HI2 : Hid (inP p y = true) := Lib.hid (inP_iff.2 hye)
      have hbf8 := ballocs hbf (.cells #[.int .i64 x, .int .i64 y] 40)
      have hN := Blk.new wr 40 #[.int .i64 x, .int .i64 y]
      have hn0 : (wr.alloc (.cells #[.int .i64 x, .int .i64 y] 40)).cell? ⟨wr.heap.size, 0, none⟩ = some (.int .i64 x) := (hN.cell 0).trans rfl
      have hn1 : (wr.alloc (.cells #[.int .i64 x, .int .i64 y] 40)).cell? ⟨wr.heap.size, 1, none⟩ = some (.int .i64 y) := (hN.cell 1).trans rfl
      go_wp2_with (first
        | (go_at_call 54; (with_reducible refine (has_any p x _).mono ?_); rintro e w' ⟨rfl, rfl⟩; rw [HI1.out])
        | (go_at_call 54; (with_reducible refine (has_any p y _).mono ?_); rintro e w' ⟨rfl, rfl⟩; rw [HI2.out]))
      go_roundw
      case rel => exact ⟨k + 1, by omega, by go_num, hbf8⟩
      case measure => simp [intOf]; omega
    · have hkn : k = n := by omega
      subst hkn
      obtain ⟨w5, hw5⟩ : ∃ w5, w5 = wr := ⟨_, rfl⟩
      subst hw5
      have hnth : ¬ ((k : Int) ≤ (th : Int)) := by omega
      have hnthN : ¬ k ≤ th := by omega
      have hkthN : th < k := by omega
      have hdkth : decide (k ≤ th) = false := by simpa using hkthN
      have hn512 : ¬ ((512 : Int) < (k : Int)) := by omega
      go_wp2_with (go_at_call 55; refine (threshold_any th _).mono ?_; rintro e w' ⟨rfl, rfl⟩; rw [HTH.out])
      have hbz0 := hbz
      have hSz := h.upto hbz
      have hbfz := hbf
      go_loopw [68] (fun i wx => ∃ (j : Nat) (D : DataW Unit), j ≤ k ∧ i = .int .i64 j ∧ Hid (wx.ownsMap Try.prog 3 (plainElem Try.prog 4) w5.heap.size j D) ∧ Hid (Unseen D (us.take j)) ∧ Below w5.heap.size w5 wx) (fun i _ => k - (intOf i).toNat)
      case atStart => exact ⟨0, .map [], Nat.zero_le _, rfl, Lib.hid (World.ownsMap_made _ _ _ _), Lib.hid Unseen.start, bbox _⟩
      case round =>
        obtain ⟨j, D, hj, rfl, HMp, HU, hbx⟩ := hrel
        by_cases hlt2 : j < k
        · obtain ⟨b, off, rfl, hbl, hcell⟩ := hSz.2.2 (by omega)
          have hcx := (hbx.cell (p := ⟨b, off + j * 2, none⟩) hbl).trans (hcell j hlt2).1
          have hcy := (hbx.cell (p := ⟨b, off + j * 2 + 1, none⟩) hbl).trans (hcell j hlt2).2
          clear hcell
          have hxe := allP_getD HA.out (k := j) (by rw [HLA.out]; exact hlt2)
          have HTS := Lib.hid (take_succ_getD us j (by rw [HLA.out]; exact hlt2))
          have hnot : us.getD j 0 ∉ us.take j := fun hm => by
            obtain ⟨i, hi, hil, e⟩ := take_mem hm
            exact HDI.out i j hi (by rw [HLA.out]; exact hlt2) e
          have HUN := Lib.hid (HU.out _ hnot)
          have HUS := Lib.hid (HU.out.step (us.getD j 0))
          clear hnot
          generalize us.getD j 0 = x at *
          generalize ys.getD j 0 = y at *
          have hwf : (Lit.int .i64 x).wf = true := by simp [Lit.wf, IntKind.min, IntKind.max, IntKind.signed, IntKind.bits]; omega
          have hbx8 := ballocs hbx (.cells #[.int .i64 x, .int .i64 y] 40)
          have hs1 := hbx8.size
          have HMA := Lib.hid (HMp.out.alloc (.cells #[.int .i64 x, .int .i64 y] 40))
          have hN := Blk.new wr 40 #[.int .i64 x, .int .i64 y]
          have hn0 : (wr.alloc (.cells #[.int .i64 x, .int .i64 y] 40)).cell? ⟨wr.heap.size, 0, none⟩ = some (.int .i64 x) := (hN.cell 0).trans rfl
          go_wp2_with (first
            | (at_lookup
               refine wpList_lookup_own_bool _ rfl _ _ 113 rfl 3 4 law Try.underlying113 Try.underlying4 (zeroE _) w5.heap.size j D rfl HMA.out _ _ rfl (keyOf_int_mk Try.underlying3 hwf) ?_
               intro c hat
               have hcf : c = false := by have := HUN.out.symm.trans hat; injection this with this; injection this with this; exact this.symm
               subst hcf)
            | (at_mapUpdate
               refine wpList_mapUpdate_own _ rfl _ _ _ 113 rfl 3 4 law Try.underlying113 _ w5.heap.size j D rfl HMA.out (by unfold maxLen; omega) _ _ _ rfl rfl (keyOf_int_mk Try.underlying3 hwf) _ [] (plainElem_bool Try.underlying4 true) ?_
               intro w2 hown2 hgr2
               have hbx2 := hbx8.grown hgr2 hs1 (fun g e => by cases e; exact Nat.le_refl _)))
          go_roundw
          case rel => exact ⟨j + 1, _, by omega, by go_num, Lib.hid hown2, Lib.hid (by rw [HTS.out]; exact HUS.out), hbx2⟩
          case measure => simp [intOf]; omega
        · obtain rfl : j = k := by omega
          have hth1 : (th : Int) + 1 = ((th + 1 : Nat) : Int) := by omega
          obtain ⟨t1, ht1⟩ : ∃ t1 : Nat, (th : Int) + 1 = t1 := ⟨th + 1, by omega⟩
          have HT1 : Hid (t1 = th + 1) := Lib.hid (by omega)
          have ht1w : IntKind.i64.wrap ((th : Int) + 1) = t1 := by rw [IntWalk.i64_in _ (by omega)]; exact ht1
          have ht1c : (t1 : Int) ≤ (c : Int) := by omega
          have ht10 : (0 : Int) ≤ (t1 : Int) := by omega
          have ht1n : (t1 : Int) ≤ (j : Int) := by omega
          have ht1v : IntKind.i64.wrap (t1 : Int) = t1 := IntWalk.i64_in _ (by omega)
          have hbzx := bnext hbz0 hbx
          have hF := hF0.below (bnext hbfz hbx) (by simp)
          have hcF : wr.drew.cell? ⟨w.heap.size, 0, none⟩ = some (.int .i64 p) := (hF.cell 0).trans rfl
          have hSx : Sh wr.drew wr.drew.heap.size A t1 (us.take t1) (ys.take t1) := (hSz.upto hbx).take_ t1 (by omega)
          have HTA := Lib.hid (take_allP HA.out t1)
          have HTY := Lib.hid (take_allP HY.out t1)
          have HTD : Hid (∀ a b, a < b → b < t1 → (us.take t1).getD a 0 ≠ (us.take t1).getD b 0) := Lib.hid fun a b h1 h2 => (HDI.out.take t1) a b h1 (by rw [List.length_take, HLA.out]; omega)
          clear hth1
          go_wp2_with fail
          go_region_held3 (fun w' => w'.cell? ⟨w.heap.size, 0, none⟩ = some (.int .i64 p)) (first | exact hcF | exact hcG)
            (first
              | (go_at_call 70; (refine (interp_ok p A t1 c (us.take t1) (ys.take t1) _ HO.out hSx HTA.out HTY.out (by omega) HTD.out).mono ?_); rintro e w8 ⟨⟨R, A8, c8, rfl, hown8, hT⟩, hb8⟩
                 have HRT := Lib.hid hT
                 have hG := (Blk.drew hF).below hb8 hF.lt
                 have hcG : w8.cell? ⟨w.heap.size, 0, none⟩ = some (.int .i64 p) := (hG.cell 0).trans rfl
                 have hbw8 := bnext hbzx.drew hb8
                 have hown88 := hown8.base hbzx.size
                 clear hT hown8))
          go_wp2
          go_ret3
          exact ⟨⟨R, A8, c8, rfl, hown88, by have := HRT.out; rwa [HT1.out] at this⟩, hbw8⟩

set_option maxRecDepth 100000 in
set_option maxHeartbeats 800000 in
/-- share's At. -/
theorem at_share_ok (p x : Int) (A : Option Addr) (n c th : Nat) (us ys : List Int) (w : World) (hok : okP p = true) (h : Sh w w.heap.size A n us ys) (hx : 0 ≤ x ∧ x < p) (ha : allP p us = true) (hy : allP p ys = true)
    (hn : n ≤ 60) (hc : n ≤ c) (hth : th + 1 ≤ n) (hth9 : th ≤ 9) (hd : Apart2 us) :
    Calls Try.prog 23 #[.agg #[.int .i64 p], .int .i64 th, .slice A n c, .int .i64 x] w fun e w' =>
      (∃ R, e = .returned (.tuple #[.int .i64 (valueP p x R), .int .i64 0]) ∧ Through p (us.take (th + 1)) (ys.take (th + 1)) R) ∧ Below w.heap.size w w' := by
  have hp := okP_pos hok
  have HO := Lib.hid hok
  have HX : Hid (allP p [x] = true) := Lib.hid (allP_iff.2 (by simpa using hx))
  have HA := Lib.hid ha
  have HY := Lib.hid hy
  have HD := Lib.hid hd
  clear ha hy hd hok
  have hb0 : Below w.heap.size w ((w.alloc (.cells #[.int .i64 p] 28)).alloc (.cells #[.int .i64 x] 3)) := ballocs (bbox _) _
  have hS0 := h.upto hb0
  go_enter Try.func23, Try.ntmps23
  go_wp2_with (first
    | (go_at_call 58; (refine (through_ok p A _ n c 1 1 th us ys [x] _ HO.out hS0 (by exact Ints.oneAt _ x _ _ (by simp)) HX.out HA.out HY.out hn (by omega) hc hth hth9 HD.out).mono ?_); rintro e w1 ⟨⟨R, A1, c1, rfl, hown1, hT⟩, hb1⟩
       have HT := Lib.hid hT
       have hRA := Lib.hid hT.al
       have hRL : R.length ≤ 10 := by have := hT.ln; rw [List.length_take] at this; omega
       have hbb1 := bnext hb0 hb1
       clear hT)
    | (go_at_call 59; refine (value_any p x A1 R.length c1 R _ hp hx hown1.ints hRA.out (by omega)).mono ?_; rintro e w2 ⟨rfl, hb2⟩
       have hbb2 := bnext hbb1 hb2))
  go_ret2
  exact ⟨⟨R, rfl, HT.out⟩, hbb2⟩

set_option maxRecDepth 100000 in
set_option maxHeartbeats 800000 in
/-- share's Join. -/
theorem join_share_ok (p : Int) (A : Option Addr) (n c th : Nat) (us ys : List Int) (w : World) (hok : okP p = true) (h : Sh w w.heap.size A n us ys) (ha : allP p us = true) (hy : allP p ys = true)
    (hn : n ≤ 60) (hc : n ≤ c) (hth : th + 1 ≤ n) (hth9 : th ≤ 9) (hd : Apart2 us) :
    Calls Try.prog 21 #[.agg #[.int .i64 p], .int .i64 th, .slice A n c] w fun e w' =>
      (∃ R, e = .returned (.tuple #[.int .i64 (valueP p 0 R), .int .i64 0]) ∧ Through p (us.take (th + 1)) (ys.take (th + 1)) R) ∧ Below w.heap.size w w' := by
  have hp := okP_pos hok
  have HO := Lib.hid hok
  have HA := Lib.hid ha
  have HY := Lib.hid hy
  have HD := Lib.hid hd
  clear ha hy hd hok
  have hb0 : Below w.heap.size w (w.alloc (.cells #[.int .i64 p] 28)) := bbox _
  have hS0 := h.upto hb0
  go_enter Try.func21, Try.ntmps21
  go_wp2_with (go_at_call 23; (refine (at_share_ok p 0 A n c th us ys _ HO.out hS0 (by omega) HA.out HY.out hn hc hth hth9 HD.out).mono ?_); rintro e w1 ⟨⟨R, rfl, hT⟩, hb1⟩
               have HT := Lib.hid hT
               clear hT)
  go_ret2
  exact ⟨⟨R, rfl, HT.out⟩, bnext hb0 hb1⟩
end Go.Proofs.Ytieejgkheijgeaa
