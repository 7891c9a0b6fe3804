/-
  Words for memory and contracts of small functions of the second form. Conditions: those of each lemma.
-/
import Derived.Test.YtoblofilaegnaaaItp
import Derived.Test.YtoblofilaegnaaaPlain
import Derived.Test.YtoblofilaegnaaaDeck
/-! Shares -/
namespace Go.Proofs.Ytoblofilaegnaaa
open Go.RowKit
set_option linter.unusedVariables false

/-- The cells of shares. -/
def shV : List Int → List Int → List Value
  | u :: us, y :: ys => .int .i64 u :: .int .i64 y :: shV us ys
  | _, _ => []
theorem shV_len : ∀ us ys : List Int, us.length = ys.length → (shV us ys).length = us.length * 2
  | [], [], _ => rfl
  | _ :: us, _ :: ys, h => by
    have := shV_len us ys (by simpa using h)
    simp only [shV, List.length_cons, this]; omega
theorem shV_snoc (u y : Int) : ∀ us ys : List Int, us.length = ys.length → shV (us ++ [u]) (ys ++ [y]) = shV us ys ++ [.int .i64 u, .int .i64 y]
  | [], [], _ => rfl
  | _ :: us, _ :: ys, h => by
    have := shV_snoc u y us ys (by simpa using h)
    simp only [List.cons_append, shV, this]
theorem shV_one : ∀ us ys : List Int, ∀ v ∈ shV us ys, v.oneCell' = true
  | u :: us, y :: ys, v, h => by
    simp only [shV, List.mem_cons] at h
    rcases h with rfl | rfl | h
    · rfl
    · rfl
    · exact shV_one us ys v h
  | [], _, v, h => by simp [shV] at h
  | _ :: _, [], v, h => by simp [shV] at h
theorem shV_at : ∀ us ys : List Int, us.length = ys.length → ∀ j, j < us.length → (shV us ys)[j * 2]? = some (.int .i64 (us.getD j 0)) ∧ (shV us ys)[j * 2 + 1]? = some (.int .i64 (ys.getD j 0))
  | [], [], _, j, hj => by simp at hj
  | u :: us, y :: ys, h, j, hj => by
    cases j with
    | zero => exact ⟨rfl, rfl⟩
    | succ j =>
      have := shV_at us ys (by simpa using h) j (by simpa using hj)
      simp only [shV, List.getD_cons_succ]
      rw [show (j + 1) * 2 = j * 2 + 1 + 1 by omega]
      exact this

theorem info_share : (Try.prog.info? 52).map (fun i => (i.zero, i.size, i.bytes)) = some (some (.agg #[.int .i64 0, .int .i64 0]), 2, 16) := by kernel_rfl

/-- A row of shares that the call itself made. -/
def OwnS (w : World) (base : Nat) (A : Option Addr) (n c : Nat) (us ys : List Int) : Prop := us.length = n ∧ ys.length = n ∧ w.ownsRow base 52 2 (.slice A n c) n (shV us ys)
theorem OwnS.nil_ {w : World} {base : Nat} : OwnS w base none 0 0 [] [] := ⟨rfl, rfl, World.ownsRow_nil _ _ _ _⟩
theorem OwnS.belowAll {w w' : World} {base n c : Nat} {A : Option Addr} {us ys : List Int} (h : OwnS w base A n c us ys) (hb : Below w.heap.size w w') : OwnS w' base A n c us ys := by
  refine ⟨h.1, h.2.1, h.2.2.1, ?_⟩
  rcases h.2.2.2 with h0 | ⟨g, cap, cur, hv, hg, hh, r⟩
  · exact .inl h0
  · refine .inr ⟨g, cap, cur, hv, hg, ?_, r⟩
    rw [hb.block g (World.ownsRow.lt h.2.2 g (by rw [hv]; rfl)).2]; exact hh
theorem OwnS.sh {w : World} {base n c : Nat} {A : Option Addr} {us ys : List Int} (h : OwnS w base A n c us ys) : Sh w w.heap.size A n us ys := by
  refine ⟨h.1, h.2.1, fun hn => ?_⟩
  obtain ⟨g, cap, hv, h1, h2⟩ := World.ownsRow.form h.2.2 hn
  injection hv with hA
  subst hA
  refine ⟨g, 0, rfl, h2, fun j hj => ?_⟩
  have hs := shV_at us ys (by rw [h.1, h.2.1]) j (by rw [h.1]; exact hj)
  have c1 := World.ownsRow.cellAt h.2.2 (j * 2) (by omega)
  have c2 := World.ownsRow.cellAt h.2.2 (j * 2 + 1) (by omega)
  rw [Nat.zero_add]
  exact ⟨c1.trans hs.1, c2.trans hs.2⟩

/-- One more share. -/
theorem wpList_append_share {w : World} {ops : Array Oper} {rest : List Oper} {o : Oper} {a : Act} {Q : Exit → Act → World → Prop} (hgd : o.guard = none) (s x : Operand) (t : TypeId)
    (ho : o.op = .call { callee := .builtin .append, args := #[s, x], argTypes := #[t, t] })
    (ht : Try.prog.underlying t = some (.slice 52)) (base : Nat) (A : Option Addr) (n c : Nat) (us ys : List Int) (hs : a.eval s = .slice A n c) (hown : OwnS w base A n c us ys)
    (b : Nat) (c2 : Nat) (u y : Int) (hx : a.eval x = .slice (some ⟨b, 0, none⟩) 1 c2) (h0 : w.cell? ⟨b, 0, none⟩ = some (.int .i64 u)) (h1 : w.cell? ⟨b, 1, none⟩ = some (.int .i64 y)) (hn : n ≤ 1000000) (hbase : base ≤ w.heap.size)
    (h : ∀ A' c' w', OwnS w' base A' (n + 1) c' (us ++ [u]) (ys ++ [y]) → Below base w w' → wpList Try.prog ops Q rest (a.put o.dst (.slice A' (n + 1) c')) w') : wpList Try.prog ops Q (o :: rest) a w := by
  obtain ⟨i, hi, hz, hsize, hby⟩ := info_parts info_share
  have hl : us.length = ys.length := by rw [hown.1, hown.2.1]
  refine wpList_append_any w hgd s x t ho base 52 i _ 2 16 ht hi hz hsize hby rfl (by omega) (.slice A n c) n (shV us ys) hs hown.2.2 (b + 1) (some ⟨b, 0, none⟩) 1 c2 [.int .i64 u, .int .i64 y] hx
    ⟨rfl, fun _ => ⟨_, rfl, Nat.lt_succ_self b, fun j v hj => ?_⟩⟩ (fun v hv => by
      simp only [List.mem_cons, List.not_mem_nil, or_false] at hv
      rcases hv with rfl | rfl <;> rfl) (by unfold maxLen; omega) (by omega) hbase ?_
  · match j, hj with
    | 0, hj =>
      simp at hj; subst hj; exact h0
    | 1, hj =>
      simp at hj; subst hj; exact h1
    | j + 2, hj => simp at hj
  · intro v' w' hown' hg hat
    rw [← shV_snoc u y us ys hl] at hown'
    have hb : Below base w w' := (Below.refl base w).grown hg hbase (fun k hk => (World.ownsRow.lt hown.2.2 k hk).1)
    rcases hown'.2 with ⟨hv, hn0⟩ | ⟨g, cap, cur, hv, _⟩
    · omega
    · rw [hv] at hown' ⊢
      exact h _ cap w' ⟨by simp [hown.1], by simp [hown.2.1], hown'⟩ hb
end Go.Proofs.Ytoblofilaegnaaa

/-! Share1 -/
namespace Go.Proofs.Ytoblofilaegnaaa
open Go.RowKit
open Go.Maps
set_option linter.unusedVariables false

theorem Sh.below {w w' : World} {B : Nat} {A : Option Addr} {n : Nat} {us ys : List Int} (h : Sh w B A n us ys) (hb : Below B w w') : Sh w' B A n us ys :=
  ⟨h.1, h.2.1, fun hn => by
    obtain ⟨b, off, e, hl, hc⟩ := h.2.2 hn
    exact ⟨b, off, e, hl, fun j hj => ⟨(hb.cell (p := ⟨b, off + j * 2, none⟩) hl).trans (hc j hj).1, (hb.cell (p := ⟨b, off + j * 2 + 1, none⟩) hl).trans (hc j hj).2⟩⟩⟩
theorem Sh.more {w : World} {B B' : Nat} {A : Option Addr} {n : Nat} {us ys : List Int} (h : Sh w B A n us ys) (hB : B ≤ B') : Sh w B' A n us ys :=
  ⟨h.1, h.2.1, fun hn => by
    obtain ⟨b, off, e, hl, hc⟩ := h.2.2 hn
    exact ⟨b, off, e, by omega, hc⟩⟩
theorem Sh.upto {w0 w' : World} {A : Option Addr} {n : Nat} {us ys : List Int} (h : Sh w0 w0.heap.size A n us ys) (hb : Below w0.heap.size w0 w') : Sh w' w'.heap.size A n us ys := (h.below hb).more hb.size
theorem Sh.take_ {w : World} {B : Nat} {A : Option Addr} {n : Nat} {us ys : List Int} (h : Sh w B A n us ys) (k : Nat) (hk : k ≤ n) : Sh w B A k (us.take k) (ys.take k) :=
  ⟨by rw [List.length_take, h.1]; omega, by rw [List.length_take, h.2.1]; omega, fun hk0 => by
    obtain ⟨b, off, e, hl, hc⟩ := h.2.2 (by omega)
    exact ⟨b, off, e, hl, fun j hj => by rw [take_getD us hj, take_getD ys hj]; exact hc j (by omega)⟩⟩

set_option maxRecDepth 100000 in
theorem shares_any (p : Int) (C M : Option Addr) (n c m d : Nat) (cs us : List Int) (w : World) (hp : 2 ≤ p ∧ p ≤ 65521) (hC : Ints w w.heap.size C n cs) (hM : Ints w w.heap.size M m us) (hca : allP p cs = true) (hua : allP p us = true) (hn : n ≤ 1000) (hm : m ≤ 1000) :
    Calls Try.prog 141 #[.int .i64 p, .slice C n c, .slice M m d] w fun e w' => (∃ A' c', e = .returned (.slice A' m c') ∧ OwnS w' w.heap.size A' m c' us (valsP p cs us)) ∧ Below w.heap.size w w' := by
  have HC := Lib.hid hca
  have HU := Lib.hid hua
  have HL := Lib.hid hM.len
  clear hca hua
  go_enter Try.func141, Try.ntmps141
  go_wp2
  go_loopw [7, 12] (fun v7 v12 wz => ∃ (k : Nat) (L : Option Addr) (lc : Nat), k ≤ m ∧ v7 = .slice L k lc ∧ v12 = .int .i64 k ∧ OwnS wz w.heap.size L k lc (us.take k) (valsP p cs (us.take k)) ∧ Below w.heap.size w wz) (fun _ v12 _ => m - (intOf v12).toNat)
  case atStart => exact ⟨0, none, 0, Nat.zero_le _, rfl, rfl, OwnS.nil_, Below.refl _ _⟩
  case round =>
    obtain ⟨k, L, lc, hk, rfl, rfl, hS, hb⟩ := hrel
    by_cases hlt : k < m
    · obtain ⟨b1, o1, rfl, hb1, hc1⟩ := hM.2 (by omega)
      have hcx := (hb.cell (p := ⟨b1, o1 + k, none⟩) hb1).trans (hc1 k hlt)
      clear hc1
      have hxe := allP_getD HU.out (k := k) (by rw [HL.out]; exact hlt)
      have HT := Lib.hid (take_succ_getD us k (by rw [HL.out]; exact hlt))
      generalize us.getD k 0 = x at *
      obtain ⟨v, HV⟩ : ∃ v, Hid (valueP p x cs = v) := ⟨_, Lib.hid rfl⟩
      have HTV : Hid (valsP p cs (us.take (k + 1)) = valsP p cs (us.take k) ++ [v]) := Lib.hid (by rw [HT.out, valsP_snoc, HV.out])
      go_wp2_with (first
        | (go_at_call 138; refine (value_any p x C n c cs _ hp hxe (hC.upto hb) HC.out (by omega)).mono ?_; rintro e w8 ⟨rfl, hb8⟩
           rw [HV.out]
           have hbz8 := bnext hb hb8
           have hS9 := (hS.belowAll hb8).belowAll (bbox (.cells #[.int .i64 x, .int .i64 v] 52))
           have hN9 := Blk.new w8 52 #[.int .i64 x, .int .i64 v]
           have hbz9 := ballocs hbz8 (.cells #[.int .i64 x, .int .i64 v] 52))
        | (at_builtin
           refine wpList_append_share rfl _ _ 50 rfl Try.underlying50 w.heap.size L k lc (us.take k) _ rfl hS9 w8.heap.size 1 x v rfl ((hN9.cell 0).trans rfl) ((hN9.cell 1).trans rfl) (by omega) hbz9.size ?_
           intro L2 lc2 w10 hS10 hb10
           have hbz10 := hbz9.trans hb10))
      go_roundw
      case rel => exact ⟨k + 1, L2, lc2, by omega, rfl, by go_num, by rw [HTV.out, HT.out]; exact hS10, hbz10⟩
      case measure => simp [intOf]; omega
    · obtain rfl : k = m := by omega
      rw [List.take_of_length_le (by rw [HL.out]; omega)] at hS
      go_wp2
      go_ret
      exact ⟨⟨L, lc, rfl, hS⟩, hb⟩

theorem threshold_any (n : Int) (w : World) : Calls Try.prog 140 #[.int .i64 n] w fun e w' => e = .returned (.bool (decide (0 ≤ n ∧ n ≤ 9))) ∧ w = w' := by
  go_enter Try.func140, Try.ntmps140
  go_wp2
  all_goals go_ret
  all_goals exact ⟨ret_bool (by rw [Bool.eq_iff_iff]; simp; try omega), rfl⟩
end Go.Proofs.Ytoblofilaegnaaa

/-! Share2 -/
namespace Go.Proofs.Ytoblofilaegnaaa
open Go.RowKit
open Go.Maps
set_option linter.unusedVariables false

set_option maxRecDepth 100000 in
set_option maxHeartbeats 1600000 in
theorem through_ok (p : Int) (A M : Option Addr) (n c m d th : Nat) (us ys ms : List Int) (w : World) (hok : okP p = true) (h : Sh w w.heap.size A n us ys) (hM : Ints w w.heap.size M m ms) (hma : allP p ms = true) (ha : allP p us = true) (hy : allP p ys = true)
    (hn : n ≤ 60) (hm : m ≤ 60) (hc : n ≤ c) (hth : th + 1 ≤ n) (hth9 : th ≤ 9) (hd : Apart2 us) :
    Calls Try.prog 142 #[.agg #[.int .i64 p], .int .i64 th, .slice A n c, .slice M m d] w fun e w' =>
      (∃ R A' c', e = .returned (.tuple #[.int .i64 p, .slice A' R.length c', .int .i64 0]) ∧ OwnI w' w.heap.size 3 A' R.length c' R ∧ Through p (us.take (th + 1)) (ys.take (th + 1)) R) ∧ Below w.heap.size w w' := by
  have hp := okP_pos hok
  have HO := Lib.hid hok
  have HA := Lib.hid ha
  have HY := Lib.hid hy
  have HM := Lib.hid hma
  have HDI := Lib.hid hd
  have HLA := Lib.hid h.1
  have HLY := Lib.hid h.2.1
  have law : Keyed Try.prog 3 := int_keyed Try.underlying3
  have zeroE : ∀ w : World, (zeroValue 4).run Try.prog w = .ok (.bool false) w := fun w => by kernel_rfl
  have hmm := @run_makeMap Try.prog
  have HTH : Hid (decide ((0 : Int) ≤ (th : Int) ∧ (th : Int) ≤ 9) = true) := Lib.hid (decide_eq_true (by omega))
  have hbf0 : Below (w.alloc (.cells #[.int .i64 p] 24)).heap.size (w.alloc (.cells #[.int .i64 p] 24)) (w.alloc (.cells #[.int .i64 p] 24)) := Below.refl _ _
  have hF0 := Blk.new w 24 #[.int .i64 p]
  have hw0 : Below w.heap.size w (w.alloc (.cells #[.int .i64 p] 24)) := bbox _
  have hcap : n ≤ c := hc
  clear ha hy hok hd hma
  go_enter Try.func142, Try.ntmps142
  go_wp2_with (first
    | (go_at_call 118; refine (of_yes p _ HO.out).mono ?_; rintro e w1 ⟨rfl, hb1⟩
       have hbf1 := bnext hbf0 hb1
       clear hb1)
    | (go_at_call 119; (refine (all_any p M m d ms _ ((hM.upto hw0).upto hbf1) (by omega)).mono ?_); rintro e w2 ⟨rfl, hb2⟩; rw [HM.out]
       have hbf2 := bnext hbf1 hb2
       clear hb2))
  go_loopw [35] (fun i wz => ∃ k : Nat, k ≤ n ∧ i = .int .i64 k ∧ Below (w.alloc (.cells #[.int .i64 p] 24)).heap.size (w.alloc (.cells #[.int .i64 p] 24)) wz) (fun i _ => n - (intOf i).toNat)
  case atStart => exact ⟨0, Nat.zero_le _, rfl, hbf2⟩
  case round =>
    obtain ⟨k, hk, rfl, hbf⟩ := hrel
    have hbz := bnext hw0 hbf
    by_cases hlt : k < n
    · obtain ⟨b, off, rfl, hbl, hcell⟩ := h.2.2 (by omega)
      have hcA := (hbz.cell (p := ⟨b, off + k * 2, none⟩) hbl).trans (hcell k hlt).1
      have hcY := (hbz.cell (p := ⟨b, off + k * 2 + 1, none⟩) hbl).trans (hcell k hlt).2
      clear hcell
      have hxe := allP_getD HA.out (k := k) (by rw [HLA.out]; exact hlt)
      have hye := allP_getD HY.out (k := k) (by rw [HLY.out]; exact hlt)
      generalize us.getD k 0 = x at *
      generalize ys.getD k 0 = y at *
      have HI1 : Hid (inP p x = true) := Lib.hid (inP_iff.2 hxe)
      have HI2 : Hid (inP p y = true) := Lib.hid (inP_iff.2 hye)
      have hbf8 := ballocs hbf (.cells #[.int .i64 x, .int .i64 y] 52)
      have hN := Blk.new wr 52 #[.int .i64 x, .int .i64 y]
      have hn0 : (wr.alloc (.cells #[.int .i64 x, .int .i64 y] 52)).cell? ⟨wr.heap.size, 0, none⟩ = some (.int .i64 x) := (hN.cell 0).trans rfl
      have hn1 : (wr.alloc (.cells #[.int .i64 x, .int .i64 y] 52)).cell? ⟨wr.heap.size, 1, none⟩ = some (.int .i64 y) := (hN.cell 1).trans rfl
      go_wp2_with (first
        | (go_at_call 123; (with_reducible refine (has_any p x _).mono ?_); rintro e w' ⟨rfl, rfl⟩; rw [HI1.out])
        | (go_at_call 123; (with_reducible refine (has_any p y _).mono ?_); rintro e w' ⟨rfl, rfl⟩; rw [HI2.out]))
      go_roundw
      case rel => exact ⟨k + 1, by omega, by go_num, hbf8⟩
      case measure => simp [intOf]; omega
    · have hkn : k = n := by omega
      subst hkn
      obtain ⟨w5, hw5⟩ : ∃ w5, w5 = wr := ⟨_, rfl⟩
      subst hw5
      have hnth : ¬ ((k : Int) ≤ (th : Int)) := by omega
      have hnthN : ¬ k ≤ th := by omega
      have hkthN : th < k := by omega
      have hdkth : decide (k ≤ th) = false := by simpa using hkthN
      have hn512 : ¬ ((512 : Int) < (k : Int)) := by omega
      go_wp2_with (go_at_call 140; refine (threshold_any th _).mono ?_; rintro e w' ⟨rfl, rfl⟩; rw [HTH.out])
      have hbz0 := hbz
      have hSz := h.upto hbz
      have hbfz := hbf
      go_loopw [68] (fun i wx => ∃ (j : Nat) (D : DataW Unit), j ≤ k ∧ i = .int .i64 j ∧ Hid (wx.ownsMap Try.prog 3 (plainElem Try.prog 4) w5.heap.size j D) ∧ Hid (Unseen D (us.take j)) ∧ Below w5.heap.size w5 wx) (fun i _ => k - (intOf i).toNat)
      case atStart => exact ⟨0, .map [], Nat.zero_le _, rfl, Lib.hid (World.ownsMap_made _ _ _ _), Lib.hid Unseen.start, bbox _⟩
      case round =>
        obtain ⟨j, D, hj, rfl, HMp, HU, hbx⟩ := hrel
        by_cases hlt2 : j < k
        · obtain ⟨b, off, rfl, hbl, hcell⟩ := hSz.2.2 (by omega)
          have hcx := (hbx.cell (p := ⟨b, off + j * 2, none⟩) hbl).trans (hcell j hlt2).1
          have hcy := (hbx.cell (p := ⟨b, off + j * 2 + 1, none⟩) hbl).trans (hcell j hlt2).2
          clear hcell
          have hxe := allP_getD HA.out (k := j) (by rw [HLA.out]; exact hlt2)
          have HTS := Lib.hid (take_succ_getD us j (by rw [HLA.out]; exact hlt2))
          have hnot : us.getD j 0 ∉ us.take j := fun hm => by
            obtain ⟨i, hi, hil, e⟩ := take_mem hm
            exact HDI.out i j hi (by rw [HLA.out]; exact hlt2) e
          have HUN := Lib.hid (HU.out _ hnot)
          have HUS := Lib.hid (HU.out.step (us.getD j 0))
          clear hnot
          generalize us.getD j 0 = x at *
          generalize ys.getD j 0 = y at *
          have hwf : (Lit.int .i64 x).wf = true := by simp [Lit.wf, IntKind.min, IntKind.max, IntKind.signed, IntKind.bits]; omega
          have hbx8 := ballocs hbx (.cells #[.int .i64 x, .int .i64 y] 52)
          have hs1 := hbx8.size
          have HMA := Lib.hid (HMp.out.alloc (.cells #[.int .i64 x, .int .i64 y] 52))
          have hN := Blk.new wr 52 #[.int .i64 x, .int .i64 y]
          have hn0 : (wr.alloc (.cells #[.int .i64 x, .int .i64 y] 52)).cell? ⟨wr.heap.size, 0, none⟩ = some (.int .i64 x) := (hN.cell 0).trans rfl
          go_wp2_with (first
            | (at_lookup
               refine wpList_lookup_own_bool _ rfl _ _ 143 rfl 3 4 law Try.underlying143 Try.underlying4 (zeroE _) w5.heap.size j D rfl HMA.out _ _ rfl (keyOf_int_mk Try.underlying3 hwf) ?_
               intro c hat
               have hcf : c = false := by have := HUN.out.symm.trans hat; injection this with this; injection this with this; exact this.symm
               subst hcf)
            | (at_mapUpdate
               refine wpList_mapUpdate_own _ rfl _ _ _ 143 rfl 3 4 law Try.underlying143 _ w5.heap.size j D rfl HMA.out (by unfold maxLen; omega) _ _ _ rfl rfl (keyOf_int_mk Try.underlying3 hwf) _ [] (plainElem_bool Try.underlying4 true) ?_
               intro w2 hown2 hgr2
               have hbx2 := hbx8.grown hgr2 hs1 (fun g e => by cases e; exact Nat.le_refl _)))
          go_roundw
          case rel => exact ⟨j + 1, _, by omega, by go_num, Lib.hid hown2, Lib.hid (by rw [HTS.out]; exact HUS.out), hbx2⟩
          case measure => simp [intOf]; omega
        · obtain rfl : j = k := by omega
          have hth1 : (th : Int) + 1 = ((th + 1 : Nat) : Int) := by omega
          obtain ⟨t1, ht1⟩ : ∃ t1 : Nat, (th : Int) + 1 = t1 := ⟨th + 1, by omega⟩
          have HT1 : Hid (t1 = th + 1) := Lib.hid (by omega)
          have ht1w : IntKind.i64.wrap ((th : Int) + 1) = t1 := by rw [IntWalk.i64_in _ (by omega)]; exact ht1
          have ht1c : (t1 : Int) ≤ (c : Int) := by omega
          have ht10 : (0 : Int) ≤ (t1 : Int) := by omega
          have ht1n : (t1 : Int) ≤ (j : Int) := by omega
          have ht1v : IntKind.i64.wrap (t1 : Int) = t1 := IntWalk.i64_in _ (by omega)
          have hbzx := bnext hbz0 hbx
          have hF := hF0.below (bnext hbfz hbx) (by simp)
          have hcF : wr.drew.cell? ⟨w.heap.size, 0, none⟩ = some (.int .i64 p) := (hF.cell 0).trans rfl
          have hSx : Sh wr.drew wr.drew.heap.size A t1 (us.take t1) (ys.take t1) := (hSz.upto hbx).take_ t1 (by omega)
          have HTA := Lib.hid (take_allP HA.out t1)
          have HTY := Lib.hid (take_allP HY.out t1)
          have HTD : Hid (∀ a b, a < b → b < t1 → (us.take t1).getD a 0 ≠ (us.take t1).getD b 0) := Lib.hid fun a b h1 h2 => (HDI.out.take t1) a b h1 (by rw [List.length_take, HLA.out]; omega)
          clear hth1
          go_wp2_with fail
          go_region_held3 (fun w' => w'.cell? ⟨w.heap.size, 0, none⟩ = some (.int .i64 p)) (first | exact hcF | exact hcG)
            (first
              | (go_at_call 48; (refine (interp_ok p A t1 c (us.take t1) (ys.take t1) _ HO.out hSx HTA.out HTY.out (by omega) HTD.out).mono ?_); rintro e w8 ⟨⟨R, A8, c8, rfl, hown8, hT⟩, hb8⟩
                 have HRT := Lib.hid hT
                 have hG := (Blk.drew hF).below hb8 hF.lt
                 have hcG : w8.cell? ⟨w.heap.size, 0, none⟩ = some (.int .i64 p) := (hG.cell 0).trans rfl
                 have hbw8 := bnext hbzx.drew hb8
                 have hown88 := hown8.base hbzx.size
                 clear hT hown8))
          go_wp2
          go_ret3
          exact ⟨⟨R, A8, c8, rfl, hown88, by have := HRT.out; rwa [HT1.out] at this⟩, hbw8⟩

set_option maxRecDepth 100000 in
set_option maxHeartbeats 800000 in
/-- share's At. -/
theorem at_share_ok (p x : Int) (A : Option Addr) (n c th : Nat) (us ys : List Int) (w : World) (hok : okP p = true) (h : Sh w w.heap.size A n us ys) (hx : 0 ≤ x ∧ x < p) (ha : allP p us = true) (hy : allP p ys = true)
    (hn : n ≤ 60) (hc : n ≤ c) (hth : th + 1 ≤ n) (hth9 : th ≤ 9) (hd : Apart2 us) :
    Calls Try.prog 63 #[.agg #[.int .i64 p], .int .i64 th, .slice A n c, .int .i64 x] w fun e w' =>
      (∃ R, e = .returned (.tuple #[.int .i64 (valueP p x R), .int .i64 0]) ∧ Through p (us.take (th + 1)) (ys.take (th + 1)) R) ∧ Below w.heap.size w w' := by
  have hp := okP_pos hok
  have HO := Lib.hid hok
  have HX : Hid (allP p [x] = true) := Lib.hid (allP_iff.2 (by simpa using hx))
  have HA := Lib.hid ha
  have HY := Lib.hid hy
  have HD := Lib.hid hd
  clear ha hy hd hok
  have hb0 : Below w.heap.size w ((w.alloc (.cells #[.int .i64 p] 24)).alloc (.cells #[.int .i64 x] 3)) := ballocs (bbox _) _
  have hS0 := h.upto hb0
  go_enter Try.func63, Try.ntmps63
  go_wp2_with (first
    | (go_at_call 142; (refine (through_ok p A _ n c 1 1 th us ys [x] _ HO.out hS0 (by exact Ints.oneAt _ x _ _ (by simp)) HX.out HA.out HY.out hn (by omega) hc hth hth9 HD.out).mono ?_); rintro e w1 ⟨⟨R, A1, c1, rfl, hown1, hT⟩, hb1⟩
       have HT := Lib.hid hT
       have hRA := Lib.hid hT.al
       have hRL : R.length ≤ 10 := by have := hT.ln; rw [List.length_take] at this; omega
       have hbb1 := bnext hb0 hb1
       clear hT)
    | (go_at_call 138; refine (value_any p x A1 R.length c1 R _ hp hx hown1.ints hRA.out (by omega)).mono ?_; rintro e w2 ⟨rfl, hb2⟩
       have hbb2 := bnext hbb1 hb2))
  go_ret2
  exact ⟨⟨R, rfl, HT.out⟩, hbb2⟩

set_option maxRecDepth 100000 in
set_option maxHeartbeats 800000 in
/-- share's Join. -/
theorem join_share_ok (p : Int) (A : Option Addr) (n c th : Nat) (us ys : List Int) (w : World) (hok : okP p = true) (h : Sh w w.heap.size A n us ys) (ha : allP p us = true) (hy : allP p ys = true)
    (hn : n ≤ 60) (hc : n ≤ c) (hth : th + 1 ≤ n) (hth9 : th ≤ 9) (hd : Apart2 us) :
    Calls Try.prog 59 #[.agg #[.int .i64 p], .int .i64 th, .slice A n c] w fun e w' =>
      (∃ R, e = .returned (.tuple #[.int .i64 (valueP p 0 R), .int .i64 0]) ∧ Through p (us.take (th + 1)) (ys.take (th + 1)) R) ∧ Below w.heap.size w w' := by
  have hp := okP_pos hok
  have HO := Lib.hid hok
  have HA := Lib.hid ha
  have HY := Lib.hid hy
  have HD := Lib.hid hd
  clear ha hy hd hok
  have hb0 : Below w.heap.size w (w.alloc (.cells #[.int .i64 p] 24)) := bbox _
  have hS0 := h.upto hb0
  go_enter Try.func59, Try.ntmps59
  go_wp2_with (go_at_call 63; (refine (at_share_ok p 0 A n c th us ys _ HO.out hS0 (by omega) HA.out HY.out hn hc hth hth9 HD.out).mono ?_); rintro e w1 ⟨⟨R, rfl, hT⟩, hb1⟩
               have HT := Lib.hid hT
               clear hT)
  go_ret2
  exact ⟨⟨R, rfl, HT.out⟩, bnext hb0 hb1⟩
end Go.Proofs.Ytoblofilaegnaaa

/-! Share3 -/
namespace Go.Proofs.Ytoblofilaegnaaa
open Go.RowKit
open Go.Maps
set_option linter.unusedVariables false

set_option maxRecDepth 100000 in
set_option maxHeartbeats 1600000 in
theorem agree_share_ok (p : Int) (A : Option Addr) (n c th : Nat) (us ys : List Int) (w : World) (hok : okP p = true) (h : Sh w w.heap.size A n us ys) (ha : allP p us = true) (hy : allP p ys = true)
    (hn : n ≤ 60) (hc : n ≤ c) (hth : th + 1 ≤ n) (hth9 : th ≤ 9) (hd : Apart2 us) :
    Calls Try.prog 61 #[.agg #[.int .i64 p], .int .i64 th, .slice A n c] w fun e w' =>
      (∃ R, e = .returned (.tuple #[.bool (agreeB p us ys R), .int .i64 0]) ∧ Through p (us.take (th + 1)) (ys.take (th + 1)) R) ∧ Below w.heap.size w w' := by
  have hp := okP_pos hok
  have HO := Lib.hid hok
  have HA := Lib.hid ha
  have HY := Lib.hid hy
  have HD := Lib.hid hd
  have HLA := Lib.hid h.1
  have HLY := Lib.hid h.2.1
  clear ha hy hd hok
  have hb0 : Below w.heap.size w (w.alloc (.cells #[.int .i64 p] 24)) := bbox _
  have hS0 := h.upto hb0
  go_enter Try.func61, Try.ntmps61
  go_wp2_with (go_at_call 142; (refine (through_ok p A none n c 0 0 th us ys [] _ HO.out hS0 Ints.nil_ rfl HA.out HY.out hn (by omega) hc hth hth9 HD.out).mono ?_); rintro e w1 ⟨⟨R, A1, c1, rfl, hown1, hT⟩, hb1⟩
               have HT := Lib.hid hT
               have hRA := Lib.hid hT.al
               have hRL : R.length ≤ 10 := by have := hT.ln; rw [List.length_take] at this; omega
               have hbb1 := bnext hb0 hb1
               have hI1 := hown1.ints
               have hS1 := h.upto hbb1
               clear hT)
  go_loopw [26] (fun i wz => ∃ k : Nat, k ≤ n ∧ i = .int .i64 k ∧ Hid (∀ i, i < k → valueP p (us.getD i 0) R = ys.getD i 0) ∧ Below w1.heap.size w1 wz) (fun i _ => n - (intOf i).toNat)
  case atStart => exact ⟨0, Nat.zero_le _, rfl, Lib.hid (fun i hi => absurd hi (by omega)), Below.refl _ _⟩
  case round =>
    obtain ⟨k, hk, rfl, HV, hbz⟩ := hrel
    by_cases hlt : k < n
    · obtain ⟨b, off, rfl, hbl, hcell⟩ := hS1.2.2 (by omega)
      have hcA := (hbz.cell (p := ⟨b, off + k * 2, none⟩) hbl).trans (hcell k hlt).1
      have hcY := (hbz.cell (p := ⟨b, off + k * 2 + 1, none⟩) hbl).trans (hcell k hlt).2
      clear hcell
      have hxe := allP_getD HA.out (k := k) (by rw [HLA.out]; exact hlt)
      obtain ⟨x, HX⟩ : ∃ x, Hid (us.getD k 0 = x) := ⟨_, Lib.hid rfl⟩
      obtain ⟨y, HYk⟩ : ∃ y, Hid (ys.getD k 0 = y) := ⟨_, Lib.hid rfl⟩
      rw [HX.out] at hcA hxe
      rw [HYk.out] at hcY
      obtain ⟨v, HVV⟩ : ∃ v, Hid (valueP p x R = v) := ⟨_, Lib.hid rfl⟩
      have hN := Blk.new wr 52 #[.int .i64 x, .int .i64 y]
      have hsc : (wr.alloc (.cells #[.int .i64 x, .int .i64 y] 52)).drew.cell? ⟨wr.heap.size, 0, none⟩ = some (.int .i64 x) ∧ (wr.alloc (.cells #[.int .i64 x, .int .i64 y] 52)).drew.cell? ⟨wr.heap.size, 1, none⟩ = some (.int .i64 y) := ⟨(hN.cell 0).trans rfl, (hN.cell 1).trans rfl⟩
      have hbzA := (ballocs hbz (.cells #[.int .i64 x, .int .i64 y] 52)).drew
      have hIA : Ints (wr.alloc (.cells #[.int .i64 x, .int .i64 y] 52)).drew (wr.alloc (.cells #[.int .i64 x, .int .i64 y] 52)).drew.heap.size A1 R.length R := hI1.upto hbzA
      go_wp2_with fail
      go_region_held3 (fun w' => w'.cell? ⟨wr.heap.size, 0, none⟩ = some (.int .i64 x) ∧ w'.cell? ⟨wr.heap.size, 1, none⟩ = some (.int .i64 y)) (first | exact hsc | exact hsd)
        (first
          | (go_at_call 138; (refine (value_any p x A1 R.length c1 R _ hp hxe hIA hRA.out (by omega)).mono ?_); rintro e w2 ⟨rfl, hb2⟩
             rw [HVV.out]
             have hM := (Blk.drew hN).below hb2 hN.lt
             have hsd : w2.cell? ⟨wr.heap.size, 0, none⟩ = some (.int .i64 x) ∧ w2.cell? ⟨wr.heap.size, 1, none⟩ = some (.int .i64 y) := ⟨(hM.cell 0).trans rfl, (hM.cell 1).trans rfl⟩
             have hbz2 := bnext hbzA hb2))
      by_cases hvy : v = y
      · have HN : Hid (∀ i, i < k + 1 → valueP p (us.getD i 0) R = ys.getD i 0) := Lib.hid fun i hi => by
          by_cases hik : i = k
          · rw [hik, HX.out, HVV.out, HYk.out]; exact hvy
          · exact HV.out i (by omega)
        have hvb : (v != y) = false := by simpa using hvy
        clear hvy
        go_wp2
        go_roundw
        case rel => exact ⟨k + 1, by omega, by go_num, HN, hbz2⟩
        case measure => simp [intOf]; omega
      · have HF : Hid (agreeB p us ys R = false) := Lib.hid (by
          rw [← Bool.not_eq_true, agreeB_iff]
          intro hall
          have := hall k (by rw [HLA.out]; exact hlt)
          rw [HX.out, HVV.out, HYk.out] at this
          exact hvy this)
        have hvb : (v != y) = true := by simpa using hvy
        clear hvy
        go_wp2
        go_ret2
        exact ⟨⟨R, by rw [HF.out]; rfl, HT.out⟩, bnext hbb1 hbz2⟩
    · have HF : Hid (agreeB p us ys R = true) := Lib.hid (agreeB_iff.2 fun i hi => HV.out i (by rw [HLA.out] at hi; omega))
      go_wp2
      go_ret2
      exact ⟨⟨R, by rw [HF.out]; rfl, HT.out⟩, bnext hbb1 hbz⟩
end Go.Proofs.Ytoblofilaegnaaa

/-! SplL -/
namespace Go.Proofs.Ytoblofilaegnaaa
open Go.RowKit
set_option linter.unusedVariables false

theorem step_append_ints {P : Program} {ops : Array Oper} {o : Oper} {a : Act} {w : World} {K : Act → World → Prop} {Q : Exit → Act → World → Prop} {E : Prop}
    (hg : o.guard = none) (s x : Operand) (t : TypeId) (hop : o.op = Op.call { callee := Callee.builtin Builtin.append, args := #[s, x], argTypes := #[t, t] })
    (base : Nat) (e : TypeId) (i : TypeInfo) (z : Value) (ht : P.underlying t = some (.slice e)) (hi : P.info? e = some i) (hz : i.zero = some z) (hsize : i.size = 1) (hby : i.bytes = 8) (hzs : z.cells.size = 1)
    (A : Option Addr) (n c : Nat) (xs : List Int) (hs : a.eval s = .slice A n c) (hown : OwnI w base e A n c xs)
    (B : Nat) (A2 : Option Addr) (m c2 : Nat) (ys : List Int) (hx : a.eval x = .slice A2 m c2) (hr : Ints w B A2 m ys)
    (N : Nat) (hN : n + m = N) (zs : List Int) (hzz : xs ++ ys = zs) (hcap : N ≤ 17592186044416) (hbase : base ≤ w.heap.size)
    (hK : ∀ A' c' w', OwnI w' base e A' N c' zs → w.grownBy w' (Value.slice A n c).ownBlock → Below base w w' → K (a.put o.dst (.slice A' N c')) w') :
    if Region.wanted o (yielded ops a.tmps) = true then Oper.wp P o a w K Q else E := by
  have hw : Region.wanted o (yielded ops a.tmps) = true := by simp [Region.wanted, hg]
  rw [if_pos hw]
  exact wp_append_ints s x t hop base e i z ht hi hz hsize hby hzs A n c xs hs hown B A2 m c2 ys hx hr N hN zs hzz hcap hbase fun A' c' w' h1 h2 h3 _ => hK A' c' w' h1 h2 h3

theorem OwnS.step {g base n c : Nat} {A : Option Addr} {us ys : List Int} {w w' : World} (h : OwnS w base A n c us ys) (hs : Step g w w') (hg : g < base) : OwnS w' base A n c us ys := by
  refine ⟨h.1, h.2.1, World.ownsRow.kept h.2.2 hs ?_⟩
  right
  intro e
  have := (World.ownsRow.lt h.2.2 g e).1
  omega
theorem OwnS.base {base base' n c : Nat} {A : Option Addr} {us ys : List Int} {w : World} (h : OwnS w base A n c us ys) (hb : base' ≤ base) : OwnS w base' A n c us ys := by
  refine ⟨h.1, h.2.1, h.2.2.1, ?_⟩
  rcases h.2.2.2 with h0 | ⟨g, cap, cur, hv, hg, r⟩
  · exact .inl h0
  · exact .inr ⟨g, cap, cur, hv, by omega, r⟩
theorem OwnS.cap {base n c : Nat} {A : Option Addr} {us ys : List Int} {w : World} (h : OwnS w base A n c us ys) : n ≤ c := by
  rcases h.2.2.2 with ⟨hv, hn⟩ | ⟨g, cap, cur, hv, _, _, hc, _⟩
  · injection hv; omega
  · injection hv with _ _ h3; omega

/-- 1, 2, .. -/
def ptsL (n : Nat) : List Int := (List.range n).map fun i : Nat => (i : Int) + 1
theorem ptsL_succ (n : Nat) : ptsL (n + 1) = ptsL n ++ [(n : Int) + 1] := by simp [ptsL, List.range_succ]
theorem ptsL_len (n : Nat) : (ptsL n).length = n := by simp [ptsL]
theorem ptsL_at {n j : Nat} (hj : j < n) : (ptsL n).getD j 0 = (j : Int) + 1 := by
  unfold ptsL
  rw [List.getD_eq_getElem?_getD, List.getElem?_map, List.getElem?_range hj]; rfl
theorem ptsL_allP {p : Int} {n : Nat} (h : (n : Int) < p) : allP p (ptsL n) = true := allP_iff.2 fun x hx => by
  obtain ⟨i, hi, rfl⟩ := List.mem_map.1 hx
  have := List.mem_range.1 hi
  omega
theorem ptsL_apart (n : Nat) : Apart2 (ptsL n) := fun j k h1 h2 => by
  rw [ptsL_len] at h2
  rw [ptsL_at (by omega), ptsL_at h2]; omega

end Go.Proofs.Ytoblofilaegnaaa
