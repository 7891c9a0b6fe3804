/-
  Words for memory and contracts of small functions of the second form. Conditions: those of each lemma.
-/
import Derived.Test.YtmcgnpdfpfgfpaaGreatDoorGUDe
import Derived.Deep.RegionWith
import Derived.Test.YtmcgnpdfpfgfpaaGreatDoorGBas
/-! UDecode -/
namespace Go.Proofs.YtmcgnpdfpfgfpaaGreatDoor
open Go.RowKit
set_option linter.unusedVariables false

theorem Ints.setFar {w : World} {B n : Nat} {A : Option Addr} {xs : List Int} (h : Ints w B A n xs) (Q i : Nat) (v : Value) (hQ : ∀ b o s, A = some ⟨b, o, s⟩ → 0 < n → b ≠ Q) : Ints (w.setCell ⟨Q, i, none⟩ v) B A n xs := ⟨h.1, fun h0 => by
  obtain ⟨b, o, e, hb, hc⟩ := h.2 h0
  have hne := hQ b o none e h0
  exact ⟨b, o, e, hb, fun j hj => (World.cell?_setCell_other _ _ _ _ (fun e => hne (by injection e with e; exact e.symm))).trans (hc j hj)⟩⟩

set_option maxRecDepth 100000 in
set_option maxHeartbeats 1600000 in
theorem uDecode_ok (p : Int) (A : Option Addr) (m c k : Nat) (vs : List Int) (bs : List Bool) (w : World) (hok : okP p = true) (h : Cel w w.heap.size A m vs bs) (hm : m ≤ 32) (hmp : (m : Int) < p) (hkn : knOk p vs bs) (hk : 1 ≤ k) (hkm : k ≤ m) (hkl : k ≤ (knL vs bs).length) (hW : ErrW w) :
    Calls Tryz.prog 105 #[.agg #[.int .i64 p], .slice A m c, .int .i64 k] w (UDPost (.int .i64 0) (.int .i64 12) p k (((knL vs bs).length - k) / 2) (knL vs bs) w) := by
  have hb0 : Below w.heap.size w ((w.alloc (.cells #[.int .i64 p] 44)).alloc (.cells #[.slice none 0 0, .slice none 0 0] 186)) := ballocs (bbox _) _
  have hR0 := Blk.new1 w (.cells #[.int .i64 p] 44) 186 #[.slice none 0 0, .slice none 0 0]
  have hS0 := (h.below hb0).more hb0.size
  have hE0 := hW.below hb0
  have HK := Lib.hid hkl
  have HOK := Lib.hid hok
  have HKN := Lib.hid hkn
  obtain ⟨l, hl⟩ : ∃ l, knL vs bs = l := ⟨_, rfl⟩
  obtain ⟨v, hv⟩ : ∃ v, ((knL vs bs).length - k) / 2 = v := ⟨_, rfl⟩
  have HL := Lib.hid hl
  have HV := Lib.hid hv
  rw [hv, hl]
  clear h hW hok hkn hkl hl hv
  go_enter Tryz.func105, Tryz.ntmps105
  go_wp2_with fail
  go_at_call 131
  refine (udecode_ok p A m c k vs bs _ HOK.out hS0 hm hmp HKN.out hk hkm HK.out hE0).mono ?_
  rw [HV.out, HL.out]
  rintro e w1 ⟨⟨hD, rfl⟩ | ⟨P, A1, c1, A2, c2, hD, rfl, hI1, hI2, hc1, hc2, hn1, hn2⟩, hb1⟩
  · have HD := Lib.hid hD
    have hbb1 := ballocs (bnext hb0 hb1) (.cells #[.slice none 0 0, .slice none 0 0] 186)
    have hR1 := (hR0.below hb1 hR0.lt).alloc (.cells #[.slice none 0 0, .slice none 0 0] 186)
    have hE1 := (hE0.below hb1).below (bbox (.cells #[.slice none 0 0, .slice none 0 0] 186))
    have hz0 : (w1.alloc (.cells #[.slice none 0 0, .slice none 0 0] 186)).cell? ⟨w.heap.size + 1, 0, none⟩ = some (.slice none 0 0) := (hR1.cell 0).trans rfl
    have hf0 := hR1.frozen 0
    have hz1 : (w1.alloc (.cells #[.slice none 0 0, .slice none 0 0] 186)).cell? ⟨w.heap.size + 1, 1, none⟩ = some (.slice none 0 0) := (hR1.cell 1).trans rfl
    have hf1 := hR1.frozen 1
    have hgl := hE1.1
    have hFB := (hR1.set_ 0 (.slice none 0 0)).set_ 1 (.slice none 0 0)
    have hfin0 : (((w1.alloc (.cells #[.slice none 0 0, .slice none 0 0] 186)).setCell ⟨w.heap.size + 1, 0, none⟩ (.slice none 0 0)).setCell ⟨w.heap.size + 1, 1, none⟩ (.slice none 0 0)).cell? ⟨w.heap.size + 1, 0, none⟩ = some (.slice none 0 0) := (hFB.cell 0).trans rfl
    have hfin1 : (((w1.alloc (.cells #[.slice none 0 0, .slice none 0 0] 186)).setCell ⟨w.heap.size + 1, 0, none⟩ (.slice none 0 0)).setCell ⟨w.heap.size + 1, 1, none⟩ (.slice none 0 0)).cell? ⟨w.heap.size + 1, 1, none⟩ = some (.slice none 0 0) := (hFB.cell 1).trans rfl
    clear hD hFB
    go_wp2_with (go_at_call 132; refine (is_same _).mono ?_; rintro e w' ⟨rfl, rfl⟩)
    refine bodyPost_ret (v := .tuple #[.agg #[.slice none 0 0, .slice none 0 0], .int .i64 12]) (by simp [results, Tryz.results105, go_sem, hfin0, hfin1]) rfl ⟨.inl ⟨HD.out, rfl⟩, (hbb1.setCell (p := ⟨w.heap.size + 1, 0, none⟩) (by show w.heap.size ≤ w.heap.size + 1; omega) _).setCell (p := ⟨w.heap.size + 1, 1, none⟩) (by show w.heap.size ≤ w.heap.size + 1; omega) _⟩
  · have HD := Lib.hid hD
    have hbb1 := ballocs (bnext hb0 hb1) (.cells #[.slice A1 P.length c1, .slice A2 (wrL p P l).length c2] 186)
    have hR1 := (hR0.below hb1 hR0.lt).alloc (.cells #[.slice A1 P.length c1, .slice A2 (wrL p P l).length c2] 186)
    have hE1 := (hE0.below hb1).below (bbox (.cells #[.slice A1 P.length c1, .slice A2 (wrL p P l).length c2] 186))
    have hN1 := Blk.new w1 186 #[.slice A1 P.length c1, .slice A2 (wrL p P l).length c2]
    have hgl := hE1.1
    have hJ1 := hI1.upto (bbox (.cells #[.slice A1 P.length c1, .slice A2 (wrL p P l).length c2] 186))
    have hJ2 := hI2.upto (bbox (.cells #[.slice A1 P.length c1, .slice A2 (wrL p P l).length c2] 186))
    obtain ⟨pn, hpn⟩ : ∃ pn, P.length = pn := ⟨_, rfl⟩
    obtain ⟨wn, hwn⟩ : ∃ wn, (wrL p P l).length = wn := ⟨_, rfl⟩
    rw [hpn, hwn] at hbb1 hR1 hE1 hN1 hgl hJ1 hJ2
    have HN1 : Hid (∀ b o s, A1 = some ⟨b, o, s⟩ → 0 < pn → w.heap.size + 2 ≤ b) := Lib.hid fun b o s e h0 => by
      have := hn1 b o s e (by rw [hpn]; exact h0)
      simpa using this
    have HN2 : Hid (∀ b o s, A2 = some ⟨b, o, s⟩ → 0 < wn → w.heap.size + 2 ≤ b) := Lib.hid fun b o s e h0 => by
      have := hn2 b o s e (by rw [hwn]; exact h0)
      simpa using this
    have HC1 := Lib.hid hc1
    have HC2 := Lib.hid hc2
    rw [hpn, hwn]
    have HPN := Lib.hid hpn
    have HWN := Lib.hid hwn
    have hQl := (hR0.below hb1 hR0.lt).lt
    clear hpn hwn hD hI1 hI2 hb1 hR0 hE0 hn1 hn2 hc1 hc2
    go_upto_region 4 with (go_at_call 132; refine (is_none _).mono ?_; rintro e w' ⟨rfl, rfl⟩)
    obtain ⟨W, hW⟩ : ∃ W, w1.alloc (.cells #[.slice A1 pn c1, .slice A2 wn c2] 186) = W := ⟨_, rfl⟩
    rw [hW] at hbb1 hR1 hE1 hN1 hJ1 hJ2 ⊢
    clear hW hgl
    have hk0 : W.cell? ⟨w1.heap.size, 0, none⟩ = some (.slice A1 pn c1) := (hN1.cell 0).trans rfl
    have hk1 : W.cell? ⟨w1.heap.size, 1, none⟩ = some (.slice A2 wn c2) := (hN1.cell 1).trans rfl
    have hz0 : W.cell? ⟨w.heap.size + 1, 0, none⟩ = some (.slice none 0 0) := (hR1.cell 0).trans rfl
    have hf0 := hR1.frozen 0
    have hz1 : W.cell? ⟨w.heap.size + 1, 1, none⟩ = some (.slice none 0 0) := (hR1.cell 1).trans rfl
    have hf1 := hR1.frozen 1
    have hFB := (hR1.set_ 0 (.slice A1 pn c1)).set_ 1 (.slice A2 wn c2)
    have hfin0 : ((W.setCell ⟨w.heap.size + 1, 0, none⟩ (.slice A1 pn c1)).setCell ⟨w.heap.size + 1, 1, none⟩ (.slice A2 wn c2)).cell? ⟨w.heap.size + 1, 0, none⟩ = some (.slice A1 pn c1) := (hFB.cell 0).trans rfl
    have hfin1 : ((W.setCell ⟨w.heap.size + 1, 0, none⟩ (.slice A1 pn c1)).setCell ⟨w.heap.size + 1, 1, none⟩ (.slice A2 wn c2)).cell? ⟨w.heap.size + 1, 1, none⟩ = some (.slice A2 wn c2) := (hFB.cell 1).trans rfl
    have HPO : UDPost (.int .i64 0) (.int .i64 12) p k v l w (.returned (.tuple #[.agg #[.slice A1 pn c1, .slice A2 wn c2], .int .i64 0])) ((W.setCell ⟨w.heap.size + 1, 0, none⟩ (.slice A1 pn c1)).setCell ⟨w.heap.size + 1, 1, none⟩ (.slice A2 wn c2)).drew := by
      have h2 : Below w.heap.size w ((W.setCell ⟨w.heap.size + 1, 0, none⟩ (.slice A1 pn c1)).setCell ⟨w.heap.size + 1, 1, none⟩ (.slice A2 wn c2)).drew := ((hbb1.setCell (p := ⟨w.heap.size + 1, 0, none⟩) (by show w.heap.size ≤ w.heap.size + 1; omega) _).setCell (p := ⟨w.heap.size + 1, 1, none⟩) (by show w.heap.size ≤ w.heap.size + 1; omega) _).drew
      have hz : ((W.setCell ⟨w.heap.size + 1, 0, none⟩ (.slice A1 pn c1)).setCell ⟨w.heap.size + 1, 1, none⟩ (.slice A2 wn c2)).drew.heap.size = W.heap.size := by simp [World.setCell]
      refine ⟨.inr ⟨P, A1, c1, A2, c2, HD.out, by rw [HPN.out, HWN.out], ?_, ?_, HC1.out, HC2.out, by rw [HPN.out]; exact fun b o s e h0 => (by have := HN1.out b o s e h0; omega), by rw [HWN.out]; exact fun b o s e h0 => (by have := HN2.out b o s e h0; omega)⟩, h2⟩
      · rw [HPN.out, hz]; exact (hJ1.setFar _ 0 _ (fun b o s e h0 => (by have := HN1.out b o s e h0; omega))).setFar _ 1 _ (fun b o s e h0 => (by have := HN1.out b o s e h0; omega))
      · rw [HWN.out, hz]; exact (hJ2.setFar _ 0 _ (fun b o s e h0 => (by have := HN2.out b o s e h0; omega))).setFar _ 1 _ (fun b o s e h0 => (by have := HN2.out b o s e h0; omega))
    clear hFB hJ1 hJ2 hR1 hN1
    go_region_law (first
      | (go_simp; go_at_call 133; refine (number_none _).mono ?_; rintro e w' ⟨rfl, rfl⟩))
    all_goals go_wp2
    all_goals refine bodyPost_ret (v := .tuple #[.agg #[.slice A1 pn c1, .slice A2 wn c2], .int .i64 0]) (by simp [results, Tryz.results105, go_sem, hfin0, hfin1]) rfl HPO
end Go.Proofs.YtmcgnpdfpfgfpaaGreatDoor

/-! CellsO -/
namespace Go.Proofs.YtmcgnpdfpfgfpaaGreatDoor
open Go.RowKit
set_option linter.unusedVariables false

/-- The cells of cells. -/
def celV : List Int → List Bool → List Value
  | u :: us, y :: ys => .int .i64 u :: .bool y :: celV us ys
  | _, _ => []
theorem celV_snoc (u : Int) (y : Bool) : ∀ (us : List Int) (ys : List Bool), us.length = ys.length → celV (us ++ [u]) (ys ++ [y]) = celV us ys ++ [.int .i64 u, .bool y]
  | [], [], _ => rfl
  | _ :: us, _ :: ys, h => by
    have := celV_snoc u y us ys (by simpa using h)
    simp only [List.cons_append, celV, this]
theorem celV_at : ∀ (us : List Int) (ys : List Bool), us.length = ys.length → ∀ j, j < us.length → (celV us ys)[j * 2]? = some (.int .i64 (us.getD j 0)) ∧ (celV us ys)[j * 2 + 1]? = some (.bool (ys.getD j false))
  | [], [], _, j, hj => by simp at hj
  | u :: us, y :: ys, h, j, hj => by
    cases j with
    | zero => exact ⟨rfl, rfl⟩
    | succ j =>
      have := celV_at us ys (by simpa using h) j (by simpa using hj)
      simp only [celV, List.getD_cons_succ]
      rw [show (j + 1) * 2 = j * 2 + 1 + 1 by omega]
      exact this
theorem info_cell : (Tryz.prog.info? 87).map (fun i => (i.zero, i.size, i.bytes)) = some (some (.agg #[.int .i64 0, .bool false]), 2, 16) := by kernel_rfl

/-- A row of cells that the call itself made. -/
def OwnC (w : World) (base : Nat) (A : Option Addr) (n c : Nat) (us : List Int) (ys : List Bool) : Prop := us.length = n ∧ ys.length = n ∧ w.ownsRow base 87 2 (.slice A n c) n (celV us ys)
section
variable {w w' : World} {base n c : Nat} {A : Option Addr} {us : List Int} {ys : List Bool}
theorem OwnC.nil_ : OwnC w base none 0 0 [] [] := ⟨rfl, rfl, World.ownsRow_nil _ _ _ _⟩
theorem OwnC.belowAll (h : OwnC w base A n c us ys) (hb : Below w.heap.size w w') : OwnC w' base A n c us ys := by
  refine ⟨h.1, h.2.1, h.2.2.1, ?_⟩
  rcases h.2.2.2 with h0 | ⟨g, cap, cur, hv, hg, hh, r⟩
  · exact .inl h0
  · refine .inr ⟨g, cap, cur, hv, hg, ?_, r⟩
    rw [hb.block g (World.ownsRow.lt h.2.2 g (by rw [hv]; rfl)).2]; exact hh
theorem OwnC.cel (h : OwnC w base A n c us ys) : Cel w w.heap.size A n us ys := by
  refine ⟨h.1, h.2.1, fun hn => ?_⟩
  obtain ⟨g, cap, hv, h1, h2⟩ := World.ownsRow.form h.2.2 hn
  injection hv with hA
  subst hA
  refine ⟨g, 0, rfl, h2, fun j hj => ?_⟩
  have hs := celV_at us ys (by rw [h.1, h.2.1]) j (by rw [h.1]; exact hj)
  have c1 := World.ownsRow.cellAt h.2.2 (j * 2) (by omega)
  have c2 := World.ownsRow.cellAt h.2.2 (j * 2 + 1) (by omega)
  rw [Nat.zero_add]
  exact ⟨c1.trans hs.1, c2.trans hs.2⟩
end

/-- One more cell. -/
theorem wpList_append_cell {w : World} {ops : Array Oper} {rest : List Oper} {o : Oper} {a : Act} {Q : Exit → Act → World → Prop} (hgd : o.guard = none) (s x : Operand) (t : TypeId)
    (ho : o.op = .call { callee := .builtin .append, args := #[s, x], argTypes := #[t, t] })
    (ht : Tryz.prog.underlying t = some (.slice 87)) (base : Nat) (A : Option Addr) (n c : Nat) (us : List Int) (ys : List Bool) (hs : a.eval s = .slice A n c) (hown : OwnC w base A n c us ys)
    (b : Nat) (c2 : Nat) (u : Int) (y : Bool) (hx : a.eval x = .slice (some ⟨b, 0, none⟩) 1 c2) (h0 : w.cell? ⟨b, 0, none⟩ = some (.int .i64 u)) (h1 : w.cell? ⟨b, 1, none⟩ = some (.bool y)) (hn : n ≤ 1000000) (hbase : base ≤ w.heap.size)
    (h : ∀ A' c' w', OwnC w' base A' (n + 1) c' (us ++ [u]) (ys ++ [y]) → Below base w w' → wpList Tryz.prog ops Q rest (a.put o.dst (.slice A' (n + 1) c')) w') : wpList Tryz.prog ops Q (o :: rest) a w := by
  obtain ⟨i, hi, hz, hsize, hby⟩ := info_parts info_cell
  have hl : us.length = ys.length := by rw [hown.1, hown.2.1]
  refine wpList_append_any w hgd s x t ho base 87 i _ 2 16 ht hi hz hsize hby rfl (by omega) (.slice A n c) n (celV us ys) hs hown.2.2 (b + 1) (some ⟨b, 0, none⟩) 1 c2 [.int .i64 u, .bool y] hx
    ⟨rfl, fun _ => ⟨_, rfl, Nat.lt_succ_self b, fun j v hj => ?_⟩⟩ (fun v hv => by
      simp only [List.mem_cons, List.not_mem_nil, or_false] at hv
      rcases hv with rfl | rfl <;> rfl) (by unfold maxLen; omega) (by omega) hbase ?_
  · match j, hj with
    | 0, hj =>
      simp at hj; subst hj; exact h0
    | 1, hj =>
      simp at hj; subst hj; exact h1
    | j + 2, hj => simp at hj
  · intro v' w' hown' hg hat
    rw [← celV_snoc u y us ys hl] at hown'
    have hb : Below base w w' := (Below.refl base w).grown hg hbase (fun k hk => (World.ownsRow.lt hown.2.2 k hk).1)
    rcases hown'.2 with ⟨hv, hn0⟩ | ⟨g, cap, cur, hv, _⟩
    · omega
    · rw [hv] at hown' ⊢
      exact h _ cap w' ⟨by simp [hown.1], by simp [hown.2.1], hown'⟩ hb

/-! How many are known. -/
end Go.Proofs.YtmcgnpdfpfgfpaaGreatDoor
