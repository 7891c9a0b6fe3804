/-
  Rows of cells that the call itself made: one more, another one in its place. No conditions.
-/
import Derived.Test.YteipcjmkhacdgaaDoorKnown
import Derived.Test.YteipcjmkhacdgaaDoorDeck
namespace Go.Proofs.YteipcjmkhacdgaaDoor
open Go.RowKit
set_option linter.unusedVariables false

/-- The cells of cells. -/
def celV : List Int → List Bool → List Value
  | u :: us, y :: ys => .int .i64 u :: .bool y :: celV us ys
  | _, _ => []
theorem celV_len : ∀ (us : List Int) (ys : List Bool), us.length = ys.length → (celV us ys).length = us.length * 2
  | [], [], _ => rfl
  | _ :: us, _ :: ys, h => by
    have := celV_len us ys (by simpa using h)
    simp only [celV, List.length_cons, this]; omega
theorem celV_snoc (u : Int) (y : Bool) : ∀ (us : List Int) (ys : List Bool), us.length = ys.length → celV (us ++ [u]) (ys ++ [y]) = celV us ys ++ [.int .i64 u, .bool y]
  | [], [], _ => rfl
  | _ :: us, _ :: ys, h => by
    have := celV_snoc u y us ys (by simpa using h)
    simp only [List.cons_append, celV, this]
theorem celV_at : ∀ (us : List Int) (ys : List Bool), us.length = ys.length → ∀ j, j < us.length → (celV us ys)[j * 2]? = some (.int .i64 (us.getD j 0)) ∧ (celV us ys)[j * 2 + 1]? = some (.bool (ys.getD j false))
  | [], [], _, j, hj => by simp at hj
  | u :: us, y :: ys, h, j, hj => by
    cases j with
    | zero => exact ⟨rfl, rfl⟩
    | succ j =>
      have := celV_at us ys (by simpa using h) j (by simpa using hj)
      simp only [celV, List.getD_cons_succ]
      rw [show (j + 1) * 2 = j * 2 + 1 + 1 by omega]
      exact this
theorem celV_set (v : Int) : ∀ (us : List Int) (ys : List Bool), us.length = ys.length → ∀ j, j < us.length → (celV us ys).set (j * 2) (.int .i64 v) = celV (us.set j v) ys
  | [], [], _, j, hj => by simp at hj
  | u :: us, y :: ys, h, j, hj => by
    cases j with
    | zero => rfl
    | succ j =>
      have := celV_set v us ys (by simpa using h) j (by simpa using hj)
      rw [show (j + 1) * 2 = (j * 2) + 1 + 1 by omega]
      simp only [celV, List.set_cons_succ, this]
theorem celV_setB (b : Bool) : ∀ (us : List Int) (ys : List Bool), us.length = ys.length → ∀ j, j < us.length → (celV us ys).set (j * 2 + 1) (.bool b) = celV us (ys.set j b)
  | [], [], _, j, hj => by simp at hj
  | u :: us, y :: ys, h, j, hj => by
    cases j with
    | zero => rfl
    | succ j =>
      have := celV_setB b us ys (by simpa using h) j (by simpa using hj)
      rw [show (j + 1) * 2 + 1 = (j * 2 + 1) + 1 + 1 by omega]
      simp only [celV, List.set_cons_succ, this]

theorem info_cell : (Tryd.prog.info? 59).map (fun i => (i.zero, i.size, i.bytes)) = some (some (.agg #[.int .i64 0, .bool false]), 2, 16) := by kernel_rfl

/-- A row of cells that the call itself made. -/
def OwnC (w : World) (base : Nat) (A : Option Addr) (n c : Nat) (us : List Int) (ys : List Bool) : Prop := us.length = n ∧ ys.length = n ∧ w.ownsRow base 59 2 (.slice A n c) n (celV us ys)
section
variable {w w' : World} {base n c : Nat} {A : Option Addr} {us : List Int} {ys : List Bool}
theorem OwnC.nil_ : OwnC w base none 0 0 [] [] := ⟨rfl, rfl, World.ownsRow_nil _ _ _ _⟩
theorem OwnC.belowAll (h : OwnC w base A n c us ys) (hb : Below w.heap.size w w') : OwnC w' base A n c us ys := by
  refine ⟨h.1, h.2.1, h.2.2.1, ?_⟩
  rcases h.2.2.2 with h0 | ⟨g, cap, cur, hv, hg, hh, r⟩
  · exact .inl h0
  · refine .inr ⟨g, cap, cur, hv, hg, ?_, r⟩
    rw [hb.block g (World.ownsRow.lt h.2.2 g (by rw [hv]; rfl)).2]; exact hh
theorem OwnC.cel (h : OwnC w base A n c us ys) : Cel w w.heap.size A n us ys := by
  refine ⟨h.1, h.2.1, fun hn => ?_⟩
  obtain ⟨g, cap, hv, h1, h2⟩ := World.ownsRow.form h.2.2 hn
  injection hv with hA
  subst hA
  refine ⟨g, 0, rfl, h2, fun j hj => ?_⟩
  have hs := celV_at us ys (by rw [h.1, h.2.1]) j (by rw [h.1]; exact hj)
  have c1 := World.ownsRow.cellAt h.2.2 (j * 2) (by omega)
  have c2 := World.ownsRow.cellAt h.2.2 (j * 2 + 1) (by omega)
  rw [Nat.zero_add]
  exact ⟨c1.trans hs.1, c2.trans hs.2⟩
theorem OwnC.step {g : Nat} (h : OwnC w base A n c us ys) (hs : Step g w w') (hg : g < base) : OwnC w' base A n c us ys := by
  refine ⟨h.1, h.2.1, World.ownsRow.kept h.2.2 hs ?_⟩
  right
  intro e
  have := (World.ownsRow.lt h.2.2 g e).1
  omega
theorem OwnC.lower {base' : Nat} (h : OwnC w base A n c us ys) (hb : base' ≤ base) : OwnC w base' A n c us ys := by
  refine ⟨h.1, h.2.1, h.2.2.1, ?_⟩
  rcases h.2.2.2 with h0 | ⟨g, cap, cur, hv, hg, r⟩
  · exact .inl h0
  · exact .inr ⟨g, cap, cur, hv, by omega, r⟩
theorem OwnC.form (h : OwnC w base A n c us ys) (hn : 0 < n) : ∃ g, A = some ⟨g, 0, none⟩ ∧ base ≤ g ∧ g < w.heap.size := by
  obtain ⟨g, cap, hv, h1, h2⟩ := World.ownsRow.form h.2.2 hn
  injection hv with hA
  exact ⟨g, hA, h1, h2⟩
theorem OwnC.frozenAt {g : Nat} (h : OwnC w base (some ⟨g, 0, none⟩) n c us ys) (j : Nat) : w.frozen? ⟨g, j, none⟩ = false := World.ownsRow.frozenAt h.2.2 j
theorem OwnC.cellAt {g : Nat} (h : OwnC w base (some ⟨g, 0, none⟩) n c us ys) {j : Nat} (hj : j < n) : w.cell? ⟨g, j * 2, none⟩ = some (.int .i64 (us.getD j 0)) ∧ w.cell? ⟨g, j * 2 + 1, none⟩ = some (.bool (ys.getD j false)) := by
  have hs := celV_at us ys (by rw [h.1, h.2.1]) j (by rw [h.1]; exact hj)
  exact ⟨(World.ownsRow.cellAt h.2.2 (j * 2) (by omega)).trans hs.1, (World.ownsRow.cellAt h.2.2 (j * 2 + 1) (by omega)).trans hs.2⟩
theorem OwnC.stored {g : Nat} (h : OwnC w base (some ⟨g, 0, none⟩) n c us ys) {j : Nat} (hj : j < n) (v : Int) : OwnC (w.setCell ⟨g, j * 2, none⟩ (.int .i64 v)) base (some ⟨g, 0, none⟩) n c (us.set j v) ys := by
  refine ⟨by rw [List.length_set]; exact h.1, h.2.1, ?_⟩
  have := (World.ownsRow.stored h.2.2 (j * 2) (.int .i64 v)).1
  rw [celV_set v us ys (by rw [h.1, h.2.1]) j (by rw [h.1]; exact hj)] at this
  exact this
theorem OwnC.storedB {g : Nat} (h : OwnC w base (some ⟨g, 0, none⟩) n c us ys) {j : Nat} (hj : j < n) (b : Bool) : OwnC (w.setCell ⟨g, j * 2 + 1, none⟩ (.bool b)) base (some ⟨g, 0, none⟩) n c us (ys.set j b) := by
  refine ⟨h.1, by rw [List.length_set]; exact h.2.1, ?_⟩
  have := (World.ownsRow.stored h.2.2 (j * 2 + 1) (.bool b)).1
  rw [celV_setB b us ys (by rw [h.1, h.2.1]) j (by rw [h.1]; exact hj)] at this
  exact this
end

/-- One more cell. -/
theorem wpList_append_cell {w : World} {ops : Array Oper} {rest : List Oper} {o : Oper} {a : Act} {Q : Exit → Act → World → Prop} (hgd : o.guard = none) (s x : Operand) (t : TypeId)
    (ho : o.op = .call { callee := .builtin .append, args := #[s, x], argTypes := #[t, t] })
    (ht : Tryd.prog.underlying t = some (.slice 59)) (base : Nat) (A : Option Addr) (n c : Nat) (us : List Int) (ys : List Bool) (hs : a.eval s = .slice A n c) (hown : OwnC w base A n c us ys)
    (b : Nat) (c2 : Nat) (u : Int) (y : Bool) (hx : a.eval x = .slice (some ⟨b, 0, none⟩) 1 c2) (h0 : w.cell? ⟨b, 0, none⟩ = some (.int .i64 u)) (h1 : w.cell? ⟨b, 1, none⟩ = some (.bool y)) (hn : n ≤ 1000000) (hbase : base ≤ w.heap.size)
    (h : ∀ A' c' w', OwnC w' base A' (n + 1) c' (us ++ [u]) (ys ++ [y]) → Below base w w' → wpList Tryd.prog ops Q rest (a.put o.dst (.slice A' (n + 1) c')) w') : wpList Tryd.prog ops Q (o :: rest) a w := by
  obtain ⟨i, hi, hz, hsize, hby⟩ := info_parts info_cell
  have hl : us.length = ys.length := by rw [hown.1, hown.2.1]
  refine wpList_append_any w hgd s x t ho base 59 i _ 2 16 ht hi hz hsize hby rfl (by omega) (.slice A n c) n (celV us ys) hs hown.2.2 (b + 1) (some ⟨b, 0, none⟩) 1 c2 [.int .i64 u, .bool y] hx
    ⟨rfl, fun _ => ⟨_, rfl, Nat.lt_succ_self b, fun j v hj => ?_⟩⟩ (fun v hv => by
      simp only [List.mem_cons, List.not_mem_nil, or_false] at hv
      rcases hv with rfl | rfl <;> rfl) (by unfold maxLen; omega) (by omega) hbase ?_
  · match j, hj with
    | 0, hj =>
      simp at hj; subst hj; exact h0
    | 1, hj =>
      simp at hj; subst hj; exact h1
    | j + 2, hj => simp at hj
  · intro v' w' hown' hg hat
    rw [← celV_snoc u y us ys hl] at hown'
    have hb : Below base w w' := (Below.refl base w).grown hg hbase (fun k hk => (World.ownsRow.lt hown.2.2 k hk).1)
    rcases hown'.2 with ⟨hv, hn0⟩ | ⟨g, cap, cur, hv, _⟩
    · omega
    · rw [hv] at hown' ⊢
      exact h _ cap w' ⟨by simp [hown.1], by simp [hown.2.1], hown'⟩ hb

/-! How many are known. -/
theorem knF_all : ∀ (vs : List Int) (i : Int), (knF i vs (List.replicate vs.length true)).length = vs.length
  | [], i => by simp [knF]
  | v :: vs, i => by
    have := knF_all vs (i + 1)
    simp only [List.length_cons, List.replicate_succ, knF, if_true, this]
theorem knL_all (vs : List Int) : (knL vs (List.replicate vs.length true)).length = vs.length := knF_all vs 1
theorem knF_less (v : Int) : ∀ (vs : List Int) (bs : List Bool) (i : Int) (j : Nat), vs.length = bs.length → (knF i vs bs).length ≤ (knF i (vs.set j v) (bs.set j false)).length + 1
  | [], [], i, j, _ => by simp [knF]
  | u :: vs, c :: bs, i, 0, h => by
    simp only [List.set_cons_zero, knF]
    cases c <;> simp
  | u :: vs, c :: bs, i, j + 1, h => by
    have := knF_less v vs bs (i + 1) j (by simpa using h)
    simp only [List.set_cons_succ, knF]
    cases c
    · simpa using this
    · simp; omega
theorem knL_less (v : Int) {vs : List Int} {bs : List Bool} (h : vs.length = bs.length) (j : Nat) : (knL vs bs).length ≤ (knL (vs.set j v) (bs.set j false)).length + 1 := knF_less v vs bs 1 j h
theorem setB_getD (l : List Bool) (j i : Nat) (b : Bool) : (l.set j b).getD i false = if i = j ∧ j < l.length then b else l.getD i false := by
  rw [List.getD_eq_getElem?_getD, List.getD_eq_getElem?_getD, List.getElem?_set]
  by_cases h1 : j = i
  · subst h1
    by_cases h2 : j < l.length
    · simp [h2]
    · simp [h2]
  · have h3 : ¬ (i = j ∧ j < l.length) := fun h => h1 h.1.symm
    rw [if_neg h1, if_neg h3]
theorem setI_getD (l : List Int) (j i : Nat) (b : Int) : (l.set j b).getD i 0 = if i = j ∧ j < l.length then b else l.getD i 0 := by
  rw [List.getD_eq_getElem?_getD, List.getD_eq_getElem?_getD, List.getElem?_set]
  by_cases h1 : j = i
  · subst h1
    by_cases h2 : j < l.length
    · simp [h2]
    · simp [h2]
  · have h3 : ¬ (i = j ∧ j < l.length) := fun h => h1 h.1.symm
    rw [if_neg h1, if_neg h3]
end Go.Proofs.YteipcjmkhacdgaaDoor
