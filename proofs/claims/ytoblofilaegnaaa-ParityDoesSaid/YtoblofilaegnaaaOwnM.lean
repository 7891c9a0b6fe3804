/-
  Words for memory: a slice of slices that the call itself builds; no program in sight. No conditions.
-/
import Derived.Test.YtoblofilaegnaaaMat
namespace Go.Proofs.Ytoblofilaegnaaa
open Go.RowKit
set_option linter.unusedVariables false

/-- A slice of slices whose outer row the call owns; what it leads to lies from block lo on, and not in the outer row. -/
def OwnM (w : World) (base lo : Nat) (e : TypeId) (A : Option Addr) (n c : Nat) (rows : List (List Int)) : Prop :=
  rows.length = n ∧ ∃ vs, w.ownsRow base e 1 (.slice A n c) n vs ∧ ∀ j, j < n → ∃ A' n' c', vs[j]? = some (.slice A' n' c') ∧ n' ≤ 17592186044416 ∧ Ints w w.heap.size A' n' (rows.getD j []) ∧ Lo lo A' n' ∧
    (0 < n' → ∀ b off s, A' = some ⟨b, off, s⟩ → (Value.slice A n c).ownBlock ≠ some b)

section
variable {w w' : World} {base lo n c : Nat} {e : TypeId} {A : Option Addr} {rows : List (List Int)}
theorem OwnM.nil_ : OwnM w base lo e none 0 0 [] := ⟨rfl, [], World.ownsRow_nil _ _ _ _, fun j hj => absurd hj (by omega)⟩
theorem OwnM.len (h : OwnM w base lo e A n c rows) : rows.length = n := h.1

theorem Ints.keepBlk {n' : Nat} {A' : Option Addr} {xs : List Int} (h : Ints w w.heap.size A' n' xs) (hs : w.heap.size ≤ w'.heap.size) (hk : 0 < n' → ∀ b off s, A' = some ⟨b, off, s⟩ → b < w.heap.size → w'.heap[b]? = w.heap[b]?) : Ints w' w'.heap.size A' n' xs := by
  refine ⟨h.1, fun h0 => ?_⟩
  obtain ⟨b, off, e1, hb, hc⟩ := h.2 h0
  exact ⟨b, off, e1, by omega, fun j hj => (World.cell?_of_block (hk h0 b off _ e1 hb)).trans (hc j hj)⟩

theorem OwnM.belowAll (h : OwnM w base lo e A n c rows) (hb : Below w.heap.size w w') : OwnM w' base lo e A n c rows := by
  obtain ⟨hl, vs, hown, hr⟩ := h
  refine ⟨hl, vs, ?_, fun j hj => ?_⟩
  · refine ⟨hown.1, ?_⟩
    rcases hown.2 with h0 | ⟨g, cap, cur, hv, hg, hh, r⟩
    · exact .inl h0
    · refine .inr ⟨g, cap, cur, hv, hg, ?_, r⟩
      have hlt : g < w.heap.size := by
        rcases Nat.lt_or_ge g w.heap.size with h1 | h1
        · exact h1
        · rw [Array.getElem?_eq_none h1] at hh; cases hh
      rw [hb.block g hlt]; exact hh
  · obtain ⟨A', n', c', h1, h2, h3, h4, h5⟩ := hr j hj
    exact ⟨A', n', c', h1, h2, h3.upto hb, h4, h5⟩

theorem OwnM.step {g : Nat} (h : OwnM w base lo e A n c rows) (hs : Step g w w') (hg : g < lo) (hg2 : g < base) : OwnM w' base lo e A n c rows := by
  obtain ⟨hl, vs, hown, hr⟩ := h
  refine ⟨hl, vs, ?_, fun j hj => ?_⟩
  · rcases hb : (Value.slice A n c).ownBlock with _ | k
    · exact World.ownsRow.kept hown hs (.inl hb)
    · exact World.ownsRow.kept hown hs (.inr (by rw [hb]; intro e1; injection e1 with e1; have := (World.ownsRow.lt hown k hb).1; omega))
  · obtain ⟨A', n', c', h1, h2, h3, h4, h5⟩ := hr j hj
    refine ⟨A', n', c', h1, h2, h3.keepBlk (World.grownBy.size hs) (fun h0 b off s e1 hb => World.grownBy.block hs b hb (fun e2 => ?_)), h4, h5⟩
    injection e2 with e2
    have := h4 h0 b off s e1
    omega

theorem OwnM.mat (h : OwnM w base lo e A n c rows) (hbl : lo ≤ base) : Mat w lo w.heap.size A n rows := by
  obtain ⟨hl, vs, hown, hr⟩ := h
  refine ⟨hl, fun hn => ?_⟩
  obtain ⟨g, cap, hv, hg, hlt⟩ := World.ownsRow.form hown hn
  injection hv with hA hn' hc'
  subst hA
  refine ⟨g, 0, rfl, by omega, hlt, fun j hj => ?_⟩
  obtain ⟨A', n', c', h1, h2, h3, h4, _⟩ := hr j hj
  refine ⟨A', n', c', ?_, h2, h3, h4⟩
  rw [Nat.zero_add, World.ownsRow.cellAt hown j (by omega)]
  exact h1

/-- One row more. -/
theorem OwnM.snoc {A2 : Option Addr} {c2 : Nat} {A' : Option Addr} {n' c' : Nat} {row : List Int} (h : OwnM w base lo e A n c rows) (hn' : n' ≤ 17592186044416) (hI : Ints w w.heap.size A' n' row) (hlo : Lo lo A' n')
    (hap : 0 < n' → ∀ b off s, A' = some ⟨b, off, s⟩ → (Value.slice A n c).ownBlock ≠ some b)
    (hnew : ∀ vs, w.ownsRow base e 1 (.slice A n c) n vs → w'.ownsRow base e 1 (.slice A2 (n + 1) c2) (n + 1) (vs ++ [.slice A' n' c'])) (hgr : w.grownBy w' (Value.slice A n c).ownBlock)
    (hab : (Value.slice A2 (n + 1) c2).ownBlock = (Value.slice A n c).ownBlock ∨ (Value.slice A2 (n + 1) c2).ownBlock = some w.heap.size) : OwnM w' base lo e A2 (n + 1) c2 (rows ++ [row]) := by
  obtain ⟨hl, vs, hown, hr⟩ := h
  have hvl : vs.length = n := by have := hown.1; omega
  have key : ∀ (B : Option Addr) (m d : Nat) (xs : List Int), Ints w w.heap.size B m xs → (0 < m → ∀ b off s, B = some ⟨b, off, s⟩ → (Value.slice A n c).ownBlock ≠ some b) →
      Ints w' w'.heap.size B m xs ∧ (0 < m → ∀ b off s, B = some ⟨b, off, s⟩ → (Value.slice A2 (n + 1) c2).ownBlock ≠ some b) := by
    intro B m d xs h3 h5
    refine ⟨h3.keepBlk hgr.size (fun h0 b off s e1 hb => hgr.block b hb (fun e2 => h5 h0 b off s e1 e2.symm)), fun h0 b off s e1 e2 => ?_⟩
    rcases hab with h6 | h6
    · exact h5 h0 b off s e1 (by rw [← h6, e2])
    · rw [h6] at e2
      injection e2 with e2
      subst e1
      have := h3.lt h0
      omega
  refine ⟨by simp [hl], vs ++ [.slice A' n' c'], hnew vs hown, fun j hj => ?_⟩
  rcases Nat.lt_or_ge j n with hj' | hj'
  · obtain ⟨B, m, d, h1, h2, h3, h4, h5⟩ := hr j hj'
    obtain ⟨k1, k2⟩ := key B m d _ h3 h5
    refine ⟨B, m, d, by rw [List.getElem?_append_left (by omega)]; exact h1, h2, ?_, h4, k2⟩
    rw [List.getD_eq_getElem?_getD, List.getElem?_append_left (by omega), ← List.getD_eq_getElem?_getD]; exact k1
  · obtain rfl : j = n := by omega
    obtain ⟨k1, k2⟩ := key A' n' c' _ hI hap
    refine ⟨A', n', c', by rw [List.getElem?_append_right (by omega), hvl, Nat.sub_self]; rfl, hn', ?_, hlo, k2⟩
    rw [List.getD_eq_getElem?_getD, List.getElem?_append_right (by omega), hl, Nat.sub_self]; exact k1
theorem OwnM.row (h : OwnM w base lo e A n c rows) : ∀ k, (Value.slice A n c).ownBlock = some k → base ≤ k ∧ k < w.heap.size := by
  obtain ⟨_, vs, hown, _⟩ := h
  exact World.ownsRow.lt hown
theorem OwnM.weaken {base' lo' : Nat} (h : OwnM w base lo e A n c rows) (hb : base' ≤ base) (hl : lo' ≤ lo) : OwnM w base' lo' e A n c rows := by
  obtain ⟨h1, vs, hown, hr⟩ := h
  refine ⟨h1, vs, ⟨hown.1, ?_⟩, fun j hj => ?_⟩
  · rcases hown.2 with h0 | ⟨g, cap, cur, hv, hg, r⟩
    · exact .inl h0
    · exact .inr ⟨g, cap, cur, hv, Nat.le_trans hb hg, r⟩
  · obtain ⟨A', n', c', k1, k2, k3, k4, k5⟩ := hr j hj
    exact ⟨A', n', c', k1, k2, k3, fun h0 b off s e => by have := k4 h0 b off s e; omega, k5⟩
end

theorem wpList_append_row {P : Program} {w : World} {ops : Array Oper} {rest : List Oper} {o : Oper} {a : Act} {Q : Exit → Act → World → Prop} (hgd : o.guard = none) (s x : Operand) (t : TypeId)
    (ho : o.op = .call { callee := .builtin .append, args := #[s, x], argTypes := #[t, t] })
    (base lo : Nat) (e : TypeId) (i : TypeInfo) (z : Value) (ht : P.underlying t = some (.slice e)) (hi : P.info? e = some i) (hz : i.zero = some z)
    (hsize : i.size = 1) (hby : i.bytes = 24) (hzs : z.cells.size = 1)
    (A : Option Addr) (n c : Nat) (rows : List (List Int)) (hs : a.eval s = .slice A n c) (hown : OwnM w base lo e A n c rows)
    (g c2 : Nat) (A' : Option Addr) (n' c' : Nat) (row : List Int) (hx : a.eval x = .slice (some ⟨g, 0, none⟩) 1 c2) (hcell : w.cell? ⟨g, 0, none⟩ = some (.slice A' n' c')) (hglt : g < w.heap.size)
    (hn' : n' ≤ 17592186044416) (hI : Ints w w.heap.size A' n' row) (hlo : Lo lo A' n') (hap : 0 < n' → ∀ b off s, A' = some ⟨b, off, s⟩ → (Value.slice A n c).ownBlock ≠ some b)
    (N : Nat) (hN : n + 1 = N) (hcap : N ≤ 1099511627776) (hbase : base ≤ w.heap.size)
    (h : ∀ A2 c2 w', OwnM w' base lo e A2 N c2 (rows ++ [row]) → w.grownBy w' (Value.slice A n c).ownBlock → Below base w w' → wpList P ops Q rest (a.put o.dst (.slice A2 N c2)) w') : wpList P ops Q (o :: rest) a w := by
  subst hN
  obtain ⟨hl, vs, hv, hr⟩ := hown
  refine wpList_append_any w hgd s x t ho base e i z 1 24 ht hi hz hsize hby hzs (by omega) (.slice A n c) n vs hs hv w.heap.size (some ⟨g, 0, none⟩) 1 c2 [.slice A' n' c'] hx ⟨rfl, fun _ => ⟨_, rfl, hglt, fun j u hj => ?_⟩⟩ (fun u hu => by simp at hu; subst hu; rfl) (by unfold maxLen; omega) (by omega) hbase ?_
  · match j, hj with
    | 0, hj => simp at hj; subst hj; simpa [Addr.add] using hcell
  · intro v' w' hown' hg hat
    have hb : Below base w w' := (Below.refl base w).grown hg hbase (fun k hk => (World.ownsRow.lt hv k hk).1)
    rcases hown'.2 with ⟨_, h0⟩ | ⟨g2, cap, cur, rfl, hrest⟩
    · omega
    · refine h _ cap w' (OwnM.snoc (c' := c') ⟨hl, vs, hv, hr⟩ hn' hI hlo hap (fun us hus => ?_) hg hat) hg hb
      have : us = vs := by
        rcases hus.2 with ⟨e1, e2⟩ | ⟨g3, cap3, cur3, e3, _, e4, _, _, _, e5⟩
        · rcases hv.2 with ⟨e6, e7⟩ | ⟨g4, cap4, cur4, e8, _⟩
          · have h1 : us.length = 0 := by have := hus.1; omega
            have h2 : vs.length = 0 := by have := hv.1; omega
            rw [List.eq_nil_of_length_eq_zero h1, List.eq_nil_of_length_eq_zero h2]
          · rw [e1] at e8; cases e8
        · rcases hv.2 with ⟨e6, e7⟩ | ⟨g4, cap4, cur4, e8, _, e9, _, _, _, e10⟩
          · rw [e6] at e3; cases e3
          · rw [e3] at e8
            injection e8 with e11 _ e12
            injection e11 with e11
            injection e11 with e11 _ _
            subst e11
            rw [e4] at e9
            injection e9 with e9
            injection e9 with e9
            rw [← e5, ← e10, e9]
      rw [this]; exact hown'
end Go.Proofs.Ytoblofilaegnaaa
