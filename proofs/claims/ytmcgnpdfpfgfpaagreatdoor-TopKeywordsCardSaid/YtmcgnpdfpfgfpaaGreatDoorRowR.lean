/-
  Rows of numbers of the call's own, each with a block of its own: what keeps them is told by the types of the blocks. No conditions.
-/
import Derived.Test.YtmcgnpdfpfgfpaaGreatDoorGMem
import Derived.Test.YtmcgnpdfpfgfpaaGreatDoorGen
import Derived.Test.YtmcgnpdfpfgfpaaGreatDoorGEnt
namespace Go.Proofs.YtmcgnpdfpfgfpaaGreatDoor
open Go.RowKit
set_option linter.unusedVariables false

theorem types_rowR : (3 : TypeId) ≠ 22 := by decide +kernel
def OwnR (w : World) (base lo : Nat) (A : Option Addr) (n c : Nat) (rows : List (List Int)) : Prop :=
  rows.length = n ∧ ∃ vs, w.ownsRow base 22 1 (.slice A n c) n vs ∧ ∀ j, j < n → ∃ A' n' c', vs[j]? = some (.slice A' n' c') ∧ n' ≤ 17592186044416 ∧ OwnI w lo 3 A' n' c' (rows.getD j [])
/-- A block that is none of numbers, nor of rows. -/
def NoRow (w : World) (row : Option Nat) : Prop := ∀ z, row = some z → ∃ o : Obj, w.heap[z]? = some o ∧ ∀ cs t f, o = .cells cs t f → t ≠ 3 ∧ t ≠ 22
theorem NoRow.none_ {w : World} : NoRow w none := fun z e => by cases e
theorem NoRow.blk {w : World} {g : Nat} {t : TypeId} {cs : Array Value} (h : Blk w g t cs) (ht : t ≠ 3 ∧ t ≠ 22) : NoRow w (some g) := fun z e => by
  injection e with e
  subst e
  refine ⟨_, h, fun cs' t' f e2 => ?_⟩
  injection e2 with _ e3 _
  rw [← e3]; exact ht
theorem NoRow.own {w : World} {base k n c : Nat} {t : TypeId} {A : Option Addr} {vs : List Value} (h : w.ownsRow base t k (.slice A n c) n vs) (ht : t ≠ 3 ∧ t ≠ 22) : NoRow w (Value.slice A n c).ownBlock := fun z e => by
  rcases h.2 with ⟨h0, _⟩ | ⟨g, cap, cur, hv, hgb, hh, _⟩
  · rw [h0] at e; cases e
  · rw [hv] at e
    injection e with e
    subst e
    refine ⟨_, hh, fun cs' t' f e2 => ?_⟩
    injection e2 with _ e3 _
    rw [← e3]; exact ht
theorem NoRow.others {w : World} {row : Option Nat} (hr : ∀ r, row = some r → ∃ o : Obj, w.heap[r]? = some o ∧ o.isCells = false) : NoRow w row := fun z e => by
  obtain ⟨o, ho, hc⟩ := hr z e
  exact ⟨o, ho, fun cs t f e2 => by subst e2; cases hc⟩
theorem own_no {w : World} {base k n c : Nat} {t : TypeId} {A : Option Addr} {vs : List Value} {row : Option Nat} (h : w.ownsRow base t k (.slice A n c) n vs) (hr : NoRow w row) (hT : t = 3 ∨ t = 22) : (Value.slice A n c).ownBlock = none ∨ (Value.slice A n c).ownBlock ≠ row := by
  rcases h.2 with ⟨h0, _⟩ | ⟨g, cap, cur, hv, hgb, hh, _⟩
  · left; rw [h0]; rfl
  · right
    rw [hv]
    intro e
    obtain ⟨o, ho, hn⟩ := hr g e.symm
    rw [hh] at ho
    injection ho with ho
    have := hn _ _ _ ho.symm
    rcases hT with e1 | e1
    · exact this.1 e1
    · exact this.2 e1
theorem own_two {w : World} {b1 b2 s1 s2 n1 n2 c1 c2 : Nat} {e1 e2 : TypeId} {A1 A2 : Option Addr} {xs ys : List Value} (h1 : w.ownsRow b1 e1 s1 (.slice A1 n1 c1) n1 xs) (h2 : w.ownsRow b2 e2 s2 (.slice A2 n2 c2) n2 ys) (hne : e1 ≠ e2) : (Value.slice A1 n1 c1).ownBlock = none ∨ (Value.slice A1 n1 c1).ownBlock ≠ (Value.slice A2 n2 c2).ownBlock := by
  rcases h1.2 with ⟨h0, _⟩ | ⟨g, cap, cur, hv, _, hh, _⟩
  · left; rw [h0]; rfl
  · right
    rcases h2.2 with ⟨h0, _⟩ | ⟨g', cap', cur', hv', _, hh', _⟩
    · rw [hv, h0]; intro e; cases e
    · rw [hv, hv']
      intro e
      have e2 : some g = some g' := e
      injection e2 with e2
      subst e2
      rw [hh] at hh'
      injection hh' with hh'
      injection hh' with _ e3 _
      exact hne e3
section
variable {w w' : World} {base base' lo lo' n c : Nat} {A : Option Addr} {rows : List (List Int)}
theorem OwnR.nil_ : OwnR w base lo none 0 0 [] := ⟨rfl, [], World.ownsRow_nil _ _ _ _, fun j hj => absurd hj (by omega)⟩
theorem OwnR.kept (h : OwnR w base lo A n c rows) {row : Option Nat} (hg : w.grownBy w' row) (hr : NoRow w row) : OwnR w' base lo A n c rows := by
  obtain ⟨hl, vs, hown, hrr⟩ := h
  refine ⟨hl, vs, World.ownsRow.kept hown hg (own_no hown hr (.inr rfl)), fun j hj => ?_⟩
  obtain ⟨A', n', c', k1, k2, k3⟩ := hrr j hj
  exact ⟨A', n', c', k1, k2, World.ownsRow.kept k3 hg (own_no k3 hr (.inl rfl))⟩
theorem OwnR.belowAll (h : OwnR w base lo A n c rows) (hb : Below w.heap.size w w') : OwnR w' base lo A n c rows :=
  h.kept (row := none) ⟨hb.os, hb.tape, hb.output, hb.size, fun i hi _ => hb.block i hi⟩ NoRow.none_
theorem OwnR.step {g : Nat} (h : OwnR w base lo A n c rows) (hs : Step g w w') (hg : g < base) (hg2 : g < lo) : OwnR w' base lo A n c rows := by
  obtain ⟨hl, vs, hown, hrr⟩ := h
  refine ⟨hl, vs, own_step hown hs hg, fun j hj => ?_⟩
  obtain ⟨A', n', c', k1, k2, k3⟩ := hrr j hj
  exact ⟨A', n', c', k1, k2, own_step k3 hs hg2⟩
theorem OwnR.weaken (h : OwnR w base lo A n c rows) (hb : base' ≤ base) (hl : lo' ≤ lo) : OwnR w base' lo' A n c rows := by
  obtain ⟨h1, vs, hown, hrr⟩ := h
  refine ⟨h1, vs, own_base hown hb, fun j hj => ?_⟩
  obtain ⟨A', n', c', k1, k2, k3⟩ := hrr j hj
  exact ⟨A', n', c', k1, k2, own_base k3 hl⟩
theorem OwnR.row (h : OwnR w base lo A n c rows) : ∀ k, (Value.slice A n c).ownBlock = some k → base ≤ k ∧ k < w.heap.size := by
  obtain ⟨_, vs, hown, _⟩ := h
  exact World.ownsRow.lt hown
theorem OwnR.cellsRow (h : OwnR w base lo A n c rows) : ∀ j, (Value.slice A n c).ownBlock = some j → ∃ o : Obj, w.heap[j]? = some o ∧ o.isCells = true := by
  intro j e
  obtain ⟨_, vs, h2, _⟩ := h
  rcases h2.2 with ⟨h0, _⟩ | ⟨g, cap, cur, hv, hgb, hh, _⟩
  · rw [h0] at e; cases e
  · rw [hv] at e
    injection e with e
    subst e
    exact ⟨_, hh, rfl⟩
theorem OwnR.ownM (h : OwnR w base lo A n c rows) : OwnM w base lo 22 A n c rows := by
  obtain ⟨hl, vs, hown, hrr⟩ := h
  refine ⟨hl, vs, hown, fun j hj => ?_⟩
  obtain ⟨A', n', c', k1, k2, k3⟩ := hrr j hj
  refine ⟨A', n', c', k1, k2, k3.ints, fun h0 b off s e => (k3.row b (by rw [e]; rfl)), fun h0 b off s e e2 => ?_⟩
  rcases own_two k3 hown types_rowR with h4 | h4
  · rw [e] at h4; cases h4
  · exact h4 (by rw [e2, e]; rfl)
theorem OwnR.snoc {A2 : Option Addr} {c2 : Nat} {A' : Option Addr} {n' c' : Nat} {row : List Int} (h : OwnR w base lo A n c rows) (hn' : n' ≤ 17592186044416) (hY : OwnI w lo 3 A' n' c' row)
    (hnew : ∀ vs, w.ownsRow base 22 1 (.slice A n c) n vs → w'.ownsRow base 22 1 (.slice A2 (n + 1) c2) (n + 1) (vs ++ [.slice A' n' c'])) (hgr : w.grownBy w' (Value.slice A n c).ownBlock) : OwnR w' base lo A2 (n + 1) c2 (rows ++ [row]) := by
  obtain ⟨hl, vs, hown, hrr⟩ := h
  have hvl : vs.length = n := by have := hown.1; omega
  refine ⟨by simp [hl], vs ++ [.slice A' n' c'], hnew vs hown, fun j hj => ?_⟩
  rcases Nat.lt_or_ge j n with hj' | hj'
  · obtain ⟨B, m, d, h1, h2, h3⟩ := hrr j hj'
    refine ⟨B, m, d, by rw [List.getElem?_append_left (by omega)]; exact h1, h2, ?_⟩
    rw [List.getD_eq_getElem?_getD, List.getElem?_append_left (by omega), ← List.getD_eq_getElem?_getD]
    exact World.ownsRow.kept h3 hgr (own_two h3 hown types_rowR)
  · obtain rfl : j = n := by omega
    refine ⟨A', n', c', by rw [List.getElem?_append_right (by omega), hvl, Nat.sub_self]; rfl, hn', ?_⟩
    rw [List.getD_eq_getElem?_getD, List.getElem?_append_right (by omega), hl, Nat.sub_self]
    exact World.ownsRow.kept hY hgr (own_two hY hown types_rowR)
theorem OwnR.concat {lo2 base2 m c1 c2 : Nat} {A1 A2 : Option Addr} {news : List (List Int)} (h : OwnR w base lo A n c rows) (h2 : OwnR w base2 lo2 A1 m c1 news) (hll : lo ≤ lo2)
    (hnew : ∀ vs us, w.ownsRow base 22 1 (.slice A n c) n vs → w.ownsRow base2 22 1 (.slice A1 m c1) m us → w'.ownsRow base 22 1 (.slice A2 (n + m) c2) (n + m) (vs ++ us)) (hgr : w.grownBy w' (Value.slice A n c).ownBlock) : OwnR w' base lo A2 (n + m) c2 (rows ++ news) := by
  obtain ⟨hl, vs, hown, hrr⟩ := h
  obtain ⟨hl2, us, hown2, hrr2⟩ := h2
  have hvl : vs.length = n := by have := hown.1; omega
  refine ⟨by simp [hl, hl2], vs ++ us, hnew vs us hown hown2, fun j hj => ?_⟩
  rcases Nat.lt_or_ge j n with hj' | hj'
  · obtain ⟨B, m, d, h1, h2, h3⟩ := hrr j hj'
    refine ⟨B, m, d, by rw [List.getElem?_append_left (by omega)]; exact h1, h2, ?_⟩
    rw [List.getD_eq_getElem?_getD, List.getElem?_append_left (by omega), ← List.getD_eq_getElem?_getD]
    exact World.ownsRow.kept h3 hgr (own_two h3 hown types_rowR)
  · obtain ⟨B, m, d, h1, h2, h3⟩ := hrr2 (j - n) (by omega)
    refine ⟨B, m, d, by rw [List.getElem?_append_right (by omega), hvl]; exact h1, h2, ?_⟩
    rw [List.getD_eq_getElem?_getD, List.getElem?_append_right (by omega), hl, ← List.getD_eq_getElem?_getD]
    exact World.ownsRow.kept (own_base h3 hll) hgr (own_two h3 hown types_rowR)
end
/-- A row more, in a region whose order is open. -/
theorem step_append_rowR {w : World} {ops : Array Oper} {o : Oper} {a : Act} {K : Act → World → Prop} {Q : Exit → Act → World → Prop} {E : Prop} (hgd : o.guard = none) (s x : Operand) (t : TypeId)
    (ho : o.op = .call { callee := .builtin .append, args := #[s, x], argTypes := #[t, t] })
    (base lo : Nat) (ht : Tryz.prog.underlying t = some (.slice 22))
    (A : Option Addr) (n c : Nat) (rows : List (List Int)) (hs : a.eval s = .slice A n c) (hown : OwnR w base lo A n c rows)
    (g c2 : Nat) (A' : Option Addr) (n' c' : Nat) (row : List Int) (hx : a.eval x = .slice (some ⟨g, 0, none⟩) 1 c2) (hcell : w.cell? ⟨g, 0, none⟩ = some (.slice A' n' c')) (hglt : g < w.heap.size)
    (hn' : n' ≤ 17592186044416) (hY : OwnI w lo 3 A' n' c' row)
    (hcap : n + 1 ≤ 1099511627776) (hbase : base ≤ w.heap.size)
    (h : ∀ A2 c2 w', OwnR w' base lo A2 (n + 1) c2 (rows ++ [row]) → w.grownBy w' (Value.slice A n c).ownBlock → Below base w w' → K (a.put o.dst (.slice A2 (n + 1) c2)) w') :
    if Region.wanted o (yielded ops a.tmps) = true then Oper.wp Tryz.prog o a w K Q else E := by
  obtain ⟨i, hi, hz, hsize, hby⟩ := info_parts info_rowR
  obtain ⟨hl, vs, hv, hr⟩ := hown
  refine step_append_any w hgd s x t ho base 22 i _ 1 24 ht hi hz hsize hby rfl (by omega) (.slice A n c) n vs hs hv w.heap.size (some ⟨g, 0, none⟩) 1 c2 [.slice A' n' c'] hx ⟨rfl, fun _ => ⟨_, rfl, hglt, fun j u hj => ?_⟩⟩ (fun u hu => by simp at hu; subst hu; rfl) (by unfold maxLen; omega) (by omega) hbase ?_
  · match j, hj with
    | 0, hj => simp at hj; subst hj; simpa [Addr.add] using hcell
  · intro v' w' hown' hg hat
    have hb : Below base w w' := (Below.refl base w).grown hg hbase (fun k hk => (World.ownsRow.lt hv k hk).1)
    rcases hown'.2 with ⟨_, h0⟩ | ⟨g2, cap, cur, rfl, hrest⟩
    · omega
    · exact h _ cap w' (OwnR.snoc ⟨hl, vs, hv, hr⟩ hn' hY (fun us hus => by rw [own_unique hus hv]; exact hown') hg) hg hb
set_option maxRecDepth 20000 in
/-- Some rows more, at once. -/
theorem wpList_append_rowsR {w : World} {ops : Array Oper} {rest : List Oper} {o : Oper} {a : Act} {Q : Exit → Act → World → Prop} (hgd : o.guard = none) (s x : Operand) (t : TypeId)
    (ho : o.op = .call { callee := .builtin .append, args := #[s, x], argTypes := #[t, t] })
    (ht : Tryz.prog.underlying t = some (.slice 22)) {base lo base2 lo2 n c m c1 : Nat} {A A1 : Option Addr} {rows news : List (List Int)}
    (hs : a.eval s = .slice A n c) (hown : OwnR w base lo A n c rows) (hx : a.eval x = .slice A1 m c1) (hown2 : OwnR w base2 lo2 A1 m c1 news)
    (hll : lo ≤ lo2) (hcap : n + m ≤ 1099511627776) (hbase : base ≤ w.heap.size)
    (h : ∀ A2 c2 w', OwnR w' base lo A2 (n + m) c2 (rows ++ news) → w.grownBy w' (Value.slice A n c).ownBlock → Below base w w' → wpList Tryz.prog ops Q rest (a.put o.dst (.slice A2 (n + m) c2)) w') : wpList Tryz.prog ops Q (o :: rest) a w := by
  obtain ⟨i, hi, hz, hsize, hby⟩ := info_parts info_rowR
  have hown0 := hown
  have hown20 := hown2
  obtain ⟨hl, vs, hv, hr⟩ := hown
  obtain ⟨hl2, us, hu, hr2⟩ := hown2
  have hul : us.length = m := by have := hu.1; omega
  refine wpList_append_any w hgd s x t ho base 22 i _ 1 24 ht hi hz hsize hby rfl (by omega) (.slice A n c) n vs hs hv w.heap.size A1 m c1 us hx (Reads.of_own hu) (fun u hu2 => ?_) (by unfold maxLen; omega) (by omega) hbase ?_
  · obtain ⟨j, hj, rfl⟩ := List.getElem_of_mem hu2
    obtain ⟨B, q, d, h1, _⟩ := hr2 j (by omega)
    rw [List.getElem?_eq_getElem hj] at h1
    injection h1 with h1
    rw [h1]; rfl
  · intro v' w' hown' hg hat
    have hb : Below base w w' := (Below.refl base w).grown hg hbase (fun k hk => (World.ownsRow.lt hv k hk).1)
    have key : ∀ A2 c2, v' = .slice A2 (n + m) c2 → wpList Tryz.prog ops Q rest (a.put o.dst v') w' := fun A2 c2 e1 => by
      subst e1
      exact h A2 c2 w' (OwnR.concat hown0 hown20 hll (fun ws xs hws hxs => by rw [own_unique hws hv, own_unique hxs hu]; exact hown') hg) hg hb
    rcases hown'.2 with ⟨e1, h0⟩ | ⟨g2, cap, cur, e1, hrest⟩
    · exact key none 0 (by rw [e1, h0])
    · exact key _ cap e1
end Go.Proofs.YtmcgnpdfpfgfpaaGreatDoor
