/-
  Words for memory and contracts of small functions of the second form. Conditions: those of each lemma.
-/
import Derived.Test.YtmcgnpdfpfgfpaaGreatDoorGBas
import Derived.Test.YtmcgnpdfpfgfpaaGreatDoorGRdc
import Derived.Test.YtmcgnpdfpfgfpaaGreatDoorPlain
/-! OwnM -/
namespace Go.Proofs.YtmcgnpdfpfgfpaaGreatDoor
open Go.RowKit
set_option linter.unusedVariables false

/-- A slice of slices whose outer row the call owns; what it leads to lies from block lo on, and not in the outer row. -/
def OwnM (w : World) (base lo : Nat) (e : TypeId) (A : Option Addr) (n c : Nat) (rows : List (List Int)) : Prop :=
  rows.length = n ∧ ∃ vs, w.ownsRow base e 1 (.slice A n c) n vs ∧ ∀ j, j < n → ∃ A' n' c', vs[j]? = some (.slice A' n' c') ∧ n' ≤ 17592186044416 ∧ Ints w w.heap.size A' n' (rows.getD j []) ∧ Lo lo A' n' ∧
    (0 < n' → ∀ b off s, A' = some ⟨b, off, s⟩ → (Value.slice A n c).ownBlock ≠ some b)

section
variable {w w' : World} {base lo n c : Nat} {e : TypeId} {A : Option Addr} {rows : List (List Int)}
theorem OwnM.nil_ : OwnM w base lo e none 0 0 [] := ⟨rfl, [], World.ownsRow_nil _ _ _ _, fun j hj => absurd hj (by omega)⟩
theorem Ints.keepBlk {n' : Nat} {A' : Option Addr} {xs : List Int} (h : Ints w w.heap.size A' n' xs) (hs : w.heap.size ≤ w'.heap.size) (hk : 0 < n' → ∀ b off s, A' = some ⟨b, off, s⟩ → b < w.heap.size → w'.heap[b]? = w.heap[b]?) : Ints w' w'.heap.size A' n' xs := by
  refine ⟨h.1, fun h0 => ?_⟩
  obtain ⟨b, off, e1, hb, hc⟩ := h.2 h0
  exact ⟨b, off, e1, by omega, fun j hj => (World.cell?_of_block (hk h0 b off _ e1 hb)).trans (hc j hj)⟩

theorem OwnM.belowAll (h : OwnM w base lo e A n c rows) (hb : Below w.heap.size w w') : OwnM w' base lo e A n c rows := by
  obtain ⟨hl, vs, hown, hr⟩ := h
  refine ⟨hl, vs, ?_, fun j hj => ?_⟩
  · refine ⟨hown.1, ?_⟩
    rcases hown.2 with h0 | ⟨g, cap, cur, hv, hg, hh, r⟩
    · exact .inl h0
    · refine .inr ⟨g, cap, cur, hv, hg, ?_, r⟩
      have hlt : g < w.heap.size := by
        rcases Nat.lt_or_ge g w.heap.size with h1 | h1
        · exact h1
        · rw [Array.getElem?_eq_none h1] at hh; cases hh
      rw [hb.block g hlt]; exact hh
  · obtain ⟨A', n', c', h1, h2, h3, h4, h5⟩ := hr j hj
    exact ⟨A', n', c', h1, h2, h3.upto hb, h4, h5⟩

theorem OwnM.step {g : Nat} (h : OwnM w base lo e A n c rows) (hs : Step g w w') (hg : g < lo) (hg2 : g < base) : OwnM w' base lo e A n c rows := by
  obtain ⟨hl, vs, hown, hr⟩ := h
  refine ⟨hl, vs, ?_, fun j hj => ?_⟩
  · rcases hb : (Value.slice A n c).ownBlock with _ | k
    · exact World.ownsRow.kept hown hs (.inl hb)
    · exact World.ownsRow.kept hown hs (.inr (by rw [hb]; intro e1; injection e1 with e1; have := (World.ownsRow.lt hown k hb).1; omega))
  · obtain ⟨A', n', c', h1, h2, h3, h4, h5⟩ := hr j hj
    refine ⟨A', n', c', h1, h2, h3.keepBlk (World.grownBy.size hs) (fun h0 b off s e1 hb => World.grownBy.block hs b hb (fun e2 => ?_)), h4, h5⟩
    injection e2 with e2
    have := h4 h0 b off s e1
    omega

theorem OwnM.mat (h : OwnM w base lo e A n c rows) (hbl : lo ≤ base) : Mat w lo w.heap.size A n rows := by
  obtain ⟨hl, vs, hown, hr⟩ := h
  refine ⟨hl, fun hn => ?_⟩
  obtain ⟨g, cap, hv, hg, hlt⟩ := World.ownsRow.form hown hn
  injection hv with hA hn' hc'
  subst hA
  refine ⟨g, 0, rfl, by omega, hlt, fun j hj => ?_⟩
  obtain ⟨A', n', c', h1, h2, h3, h4, _⟩ := hr j hj
  refine ⟨A', n', c', ?_, h2, h3, h4⟩
  rw [Nat.zero_add, World.ownsRow.cellAt hown j (by omega)]
  exact h1

/-- One row more. -/
theorem OwnM.snoc {A2 : Option Addr} {c2 : Nat} {A' : Option Addr} {n' c' : Nat} {row : List Int} (h : OwnM w base lo e A n c rows) (hn' : n' ≤ 17592186044416) (hI : Ints w w.heap.size A' n' row) (hlo : Lo lo A' n')
    (hap : 0 < n' → ∀ b off s, A' = some ⟨b, off, s⟩ → (Value.slice A n c).ownBlock ≠ some b)
    (hnew : ∀ vs, w.ownsRow base e 1 (.slice A n c) n vs → w'.ownsRow base e 1 (.slice A2 (n + 1) c2) (n + 1) (vs ++ [.slice A' n' c'])) (hgr : w.grownBy w' (Value.slice A n c).ownBlock)
    (hab : (Value.slice A2 (n + 1) c2).ownBlock = (Value.slice A n c).ownBlock ∨ (Value.slice A2 (n + 1) c2).ownBlock = some w.heap.size) : OwnM w' base lo e A2 (n + 1) c2 (rows ++ [row]) := by
  obtain ⟨hl, vs, hown, hr⟩ := h
  have hvl : vs.length = n := by have := hown.1; omega
  have key : ∀ (B : Option Addr) (m d : Nat) (xs : List Int), Ints w w.heap.size B m xs → (0 < m → ∀ b off s, B = some ⟨b, off, s⟩ → (Value.slice A n c).ownBlock ≠ some b) →
      Ints w' w'.heap.size B m xs ∧ (0 < m → ∀ b off s, B = some ⟨b, off, s⟩ → (Value.slice A2 (n + 1) c2).ownBlock ≠ some b) := by
    intro B m d xs h3 h5
    refine ⟨h3.keepBlk hgr.size (fun h0 b off s e1 hb => hgr.block b hb (fun e2 => h5 h0 b off s e1 e2.symm)), fun h0 b off s e1 e2 => ?_⟩
    rcases hab with h6 | h6
    · exact h5 h0 b off s e1 (by rw [← h6, e2])
    · rw [h6] at e2
      injection e2 with e2
      subst e1
      have := h3.lt h0
      omega
  refine ⟨by simp [hl], vs ++ [.slice A' n' c'], hnew vs hown, fun j hj => ?_⟩
  rcases Nat.lt_or_ge j n with hj' | hj'
  · obtain ⟨B, m, d, h1, h2, h3, h4, h5⟩ := hr j hj'
    obtain ⟨k1, k2⟩ := key B m d _ h3 h5
    refine ⟨B, m, d, by rw [List.getElem?_append_left (by omega)]; exact h1, h2, ?_, h4, k2⟩
    rw [List.getD_eq_getElem?_getD, List.getElem?_append_left (by omega), ← List.getD_eq_getElem?_getD]; exact k1
  · obtain rfl : j = n := by omega
    obtain ⟨k1, k2⟩ := key A' n' c' _ hI hap
    refine ⟨A', n', c', by rw [List.getElem?_append_right (by omega), hvl, Nat.sub_self]; rfl, hn', ?_, hlo, k2⟩
    rw [List.getD_eq_getElem?_getD, List.getElem?_append_right (by omega), hl, Nat.sub_self]; exact k1
theorem OwnM.row (h : OwnM w base lo e A n c rows) : ∀ k, (Value.slice A n c).ownBlock = some k → base ≤ k ∧ k < w.heap.size := by
  obtain ⟨_, vs, hown, _⟩ := h
  exact World.ownsRow.lt hown
end

theorem wpList_append_row {P : Program} {w : World} {ops : Array Oper} {rest : List Oper} {o : Oper} {a : Act} {Q : Exit → Act → World → Prop} (hgd : o.guard = none) (s x : Operand) (t : TypeId)
    (ho : o.op = .call { callee := .builtin .append, args := #[s, x], argTypes := #[t, t] })
    (base lo : Nat) (e : TypeId) (i : TypeInfo) (z : Value) (ht : P.underlying t = some (.slice e)) (hi : P.info? e = some i) (hz : i.zero = some z)
    (hsize : i.size = 1) (hby : i.bytes = 24) (hzs : z.cells.size = 1)
    (A : Option Addr) (n c : Nat) (rows : List (List Int)) (hs : a.eval s = .slice A n c) (hown : OwnM w base lo e A n c rows)
    (g c2 : Nat) (A' : Option Addr) (n' c' : Nat) (row : List Int) (hx : a.eval x = .slice (some ⟨g, 0, none⟩) 1 c2) (hcell : w.cell? ⟨g, 0, none⟩ = some (.slice A' n' c')) (hglt : g < w.heap.size)
    (hn' : n' ≤ 17592186044416) (hI : Ints w w.heap.size A' n' row) (hlo : Lo lo A' n') (hap : 0 < n' → ∀ b off s, A' = some ⟨b, off, s⟩ → (Value.slice A n c).ownBlock ≠ some b)
    (N : Nat) (hN : n + 1 = N) (hcap : N ≤ 1099511627776) (hbase : base ≤ w.heap.size)
    (h : ∀ A2 c2 w', OwnM w' base lo e A2 N c2 (rows ++ [row]) → w.grownBy w' (Value.slice A n c).ownBlock → Below base w w' → wpList P ops Q rest (a.put o.dst (.slice A2 N c2)) w') : wpList P ops Q (o :: rest) a w := by
  subst hN
  obtain ⟨hl, vs, hv, hr⟩ := hown
  refine wpList_append_any w hgd s x t ho base e i z 1 24 ht hi hz hsize hby hzs (by omega) (.slice A n c) n vs hs hv w.heap.size (some ⟨g, 0, none⟩) 1 c2 [.slice A' n' c'] hx ⟨rfl, fun _ => ⟨_, rfl, hglt, fun j u hj => ?_⟩⟩ (fun u hu => by simp at hu; subst hu; rfl) (by unfold maxLen; omega) (by omega) hbase ?_
  · match j, hj with
    | 0, hj => simp at hj; subst hj; simpa [Addr.add] using hcell
  · intro v' w' hown' hg hat
    have hb : Below base w w' := (Below.refl base w).grown hg hbase (fun k hk => (World.ownsRow.lt hv k hk).1)
    rcases hown'.2 with ⟨_, h0⟩ | ⟨g2, cap, cur, rfl, hrest⟩
    · omega
    · refine h _ cap w' (OwnM.snoc (c' := c') ⟨hl, vs, hv, hr⟩ hn' hI hlo hap (fun us hus => ?_) hg hat) hg hb
      have : us = vs := by
        rcases hus.2 with ⟨e1, e2⟩ | ⟨g3, cap3, cur3, e3, _, e4, _, _, _, e5⟩
        · rcases hv.2 with ⟨e6, e7⟩ | ⟨g4, cap4, cur4, e8, _⟩
          · have h1 : us.length = 0 := by have := hus.1; omega
            have h2 : vs.length = 0 := by have := hv.1; omega
            rw [List.eq_nil_of_length_eq_zero h1, List.eq_nil_of_length_eq_zero h2]
          · rw [e1] at e8; cases e8
        · rcases hv.2 with ⟨e6, e7⟩ | ⟨g4, cap4, cur4, e8, _, e9, _, _, _, e10⟩
          · rw [e6] at e3; cases e3
          · rw [e3] at e8
            injection e8 with e11 _ e12
            injection e11 with e11
            injection e11 with e11 _ _
            subst e11
            rw [e4] at e9
            injection e9 with e9
            injection e9 with e9
            rw [← e5, ← e10, e9]
      rw [this]; exact hown'
end Go.Proofs.YtmcgnpdfpfgfpaaGreatDoor

/-! Ans -/
namespace Go.Proofs.YtmcgnpdfpfgfpaaGreatDoor
open Go.RowKit
set_option linter.unusedVariables false

theorem Blk.new1 (w : World) (o : Obj) (t : TypeId) (cs : Array Value) : Blk ((w.alloc o).alloc (.cells cs t)) (w.heap.size + 1) t cs := by
  have := Blk.new (w.alloc o) t cs
  rwa [World.size_alloc] at this

/-- The cells of answers. -/
def ansV : List Bool → List Value → List Value
  | u :: us, y :: ys => .bool u :: y :: ansV us ys
  | _, _ => []
theorem ansV_snoc (u : Bool) (y : Value) : ∀ (us : List Bool) (ys : List Value), us.length = ys.length → ansV (us ++ [u]) (ys ++ [y]) = ansV us ys ++ [.bool u, y]
  | [], [], _ => rfl
  | _ :: us, _ :: ys, h => by
    have := ansV_snoc u y us ys (by simpa using h)
    simp only [List.cons_append, ansV, this]
theorem ansV_at : ∀ (us : List Bool) (ys : List Value), us.length = ys.length → ∀ j, j < us.length → (ansV us ys)[j * 2]? = some (.bool (us.getD j false)) ∧ (ansV us ys)[j * 2 + 1]? = ys[j]?
  | [], [], _, j, hj => by simp at hj
  | u :: us, y :: ys, h, j, hj => by
    cases j with
    | zero => exact ⟨rfl, rfl⟩
    | succ j =>
      have := ansV_at us ys (by simpa using h) j (by simpa using hj)
      simp only [ansV, List.getD_cons_succ]
      rw [show (j + 1) * 2 = j * 2 + 1 + 1 by omega]
      exact this
theorem ansV_set (b : Bool) : ∀ (us : List Bool) (ys : List Value), us.length = ys.length → ∀ j, j < us.length → (ansV us ys).set (j * 2) (.bool b) = ansV (us.set j b) ys
  | [], [], _, j, hj => by simp at hj
  | u :: us, y :: ys, h, j, hj => by
    cases j with
    | zero => rfl
    | succ j =>
      have := ansV_set b us ys (by simpa using h) j (by simpa using hj)
      rw [show (j + 1) * 2 = (j * 2) + 1 + 1 by omega]
      simp only [ansV, List.set_cons_succ, this]
theorem ansV_setR (v : Value) : ∀ (us : List Bool) (ys : List Value), us.length = ys.length → ∀ j, j < us.length → (ansV us ys).set (j * 2 + 1) v = ansV us (ys.set j v)
  | [], [], _, j, hj => by simp at hj
  | u :: us, y :: ys, h, j, hj => by
    cases j with
    | zero => rfl
    | succ j =>
      have := ansV_setR v us ys (by simpa using h) j (by simpa using hj)
      rw [show (j + 1) * 2 + 1 = (j * 2 + 1) + 1 + 1 by omega]
      simp only [ansV, List.set_cons_succ, this]

theorem info_answer : (Tryz.prog.info? 85).map (fun i => (i.zero, i.size, i.bytes)) = some (some (.agg #[.bool false, .slice none 0 0]), 2, 32) := by kernel_rfl

/-- The slice of answers reads as these marks and rows; all of it lies below block B. -/
def Ans (w : World) (B : Nat) (A : Option Addr) (n : Nat) (ks : List Bool) (rows : List (List Int)) : Prop :=
  ks.length = n ∧ rows.length = n ∧ (0 < n → ∃ b off, A = some ⟨b, off, none⟩ ∧ b < B ∧ ∀ j, j < n → w.cell? ⟨b, off + j * 2, none⟩ = some (.bool (ks.getD j false)) ∧
    ∃ A' n' c', w.cell? ⟨b, off + j * 2 + 1, none⟩ = some (.slice A' n' c') ∧ n' ≤ 17592186044416 ∧ Ints w B A' n' (rows.getD j []))
section
variable {w w' : World} {B B' n : Nat} {A : Option Addr} {ks : List Bool} {rows : List (List Int)}
theorem Ans.below (h : Ans w B A n ks rows) (hb : Below B w w') : Ans w' B A n ks rows :=
  ⟨h.1, h.2.1, fun hn => by
    obtain ⟨b, off, e, hB, hc⟩ := h.2.2 hn
    refine ⟨b, off, e, hB, fun j hj => ?_⟩
    obtain ⟨h0, A', n', c', h1, h2, h3⟩ := hc j hj
    exact ⟨(hb.cell (p := ⟨b, off + j * 2, none⟩) hB).trans h0, A', n', c', (hb.cell (p := ⟨b, off + j * 2 + 1, none⟩) hB).trans h1, h2, h3.below hb⟩⟩
theorem Ans.more (h : Ans w B A n ks rows) (hB : B ≤ B') : Ans w B' A n ks rows :=
  ⟨h.1, h.2.1, fun hn => by
    obtain ⟨b, off, e, hb, hc⟩ := h.2.2 hn
    refine ⟨b, off, e, by omega, fun j hj => ?_⟩
    obtain ⟨h0, A', n', c', h1, h2, h3⟩ := hc j hj
    exact ⟨h0, A', n', c', h1, h2, h3.more hB⟩⟩
theorem Ans.upto (h : Ans w w.heap.size A n ks rows) (hb : Below w.heap.size w w') : Ans w' w'.heap.size A n ks rows := (h.below hb).more hb.size
theorem Ans.at_ (h : Ans w B A n ks rows) {j : Nat} (hj : j < n) : ∃ b off A' n' c', A = some ⟨b, off, none⟩ ∧ b < B ∧ w.cell? ⟨b, off + j * 2, none⟩ = some (.bool (ks.getD j false)) ∧ w.cell? ⟨b, off + j * 2 + 1, none⟩ = some (.slice A' n' c') ∧ n' ≤ 17592186044416 ∧ Ints w B A' n' (rows.getD j []) := by
  obtain ⟨b, off, e, hb, hc⟩ := h.2.2 (by omega)
  obtain ⟨h0, A', n', c', h1, h2, h3⟩ := hc j hj
  exact ⟨b, off, A', n', c', e, hb, h0, h1, h2, h3⟩
end

section
variable {w w' : World} {base lo n c : Nat} {A : Option Addr} {ks : List Bool} {rows : List (List Int)}
end

end Go.Proofs.YtmcgnpdfpfgfpaaGreatDoor

/-! StepA -/
namespace Go.Proofs.YtmcgnpdfpfgfpaaGreatDoor
open Go.RowKit
set_option linter.unusedVariables false

/-- An append of some numbers to a row of the call's own, in a region that draws its order. -/
theorem step_append_intsR {P : Program} {ops : Array Oper} {o : Oper} {a : Act} {w : World} {K : Act → World → Prop} {Q : Exit → Act → World → Prop} {E : Prop}
    (hg : o.guard = none) (s x : Operand) (t : TypeId) (hop : o.op = Op.call { callee := Callee.builtin Builtin.append, args := #[s, x], argTypes := #[t, t] })
    (base : Nat) (e : TypeId) (i : TypeInfo) (z : Value) (ht : P.underlying t = some (.slice e)) (hi : P.info? e = some i) (hz : i.zero = some z) (hsize : i.size = 1) (hby : i.bytes = 8) (hzs : z.cells.size = 1)
    (A1 : Option Addr) (n1 c1 : Nat) (xs : List Int) (hs : a.eval s = .slice A1 n1 c1) (hT : OwnI w base e A1 n1 c1 xs)
    (A2 : Option Addr) (m c2 : Nat) (ys : List Int) (hx : a.eval x = .slice A2 m c2) (hI : Ints w w.heap.size A2 m ys) (N : Nat) (hN : n1 + m = N) (hcap : N ≤ 17592186044416) (hbase : base ≤ w.heap.size)
    (hK : ∀ A' c' w', OwnI w' base e A' N c' (xs ++ ys) → w.grownBy w' (Value.slice A1 n1 c1).ownBlock → Below base w w' →
      ((Value.slice A' N c').ownBlock = (Value.slice A1 n1 c1).ownBlock ∨ (Value.slice A' N c').ownBlock = some w.heap.size) → K (a.put o.dst (.slice A' N c')) w') :
    if Region.wanted o (yielded ops a.tmps) = true then Oper.wp P o a w K Q else E := by
  subst hN
  refine step_append_any (P := P) w hg s x t hop base e i z 1 8 ht hi hz hsize hby hzs (by omega) (.slice A1 n1 c1) n1 (vals xs) hs hT w.heap.size A2 m c2 (vals ys) hx hI.reads (vals_one _) (by unfold maxLen; omega) (by omega) hbase ?_
  intro v' w' hown' hgr hat
  rw [show vals xs ++ vals ys = vals (xs ++ ys) by simp [vals]] at hown'
  have hb : Below base w w' := (Below.refl base w).grown hgr hbase hT.row
  rcases hown'.2 with ⟨hv, hn⟩ | ⟨g, cap, cur, hv, _⟩
  · rw [hv] at hown' hat ⊢
    rw [hn] at hown' hK
    exact hK none 0 w' hown' hgr hb hat
  · rw [hv] at hown' hat ⊢
    exact hK _ cap w' hown' hgr hb hat

end Go.Proofs.YtmcgnpdfpfgfpaaGreatDoor

/-! GrW -/
namespace Go.Proofs.YtmcgnpdfpfgfpaaGreatDoor
open Go.RowKit
set_option linter.unusedVariables false

/-- The rows' slices. -/
def grV (bs : List (Option Addr × Nat × Nat)) : List Value := bs.map fun t => .slice t.1 t.2.1 t.2.2
theorem grV_at (bs : List (Option Addr × Nat × Nat)) {j : Nat} (hj : j < bs.length) : (grV bs)[j]? = some (.slice (bs.getD j (none, 0, 0)).1 (bs.getD j (none, 0, 0)).2.1 (bs.getD j (none, 0, 0)).2.2) := by
  unfold grV
  rw [List.getElem?_map, List.getD_eq_getElem?_getD, List.getElem?_eq_getElem hj]; rfl
theorem grV_set (bs : List (Option Addr × Nat × Nat)) (j : Nat) (t : Option Addr × Nat × Nat) : grV (bs.set j t) = (grV bs).set j (.slice t.1 t.2.1 t.2.2) := by
  unfold grV
  rw [List.map_set]
theorem getD_setG {α : Type} (l : List α) (j i : Nat) (v d : α) (hj : j < l.length) : (l.set j v).getD i d = if j = i then v else l.getD i d := by
  rw [List.getD_eq_getElem?_getD, List.getElem?_set, List.getD_eq_getElem?_getD]
  by_cases h : j = i
  · rw [if_pos h, if_pos h, if_pos hj]; rfl
  · rw [if_neg h, if_neg h]

/-- A slice of growing rows. -/
structure GrW (w : World) (base g S : Nat) (bs : List (Option Addr × Nat × Nat)) (m : List (List Int)) : Prop where
  out : w.ownsRow base 22 1 (.slice (some ⟨g, 0, none⟩) S S) S (grV bs)
  lb : bs.length = S
  ln : m.length = S
  own : ∀ j, j < S → OwnI w base 3 (bs.getD j (none, 0, 0)).1 (bs.getD j (none, 0, 0)).2.1 (bs.getD j (none, 0, 0)).2.2 (m.getD j [])
  apart : ∀ i j, i < S → j < S → i ≠ j → ∀ a b, (bs.getD i (none, 0, 0)).1 = some a → (bs.getD j (none, 0, 0)).1 = some b → a.block ≠ b.block

theorem types_row : (22 : TypeId) ≠ 3 := by decide +kernel

theorem made_rows (n : Nat) : (madeCells (Value.slice none 0 0).cells (n * 1)).toList = List.replicate n (.slice none 0 0) := by
  simp only [madeCells, Value.cells]
  simp [Nat.mod_one]
  rw [List.map_const', List.length_range]

section
variable {w w' : World} {base g S : Nat} {bs : List (Option Addr × Nat × Nat)} {m : List (List Int)}
theorem GrW.start (h : w.ownsRow base 22 1 (.slice (some ⟨g, 0, none⟩) S S) S (List.replicate S (.slice none 0 0))) : GrW w base g S (List.replicate S (none, 0, 0)) (List.replicate S []) :=
  ⟨by unfold grV; rw [List.map_replicate]; exact h, List.length_replicate, List.length_replicate, fun j hj => by
    rw [List.getD_eq_getElem?_getD, List.getElem?_replicate, if_pos hj, List.getD_eq_getElem?_getD, List.getElem?_replicate, if_pos hj]
    exact OwnI.nil_, fun i j hi _ _ a b ha _ => by
    rw [List.getD_eq_getElem?_getD, List.getElem?_replicate, if_pos hi] at ha
    cases ha⟩
theorem GrW.drew (h : GrW w base g S bs m) : GrW w.drew base g S bs m := ⟨h.out, h.lb, h.ln, h.own, h.apart⟩
theorem GrW.drewN (h : GrW w base g S bs m) (k : Nat) : GrW (w.drewN k) base g S bs m := ⟨h.out, h.lb, h.ln, h.own, h.apart⟩
theorem GrW.lo (h : GrW w base g S bs m) : base ≤ g ∧ g < w.heap.size := World.ownsRow.lt h.out _ rfl
theorem OwnI.at0 {e : TypeId} {A : Option Addr} {n c : Nat} {xs : List Int} (h : OwnI w base e A n c xs) : A = none ∨ ∃ b, A = some ⟨b, 0, none⟩ := by
  rcases h.2 with ⟨hv, _⟩ | ⟨b, _, _, hv, _⟩
  · injection hv with h1; exact .inl h1
  · injection hv with h1; exact .inr ⟨b, h1⟩
theorem GrW.belowAll (h : GrW w base g S bs m) (hb : Below w.heap.size w w') : GrW w' base g S bs m :=
  ⟨by
    refine ⟨h.out.1, ?_⟩
    rcases h.out.2 with h0 | ⟨g2, cap, cur, hv, hg, hh, r⟩
    · exact .inl h0
    · refine .inr ⟨g2, cap, cur, hv, hg, ?_, r⟩
      rw [hb.block g2 (Blk.lt (t := 22) hh)]; exact hh, h.lb, h.ln, fun j hj => (h.own j hj).belowAll hb, h.apart⟩
theorem GrW.alloc (h : GrW w base g S bs m) (o : Obj) : GrW (w.alloc o) base g S bs m := h.belowAll (bbox o)
theorem GrW.at_ (h : GrW w base g S bs m) {j : Nat} (hj : j < S) : w.cell? ⟨g, j, none⟩ = some (.slice (bs.getD j (none, 0, 0)).1 (bs.getD j (none, 0, 0)).2.1 (bs.getD j (none, 0, 0)).2.2) ∧ w.frozen? ⟨g, j, none⟩ = false :=
  ⟨by rw [World.ownsRow.cellAt h.out j (by omega)]; exact grV_at bs (by rw [h.lb]; exact hj), World.ownsRow.frozenAt h.out j⟩
/-- Another block that is not of these has turned. -/
theorem GrW.step {b : Nat} (h : GrW w base g S bs m) (hs : Step b w w') (hb : b < base) : GrW w' base g S bs m :=
  ⟨World.ownsRow.kept h.out hs (.inr (fun e => by have := h.lo; have e2 : some g = some b := e; injection e2 with e2; omega)), h.lb, h.ln, fun j hj => (h.own j hj).step hs hb, h.apart⟩
/-- A row has grown, and its slice is stored. -/
theorem GrW.grown {k c' : Nat} {A' : Option Addr} {N : Nat} {l : List Int} (h : GrW w base g S bs m) (hk : k < S)
    (hg : w.grownBy w' (Value.slice (bs.getD k (none, 0, 0)).1 (bs.getD k (none, 0, 0)).2.1 (bs.getD k (none, 0, 0)).2.2).ownBlock) (hl : OwnI w' base 3 A' N c' l)
    (hab : (Value.slice A' N c').ownBlock = (Value.slice (bs.getD k (none, 0, 0)).1 (bs.getD k (none, 0, 0)).2.1 (bs.getD k (none, 0, 0)).2.2).ownBlock ∨ (Value.slice A' N c').ownBlock = some w.heap.size) :
    GrW (w'.setCell ⟨g, k, none⟩ (.slice A' N c')) base g S (bs.set k (A', N, c')) (m.set k l) := by
  have hgn : (Value.slice (bs.getD k (none, 0, 0)).1 (bs.getD k (none, 0, 0)).2.1 (bs.getD k (none, 0, 0)).2.2).ownBlock ≠ some g := fun e => by
    rcases (h.own k hk).at0 with h1 | ⟨b, h1⟩
    · rw [h1] at e; cases e
    · have ho := h.own k hk
      rw [h1] at ho e
      have e2 : some b = some g := e
      injection e2 with e2
      exact own_ne ho h.out (fun e => types_row e.symm) e2
  have hout := World.ownsRow.kept h.out hg (.inr (fun e => hgn e.symm))
  have hset : ∀ (A : Option Addr) (n c : Nat) (xs : List Int), OwnI w' base 3 A n c xs → OwnI (w'.setCell ⟨g, k, none⟩ (.slice A' N c')) base 3 A n c xs := fun A n c xs hx => by
    refine hx.kept ((Step.refl g w').set k (.slice A' N c')) ?_
    rcases hx.at0 with h1 | ⟨b, h1⟩
    · subst h1; exact .inl rfl
    · subst h1
      refine .inr (fun e => ?_)
      have e2 : some b = some g := e
      injection e2 with e2
      exact own_ne hx hout (fun e => types_row e.symm) e2
  have hgl := h.lo
  refine ⟨?_, by rw [List.length_set]; exact h.lb, by rw [List.length_set]; exact h.ln, fun j hj => ?_, fun i j hi hj hij a b ha hb => ?_⟩
  · rw [grV_set]
    exact (World.ownsRow.stored hout k (.slice A' N c')).1
  · rw [getD_setG _ _ _ _ _ (by rw [h.lb]; exact hk), getD_setG _ _ _ _ _ (by rw [h.ln]; exact hk)]
    by_cases hkj : k = j
    · rw [if_pos hkj, if_pos hkj]; exact hset _ _ _ _ hl
    · rw [if_neg hkj, if_neg hkj]
      refine hset _ _ _ _ ((h.own j hj).kept hg ?_)
      rcases (h.own j hj).at0 with h1 | ⟨b, h1⟩
      · rw [h1]; exact .inl rfl
      · rw [h1]
        refine .inr (fun e => ?_)
        rcases (h.own k hk).at0 with h2 | ⟨b2, h2⟩
        · rw [h2] at e; cases e
        · rw [h2] at e
          have e2 : some b = some b2 := e
          injection e2 with e2
          exact h.apart j k hj hk (fun e => hkj e.symm) _ _ h1 h2 e2
  · have key : ∀ j, j < S → k ≠ j → ∀ a b, A' = some a → (bs.getD j (none, 0, 0)).1 = some b → a.block ≠ b.block := fun j hj hkj a b ha hb e => by
      rcases hab with h3 | h3
      · rw [ha] at h3
        rcases (h.own k hk).at0 with h2 | ⟨b2, h2⟩
        · rw [h2] at h3; cases h3
        · rw [h2] at h3
          have e2 : some a.block = some b2 := h3
          injection e2 with e2
          exact h.apart k j hk hj hkj _ _ h2 hb (by rw [← e2]; exact e)
      · rw [ha] at h3
        have e2 : some a.block = some w.heap.size := h3
        injection e2 with e2
        have hlt := (World.ownsRow.lt (h.own j hj) b.block (by rw [hb]; rfl)).2
        omega
    rw [getD_setG _ _ _ _ _ (by rw [h.lb]; exact hk)] at ha hb
    by_cases h1 : k = i
    · rw [if_pos h1] at ha
      rw [if_neg (fun e => hij (by rw [← h1, e]))] at hb
      exact key j hj (fun e => hij (by rw [← h1, e])) a b ha hb
    · rw [if_neg h1] at ha
      by_cases h2 : k = j
      · rw [if_pos h2] at hb
        exact fun e => key i hi h1 b a hb ha e.symm
      · rw [if_neg h2] at hb
        exact h.apart i j hi hj hij a b ha hb
theorem GrW.lower {base' : Nat} (h : GrW w base g S bs m) (hb : base' ≤ base) : GrW w base' g S bs m :=
  ⟨⟨h.out.1, by
    rcases h.out.2 with h0 | ⟨g, cap, cur, hv, hg, r⟩
    · exact .inl h0
    · exact .inr ⟨g, cap, cur, hv, Nat.le_trans hb hg, r⟩⟩, h.lb, h.ln, fun j hj => (h.own j hj).base hb, h.apart⟩
/-- The place of a row that has grown. -/
theorem GrW.at_grown {k : Nat} (h : GrW w base g S bs m) (hk : k < S)
    (hg : w.grownBy w' (Value.slice (bs.getD k (none, 0, 0)).1 (bs.getD k (none, 0, 0)).2.1 (bs.getD k (none, 0, 0)).2.2).ownBlock) :
    w'.cell? ⟨g, k, none⟩ = some (.slice (bs.getD k (none, 0, 0)).1 (bs.getD k (none, 0, 0)).2.1 (bs.getD k (none, 0, 0)).2.2) ∧ w'.frozen? ⟨g, k, none⟩ = false := by
  have hgn : (Value.slice (bs.getD k (none, 0, 0)).1 (bs.getD k (none, 0, 0)).2.1 (bs.getD k (none, 0, 0)).2.2).ownBlock ≠ some g := fun e => by
    rcases (h.own k hk).at0 with h1 | ⟨b, h1⟩
    · rw [h1] at e; cases e
    · have ho := h.own k hk
      rw [h1] at ho e
      have e2 : some b = some g := e
      injection e2 with e2
      exact own_ne ho h.out (fun e => types_row e.symm) e2
  have hout := World.ownsRow.kept h.out hg (.inr (fun e => hgn e.symm))
  exact ⟨by rw [World.ownsRow.cellAt hout k (by omega)]; exact grV_at bs (by rw [h.lb]; exact hk), World.ownsRow.frozenAt hout k⟩
end
end Go.Proofs.YtmcgnpdfpfgfpaaGreatDoor

/-! AnW -/
namespace Go.Proofs.YtmcgnpdfpfgfpaaGreatDoor
open Go.RowKit
set_option linter.unusedVariables false

theorem types_ans : (85 : TypeId) ≠ 3 := by decide +kernel
theorem grV_len (bs : List (Option Addr × Nat × Nat)) : (grV bs).length = bs.length := by simp [grV]

/-- Answers, each with a row of its own. -/
structure AnW (w : World) (base : Nat) (A : Option Addr) (n c : Nat) (ks : List Bool) (bs : List (Option Addr × Nat × Nat)) (m : List (List Int)) : Prop where
  out : w.ownsRow base 85 2 (.slice A n c) n (ansV ks (grV bs))
  lk : ks.length = n
  lb : bs.length = n
  ln : m.length = n
  own : ∀ j, j < n → OwnI w base 3 (bs.getD j (none, 0, 0)).1 (bs.getD j (none, 0, 0)).2.1 (bs.getD j (none, 0, 0)).2.2 (m.getD j [])
  apart : ∀ i j, i < n → j < n → i ≠ j → ∀ a b, (bs.getD i (none, 0, 0)).1 = some a → (bs.getD j (none, 0, 0)).1 = some b → a.block ≠ b.block

section
variable {w w' : World} {base n c : Nat} {A : Option Addr} {ks : List Bool} {bs : List (Option Addr × Nat × Nat)} {m : List (List Int)}
theorem AnW.nil_ : AnW w base none 0 0 [] [] [] := ⟨World.ownsRow_nil _ _ _ _, rfl, rfl, rfl, fun j hj => absurd hj (by omega), fun i j hi => absurd hi (by omega)⟩
theorem AnW.belowAll (h : AnW w base A n c ks bs m) (hb : Below w.heap.size w w') : AnW w' base A n c ks bs m :=
  ⟨⟨h.out.1, by
    rcases h.out.2 with h0 | ⟨g2, cap, cur, hv, hg, hh, r⟩
    · exact .inl h0
    · refine .inr ⟨g2, cap, cur, hv, hg, ?_, r⟩
      rw [hb.block g2 (Blk.lt (t := 85) hh)]; exact hh⟩, h.lk, h.lb, h.ln, fun j hj => (h.own j hj).belowAll hb, h.apart⟩
theorem AnW.alloc (h : AnW w base A n c ks bs m) (o : Obj) : AnW (w.alloc o) base A n c ks bs m := h.belowAll (bbox o)
theorem AnW.form (h : AnW w base A n c ks bs m) (hn : 0 < n) : ∃ g, A = some ⟨g, 0, none⟩ ∧ base ≤ g ∧ g < w.heap.size := by
  obtain ⟨g, cap, hv, h1, h2⟩ := World.ownsRow.form h.out hn
  injection hv with hA
  exact ⟨g, hA, h1, h2⟩
theorem AnW.at_ {g j : Nat} (h : AnW w base (some ⟨g, 0, none⟩) n c ks bs m) (hj : j < n) :
    w.cell? ⟨g, j * 2, none⟩ = some (.bool (ks.getD j false)) ∧ w.cell? ⟨g, j * 2 + 1, none⟩ = some (.slice (bs.getD j (none, 0, 0)).1 (bs.getD j (none, 0, 0)).2.1 (bs.getD j (none, 0, 0)).2.2) ∧ ∀ t, w.frozen? ⟨g, t, none⟩ = false := by
  have hs := ansV_at ks (grV bs) (by rw [grV_len, h.lk, h.lb]) j (by rw [h.lk]; exact hj)
  exact ⟨(World.ownsRow.cellAt h.out (j * 2) (by omega)).trans hs.1, (World.ownsRow.cellAt h.out (j * 2 + 1) (by omega)).trans (hs.2.trans (grV_at bs (by rw [h.lb]; exact hj))), fun t => World.ownsRow.frozenAt h.out t⟩
theorem AnW.step {b : Nat} (h : AnW w base A n c ks bs m) (hs : Step b w w') (hb : b < base) : AnW w' base A n c ks bs m :=
  ⟨World.ownsRow.kept h.out hs (.inr (fun e => by have := (World.ownsRow.lt h.out b e).1; omega)), h.lk, h.lb, h.ln, fun j hj => (h.own j hj).step hs hb, h.apart⟩
theorem AnW.lower {base' : Nat} (h : AnW w base A n c ks bs m) (hb : base' ≤ base) : AnW w base' A n c ks bs m :=
  ⟨⟨h.out.1, by
    rcases h.out.2 with h0 | ⟨g, cap, cur, hv, hg, r⟩
    · exact .inl h0
    · exact .inr ⟨g, cap, cur, hv, Nat.le_trans hb hg, r⟩⟩, h.lk, h.lb, h.ln, fun j hj => (h.own j hj).base hb, h.apart⟩
/-- Another block, of another kind, has turned. -/
theorem AnW.other {b : Nat} (h : AnW w base A n c ks bs m) (hs : Step b w w') (h1 : (Value.slice A n c).ownBlock ≠ some b) (h2 : ∀ j, j < n → ∀ a, (bs.getD j (none, 0, 0)).1 = some a → a.block ≠ b) : AnW w' base A n c ks bs m :=
  ⟨World.ownsRow.kept h.out hs (.inr h1), h.lk, h.lb, h.ln, fun j hj => by
    refine (h.own j hj).kept hs ?_
    rcases h3 : (bs.getD j (none, 0, 0)).1 with _ | a
    · exact .inl rfl
    · refine .inr (fun e => h2 j hj a h3 ?_)
      have e2 : some a.block = some b := e
      injection e2, h.apart⟩
/-- A number in a row. -/
theorem AnW.setRow {g k b x : Nat} {y : Int} (h : AnW w base (some ⟨g, 0, none⟩) n c ks bs m) (hk : k < n) (hb : (bs.getD k (none, 0, 0)).1 = some ⟨b, 0, none⟩) :
    AnW (w.setCell ⟨b, x, none⟩ (.int .i64 y)) base (some ⟨g, 0, none⟩) n c ks bs (m.set k ((m.getD k []).set x y)) := by
  have hs : Step b w (w.setCell ⟨b, x, none⟩ (.int .i64 y)) := (Step.refl b w).set x _
  have hok := h.own k hk
  rw [hb] at hok
  have hgb : g ≠ b := own_ne h.out hok types_ans
  refine ⟨World.ownsRow.kept h.out hs (.inr (fun e => hgb (by have e2 : some g = some b := e; injection e2))), h.lk, h.lb, by rw [List.length_set]; exact h.ln, fun j hj => ?_, h.apart⟩
  rw [getD_setG _ _ _ _ _ (by rw [h.ln]; exact hk)]
  by_cases hkj : k = j
  · subst hkj
    rw [if_pos rfl, hb]
    exact hok.stored x y
  · rw [if_neg hkj]
    refine (h.own j hj).kept hs ?_
    rcases h3 : (bs.getD j (none, 0, 0)).1 with _ | a
    · exact .inl rfl
    · refine .inr (fun e => h.apart k j hk hj hkj _ _ hb h3 ?_)
      have e2 : some a.block = some b := e
      injection e2 with e2
      exact e2.symm
/-- An answer is taken away. -/
theorem AnW.silent {g k : Nat} (h : AnW w base (some ⟨g, 0, none⟩) n c ks bs m) (hk : k < n) :
    AnW ((w.setCell ⟨g, k * 2, none⟩ (.bool false)).setCell ⟨g, k * 2 + 1, none⟩ (.slice none 0 0)) base (some ⟨g, 0, none⟩) n c (ks.set k false) (bs.set k (none, 0, 0)) (m.set k []) := by
  have o1 := (World.ownsRow.stored h.out (k * 2) (.bool false)).1
  rw [ansV_set false ks (grV bs) (by rw [grV_len, h.lk, h.lb]) k (by rw [h.lk]; exact hk)] at o1
  have o2 := (World.ownsRow.stored o1 (k * 2 + 1) (.slice none 0 0)).1
  rw [ansV_setR _ (ks.set k false) (grV bs) (by rw [grV_len, List.length_set, h.lk, h.lb]) k (by rw [List.length_set, h.lk]; exact hk), ← grV_set bs k (none, 0, 0)] at o2
  have hs : Step g w ((w.setCell ⟨g, k * 2, none⟩ (.bool false)).setCell ⟨g, k * 2 + 1, none⟩ (.slice none 0 0)) := ((Step.refl g w).set _ _).set _ _
  have hlb : k < bs.length := by rw [h.lb]; exact hk
  refine ⟨o2, by rw [List.length_set]; exact h.lk, by rw [List.length_set]; exact h.lb, by rw [List.length_set]; exact h.ln, fun j hj => ?_, fun i j hi hj hij a b ha hb => ?_⟩
  · rw [getD_setG _ _ _ _ _ hlb, getD_setG _ _ _ _ _ (by rw [h.ln]; exact hk)]
    by_cases hkj : k = j
    · rw [if_pos hkj, if_pos hkj]; exact OwnI.nil_
    · rw [if_neg hkj, if_neg hkj]
      refine (h.own j hj).kept hs ?_
      rcases h3 : (bs.getD j (none, 0, 0)).1 with _ | a
      · exact .inl rfl
      · refine .inr (fun e => ?_)
        have e2 : some a.block = some g := e
        injection e2 with e2
        have h4 := h.own j hj
        rcases h4.at0 with h5 | ⟨b, h5⟩
        · rw [h5] at h3; cases h3
        · rw [h5] at h3 h4
          injection h3 with h3
          rw [← h3] at e2
          exact own_ne h.out h4 types_ans e2.symm
  · rw [getD_setG _ _ _ _ _ hlb] at ha hb
    by_cases h1 : k = i
    · rw [if_pos h1] at ha; cases ha
    · rw [if_neg h1] at ha
      by_cases h2 : k = j
      · rw [if_pos h2] at hb; cases hb
      · rw [if_neg h2] at hb
        exact h.apart i j hi hj hij a b ha hb
/-- What they read as. -/
theorem AnW.ans (h : AnW w base A n c ks bs m) (hbd : ∀ j, j < n → (m.getD j []).length ≤ 17592186044416) : Ans w w.heap.size A n ks m := by
  refine ⟨h.lk, h.ln, fun hn => ?_⟩
  obtain ⟨g, rfl, _, hg⟩ := h.form hn
  refine ⟨g, 0, rfl, hg, fun j hj => ?_⟩
  obtain ⟨h1, h2, _⟩ := h.at_ hj
  rw [Nat.zero_add]
  exact ⟨h1, _, _, _, h2, by rw [← (h.own j hj).len]; exact hbd j hj, (h.own j hj).ints⟩
end

/-- One more answer. -/
theorem wpList_append_anw {w : World} {ops : Array Oper} {rest : List Oper} {o : Oper} {a : Act} {Q : Exit → Act → World → Prop} (hgd : o.guard = none) (s x : Operand) (t : TypeId)
    (ho : o.op = .call { callee := .builtin .append, args := #[s, x], argTypes := #[t, t] })
    (ht : Tryz.prog.underlying t = some (.slice 85)) (base : Nat) (A : Option Addr) (n c : Nat) (ks : List Bool) (bs : List (Option Addr × Nat × Nat)) (m : List (List Int)) (hs : a.eval s = .slice A n c) (hown : AnW w base A n c ks bs m)
    (b : Nat) (c2 : Nat) (u : Bool) (A' : Option Addr) (n' c' : Nat) (row : List Int) (hx : a.eval x = .slice (some ⟨b, 0, none⟩) 1 c2) (h0 : w.cell? ⟨b, 0, none⟩ = some (.bool u)) (h1 : w.cell? ⟨b, 1, none⟩ = some (.slice A' n' c'))
    (hI : OwnI w base 3 A' n' c' row) (hap : ∀ j, j < n → ∀ a d, A' = some a → (bs.getD j (none, 0, 0)).1 = some d → a.block ≠ d.block) (hn : n ≤ 1000000) (hbase : base ≤ w.heap.size)
    (h : ∀ A2 c2 w', AnW w' base A2 (n + 1) c2 (ks ++ [u]) (bs ++ [(A', n', c')]) (m ++ [row]) → Below base w w' → wpList Tryz.prog ops Q rest (a.put o.dst (.slice A2 (n + 1) c2)) w') : wpList Tryz.prog ops Q (o :: rest) a w := by
  obtain ⟨i, hi, hz, hsize, hby⟩ := info_parts info_answer
  refine wpList_append_any w hgd s x t ho base 85 i _ 2 32 ht hi hz hsize hby rfl (by omega) (.slice A n c) n (ansV ks (grV bs)) hs hown.out (b + 1) (some ⟨b, 0, none⟩) 1 c2 [.bool u, .slice A' n' c'] hx
    ⟨rfl, fun _ => ⟨_, rfl, Nat.lt_succ_self b, fun j v hj => ?_⟩⟩ (fun v hv => by
      simp only [List.mem_cons, List.not_mem_nil, or_false] at hv
      rcases hv with rfl | rfl <;> rfl) (by unfold maxLen; omega) (by omega) hbase ?_
  · match j, hj with
    | 0, hj =>
      simp at hj; subst hj; exact h0
    | 1, hj =>
      simp at hj; subst hj; exact h1
    | j + 2, hj => simp at hj
  · intro v' w' hown' hg hat
    rw [← ansV_snoc u _ ks (grV bs) (by rw [grV_len, hown.lk, hown.lb]), show grV bs ++ [Value.slice A' n' c'] = grV (bs ++ [(A', n', c')]) by simp [grV]] at hown'
    have hb : Below base w w' := (Below.refl base w).grown hg hbase (fun k hk => (World.ownsRow.lt hown.out k hk).1)
    have key : ∀ (B : Option Addr) (k d : Nat) (xs : List Int), OwnI w base 3 B k d xs → OwnI w' base 3 B k d xs := fun B k d xs h3 => by
      refine h3.kept hg ?_
      rcases h3.at0 with h4 | ⟨b2, h4⟩
      · subst h4; exact .inl rfl
      · subst h4
        refine .inr (fun e => ?_)
        have h5 := hown.out
        rcases hA : A with _ | ad
        · rw [hA] at e; cases e
        · rcases h5.2 with ⟨h6, _⟩ | ⟨g3, cap3, cur3, h6, _⟩
          · injection h6 with h6; rw [hA] at h6; cases h6
          · have h7 := h6
            injection h6 with h6
            rw [h6] at e h5
            have e2 : some b2 = some g3 := e
            injection e2 with e2
            exact own_ne h5 h3 types_ans e2.symm
    rcases hown'.2 with ⟨hv, hn0⟩ | ⟨g, cap, cur, hv2, _⟩
    · omega
    · rw [hv2] at hown' ⊢
      refine h _ cap w' ⟨hown', by simp [hown.lk], by simp [hown.lb], by simp [hown.ln], fun j hj => ?_, fun i j hi hj hij a d ha hd => ?_⟩ hb
      · rcases Nat.lt_or_ge j n with hj' | hj'
        · rw [List.getD_eq_getElem?_getD, List.getElem?_append_left (by rw [hown.lb]; exact hj'), ← List.getD_eq_getElem?_getD, List.getD_eq_getElem?_getD (l := m ++ _), List.getElem?_append_left (by rw [hown.ln]; exact hj'), ← List.getD_eq_getElem?_getD]
          exact key _ _ _ _ (hown.own j hj')
        · obtain rfl : j = n := by omega
          rw [List.getD_eq_getElem?_getD, List.getElem?_append_right (by rw [hown.lb]; omega), hown.lb, Nat.sub_self, List.getD_eq_getElem?_getD (l := m ++ _), List.getElem?_append_right (by rw [hown.ln]; omega), hown.ln, Nat.sub_self]
          exact key _ _ _ _ hI
      · have at1 : ∀ j, j < n → (bs ++ [(A', n', c')]).getD j (none, 0, 0) = bs.getD j (none, 0, 0) := fun j hj => by
          rw [List.getD_eq_getElem?_getD, List.getElem?_append_left (by rw [hown.lb]; exact hj), ← List.getD_eq_getElem?_getD]
        have at2 : (bs ++ [(A', n', c')]).getD n (none, 0, 0) = (A', n', c') := by
          rw [List.getD_eq_getElem?_getD, List.getElem?_append_right (by rw [hown.lb]; omega), hown.lb, Nat.sub_self]; rfl
        rcases Nat.lt_or_ge i n with hi' | hi'
        · rw [at1 i hi'] at ha
          rcases Nat.lt_or_ge j n with hj' | hj'
          · rw [at1 j hj'] at hd
            exact hown.apart i j hi' hj' hij a d ha hd
          · obtain rfl : j = n := by omega
            rw [at2] at hd
            exact fun e => hap i hi' d a hd ha e.symm
        · obtain rfl : i = n := by omega
          rw [at2] at ha
          rw [at1 j (by omega)] at hd
          exact hap j (by omega) a d ha hd
end Go.Proofs.YtmcgnpdfpfgfpaaGreatDoor

/-! MAnsA -/
namespace Go.Proofs.YtmcgnpdfpfgfpaaGreatDoor
open Go.RowKit
set_option linter.unusedVariables false

/-- How many marks are set. -/
def cntT : List Bool → Nat
  | [] => 0
  | b :: l => (if b = true then 1 else 0) + cntT l
theorem cntT_le : ∀ l : List Bool, cntT l ≤ l.length
  | [] => Nat.le_refl _
  | b :: l => by
    have := cntT_le l
    simp only [cntT, List.length_cons]
    split <;> omega
theorem cntT_set_false : ∀ (l : List Bool) (k : Nat), cntT l ≤ cntT (l.set k false) + 1
  | [], _ => Nat.zero_le _
  | b :: l, 0 => by simp only [List.set_cons_zero, cntT]; split <;> omega
  | b :: l, k + 1 => by
    have := cntT_set_false l k
    simp only [List.set_cons_succ, cntT]
    omega
theorem cntT_set_true : ∀ (l : List Bool) (k : Nat), cntT (l.set k true) ≤ cntT l + 1
  | [], _ => Nat.zero_le _
  | b :: l, 0 => by simp only [List.set_cons_zero, cntT]; split <;> omega
  | b :: l, k + 1 => by
    have := cntT_set_true l k
    simp only [List.set_cons_succ, cntT]
    omega
theorem cntT_yes : ∀ n : Nat, cntT (List.replicate n true) = n
  | 0 => rfl
  | n + 1 => by
    have := cntT_yes n
    simp only [List.replicate_succ, cntT, this]
    simp; omega
theorem cntT_no : ∀ n : Nat, cntT (List.replicate n false) = 0
  | 0 => rfl
  | n + 1 => by
    have := cntT_no n
    simp only [List.replicate_succ, cntT, this]
    simp
theorem cntT_take : ∀ (l : List Bool) (j : Nat), j < l.length → cntT (l.take (j + 1)) = cntT (l.take j) + if l.getD j false = true then 1 else 0
  | b :: l, 0, _ => by simp [cntT]
  | b :: l, j + 1, h => by
    have := cntT_take l j (by simpa using h)
    simp only [List.take_succ_cons, cntT, this, List.getD_cons_succ]
    omega

theorem types_bool : (4 : TypeId) ≠ 3 ∧ (4 : TypeId) ≠ 85 := by decide +kernel
theorem info_bool : (Tryz.prog.info? 4).map (fun i => (i.zero, i.size, i.bytes)) = some (some (.bool false), 1, 1) := by kernel_rfl
theorem made_bools (n : Nat) : (madeCells (Value.bool false).cells (n * 1)).toList = (List.replicate n false).map .bool := by
  simp only [madeCells, Value.cells]
  simp [Nat.mod_one]
  rw [List.map_const', List.length_range]

/-- A row of marks. -/
def BlW (w : World) (base g S : Nat) (bd : List Bool) : Prop := w.ownsRow base 4 1 (.slice (some ⟨g, 0, none⟩) S S) S (bd.map .bool)
section
variable {w w' : World} {base g S : Nat} {bd : List Bool}
theorem BlW.len (h : BlW w base g S bd) : bd.length = S := by have := h.1; simpa using this
theorem BlW.lt (h : BlW w base g S bd) : base ≤ g ∧ g < w.heap.size := World.ownsRow.lt h g rfl
theorem BlW.at_ (h : BlW w base g S bd) {k : Nat} (hk : k < S) : w.cell? ⟨g, k, none⟩ = some (.bool (bd.getD k false)) ∧ w.frozen? ⟨g, k, none⟩ = false := by
  have hl := h.len
  refine ⟨?_, World.ownsRow.frozenAt h k⟩
  rw [World.ownsRow.cellAt h k (by omega), List.getElem?_map, List.getElem?_eq_getElem (by omega), List.getD_eq_getElem?_getD, List.getElem?_eq_getElem (by omega)]; rfl
theorem BlW.set (h : BlW w base g S bd) (k : Nat) (v : Bool) : BlW (w.setCell ⟨g, k, none⟩ (.bool v)) base g S (bd.set k v) := by
  have := (World.ownsRow.stored h k (.bool v)).1
  unfold BlW
  rw [List.map_set]
  exact this
theorem BlW.step {b : Nat} (h : BlW w base g S bd) (hs : Step b w w') (hb : b ≠ g) : BlW w' base g S bd := World.ownsRow.kept h hs (.inr (fun e => hb (by have e2 : some g = some b := e; injection e2 with e2; exact e2.symm)))
theorem BlW.belowAll (h : BlW w base g S bd) (hb : Below w.heap.size w w') : BlW w' base g S bd :=
  ⟨h.1, by
    rcases h.2 with h0 | ⟨g2, cap, cur, hv, hg, hh, r⟩
    · exact .inl h0
    · refine .inr ⟨g2, cap, cur, hv, hg, ?_, r⟩
      rw [hb.block g2 (Blk.lt (t := 4) hh)]; exact hh⟩
theorem BlW.ne_own {b base2 n c : Nat} {xs : List Int} (h : BlW w base g S bd) (h2 : OwnI w base2 3 (some ⟨b, 0, none⟩) n c xs) : b ≠ g := (own_ne h h2 types_bool.1).symm
/-- Answers stay where a mark is set. -/
theorem AnW.mark {base2 n c k : Nat} {A : Option Addr} {ks : List Bool} {bs : List (Option Addr × Nat × Nat)} {m : List (List Int)} {v : Value} (h : AnW w base2 A n c ks bs m) (hB : BlW w base g S bd) : AnW (w.setCell ⟨g, k, none⟩ v) base2 A n c ks bs m := by
  refine h.other ((Step.refl g w).set k v) (fun e => ?_) fun j hj a ha e => ?_
  · rcases h.out.2 with ⟨hv, _⟩ | ⟨g3, cap3, cur3, hv, _⟩
    · rw [hv] at e; cases e
    · have h5 := h.out
      injection hv with hv
      rw [hv] at e h5
      have e2 : some g3 = some g := e
      injection e2 with e2
      exact own_ne hB h5 types_bool.2 e2.symm
  · have h4 := h.own j hj
    rcases h4.at0 with h5 | ⟨b, h5⟩
    · rw [h5] at ha; cases ha
    · rw [h5] at ha h4
      injection ha with ha
      rw [← ha] at e
      exact hB.ne_own h4 e
end
end Go.Proofs.YtmcgnpdfpfgfpaaGreatDoor

/-! Col0 -/
namespace Go.Proofs.YtmcgnpdfpfgfpaaGreatDoor
set_option linter.unusedVariables false

theorem knF_cnt : ∀ (vs : List Int) (bs : List Bool) (i : Int), vs.length = bs.length → (knF i vs bs).length = cntT bs
  | [], [], _, _ => rfl
  | v :: vs, b :: bs, i, h => by
    have := knF_cnt vs bs (i + 1) (by simpa using h)
    cases b
    · simp [knF, cntT, this]
    · simp [knF, cntT, this]; omega
theorem knL_cnt {vs : List Int} {bs : List Bool} (h : vs.length = bs.length) : (knL vs bs).length = cntT bs := knF_cnt vs bs 1 h
theorem wrF_cnt {p : Int} {P : List Int} : ∀ (vs : List Int) (bs bd : List Bool) (i : Int), vs.length = bs.length → bd.length = bs.length → (∀ j, j < vs.length → bd.getD j false = false → bs.getD j false = true → vs.getD j 0 = valueP p (i + j) P) → (wrL p P (knF i vs bs)).length ≤ cntT bd
  | [], [], _, _, _, _, _ => Nat.zero_le _
  | v :: vs, b :: bs, d :: bd, i, h, hd, hv => by
    have ih := wrF_cnt (p := p) (P := P) vs bs bd (i + 1) (by simpa using h) (by simpa using hd) (fun j hj h1 h2 => by
      have := hv (j + 1) (by simpa using hj) h1 h2
      rw [List.getD_cons_succ] at this
      rw [this, show i + 1 + (j : Int) = i + ((j + 1 : Nat) : Int) by omega])
    unfold wrL at ih
    rw [List.length_map] at ih
    unfold wrL
    rw [List.length_map]
    cases b
    · show ((knF (i + 1) vs bs).filter _).length ≤ _
      simp only [cntT]
      omega
    · show (((i, v) :: knF (i + 1) vs bs).filter _).length ≤ _
      rw [List.filter_cons]
      cases d
      · have h0 := hv 0 (by simp) rfl rfl
        have h1 : v = valueP p i P := by simpa using h0
        rw [if_neg (by simp [h1])]
        simp only [cntT]
        omega
      · simp only [cntT]
        split
        · rw [List.length_cons, if_pos True.intro]; omega
        · rw [if_pos True.intro]; omega
theorem wrL_cnt {p : Int} {P vs : List Int} {bs bd : List Bool} (h : vs.length = bs.length) (hd : bd.length = bs.length) (hv : ∀ j, j < vs.length → bd.getD j false = false → bs.getD j false = true → vs.getD j 0 = valueP p ((j : Int) + 1) P) : (wrL p P (knL vs bs)).length ≤ cntT bd :=
  wrF_cnt vs bs bd 1 h hd (fun j hj h1 h2 => by rw [hv j hj h1 h2, Int.add_comm])
theorem colP_at (rows : List (List Int)) (c : Nat) {j : Nat} (hj : j < rows.length) : (colP rows c).getD j 0 = (rows.getD j []).getD c 0 := by
  unfold colP
  rw [List.getD_eq_getElem?_getD, List.getElem?_map, List.getElem?_eq_getElem hj, List.getD_eq_getElem?_getD (l := rows), List.getElem?_eq_getElem hj]; rfl
/-- The values of a column are elements, where they are known. -/
theorem knOk_col {p : Int} {rows : List (List Int)} {ks : List Bool} {N W c : Nat} (hk : ks.length = N) (hr : rows.length = N) (hc : c < W) (hel : ∀ i, i < N → ks.getD i false = true → (rows.getD i []).length = W ∧ allP p (rows.getD i []) = true) : knOk p (colP rows c) ks := fun e he => by
  obtain ⟨j, hj, hb, rfl⟩ := knF_of _ _ _ _ he
  rw [colP_len] at hj
  show 0 ≤ (colP rows c).getD j 0 ∧ (colP rows c).getD j 0 < p
  rw [colP_at rows c hj]
  obtain ⟨h1, h2⟩ := hel j (by omega) hb
  exact allP_getD h2 (by omega)
end Go.Proofs.YtmcgnpdfpfgfpaaGreatDoor
