/-
  Words for memory, for elements of any kind: rows, slices of rows, slices of rows that grow; no program in sight. No conditions.
-/
import Derived.Test.YtmcgnpdfpfgfpaaGreatDoorGMem
namespace Go.Proofs.YtmcgnpdfpfgfpaaGreatDoor
open Go.RowKit
set_option linter.unusedVariables false

/-- The slice reads as these cells, k to an element; it lies from block lo on, and below block B. -/
def RowV (w : World) (lo B k : Nat) (A : Option Addr) (n : Nat) (vs : List Value) : Prop :=
  vs.length = n * k ∧ (0 < n → ∃ b off, A = some ⟨b, off, none⟩ ∧ lo ≤ b ∧ b < B ∧ ∀ j u, vs[j]? = some u → w.cell? ⟨b, off + j, none⟩ = some u)

section
variable {w w' : World} {lo lo' B B' k n : Nat} {A : Option Addr} {vs : List Value}
theorem RowV.nil_ : RowV w lo B k A 0 [] := ⟨by simp, fun h => absurd h (by omega)⟩
theorem RowV.keep (h : RowV w lo B k A n vs) (hk : ∀ p : Addr, lo ≤ p.block → p.block < B → w'.cell? p = w.cell? p) : RowV w' lo B k A n vs :=
  ⟨h.1, fun hn => by
    obtain ⟨b, off, e, hl, hb, hc⟩ := h.2 hn
    exact ⟨b, off, e, hl, hb, fun j u hu => (hk _ hl hb).trans (hc j u hu)⟩⟩
theorem RowV.more (h : RowV w lo B k A n vs) (hB : B ≤ B') : RowV w lo B' k A n vs :=
  ⟨h.1, fun hn => by
    obtain ⟨b, off, e, hl, hb, hc⟩ := h.2 hn
    exact ⟨b, off, e, hl, by omega, hc⟩⟩
theorem RowV.low (h : RowV w lo B k A n vs) (hB : lo' ≤ lo) : RowV w lo' B k A n vs :=
  ⟨h.1, fun hn => by
    obtain ⟨b, off, e, hl, hb, hc⟩ := h.2 hn
    exact ⟨b, off, e, by omega, hb, hc⟩⟩
theorem RowV.below (h : RowV w lo B k A n vs) (hb : Below B w w') : RowV w' lo B k A n vs := h.keep fun _ _ hp => hb.cell hp
theorem RowV.upto {w0 : World} (h : RowV w0 lo w0.heap.size k A n vs) (hb : Below w0.heap.size w0 w') : RowV w' lo w'.heap.size k A n vs := (h.below hb).more hb.size
theorem RowV.step {g : Nat} (h : RowV w lo w.heap.size k A n vs) (hs : Step g w w') (hg : g < lo) : RowV w' lo w'.heap.size k A n vs :=
  (h.keep fun p hl hb => World.cell?_of_block (World.grownBy.block hs p.block hb (fun e => by injection e; omega))).more (World.grownBy.size hs)
theorem RowV.keepBlk (h : RowV w lo w.heap.size k A n vs) (hs : w.heap.size ≤ w'.heap.size) (hk : 0 < n → ∀ b off s, A = some ⟨b, off, s⟩ → b < w.heap.size → w'.heap[b]? = w.heap[b]?) : RowV w' lo w'.heap.size k A n vs := by
  refine ⟨h.1, fun h0 => ?_⟩
  obtain ⟨b, off, e1, hl, hb, hc⟩ := h.2 h0
  exact ⟨b, off, e1, hl, by omega, fun j u hu => (World.cell?_of_block (hk h0 b off _ e1 hb)).trans (hc j u hu)⟩
theorem RowV.lo_ (h : RowV w lo B k A n vs) (hn : 0 < n) {b off : Nat} {s : Option _} (e : A = some ⟨b, off, s⟩) : lo ≤ b ∧ b < B := by
  obtain ⟨b', off', e1, hl, hb, _⟩ := h.2 hn
  rw [e1] at e
  injection e with e
  injection e with e2 _ _
  omega
theorem RowV.of_own {base : Nat} {e : TypeId} {c : Nat} (h : w.ownsRow base e k (.slice A n c) n vs) : RowV w base w.heap.size k A n vs := by
  refine ⟨h.1, fun hn => ?_⟩
  obtain ⟨g, cap, hv, hg, hlt⟩ := h.form hn
  have hA : A = some ⟨g, 0, none⟩ := by injection hv
  subst hA
  refine ⟨g, 0, rfl, hg, hlt, fun j u hu => ?_⟩
  have hl : j < vs.length := (List.getElem?_eq_some_iff.1 hu).1
  have h1 := h.1
  rw [Nat.zero_add, World.ownsRow.cellAt h j (by omega)]
  exact hu
end

/-- A slice of slices reads as these rows. -/
def MatV (w : World) (lo B k : Nat) (A : Option Addr) (n : Nat) (rows : List (List Value)) : Prop :=
  rows.length = n ∧ (0 < n → ∃ b off, A = some ⟨b, off, none⟩ ∧ lo ≤ b ∧ b < B ∧ ∀ j, j < n → ∃ A' n' c', w.cell? ⟨b, off + j, none⟩ = some (.slice A' n' c') ∧ n' ≤ 17592186044416 ∧ RowV w lo B k A' n' (rows.getD j []))
section
variable {w w' : World} {lo lo' B B' k n : Nat} {A : Option Addr} {rows : List (List Value)}
theorem MatV.keep (h : MatV w lo B k A n rows) (hk : ∀ p : Addr, lo ≤ p.block → p.block < B → w'.cell? p = w.cell? p) : MatV w' lo B k A n rows :=
  ⟨h.1, fun hn => by
    obtain ⟨b, off, e, hl, hb, hc⟩ := h.2 hn
    refine ⟨b, off, e, hl, hb, fun j hj => ?_⟩
    obtain ⟨A', n', c', h1, h2, h3⟩ := hc j hj
    exact ⟨A', n', c', (hk _ hl hb).trans h1, h2, h3.keep hk⟩⟩
theorem MatV.more (h : MatV w lo B k A n rows) (hB : B ≤ B') : MatV w lo B' k A n rows :=
  ⟨h.1, fun hn => by
    obtain ⟨b, off, e, hl, hb, hc⟩ := h.2 hn
    refine ⟨b, off, e, hl, by omega, fun j hj => ?_⟩
    obtain ⟨A', n', c', h1, h2, h3⟩ := hc j hj
    exact ⟨A', n', c', h1, h2, h3.more hB⟩⟩
theorem MatV.low (h : MatV w lo B k A n rows) (hB : lo' ≤ lo) : MatV w lo' B k A n rows :=
  ⟨h.1, fun hn => by
    obtain ⟨b, off, e, hl, hb, hc⟩ := h.2 hn
    refine ⟨b, off, e, by omega, hb, fun j hj => ?_⟩
    obtain ⟨A', n', c', h1, h2, h3⟩ := hc j hj
    exact ⟨A', n', c', h1, h2, h3.low hB⟩⟩
theorem MatV.below (h : MatV w lo B k A n rows) (hb : Below B w w') : MatV w' lo B k A n rows := h.keep fun _ _ hp => hb.cell hp
theorem MatV.upto {w0 : World} (h : MatV w0 lo w0.heap.size k A n rows) (hb : Below w0.heap.size w0 w') : MatV w' lo w'.heap.size k A n rows := (h.below hb).more hb.size
theorem MatV.step {g : Nat} (h : MatV w lo w.heap.size k A n rows) (hs : Step g w w') (hg : g < lo) : MatV w' lo w'.heap.size k A n rows :=
  (h.keep fun p hl hb => World.cell?_of_block (World.grownBy.block hs p.block hb (fun e => by injection e; omega))).more (World.grownBy.size hs)
theorem MatV.at_ (h : MatV w lo B k A n rows) {j : Nat} (hj : j < n) : ∃ b off A' n' c', A = some ⟨b, off, none⟩ ∧ lo ≤ b ∧ b < B ∧ w.cell? ⟨b, off + j, none⟩ = some (.slice A' n' c') ∧ n' ≤ 17592186044416 ∧ RowV w lo B k A' n' (rows.getD j []) := by
  obtain ⟨b, off, e, hl, hb, hc⟩ := h.2 (by omega)
  obtain ⟨A', n', c', h1, h2, h3⟩ := hc j hj
  exact ⟨b, off, A', n', c', e, hl, hb, h1, h2, h3⟩
end

/-- A slice of slices whose outer row the call owns. -/
def OwnV (w : World) (base lo k : Nat) (e : TypeId) (A : Option Addr) (n c : Nat) (rows : List (List Value)) : Prop :=
  rows.length = n ∧ ∃ vs, w.ownsRow base e 1 (.slice A n c) n vs ∧ ∀ j, j < n → ∃ A' n' c', vs[j]? = some (.slice A' n' c') ∧ n' ≤ 17592186044416 ∧ RowV w lo w.heap.size k A' n' (rows.getD j []) ∧
    (0 < n' → ∀ b off s, A' = some ⟨b, off, s⟩ → (Value.slice A n c).ownBlock ≠ some b)
section
variable {w w' : World} {base base' lo lo' k n c : Nat} {e : TypeId} {A : Option Addr} {rows : List (List Value)}
theorem OwnV.nil_ : OwnV w base lo k e none 0 0 [] := ⟨rfl, [], World.ownsRow_nil _ _ _ _, fun j hj => absurd hj (by omega)⟩
theorem OwnV.belowAll (h : OwnV w base lo k e A n c rows) (hb : Below w.heap.size w w') : OwnV w' base lo k e A n c rows := by
  obtain ⟨hl, vs, hown, hr⟩ := h
  refine ⟨hl, vs, ?_, fun j hj => ?_⟩
  · refine ⟨hown.1, ?_⟩
    rcases hown.2 with h0 | ⟨g, cap, cur, hv, hg, hh, r⟩
    · exact .inl h0
    · refine .inr ⟨g, cap, cur, hv, hg, ?_, r⟩
      rw [hb.block g (Blk.lt (t := e) hh)]; exact hh
  · obtain ⟨A', n', c', h1, h2, h3, h5⟩ := hr j hj
    exact ⟨A', n', c', h1, h2, h3.upto hb, h5⟩
theorem OwnV.step {g : Nat} (h : OwnV w base lo k e A n c rows) (hs : Step g w w') (hg : g < lo) (hg2 : g < base) : OwnV w' base lo k e A n c rows := by
  obtain ⟨hl, vs, hown, hr⟩ := h
  refine ⟨hl, vs, ?_, fun j hj => ?_⟩
  · rcases hb : (Value.slice A n c).ownBlock with _ | k
    · exact World.ownsRow.kept hown hs (.inl hb)
    · exact World.ownsRow.kept hown hs (.inr (by rw [hb]; intro e1; injection e1 with e1; have := (World.ownsRow.lt hown k hb).1; omega))
  · obtain ⟨A', n', c', h1, h2, h3, h5⟩ := hr j hj
    exact ⟨A', n', c', h1, h2, h3.step hs hg, h5⟩
theorem OwnV.matV (h : OwnV w base lo k e A n c rows) (hbl : lo ≤ base) : MatV w lo w.heap.size k A n rows := by
  obtain ⟨hl, vs, hown, hr⟩ := h
  refine ⟨hl, fun hn => ?_⟩
  obtain ⟨g, cap, hv, hg, hlt⟩ := World.ownsRow.form hown hn
  injection hv with hA hn' hc'
  subst hA
  refine ⟨g, 0, rfl, by omega, hlt, fun j hj => ?_⟩
  obtain ⟨A', n', c', h1, h2, h3, _⟩ := hr j hj
  refine ⟨A', n', c', ?_, h2, h3⟩
  rw [Nat.zero_add, World.ownsRow.cellAt hown j (by have := hown.1; omega)]
  exact h1
theorem OwnV.row (h : OwnV w base lo k e A n c rows) : ∀ k, (Value.slice A n c).ownBlock = some k → base ≤ k ∧ k < w.heap.size := by
  obtain ⟨_, vs, hown, _⟩ := h
  exact World.ownsRow.lt hown
theorem OwnV.weaken (h : OwnV w base lo k e A n c rows) (hb : base' ≤ base) (hl : lo' ≤ lo) : OwnV w base' lo' k e A n c rows := by
  obtain ⟨h1, vs, hown, hr⟩ := h
  refine ⟨h1, vs, ⟨hown.1, ?_⟩, fun j hj => ?_⟩
  · rcases hown.2 with h0 | ⟨g, cap, cur, hv, hg, r⟩
    · exact .inl h0
    · exact .inr ⟨g, cap, cur, hv, Nat.le_trans hb hg, r⟩
  · obtain ⟨A', n', c', k1, k2, k3, k5⟩ := hr j hj
    exact ⟨A', n', c', k1, k2, k3.low hl, k5⟩
/-- Some rows more. -/
theorem OwnV.appends {m c2 : Nat} {A2 : Option Addr} {news : List (List Value)} {nv : List Value} (h : OwnV w base lo k e A n c rows) (hm : news.length = m) (hnv : nv.length = m)
    (hr2 : ∀ j, j < m → ∃ A' n' c', nv[j]? = some (.slice A' n' c') ∧ n' ≤ 17592186044416 ∧ RowV w lo w.heap.size k A' n' (news.getD j []) ∧ (0 < n' → ∀ b off s, A' = some ⟨b, off, s⟩ → (Value.slice A n c).ownBlock ≠ some b))
    (hnew : ∀ vs, w.ownsRow base e 1 (.slice A n c) n vs → w'.ownsRow base e 1 (.slice A2 (n + m) c2) (n + m) (vs ++ nv)) (hgr : w.grownBy w' (Value.slice A n c).ownBlock)
    (hab : (Value.slice A2 (n + m) c2).ownBlock = (Value.slice A n c).ownBlock ∨ (Value.slice A2 (n + m) c2).ownBlock = some w.heap.size) : OwnV w' base lo k e A2 (n + m) c2 (rows ++ news) := by
  obtain ⟨hl, vs, hown, hr⟩ := h
  have hvl : vs.length = n := by have := hown.1; omega
  have key : ∀ (B : Option Addr) (q : Nat) (xs : List Value), RowV w lo w.heap.size k B q xs → (0 < q → ∀ b off s, B = some ⟨b, off, s⟩ → (Value.slice A n c).ownBlock ≠ some b) →
      RowV w' lo w'.heap.size k B q xs ∧ (0 < q → ∀ b off s, B = some ⟨b, off, s⟩ → (Value.slice A2 (n + m) c2).ownBlock ≠ some b) := by
    intro B q xs h3 h5
    refine ⟨h3.keepBlk hgr.size (fun h0 b off s e1 hb => hgr.block b hb (fun e2 => h5 h0 b off s e1 e2.symm)), fun h0 b off s e1 e2 => ?_⟩
    rcases hab with h6 | h6
    · exact h5 h0 b off s e1 (by rw [← h6, e2])
    · rw [h6] at e2
      injection e2 with e2
      have := (h3.lo_ h0 e1).2
      omega
  refine ⟨by simp [hl, hm], vs ++ nv, hnew vs hown, fun j hj => ?_⟩
  rcases Nat.lt_or_ge j n with hj' | hj'
  · obtain ⟨B, q, d, h1, h2, h3, h5⟩ := hr j hj'
    obtain ⟨k1, k2⟩ := key B q _ h3 h5
    refine ⟨B, q, d, by rw [List.getElem?_append_left (by omega)]; exact h1, h2, ?_, k2⟩
    rw [List.getD_eq_getElem?_getD, List.getElem?_append_left (by omega), ← List.getD_eq_getElem?_getD]; exact k1
  · obtain ⟨B, q, d, h1, h2, h3, h5⟩ := hr2 (j - n) (by omega)
    obtain ⟨k1, k2⟩ := key B q _ h3 h5
    refine ⟨B, q, d, by rw [List.getElem?_append_right (by omega), hvl]; exact h1, h2, ?_, k2⟩
    rw [List.getD_eq_getElem?_getD, List.getElem?_append_right (by omega), hl, ← List.getD_eq_getElem?_getD]; exact k1
end

theorem own_unique {w : World} {base n c : Nat} {e : TypeId} {k : Nat} {A : Option Addr} {us vs : List Value} (hus : w.ownsRow base e k (.slice A n c) n us) (hv : w.ownsRow base e k (.slice A n c) n vs) : us = vs := by
  rcases hus.2 with ⟨e1, e2⟩ | ⟨g3, cap3, cur3, e3, _, e4, _, _, _, e5⟩
  · rcases hv.2 with ⟨e6, e7⟩ | ⟨g4, cap4, cur4, e8, _⟩
    · have h1 : us.length = 0 := by have := hus.1; rw [e2, Nat.zero_mul] at this; exact this
      have h2 : vs.length = 0 := by have := hv.1; rw [e2, Nat.zero_mul] at this; exact this
      rw [List.eq_nil_of_length_eq_zero h1, List.eq_nil_of_length_eq_zero h2]
    · rw [e1] at e8; cases e8
  · rcases hv.2 with ⟨e6, e7⟩ | ⟨g4, cap4, cur4, e8, _, e9, _, _, _, e10⟩
    · rw [e6] at e3; cases e3
    · rw [e3] at e8
      injection e8 with e11 _ e12
      injection e11 with e11
      injection e11 with e11 _ _
      subst e11
      rw [e4] at e9
      injection e9 with e9
      injection e9 with e9
      rw [← e5, ← e10, e9]

/-- An append of one row. -/
theorem wpList_append_rowV {P : Program} {w : World} {ops : Array Oper} {rest : List Oper} {o : Oper} {a : Act} {Q : Exit → Act → World → Prop} (hgd : o.guard = none) (s x : Operand) (t : TypeId)
    (ho : o.op = .call { callee := .builtin .append, args := #[s, x], argTypes := #[t, t] })
    (base lo k : Nat) (e : TypeId) (i : TypeInfo) (z : Value) (ht : P.underlying t = some (.slice e)) (hi : P.info? e = some i) (hz : i.zero = some z)
    (hsize : i.size = 1) (hby : i.bytes = 24) (hzs : z.cells.size = 1)
    (A : Option Addr) (n c : Nat) (rows : List (List Value)) (hs : a.eval s = .slice A n c) (hown : OwnV w base lo k e A n c rows)
    (g c2 : Nat) (A' : Option Addr) (n' c' : Nat) (row : List Value) (hx : a.eval x = .slice (some ⟨g, 0, none⟩) 1 c2) (hcell : w.cell? ⟨g, 0, none⟩ = some (.slice A' n' c')) (hglt : g < w.heap.size)
    (hn' : n' ≤ 17592186044416) (hI : RowV w lo w.heap.size k A' n' row) (hap : 0 < n' → ∀ b off s, A' = some ⟨b, off, s⟩ → (Value.slice A n c).ownBlock ≠ some b)
    (N : Nat) (hN : n + 1 = N) (hcap : N ≤ 1099511627776) (hbase : base ≤ w.heap.size)
    (h : ∀ A2 c2 w', OwnV w' base lo k e A2 N c2 (rows ++ [row]) → w.grownBy w' (Value.slice A n c).ownBlock → Below base w w' → wpList P ops Q rest (a.put o.dst (.slice A2 N c2)) w') : wpList P ops Q (o :: rest) a w := by
  subst hN
  have hown0 := hown
  obtain ⟨hl, vs, hv, hr⟩ := hown
  refine wpList_append_any w hgd s x t ho base e i z 1 24 ht hi hz hsize hby hzs (by omega) (.slice A n c) n vs hs hv w.heap.size (some ⟨g, 0, none⟩) 1 c2 [.slice A' n' c'] hx ⟨rfl, fun _ => ⟨_, rfl, hglt, fun j u hj => ?_⟩⟩ (fun u hu => by simp at hu; subst hu; rfl) (by unfold maxLen; omega) (by omega) hbase ?_
  · match j, hj with
    | 0, hj => simp at hj; subst hj; simpa [Addr.add] using hcell
  · intro v' w' hown' hg hat
    have hb : Below base w w' := (Below.refl base w).grown hg hbase (fun k hk => (World.ownsRow.lt hv k hk).1)
    rcases hown'.2 with ⟨_, h0⟩ | ⟨g2, cap, cur, rfl, hrest⟩
    · omega
    · refine h _ cap w' (OwnV.appends (m := 1) (news := [row]) (nv := [.slice A' n' c']) hown0 rfl rfl (fun j hj => ?_) (fun us hus => ?_) hg hat) hg hb
      · obtain rfl : j = 0 := by omega
        exact ⟨A', n', c', rfl, hn', hI, hap⟩
      · rw [own_unique hus hv]; exact hown'

/-- A slice of growing rows. -/
structure GrV (w : World) (base g S k : Nat) (T e : TypeId) (bs : List (Option Addr × Nat × Nat)) (m : List (List Value)) : Prop where
  out : w.ownsRow base T 1 (.slice (some ⟨g, 0, none⟩) S S) S (grV bs)
  lb : bs.length = S
  ln : m.length = S
  ty : T ≠ e
  own : ∀ j, j < S → w.ownsRow base e k (.slice (bs.getD j (none, 0, 0)).1 (bs.getD j (none, 0, 0)).2.1 (bs.getD j (none, 0, 0)).2.2) (bs.getD j (none, 0, 0)).2.1 (m.getD j [])
  apart : ∀ i j, i < S → j < S → i ≠ j → ∀ a b, (bs.getD i (none, 0, 0)).1 = some a → (bs.getD j (none, 0, 0)).1 = some b → a.block ≠ b.block
theorem own_at0 {w : World} {base k n c : Nat} {e : TypeId} {A : Option Addr} {vs : List Value} (h : w.ownsRow base e k (.slice A n c) n vs) : A = none ∨ ∃ b, A = some ⟨b, 0, none⟩ := by
  rcases h.2 with ⟨hv, _⟩ | ⟨b, _, _, hv, _⟩
  · injection hv with h1; exact .inl h1
  · injection hv with h1; exact .inr ⟨b, h1⟩
theorem own_below {w w' : World} {base k n : Nat} {e : TypeId} {v : Value} {vs : List Value} (h : w.ownsRow base e k v n vs) (hb : Below w.heap.size w w') : w'.ownsRow base e k v n vs := by
  refine ⟨h.1, ?_⟩
  rcases h.2 with h0 | ⟨g, cap, cur, hv, hg, hh, r⟩
  · exact .inl h0
  · refine .inr ⟨g, cap, cur, hv, hg, ?_, r⟩
    rw [hb.block g (Blk.lt (t := e) hh)]; exact hh

section
variable {w w' : World} {base g S k : Nat} {T e : TypeId} {bs : List (Option Addr × Nat × Nat)} {m : List (List Value)}
theorem GrV.start (hty : T ≠ e) (h : w.ownsRow base T 1 (.slice (some ⟨g, 0, none⟩) S S) S (List.replicate S (.slice none 0 0))) : GrV w base g S k T e (List.replicate S (none, 0, 0)) (List.replicate S []) :=
  ⟨by unfold grV; rw [List.map_replicate]; exact h, List.length_replicate, List.length_replicate, hty, fun j hj => by
    rw [List.getD_eq_getElem?_getD, List.getElem?_replicate, if_pos hj, List.getD_eq_getElem?_getD, List.getElem?_replicate, if_pos hj]
    exact World.ownsRow_nil _ _ _ _, fun i j hi _ _ a b ha _ => by
    rw [List.getD_eq_getElem?_getD, List.getElem?_replicate, if_pos hi] at ha
    cases ha⟩
theorem GrV.lo (h : GrV w base g S k T e bs m) : base ≤ g ∧ g < w.heap.size := World.ownsRow.lt h.out _ rfl
theorem GrV.belowAll (h : GrV w base g S k T e bs m) (hb : Below w.heap.size w w') : GrV w' base g S k T e bs m :=
  ⟨own_below h.out hb, h.lb, h.ln, h.ty, fun j hj => own_below (h.own j hj) hb, h.apart⟩
theorem GrV.at_ (h : GrV w base g S k T e bs m) {j : Nat} (hj : j < S) : w.cell? ⟨g, j, none⟩ = some (.slice (bs.getD j (none, 0, 0)).1 (bs.getD j (none, 0, 0)).2.1 (bs.getD j (none, 0, 0)).2.2) ∧ w.frozen? ⟨g, j, none⟩ = false :=
  ⟨by rw [World.ownsRow.cellAt h.out j (by have := h.out.1; omega)]; exact grV_at bs (by rw [h.lb]; exact hj), World.ownsRow.frozenAt h.out j⟩
/-- Another block that is not of these has turned. -/
theorem GrV.step {b : Nat} (h : GrV w base g S k T e bs m) (hs : Step b w w') (hb : b < base) : GrV w' base g S k T e bs m := by
  have key : ∀ (A : Option Addr) (n c q : Nat) (t : TypeId) (xs : List Value), w.ownsRow base t q (.slice A n c) n xs → w'.ownsRow base t q (.slice A n c) n xs := fun A n c q t xs hx => by
    rcases h1 : (Value.slice A n c).ownBlock with _ | z
    · exact World.ownsRow.kept hx hs (.inl h1)
    · exact World.ownsRow.kept hx hs (.inr (by rw [h1]; intro e1; injection e1 with e1; have := (World.ownsRow.lt hx z h1).1; omega))
  exact ⟨key _ _ _ _ _ _ h.out, h.lb, h.ln, h.ty, fun j hj => key _ _ _ _ _ _ (h.own j hj), h.apart⟩
theorem GrV.ne (h : GrV w base g S k T e bs m) {j : Nat} (hj : j < S) : (Value.slice (bs.getD j (none, 0, 0)).1 (bs.getD j (none, 0, 0)).2.1 (bs.getD j (none, 0, 0)).2.2).ownBlock ≠ some g := fun e0 => by
  rcases own_at0 (h.own j hj) with h1 | ⟨b, h1⟩
  · rw [h1] at e0; cases e0
  · have ho := h.own j hj
    rw [h1] at ho e0
    have e2 : some b = some g := e0
    injection e2 with e2
    exact own_ne ho h.out (fun e => h.ty e.symm) e2
/-- The place of a row that has grown. -/
theorem GrV.at_grown {q : Nat} (h : GrV w base g S k T e bs m) (hq : q < S)
    (hg : w.grownBy w' (Value.slice (bs.getD q (none, 0, 0)).1 (bs.getD q (none, 0, 0)).2.1 (bs.getD q (none, 0, 0)).2.2).ownBlock) :
    w'.cell? ⟨g, q, none⟩ = some (.slice (bs.getD q (none, 0, 0)).1 (bs.getD q (none, 0, 0)).2.1 (bs.getD q (none, 0, 0)).2.2) ∧ w'.frozen? ⟨g, q, none⟩ = false := by
  have hout := World.ownsRow.kept h.out hg (.inr (fun e => h.ne hq e.symm))
  exact ⟨by rw [World.ownsRow.cellAt hout q (by have := hout.1; omega)]; exact grV_at bs (by rw [h.lb]; exact hq), World.ownsRow.frozenAt hout q⟩
/-- A row has grown, and its slice is stored. -/
theorem GrV.grown {q c' : Nat} {A' : Option Addr} {N : Nat} {l : List Value} (h : GrV w base g S k T e bs m) (hq : q < S)
    (hg : w.grownBy w' (Value.slice (bs.getD q (none, 0, 0)).1 (bs.getD q (none, 0, 0)).2.1 (bs.getD q (none, 0, 0)).2.2).ownBlock) (hl : w'.ownsRow base e k (.slice A' N c') N l)
    (hab : (Value.slice A' N c').ownBlock = (Value.slice (bs.getD q (none, 0, 0)).1 (bs.getD q (none, 0, 0)).2.1 (bs.getD q (none, 0, 0)).2.2).ownBlock ∨ (Value.slice A' N c').ownBlock = some w.heap.size) :
    GrV (w'.setCell ⟨g, q, none⟩ (.slice A' N c')) base g S k T e (bs.set q (A', N, c')) (m.set q l) := by
  have hgn := h.ne hq
  have hout := World.ownsRow.kept h.out hg (.inr (fun e => hgn e.symm))
  have hset : ∀ (A : Option Addr) (n c : Nat) (xs : List Value), w'.ownsRow base e k (.slice A n c) n xs → (w'.setCell ⟨g, q, none⟩ (.slice A' N c')).ownsRow base e k (.slice A n c) n xs := fun A n c xs hx => by
    refine World.ownsRow.kept hx ((Step.refl g w').set q (.slice A' N c')) ?_
    rcases own_at0 hx with h1 | ⟨b, h1⟩
    · subst h1; exact .inl rfl
    · subst h1
      refine .inr (fun e0 => ?_)
      have e2 : some b = some g := e0
      injection e2 with e2
      exact own_ne hx hout (fun e => h.ty e.symm) e2
  refine ⟨?_, by rw [List.length_set]; exact h.lb, by rw [List.length_set]; exact h.ln, h.ty, fun j hj => ?_, fun i j hi hj hij a b ha hb => ?_⟩
  · rw [grV_set]
    exact (World.ownsRow.stored hout q (.slice A' N c')).1
  · rw [getD_setG _ _ _ _ _ (by rw [h.lb]; exact hq), getD_setG _ _ _ _ _ (by rw [h.ln]; exact hq)]
    by_cases hkj : q = j
    · rw [if_pos hkj, if_pos hkj]; exact hset _ _ _ _ hl
    · rw [if_neg hkj, if_neg hkj]
      refine hset _ _ _ _ (World.ownsRow.kept (h.own j hj) hg ?_)
      rcases own_at0 (h.own j hj) with h1 | ⟨b, h1⟩
      · rw [h1]; exact .inl rfl
      · rw [h1]
        refine .inr (fun e => ?_)
        rcases own_at0 (h.own q hq) with h2 | ⟨b2, h2⟩
        · rw [h2] at e; cases e
        · rw [h2] at e
          have e2 : some b = some b2 := e
          injection e2 with e2
          exact h.apart j q hj hq (fun e => hkj e.symm) _ _ h1 h2 e2
  · have key : ∀ j, j < S → q ≠ j → ∀ a b, A' = some a → (bs.getD j (none, 0, 0)).1 = some b → a.block ≠ b.block := fun j hj hkj a b ha hb e => by
      rcases hab with h3 | h3
      · rw [ha] at h3
        rcases own_at0 (h.own q hq) with h2 | ⟨b2, h2⟩
        · rw [h2] at h3; cases h3
        · rw [h2] at h3
          have e2 : some a.block = some b2 := h3
          injection e2 with e2
          exact h.apart q j hq hj hkj _ _ h2 hb (by rw [← e2]; exact e)
      · rw [ha] at h3
        have e2 : some a.block = some w.heap.size := h3
        injection e2 with e2
        have hlt := (World.ownsRow.lt (h.own j hj) b.block (by rw [hb]; rfl)).2
        omega
    rw [getD_setG _ _ _ _ _ (by rw [h.lb]; exact hq)] at ha hb
    by_cases h1 : q = i
    · rw [if_pos h1] at ha
      rw [if_neg (fun e => hij (by rw [← h1, e]))] at hb
      exact key j hj (fun e => hij (by rw [← h1, e])) a b ha hb
    · rw [if_neg h1] at ha
      by_cases h2 : q = j
      · rw [if_pos h2] at hb
        exact fun e => key i hi h1 b a hb ha e.symm
      · rw [if_neg h2] at hb
        exact h.apart i j hi hj hij a b ha hb
/-- What it reads as. -/
theorem GrV.matV (h : GrV w base g S k T e bs m) (hbd : ∀ j, j < S → (bs.getD j (none, 0, 0)).2.1 ≤ 17592186044416) : MatV w base w.heap.size k (some ⟨g, 0, none⟩) S m := by
  refine ⟨h.ln, fun hn => ⟨g, 0, rfl, h.lo.1, h.lo.2, fun j hj => ?_⟩⟩
  exact ⟨_, _, _, by rw [Nat.zero_add]; exact (h.at_ hj).1, hbd j hj, RowV.of_own (h.own j hj)⟩
end
end Go.Proofs.YtmcgnpdfpfgfpaaGreatDoor
