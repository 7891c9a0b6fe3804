/-
  Rows of answers that the call itself made: one more, another one in its place; what they read as. No conditions.
-/
import Derived.Test.YtoblofilaegnaaaOwnM
import Derived.Test.YtoblofilaegnaaaDeck
namespace Go.Proofs.Ytoblofilaegnaaa
open Go.RowKit
set_option linter.unusedVariables false

theorem Blk.new1 (w : World) (o : Obj) (t : TypeId) (cs : Array Value) : Blk ((w.alloc o).alloc (.cells cs t)) (w.heap.size + 1) t cs := by
  have := Blk.new (w.alloc o) t cs
  rwa [World.size_alloc] at this

/-- The cells of answers. -/
def ansV : List Bool → List Value → List Value
  | u :: us, y :: ys => .bool u :: y :: ansV us ys
  | _, _ => []
theorem ansV_len : ∀ (us : List Bool) (ys : List Value), us.length = ys.length → (ansV us ys).length = us.length * 2
  | [], [], _ => rfl
  | _ :: us, _ :: ys, h => by
    have := ansV_len us ys (by simpa using h)
    simp only [ansV, List.length_cons, this]; omega
theorem ansV_snoc (u : Bool) (y : Value) : ∀ (us : List Bool) (ys : List Value), us.length = ys.length → ansV (us ++ [u]) (ys ++ [y]) = ansV us ys ++ [.bool u, y]
  | [], [], _ => rfl
  | _ :: us, _ :: ys, h => by
    have := ansV_snoc u y us ys (by simpa using h)
    simp only [List.cons_append, ansV, this]
theorem ansV_at : ∀ (us : List Bool) (ys : List Value), us.length = ys.length → ∀ j, j < us.length → (ansV us ys)[j * 2]? = some (.bool (us.getD j false)) ∧ (ansV us ys)[j * 2 + 1]? = ys[j]?
  | [], [], _, j, hj => by simp at hj
  | u :: us, y :: ys, h, j, hj => by
    cases j with
    | zero => exact ⟨rfl, rfl⟩
    | succ j =>
      have := ansV_at us ys (by simpa using h) j (by simpa using hj)
      simp only [ansV, List.getD_cons_succ]
      rw [show (j + 1) * 2 = j * 2 + 1 + 1 by omega]
      exact this
theorem ansV_set (b : Bool) : ∀ (us : List Bool) (ys : List Value), us.length = ys.length → ∀ j, j < us.length → (ansV us ys).set (j * 2) (.bool b) = ansV (us.set j b) ys
  | [], [], _, j, hj => by simp at hj
  | u :: us, y :: ys, h, j, hj => by
    cases j with
    | zero => rfl
    | succ j =>
      have := ansV_set b us ys (by simpa using h) j (by simpa using hj)
      rw [show (j + 1) * 2 = (j * 2) + 1 + 1 by omega]
      simp only [ansV, List.set_cons_succ, this]
theorem ansV_setR (v : Value) : ∀ (us : List Bool) (ys : List Value), us.length = ys.length → ∀ j, j < us.length → (ansV us ys).set (j * 2 + 1) v = ansV us (ys.set j v)
  | [], [], _, j, hj => by simp at hj
  | u :: us, y :: ys, h, j, hj => by
    cases j with
    | zero => rfl
    | succ j =>
      have := ansV_setR v us ys (by simpa using h) j (by simpa using hj)
      rw [show (j + 1) * 2 + 1 = (j * 2 + 1) + 1 + 1 by omega]
      simp only [ansV, List.set_cons_succ, this]

theorem info_answer : (Try.prog.info? 89).map (fun i => (i.zero, i.size, i.bytes)) = some (some (.agg #[.bool false, .slice none 0 0]), 2, 32) := by kernel_rfl

/-- The slice of answers reads as these marks and rows; all of it lies below block B. -/
def Ans (w : World) (B : Nat) (A : Option Addr) (n : Nat) (ks : List Bool) (rows : List (List Int)) : Prop :=
  ks.length = n ∧ rows.length = n ∧ (0 < n → ∃ b off, A = some ⟨b, off, none⟩ ∧ b < B ∧ ∀ j, j < n → w.cell? ⟨b, off + j * 2, none⟩ = some (.bool (ks.getD j false)) ∧
    ∃ A' n' c', w.cell? ⟨b, off + j * 2 + 1, none⟩ = some (.slice A' n' c') ∧ n' ≤ 17592186044416 ∧ Ints w B A' n' (rows.getD j []))
section
variable {w w' : World} {B B' n : Nat} {A : Option Addr} {ks : List Bool} {rows : List (List Int)}
theorem Ans.below (h : Ans w B A n ks rows) (hb : Below B w w') : Ans w' B A n ks rows :=
  ⟨h.1, h.2.1, fun hn => by
    obtain ⟨b, off, e, hB, hc⟩ := h.2.2 hn
    refine ⟨b, off, e, hB, fun j hj => ?_⟩
    obtain ⟨h0, A', n', c', h1, h2, h3⟩ := hc j hj
    exact ⟨(hb.cell (p := ⟨b, off + j * 2, none⟩) hB).trans h0, A', n', c', (hb.cell (p := ⟨b, off + j * 2 + 1, none⟩) hB).trans h1, h2, h3.below hb⟩⟩
theorem Ans.more (h : Ans w B A n ks rows) (hB : B ≤ B') : Ans w B' A n ks rows :=
  ⟨h.1, h.2.1, fun hn => by
    obtain ⟨b, off, e, hb, hc⟩ := h.2.2 hn
    refine ⟨b, off, e, by omega, fun j hj => ?_⟩
    obtain ⟨h0, A', n', c', h1, h2, h3⟩ := hc j hj
    exact ⟨h0, A', n', c', h1, h2, h3.more hB⟩⟩
theorem Ans.upto (h : Ans w w.heap.size A n ks rows) (hb : Below w.heap.size w w') : Ans w' w'.heap.size A n ks rows := (h.below hb).more hb.size
theorem Ans.at_ (h : Ans w B A n ks rows) {j : Nat} (hj : j < n) : ∃ b off A' n' c', A = some ⟨b, off, none⟩ ∧ b < B ∧ w.cell? ⟨b, off + j * 2, none⟩ = some (.bool (ks.getD j false)) ∧ w.cell? ⟨b, off + j * 2 + 1, none⟩ = some (.slice A' n' c') ∧ n' ≤ 17592186044416 ∧ Ints w B A' n' (rows.getD j []) := by
  obtain ⟨b, off, e, hb, hc⟩ := h.2.2 (by omega)
  obtain ⟨h0, A', n', c', h1, h2, h3⟩ := hc j hj
  exact ⟨b, off, A', n', c', e, hb, h0, h1, h2, h3⟩
end

/-- A row of answers that the call itself made; what it leads to lies from block lo on, and not in it. -/
def OwnA (w : World) (base lo : Nat) (A : Option Addr) (n c : Nat) (ks : List Bool) (rows : List (List Int)) : Prop :=
  ks.length = n ∧ rows.length = n ∧ ∃ vs, vs.length = n ∧ w.ownsRow base 89 2 (.slice A n c) n (ansV ks vs) ∧ ∀ j, j < n → ∃ A' n' c', vs[j]? = some (.slice A' n' c') ∧ n' ≤ 17592186044416 ∧ Ints w w.heap.size A' n' (rows.getD j []) ∧ Lo lo A' n' ∧
    (0 < n' → ∀ b off s, A' = some ⟨b, off, s⟩ → (Value.slice A n c).ownBlock ≠ some b)
section
variable {w w' : World} {base lo n c : Nat} {A : Option Addr} {ks : List Bool} {rows : List (List Int)}
theorem OwnA.nil_ : OwnA w base lo none 0 0 [] [] := ⟨rfl, rfl, [], rfl, World.ownsRow_nil _ _ _ _, fun j hj => absurd hj (by omega)⟩
theorem OwnA.belowAll (h : OwnA w base lo A n c ks rows) (hb : Below w.heap.size w w') : OwnA w' base lo A n c ks rows := by
  obtain ⟨hk, hl, vs, hv, hown, hr⟩ := h
  refine ⟨hk, hl, vs, hv, ⟨hown.1, ?_⟩, fun j hj => ?_⟩
  · rcases hown.2 with h0 | ⟨g, cap, cur, hv, hg, hh, r⟩
    · exact .inl h0
    · refine .inr ⟨g, cap, cur, hv, hg, ?_, r⟩
      rw [hb.block g (World.ownsRow.lt hown g (by rw [hv]; rfl)).2]; exact hh
  · obtain ⟨A', n', c', h1, h2, h3, h4, h5⟩ := hr j hj
    exact ⟨A', n', c', h1, h2, h3.upto hb, h4, h5⟩
theorem OwnA.step {g : Nat} (h : OwnA w base lo A n c ks rows) (hs : Step g w w') (hg : g < lo) (hg2 : g < base) : OwnA w' base lo A n c ks rows := by
  obtain ⟨hk, hl, vs, hv, hown, hr⟩ := h
  refine ⟨hk, hl, vs, hv, ?_, fun j hj => ?_⟩
  · refine World.ownsRow.kept hown hs (.inr fun e1 => ?_)
    have := (World.ownsRow.lt hown g e1).1
    omega
  · obtain ⟨A', n', c', h1, h2, h3, h4, h5⟩ := hr j hj
    refine ⟨A', n', c', h1, h2, h3.keepBlk (World.grownBy.size hs) (fun h0 b off s e1 hb => World.grownBy.block hs b hb (fun e2 => ?_)), h4, h5⟩
    injection e2 with e2
    have := h4 h0 b off s e1
    omega
theorem OwnA.ans (h : OwnA w base lo A n c ks rows) : Ans w w.heap.size A n ks rows := by
  obtain ⟨hk, hl, vs, hv, hown, hr⟩ := h
  refine ⟨hk, hl, fun hn => ?_⟩
  obtain ⟨g, cap, hv2, hg, hlt⟩ := World.ownsRow.form hown hn
  injection hv2 with hA hn' hc'
  subst hA
  refine ⟨g, 0, rfl, hlt, fun j hj => ?_⟩
  rw [Nat.zero_add]
  have hs := ansV_at ks vs (by omega) j (by omega)
  obtain ⟨A', n', c', h1, h2, h3, h4, _⟩ := hr j hj
  exact ⟨(World.ownsRow.cellAt hown (j * 2) (by omega)).trans hs.1, A', n', c', (World.ownsRow.cellAt hown (j * 2 + 1) (by omega)).trans (hs.2.trans h1), h2, h3⟩
theorem OwnA.form (h : OwnA w base lo A n c ks rows) (hn : 0 < n) : ∃ g, A = some ⟨g, 0, none⟩ ∧ base ≤ g ∧ g < w.heap.size := by
  obtain ⟨hk, hl, vs, hv, hown, hr⟩ := h
  obtain ⟨g, cap, hv, h1, h2⟩ := World.ownsRow.form hown hn
  injection hv with hA
  exact ⟨g, hA, h1, h2⟩
theorem OwnA.row (h : OwnA w base lo A n c ks rows) : ∀ k, (Value.slice A n c).ownBlock = some k → base ≤ k ∧ k < w.heap.size := by
  obtain ⟨_, _, vs, _, hown, _⟩ := h
  exact World.ownsRow.lt hown
theorem OwnA.frozenAt {g : Nat} (h : OwnA w base lo (some ⟨g, 0, none⟩) n c ks rows) (j : Nat) : w.frozen? ⟨g, j, none⟩ = false := by
  obtain ⟨_, _, vs, _, hown, _⟩ := h
  exact World.ownsRow.frozenAt hown j
theorem OwnA.weaken {base' lo' : Nat} (h : OwnA w base lo A n c ks rows) (hb : base' ≤ base) (hl : lo' ≤ lo) : OwnA w base' lo' A n c ks rows := by
  obtain ⟨hk, h1, vs, hv, hown, hr⟩ := h
  refine ⟨hk, h1, vs, hv, ⟨hown.1, ?_⟩, fun j hj => ?_⟩
  · rcases hown.2 with h0 | ⟨g, cap, cur, hv, hg, r⟩
    · exact .inl h0
    · exact .inr ⟨g, cap, cur, hv, Nat.le_trans hb hg, r⟩
  · obtain ⟨A', n', c', k1, k2, k3, k4, k5⟩ := hr j hj
    exact ⟨A', n', c', k1, k2, k3, fun h0 b off s e => by have := k4 h0 b off s e; omega, k5⟩

/-- Another answer in its place. -/
theorem OwnA.put {g : Nat} {b : Bool} {j : Nat} {A' : Option Addr} {n' c' : Nat} {row : List Int} (h : OwnA w base lo (some ⟨g, 0, none⟩) n c ks rows) (hj : j < n) (hn' : n' ≤ 17592186044416) (hI : Ints w w.heap.size A' n' row) (hlo : Lo lo A' n')
    (hap : 0 < n' → ∀ b off s, A' = some ⟨b, off, s⟩ → g ≠ b) :
    OwnA ((w.setCell ⟨g, j * 2, none⟩ (.bool b)).setCell ⟨g, j * 2 + 1, none⟩ (.slice A' n' c')) base lo (some ⟨g, 0, none⟩) n c (ks.set j b) (rows.set j row) := by
  obtain ⟨hk, hl, vs, hv, hown, hr⟩ := h
  have o1 := (World.ownsRow.stored hown (j * 2) (.bool b)).1
  rw [ansV_set b ks vs (by omega) j (by omega)] at o1
  have o2 := (World.ownsRow.stored o1 (j * 2 + 1) (.slice A' n' c')).1
  rw [ansV_setR _ (ks.set j b) vs (by simp; omega) j (by simp; omega)] at o2
  have hkeep : ∀ k, k ≠ g → ((w.setCell ⟨g, j * 2, none⟩ (.bool b)).setCell ⟨g, j * 2 + 1, none⟩ (.slice A' n' c')).heap[k]? = w.heap[k]? := fun k hk => (Below.heap_setCell _ _ _ k hk).trans (Below.heap_setCell _ _ _ k hk)
  have key : ∀ (B : Option Addr) (m : Nat) (xs : List Int), Ints w w.heap.size B m xs → (0 < m → ∀ b off s, B = some ⟨b, off, s⟩ → g ≠ b) → Ints ((w.setCell ⟨g, j * 2, none⟩ (.bool b)).setCell ⟨g, j * 2 + 1, none⟩ (.slice A' n' c')) ((w.setCell ⟨g, j * 2, none⟩ (.bool b)).setCell ⟨g, j * 2 + 1, none⟩ (.slice A' n' c')).heap.size B m xs :=
    fun B m xs h3 h5 => h3.keepBlk (by simp [World.setCell]) (fun h0 b off s e1 hb => hkeep b (fun e => h5 h0 b off s e1 e.symm))
  refine ⟨by simp [hk], by simp [hl], vs.set j (.slice A' n' c'), by simp [hv], o2, fun i hi => ?_⟩
  by_cases e : j = i
  · subst e
    refine ⟨A', n', c', by rw [List.getElem?_set, if_pos rfl, if_pos (by omega)], hn', ?_, hlo, fun h0 b off s e1 e2 => hap h0 b off s e1 (by injection e2)⟩
    have : (rows.set j row).getD j [] = row := by rw [List.getD_eq_getElem?_getD, List.getElem?_set, if_pos rfl, if_pos (by omega)]; rfl
    rw [this]
    exact key A' n' row hI hap
  · obtain ⟨A1, n1, c1, h1, h2, h3, h4, h5⟩ := hr i hi
    refine ⟨A1, n1, c1, by rw [List.getElem?_set, if_neg e]; exact h1, h2, ?_, h4, h5⟩
    have : (rows.set j row).getD i [] = rows.getD i [] := by rw [List.getD_eq_getElem?_getD, List.getElem?_set, if_neg e, List.getD_eq_getElem?_getD]
    rw [this]
    exact key A1 n1 _ h3 (fun h0 b off s e1 e2 => h5 h0 b off s e1 (by rw [e2]; rfl))
end

/-- One more answer. -/
theorem wpList_append_ans {w : World} {ops : Array Oper} {rest : List Oper} {o : Oper} {a : Act} {Q : Exit → Act → World → Prop} (hgd : o.guard = none) (s x : Operand) (t : TypeId)
    (ho : o.op = .call { callee := .builtin .append, args := #[s, x], argTypes := #[t, t] })
    (ht : Try.prog.underlying t = some (.slice 89)) (base lo : Nat) (A : Option Addr) (n c : Nat) (ks : List Bool) (rows : List (List Int)) (hs : a.eval s = .slice A n c) (hown : OwnA w base lo A n c ks rows)
    (b : Nat) (c2 : Nat) (u : Bool) (A' : Option Addr) (n' c' : Nat) (row : List Int) (hx : a.eval x = .slice (some ⟨b, 0, none⟩) 1 c2) (h0 : w.cell? ⟨b, 0, none⟩ = some (.bool u)) (h1 : w.cell? ⟨b, 1, none⟩ = some (.slice A' n' c'))
    (hn' : n' ≤ 17592186044416) (hI : Ints w w.heap.size A' n' row) (hlo : Lo lo A' n') (hap : 0 < n' → ∀ b off s, A' = some ⟨b, off, s⟩ → (Value.slice A n c).ownBlock ≠ some b) (hn : n ≤ 1000000) (hbase : base ≤ w.heap.size)
    (h : ∀ A2 c2 w', OwnA w' base lo A2 (n + 1) c2 (ks ++ [u]) (rows ++ [row]) → Below base w w' → wpList Try.prog ops Q rest (a.put o.dst (.slice A2 (n + 1) c2)) w') : wpList Try.prog ops Q (o :: rest) a w := by
  obtain ⟨i, hi, hz, hsize, hby⟩ := info_parts info_answer
  obtain ⟨hk, hl, vs, hv, hown, hr⟩ := hown
  refine wpList_append_any w hgd s x t ho base 89 i _ 2 32 ht hi hz hsize hby rfl (by omega) (.slice A n c) n (ansV ks vs) hs hown (b + 1) (some ⟨b, 0, none⟩) 1 c2 [.bool u, .slice A' n' c'] hx
    ⟨rfl, fun _ => ⟨_, rfl, Nat.lt_succ_self b, fun j v hj => ?_⟩⟩ (fun v hv => by
      simp only [List.mem_cons, List.not_mem_nil, or_false] at hv
      rcases hv with rfl | rfl <;> rfl) (by unfold maxLen; omega) (by omega) hbase ?_
  · match j, hj with
    | 0, hj =>
      simp at hj; subst hj; exact h0
    | 1, hj =>
      simp at hj; subst hj; exact h1
    | j + 2, hj => simp at hj
  · intro v' w' hown' hg hat
    rw [← ansV_snoc u _ ks vs (by omega)] at hown'
    have hb : Below base w w' := (Below.refl base w).grown hg hbase (fun k hk => (World.ownsRow.lt hown k hk).1)
    rcases hown'.2 with ⟨hv, hn0⟩ | ⟨g, cap, cur, hv2, _⟩
    · omega
    · rw [hv2] at hown' hat ⊢
      have key : ∀ (B : Option Addr) (m d : Nat) (xs : List Int), Ints w w.heap.size B m xs → (0 < m → ∀ b off s, B = some ⟨b, off, s⟩ → (Value.slice A n c).ownBlock ≠ some b) →
          Ints w' w'.heap.size B m xs ∧ (0 < m → ∀ b off s, B = some ⟨b, off, s⟩ → (Value.slice (some ⟨g, 0, none⟩) (n + 1) cap).ownBlock ≠ some b) := by
        intro B m d xs h3 h5
        refine ⟨h3.keepBlk hg.size (fun h0 b off s e1 hb => hg.block b hb (fun e2 => h5 h0 b off s e1 e2.symm)), fun h0 b off s e1 e2 => ?_⟩
        rcases hat with h6 | h6
        · exact h5 h0 b off s e1 (by rw [← h6, e2])
        · rw [h6] at e2
          injection e2 with e2
          subst e1
          have := h3.lt h0
          omega
      refine h _ cap w' ⟨by simp [hk], by simp [hl], vs ++ [.slice A' n' c'], by simp [hv], hown', fun j hj => ?_⟩ hb
      rcases Nat.lt_or_ge j n with hj' | hj'
      · obtain ⟨B, m, d, h1, h2, h3, h4, h5⟩ := hr j hj'
        obtain ⟨k1, k2⟩ := key B m d _ h3 h5
        refine ⟨B, m, d, by rw [List.getElem?_append_left (by omega)]; exact h1, h2, ?_, h4, k2⟩
        rw [List.getD_eq_getElem?_getD, List.getElem?_append_left (by omega), ← List.getD_eq_getElem?_getD]; exact k1
      · obtain rfl : j = n := by omega
        obtain ⟨k1, k2⟩ := key A' n' c' _ hI hap
        refine ⟨A', n', c', by rw [List.getElem?_append_right (by omega), hv, Nat.sub_self]; rfl, hn', ?_, hlo, k2⟩
        rw [List.getD_eq_getElem?_getD, List.getElem?_append_right (by omega), hl, Nat.sub_self]; exact k1
end Go.Proofs.Ytoblofilaegnaaa
