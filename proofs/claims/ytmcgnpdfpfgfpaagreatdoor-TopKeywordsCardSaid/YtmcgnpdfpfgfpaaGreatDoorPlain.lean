/-
  Words for memory and contracts of small functions of the second form. Conditions: those of each lemma.
-/
import Derived.WalkKit
import Derived.Below
import Derived.Laws.OwnMore
import Derived.Laws.Rows
import Derived.Deep.AppendLies
import Derived.Deep.Draws
import Derived.Maps.AppendAt
import Derived.RegionTactic
import Derived.OwnWalk
import Derived.Deep.QuietTactic
import Derived.RangeFuncNested
import Derived.RangeFuncBound
import Derived.RangeFuncCalls
import Derived.RangeFuncLeaves
import Derived.RangeFuncBox
import Derived.ArgAppend
import Derived.Deep.RegionLaw
import Derived.BigFrame
import Derived.Maps.OwnSet
import Derived.Maps.OwnOps
import Derived.Maps.Views
/-! Mem -/
namespace Go.Proofs.YtmcgnpdfpfgfpaaGreatDoor
open Go.RowKit
set_option linter.unusedVariables false

def Reads (w : World) (B size : Nat) (A : Option Addr) (n : Nat) (xs : List Value) : Prop :=
  xs.length = n * size ∧ (0 < n → ∃ ad, A = some ad ∧ ad.block < B ∧ ∀ j u, xs[j]? = some u → w.cell? (ad.add j) = some u)

section
variable {w w' : World} {B B' size n : Nat} {A : Option Addr} {xs : List Value}
theorem Reads.of_own {base : Nat} {e : TypeId} {c : Nat} (h : w.ownsRow base e size (.slice A n c) n xs) : Reads w w.heap.size size A n xs := by
  refine ⟨h.1, fun hn => ?_⟩
  obtain ⟨g, cap, hv, _, hlt⟩ := h.form hn
  have hA : A = some ⟨g, 0, none⟩ := by injection hv
  subst hA
  exact ⟨_, rfl, hlt, h.cells (g := g) rfl⟩
end

def Blk (w : World) (g : Nat) (t : TypeId) (cs : Array Value) : Prop := w.heap[g]? = some (.cells cs t (0, 0))

section
variable {w w' : World} {g : Nat} {t : TypeId} {cs : Array Value}
theorem Blk.lt (h : Blk w g t cs) : g < w.heap.size := by
  rcases Nat.lt_or_ge g w.heap.size with hlt | hge
  · exact hlt
  · unfold Blk at h; rw [Array.getElem?_eq_none hge] at h; cases h
theorem Blk.cell (h : Blk w g t cs) (i : Nat) : w.cell? ⟨g, i, none⟩ = cs[i]? := cell_of_row w g i cs t (0, 0) h
theorem Blk.frozen (h : Blk w g t cs) (i : Nat) : w.frozen? ⟨g, i, none⟩ = false := by
  unfold Blk at h
  simp [World.frozen?, h]
theorem Blk.new (w : World) (t : TypeId) (cs : Array Value) : Blk (w.alloc (.cells cs t)) w.heap.size t cs := heap_alloc_new w _
theorem Blk.drew (h : Blk w g t cs) : Blk w.drew g t cs := h
theorem Blk.drewN (h : Blk w g t cs) (n : Nat) : Blk (w.drewN n) g t cs := h
theorem Blk.alloc (h : Blk w g t cs) (o : Obj) : Blk (w.alloc o) g t cs := (Below.heap_alloc w o g h.lt).trans h
theorem Blk.set_ (h : Blk w g t cs) (i : Nat) (u : Value) : Blk (w.setCell ⟨g, i, none⟩ u) g t (cs.setIfInBounds i u) := by
  unfold Blk at h ⊢
  simp [World.setCell, Array.getElem?_modify, h]
theorem Blk.far (h : Blk w g t cs) {p : Addr} (hp : g ≠ p.block) (u : Value) : Blk (w.setCell p u) g t cs := (Below.heap_setCell w p u g hp).trans h
theorem Blk.below {B : Nat} (h : Blk w g t cs) (hb : Below B w w') (hg : g < B) : Blk w' g t cs := (hb.block g hg).trans h
theorem Blk.grown {row : Option Nat} (h : Blk w g t cs) (hb : w.grownBy w' row) (hg : some g ≠ row) : Blk w' g t cs := (hb.block g h.lt hg).trans h
theorem Blk.ne_ {g' : Nat} {t' : TypeId} {cs' : Array Value} (h : Blk w g t cs) (h' : Blk w g' t' cs') (hne : t ≠ t') : g ≠ g' := by
  rintro rfl
  unfold Blk at h h'
  rw [h] at h'
  injection h' with h'
  injection h' with _ ht
  exact hne ht
theorem own_blk_ne {base : Nat} {e : TypeId} {size n : Nat} {v : Value} {xs : List Value} (h : w.ownsRow base e size v n xs) (hg : Blk w g t cs) (hne : e ≠ t) : v.ownBlock ≠ some g := by
  rcases h.2 with ⟨rfl, _⟩ | ⟨g', cap, cur, rfl, _, hh, _⟩
  · simp [Value.ownBlock]
  · intro he
    have : g' = g := by simpa [Value.ownBlock] using he
    subst this
    exact Blk.ne_ (t := e) hh hg hne rfl
end

section
variable {P : Program} (w : World)

theorem run_append_of_nil (base : Nat) (t ty e : TypeId) (i : TypeInfo) (size : Nat) (ht : P.underlying t = some (.slice e)) (hi : P.info? e = some i)
    (v : Value) (n : Nat) (xs : List Value) (hown : w.ownsRow base e size v n xs) (c : Nat) : (Builtin.append_ #[t, t] ty #[v, .slice none 0 c]).run P w = .ok v w := by
  rcases hown.2 with ⟨rfl, rfl⟩ | ⟨g, cap, cur, rfl, _, _, hnc, _⟩
  · simp [Builtin.append_, run_underlying ht, sizeOf, typeInfo, hi, Builtin.lenOf, Builtin.firstCells]
  · simp [Builtin.append_, run_underlying ht, sizeOf, typeInfo, hi, Builtin.lenOf, Builtin.firstCells, hnc, storeCells]

theorem run_append_any (base : Nat) (t ty e : TypeId) (i : TypeInfo) (z : Value) (size bytes : Nat) (ht : P.underlying t = some (.slice e)) (hi : P.info? e = some i) (hz : i.zero = some z)
    (hsize : i.size = size) (hby : i.bytes = bytes) (hzs : z.cells.size = size) (hsz : 0 < size)
    (v : Value) (n : Nat) (xs : List Value) (hown : w.ownsRow base e size v n xs)
    (B : Nat) (A : Option Addr) (m c : Nat) (news : List Value) (hr : Reads w B size A m news) (h1 : ∀ u ∈ news, u.oneCell' = true)
    (h63 : n + m ≤ maxLen) (hbytes : (n + m) * bytes ≤ 140737488355328) (hbase : base ≤ w.heap.size) :
    ∃ v' w', (Builtin.append_ #[t, t] ty #[v, .slice A m c]).run P w = .ok v' w' ∧ w'.ownsRow base e size v' (n + m) (xs ++ news) ∧ w.grownBy w' v.ownBlock ∧
      (v'.ownBlock = v.ownBlock ∨ v'.ownBlock = some w.heap.size) := by
  rcases A with _ | ad
  · have hm : m = 0 := by
      rcases Nat.eq_zero_or_pos m with h0 | h0
      · exact h0
      · obtain ⟨ad, h, _⟩ := hr.2 h0
        cases h
    subst hm
    have hn : news = [] := List.eq_nil_of_length_eq_zero (by simpa using hr.1)
    subst hn
    exact ⟨v, w, run_append_of_nil w base t ty e i size ht hi v n xs hown c, by simpa using hown, World.grownBy.refl w _, .inl rfl⟩
  · have hcells : ∀ j u, news[j]? = some u → w.cell? (ad.add j) = some u := by
      intro j u hu
      rcases Nat.eq_zero_or_pos m with h0 | h0
      · subst h0
        have hn : news = [] := List.eq_nil_of_length_eq_zero (by simpa using hr.1)
        subst hn
        simp at hu
      · obtain ⟨ad', h, _, hc⟩ := hr.2 h0
        injection h with h
        subst h
        exact hc j u hu
    obtain ⟨v', w', hrun, h2, h3, _, h5⟩ := run_append_own_at (P := P) w base t ty e i z size bytes ht hi hz hsize hby hzs hsz v n xs hown ad m c news hr.1 hcells h1 h63 hbytes hbase
    exact ⟨v', w', hrun, h2, h3, h5⟩

theorem wp_append_any {o : Oper} {a : Act} {K : Act → World → Prop} {Q : Exit → Act → World → Prop} (s x : Operand) (t : TypeId)
    (ho : o.op = .call { callee := .builtin .append, args := #[s, x], argTypes := #[t, t] })
    (base : Nat) (e : TypeId) (i : TypeInfo) (z : Value) (size bytes : Nat) (ht : P.underlying t = some (.slice e)) (hi : P.info? e = some i) (hz : i.zero = some z)
    (hsize : i.size = size) (hby : i.bytes = bytes) (hzs : z.cells.size = size) (hsz : 0 < size)
    (v : Value) (n : Nat) (xs : List Value) (hs : a.eval s = v) (hown : w.ownsRow base e size v n xs)
    (B : Nat) (A : Option Addr) (m c : Nat) (news : List Value) (hx : a.eval x = .slice A m c) (hr : Reads w B size A m news) (h1 : ∀ u ∈ news, u.oneCell' = true)
    (h63 : n + m ≤ maxLen) (hbytes : (n + m) * bytes ≤ 140737488355328) (hbase : base ≤ w.heap.size)
    (h : ∀ v' w', w'.ownsRow base e size v' (n + m) (xs ++ news) → w.grownBy w' v.ownBlock → (v'.ownBlock = v.ownBlock ∨ v'.ownBlock = some w.heap.size) → K (a.put o.dst v') w') : o.wp P a w K Q := by
  obtain ⟨v', w', hrun, h2, h3, h4⟩ := run_append_any (P := P) w base t o.type e i z size bytes ht hi hz hsize hby hzs hsz v n xs hown B A m c news hr h1 h63 hbytes hbase
  unfold Oper.wp execOp
  simp only [ho, resolve, invoke, builtin, Sem.run_bind, Sem.run_pure, Result.andThen_ok, List.map_toArray, List.map_cons, List.map_nil, hs, hx, hrun]
  exact h v' w' h2 h3 h4

theorem wpList_append_any {ops : Array Oper} {rest : List Oper} {o : Oper} {a : Act} {Q : Exit → Act → World → Prop} (hgd : o.guard = none) (s x : Operand) (t : TypeId)
    (ho : o.op = .call { callee := .builtin .append, args := #[s, x], argTypes := #[t, t] })
    (base : Nat) (e : TypeId) (i : TypeInfo) (z : Value) (size bytes : Nat) (ht : P.underlying t = some (.slice e)) (hi : P.info? e = some i) (hz : i.zero = some z)
    (hsize : i.size = size) (hby : i.bytes = bytes) (hzs : z.cells.size = size) (hsz : 0 < size)
    (v : Value) (n : Nat) (xs : List Value) (hs : a.eval s = v) (hown : w.ownsRow base e size v n xs)
    (B : Nat) (A : Option Addr) (m c : Nat) (news : List Value) (hx : a.eval x = .slice A m c) (hr : Reads w B size A m news) (h1 : ∀ u ∈ news, u.oneCell' = true)
    (h63 : n + m ≤ maxLen) (hbytes : (n + m) * bytes ≤ 140737488355328) (hbase : base ≤ w.heap.size)
    (h : ∀ v' w', w'.ownsRow base e size v' (n + m) (xs ++ news) → w.grownBy w' v.ownBlock → (v'.ownBlock = v.ownBlock ∨ v'.ownBlock = some w.heap.size) → wpList P ops Q rest (a.put o.dst v') w') : wpList P ops Q (o :: rest) a w :=
  wpList_plain hgd fun _ hK => wp_append_any w s x t ho base e i z size bytes ht hi hz hsize hby hzs hsz v n xs hs hown B A m c news hx hr h1 h63 hbytes hbase fun v' w' h2 h3 h4 => hK _ _ (h v' w' h2 h3 h4)

theorem step_append_any {ops : Array Oper} {o : Oper} {a : Act} {K : Act → World → Prop} {Q : Exit → Act → World → Prop} {E : Prop} (hgd : o.guard = none) (s x : Operand) (t : TypeId)
    (ho : o.op = .call { callee := .builtin .append, args := #[s, x], argTypes := #[t, t] })
    (base : Nat) (e : TypeId) (i : TypeInfo) (z : Value) (size bytes : Nat) (ht : P.underlying t = some (.slice e)) (hi : P.info? e = some i) (hz : i.zero = some z)
    (hsize : i.size = size) (hby : i.bytes = bytes) (hzs : z.cells.size = size) (hsz : 0 < size)
    (v : Value) (n : Nat) (xs : List Value) (hs : a.eval s = v) (hown : w.ownsRow base e size v n xs)
    (B : Nat) (A : Option Addr) (m c : Nat) (news : List Value) (hx : a.eval x = .slice A m c) (hr : Reads w B size A m news) (h1 : ∀ u ∈ news, u.oneCell' = true)
    (h63 : n + m ≤ maxLen) (hbytes : (n + m) * bytes ≤ 140737488355328) (hbase : base ≤ w.heap.size)
    (h : ∀ v' w', w'.ownsRow base e size v' (n + m) (xs ++ news) → w.grownBy w' v.ownBlock → (v'.ownBlock = v.ownBlock ∨ v'.ownBlock = some w.heap.size) → K (a.put o.dst v') w') :
    if Region.wanted o (yielded ops a.tmps) = true then Oper.wp P o a w K Q else E := by
  have hw : Region.wanted o (yielded ops a.tmps) = true := by simp [Region.wanted, hgd]
  rw [if_pos hw]
  exact wp_append_any w s x t ho base e i z size bytes ht hi hz hsize hby hzs hsz v n xs hs hown B A m c news hx hr h1 h63 hbytes hbase h
end

theorem quiet_add_left {P : Program} {f : FuncId} {args : Array Value} {w : World} {a n : Nat} {v : Value}
    (h : Calls P f args (w.drewN (a + n)) fun e w' => e = .returned v ∧ w.drewN (a + n) = w') :
    Calls P f args (w.drewN (a + n)) fun e w'' => e = .returned v ∧ ∃ m, w'' = w.drewN (a + m) :=
  h.mono fun _ _ ⟨he, hm⟩ => ⟨he, n, hm.symm⟩
theorem below_drewN {B : Nat} {a w : World} (h : Below B a w) (n : Nat) : Below B a (w.drewN n) := ⟨h.os, h.tape, h.output, h.size, h.block⟩

/-- A list of numbers as the cells of a row. -/
def vals (xs : List Int) : List Value := xs.map (Value.int .i64)

theorem vals_one (xs : List Int) : ∀ u ∈ vals xs, u.oneCell' = true := by
  intro u hu
  simp only [vals, List.mem_map] at hu
  obtain ⟨x, _, rfl⟩ := hu
  rfl

theorem bnext {w0 w w' : World} (h : Below w0.heap.size w0 w) (h' : Below w.heap.size w w') : Below w0.heap.size w0 w' := h.trans (h'.mono h.size)
theorem bbox {w0 : World} (o : Obj) : Below w0.heap.size w0 (w0.alloc o) := (Below.refl _ _).alloc (Nat.le_refl _) _
theorem ballocs {w0 w : World} (h : Below w0.heap.size w0 w) (o : Obj) : Below w0.heap.size w0 (w.alloc o) := h.alloc h.size _

theorem le_alloc {B : Nat} {w : World} (h : B ≤ w.heap.size) (o : Obj) : B ≤ (w.alloc o).heap.size := by simp; omega

theorem ret_int {k : IntKind} {a b : Int} (h : a = b) : Ending.returned (.int k a) = .returned (.int k b) := by rw [h]
theorem ret_bool {a b : Bool} (h : a = b) : Ending.returned (.bool a) = .returned (.bool b) := by rw [h]

/-- What is known of a slice of numbers that came in, as the row's own step hands it over. -/
def IsRow (k : IntKind) (w : World) (a : Option Addr) (len cap : Nat) (zs : List Int) : Prop :=
  (a = none ∧ len = 0 ∧ cap = 0 ∧ zs = []) ∨
  ∃ x, a = some x ∧ len ≤ cap ∧ cap ≤ maxLen ∧ zs.length = cap ∧ (∀ i, i < zs.length → w.cell? (x.add i) = some (.int k (zs.getD i 0))) ∧ ∀ n ∈ zs, (Lit.int k n).wf = true

/-- Every number of a list is an int of 64 bits. -/
def Wf64 (xs : List Int) : Prop := ∀ x ∈ xs, -9223372036854775808 ≤ x ∧ x ≤ 9223372036854775807

/-- The slice value with address A and n elements reads as the list xs; it lies below block B. -/
def Ints (w : World) (B : Nat) (A : Option Addr) (n : Nat) (xs : List Int) : Prop :=
  xs.length = n ∧ (0 < n → ∃ b off, A = some ⟨b, off, none⟩ ∧ b < B ∧ ∀ j, j < n → w.cell? ⟨b, off + j, none⟩ = some (.int .i64 (xs.getD j 0)))

section
variable {w w' : World} {B B' n : Nat} {A : Option Addr} {xs : List Int}
theorem Ints.nil_ : Ints w B A 0 [] := ⟨rfl, fun h => absurd h (by omega)⟩
theorem Ints.len (h : Ints w B A n xs) : xs.length = n := h.1
theorem Ints.keep (h : Ints w B A n xs) (hk : ∀ p : Addr, p.block < B → w'.cell? p = w.cell? p) : Ints w' B A n xs :=
  ⟨h.1, fun hn => by
    obtain ⟨b, off, e, hb, hc⟩ := h.2 hn
    exact ⟨b, off, e, hb, fun j hj => (hk _ hb).trans (hc j hj)⟩⟩
theorem Ints.more (h : Ints w B A n xs) (hB : B ≤ B') : Ints w B' A n xs :=
  ⟨h.1, fun hn => by
    obtain ⟨b, off, e, hb, hc⟩ := h.2 hn
    exact ⟨b, off, e, by omega, hc⟩⟩
theorem Ints.below (h : Ints w B A n xs) (hb : Below B w w') : Ints w' B A n xs := h.keep fun _ hp => hb.cell hp
theorem Ints.upto {w0 : World} (h : Ints w0 w0.heap.size A n xs) (hb : Below w0.heap.size w0 w') : Ints w' w'.heap.size A n xs := (h.below hb).more hb.size
theorem Ints.alloc (h : Ints w B A n xs) (hB : B ≤ w.heap.size) (o : Obj) : Ints (w.alloc o) B A n xs := h.keep fun p hp => World.cell?_alloc_lt w o p (by omega)
theorem Ints.setCell (h : Ints w B A n xs) {p : Addr} (hB : B ≤ p.block) (u : Value) : Ints (w.setCell p u) B A n xs :=
  h.keep fun q hq => World.cell?_setCell_other w p q u (fun e => by subst e; omega)
theorem Ints.reads (h : Ints w B A n xs) : Reads w B 1 A n (vals xs) := by
  refine ⟨by simp [vals, h.1], fun hn => ?_⟩
  obtain ⟨b, off, e, hb, hc⟩ := h.2 hn
  refine ⟨⟨b, off, none⟩, e, hb, fun j u hu => ?_⟩
  have hj : j < xs.length := by
    rcases Nat.lt_or_ge j xs.length with h1 | h1
    · exact h1
    · rw [vals, List.getElem?_map, List.getElem?_eq_none h1] at hu; cases hu
  have := hc j (by have := h.1; omega)
  simp only [vals, List.getElem?_map, List.getElem?_eq_getElem hj, Option.map_some, Option.some.injEq] at hu
  subst hu
  rw [List.getD_eq_getElem?_getD, List.getElem?_eq_getElem hj, Option.getD_some] at this
  rw [← this]
  by_cases h0 : j = 0
  · subst h0; simp [Addr.add]
  · simp [Addr.add, h0]
theorem Ints.of_own {base : Nat} {e : TypeId} {c : Nat} (h : w.ownsRow base e 1 (.slice A n c) n (vals xs)) : Ints w w.heap.size A n xs := by
  have hl : xs.length = n := by have := h.1; simpa [vals] using this
  refine ⟨hl, fun hn => ?_⟩
  obtain ⟨g, cap, hv, _, hlt⟩ := h.form hn
  have hA : A = some ⟨g, 0, none⟩ := by injection hv
  subst hA
  refine ⟨g, 0, rfl, hlt, fun j hj => ?_⟩
  have := h.cells (g := g) rfl j (.int .i64 (xs.getD j 0)) (by rw [vals, List.getElem?_map, List.getElem?_eq_getElem (by omega)]; simp [List.getD_eq_getElem?_getD, List.getElem?_eq_getElem (show j < xs.length by omega)])
  by_cases h0 : j = 0
  · subst h0; simpa [Addr.add] using this
  · simpa [Addr.add, h0] using this
theorem Ints.lt {b off : Nat} {s : Option _} (h : Ints w B (some ⟨b, off, s⟩) n xs) (hn : 0 < n) : b < B := by
  obtain ⟨b', off', e, hb, _⟩ := h.2 hn
  injection e with e
  injection e with e1 e2 e3
  omega
end

theorem wf64_of {n : Int} (h : (Lit.int .i64 n).wf = true) : -9223372036854775808 ≤ n ∧ n ≤ 9223372036854775807 := by
  simpa [Lit.wf, IntKind.min, IntKind.max, IntKind.signed, IntKind.bits] using h

/-- What came in reads as the list of its elements. -/
theorem IsRow.ints {w : World} {a : Option Addr} {len cap : Nat} {zs : List Int} (h : IsRow .i64 w a len cap zs) :
    Ints w w.heap.size a len (zs.take len) ∧ Wf64 (zs.take len) := by
  rcases h with ⟨rfl, rfl, rfl, rfl⟩ | ⟨x, rfl, hl, hm, hz, hc, hw⟩
  · exact ⟨⟨rfl, fun h => absurd h (by omega)⟩, fun x hx => by cases hx⟩
  · refine ⟨⟨by rw [List.length_take]; omega, fun hn => ?_⟩, fun n hn => wf64_of (hw n (List.mem_of_mem_take hn))⟩
    obtain ⟨b, off, spot⟩ := x
    have h0 := hc 0 (by omega)
    have hs : spot = none := by simpa [Addr.add] using World.cell?_spot h0
    subst hs
    refine ⟨b, off, rfl, by simpa [Addr.add] using block_lt_of_cell h0, fun j hj => ?_⟩
    have := hc j (by omega)
    rw [List.getD_eq_getElem?_getD, List.getElem?_take, if_pos hj, ← List.getD_eq_getElem?_getD, ← this]
    by_cases h0 : j = 0
    · subst h0; simp [Addr.add]
    · simp [Addr.add, h0]
theorem take_snoc_int (l : List Int) (k : Nat) (h : k < l.length) : l.take (k + 1) = l.take k ++ [l.getD k 0] := by
  rw [List.take_succ_eq_append_getElem h, List.getD_eq_getElem?_getD, List.getElem?_eq_getElem h, Option.getD_some]

/-- A row of numbers that the call itself made. -/
def OwnI (w : World) (base : Nat) (e : TypeId) (A : Option Addr) (n c : Nat) (xs : List Int) : Prop := w.ownsRow base e 1 (.slice A n c) n (vals xs)

section
variable {w w' : World} {base n c : Nat} {e : TypeId} {A : Option Addr} {xs : List Int}
theorem OwnI.nil_ : OwnI w base e none 0 0 [] := World.ownsRow_nil _ _ _ _
theorem OwnI.len (h : OwnI w base e A n c xs) : xs.length = n := by have := h.1; simpa [vals] using this
theorem OwnI.ints (h : OwnI w base e A n c xs) : Ints w w.heap.size A n xs := Ints.of_own h
theorem OwnI.alloc (h : OwnI w base e A n c xs) (o : Obj) : OwnI (w.alloc o) base e A n c xs := World.ownsRow.alloc h o
theorem OwnI.drewN (h : OwnI w base e A n c xs) (k : Nat) : OwnI (w.drewN k) base e A n c xs := h
theorem OwnI.row (h : OwnI w base e A n c xs) : ∀ k, (Value.slice A n c).ownBlock = some k → base ≤ k := fun k hk => (World.ownsRow.lt h k hk).1
theorem OwnI.below {B : Nat} (h : OwnI w base e A n c xs) (hb : Below B w w') (hB : ∀ k, (Value.slice A n c).ownBlock = some k → k < B) : OwnI w' base e A n c xs := by
  refine ⟨h.1, ?_⟩
  rcases h.2 with h0 | ⟨g, cap, cur, hv, hg, hh, r⟩
  · exact .inl h0
  · refine .inr ⟨g, cap, cur, hv, hg, ?_, r⟩
    rw [hb.block g (hB g (by rw [hv]; rfl))]; exact hh
theorem OwnI.belowAll (h : OwnI w base e A n c xs) (hb : Below w.heap.size w w') : OwnI w' base e A n c xs := h.below hb fun k hk => (World.ownsRow.lt h k hk).2
theorem OwnI.kept {row : Option Nat} (h : OwnI w base e A n c xs) (hg : w.grownBy w' row) (hne : (Value.slice A n c).ownBlock = none ∨ (Value.slice A n c).ownBlock ≠ row) : OwnI w' base e A n c xs := World.ownsRow.kept h hg hne
theorem OwnI.form (h : OwnI w base e A n c xs) (hn : 0 < n) : ∃ g, A = some ⟨g, 0, none⟩ ∧ base ≤ g ∧ g < w.heap.size := by
  obtain ⟨g, cap, hv, h1, h2⟩ := World.ownsRow.form h hn
  injection hv with hA
  exact ⟨g, hA, h1, h2⟩
theorem OwnI.cellAt {g : Nat} (h : OwnI w base e (some ⟨g, 0, none⟩) n c xs) {j : Nat} (hj : j < n) : w.cell? ⟨g, j, none⟩ = some (.int .i64 (xs.getD j 0)) := by
  have hl := h.len
  rw [World.ownsRow.cellAt h j (by omega), vals, List.getElem?_map, List.getElem?_eq_getElem (by omega), List.getD_eq_getElem?_getD, List.getElem?_eq_getElem (by omega)]
  rfl
theorem OwnI.frozenAt {g : Nat} (h : OwnI w base e (some ⟨g, 0, none⟩) n c xs) (j : Nat) : w.frozen? ⟨g, j, none⟩ = false := World.ownsRow.frozenAt h j
theorem OwnI.stored {g : Nat} (h : OwnI w base e (some ⟨g, 0, none⟩) n c xs) (j : Nat) (x : Int) : OwnI (w.setCell ⟨g, j, none⟩ (.int .i64 x)) base e (some ⟨g, 0, none⟩) n c (xs.set j x) := by
  have := (World.ownsRow.stored h j (.int .i64 x)).1
  unfold OwnI vals
  rw [List.map_set]; exact this
end

/-- The new cell in which an appended element lies. -/
theorem Ints.one (w : World) (x : Int) (t : TypeId) : Ints (w.alloc (.cells #[.int .i64 x] t)) (w.heap.size + 1) (some ⟨w.heap.size, 0, none⟩) 1 [x] :=
  ⟨rfl, fun _ => ⟨_, _, rfl, by omega, fun j hj => by
    obtain rfl : j = 0 := by omega
    exact cell_one_new w (.int .i64 x) t 0 _ rfl⟩⟩

/-- An append of numbers, from any source, onto a row of the call's own. -/
theorem wpList_append_ints {P : Program} {w : World} {ops : Array Oper} {rest : List Oper} {o : Oper} {a : Act} {Q : Exit → Act → World → Prop} (hgd : o.guard = none) (s x : Operand) (t : TypeId)
    (ho : o.op = .call { callee := .builtin .append, args := #[s, x], argTypes := #[t, t] })
    (base : Nat) (e : TypeId) (i : TypeInfo) (z : Value) (ht : P.underlying t = some (.slice e)) (hi : P.info? e = some i) (hz : i.zero = some z)
    (hsize : i.size = 1) (hby : i.bytes = 8) (hzs : z.cells.size = 1)
    (A : Option Addr) (n c : Nat) (xs : List Int) (hs : a.eval s = .slice A n c) (hown : OwnI w base e A n c xs)
    (B : Nat) (A2 : Option Addr) (m c2 : Nat) (ys : List Int) (hx : a.eval x = .slice A2 m c2) (hr : Ints w B A2 m ys)
    (N : Nat) (hN : n + m = N) (zs : List Int) (hzz : xs ++ ys = zs) (hcap : N ≤ 17592186044416) (hbase : base ≤ w.heap.size)
    (h : ∀ A' c' w', OwnI w' base e A' N c' zs → w.grownBy w' (Value.slice A n c).ownBlock → Below base w w' →
      ((Value.slice A' N c').ownBlock = (Value.slice A n c).ownBlock ∨ (Value.slice A' N c').ownBlock = some w.heap.size) → wpList P ops Q rest (a.put o.dst (.slice A' N c')) w') : wpList P ops Q (o :: rest) a w := by
  subst hN hzz
  refine wpList_append_any w hgd s x t ho base e i z 1 8 ht hi hz hsize hby hzs (by omega) (.slice A n c) n (vals xs) hs hown B A2 m c2 (vals ys) hx hr.reads (vals_one ys) (by unfold maxLen; omega) (by omega) hbase ?_
  intro v' w' hown' hg hat
  rw [show vals xs ++ vals ys = vals (xs ++ ys) by simp [vals]] at hown'
  have hb : Below base w w' := (Below.refl base w).grown hg hbase (OwnI.row hown)
  rcases hown'.2 with ⟨hv, hn⟩ | ⟨g, cap, cur, hv, _⟩
  · rw [hv] at hown' hat ⊢
    rw [hn] at hown' h
    exact h none 0 w' hown' hg hb hat
  · rw [hv] at hown' hat ⊢
    exact h _ cap w' hown' hg hb hat
end Go.Proofs.YtmcgnpdfpfgfpaaGreatDoor

/-! FieldA -/
namespace Go.Proofs.YtmcgnpdfpfgfpaaGreatDoor

/-- The number is a prime from 2 to 65521, as the program looks for divisors. -/
def okP (p : Int) : Bool := decide (2 ≤ p) && decide (p ≤ 65521) && (List.range 256).all fun d => decide (d < 2) || decide (p < ((d * d : Nat) : Int)) || decide (p % (d : Int) ≠ 0)

theorem okP_iff (p : Int) : okP p = true ↔ 2 ≤ p ∧ p ≤ 65521 ∧ ∀ d : Nat, 2 ≤ d → ((d * d : Nat) : Int) ≤ p → p % (d : Int) ≠ 0 := by
  unfold okP
  simp only [Bool.and_eq_true, decide_eq_true_eq, List.all_eq_true, List.mem_range, Bool.or_eq_true]
  constructor
  · rintro ⟨⟨h1, h2⟩, h3⟩
    refine ⟨h1, h2, fun d hd hdd => ?_⟩
    have hlt : d < 256 := by
      rcases Nat.lt_or_ge d 256 with h | h
      · exact h
      · have : 256 * 256 ≤ d * d := Nat.mul_le_mul h h
        omega
    rcases h3 d hlt with (h | h) | h
    · omega
    · omega
    · exact h
  · rintro ⟨h1, h2, h3⟩
    refine ⟨⟨h1, h2⟩, fun d _ => ?_⟩
    by_cases hd : d < 2
    · exact .inl (.inl hd)
    · by_cases hdd : p < ((d * d : Nat) : Int)
      · exact .inl (.inr hdd)
      · exact .inr (h3 d (by omega) (by omega))

/-- The number is an element. -/
def inP (p a : Int) : Bool := decide (0 ≤ a ∧ a < p)
theorem inP_iff {p a : Int} : inP p a = true ↔ 0 ≤ a ∧ a < p := by simp [inP]

/-- All numbers are elements. -/
def allP (p : Int) (xs : List Int) : Bool := xs.all (inP p)
theorem allP_iff {p : Int} {xs : List Int} : allP p xs = true ↔ ∀ x ∈ xs, 0 ≤ x ∧ x < p := by simp [allP, inP_iff]
theorem allP_getD {p : Int} {xs : List Int} (h : allP p xs = true) {k : Nat} (hk : k < xs.length) : 0 ≤ xs.getD k 0 ∧ xs.getD k 0 < p := by
  rw [List.getD_eq_getElem?_getD, List.getElem?_eq_getElem hk]; exact allP_iff.1 h _ (List.getElem_mem hk)
theorem allP_append {p : Int} {xs ys : List Int} : allP p (xs ++ ys) = true ↔ allP p xs = true ∧ allP p ys = true := by simp [allP]

def mulP (p x y : Int) : Int := x * y % p
def addP (p x y : Int) : Int := (x + y) % p
def subP (p x y : Int) : Int := (x - y + p) % p

theorem mulP_in {p : Int} (x y : Int) (hp : 2 ≤ p) : 0 ≤ mulP p x y ∧ mulP p x y < p := ⟨Int.emod_nonneg _ (by omega), Int.emod_lt_of_pos _ (by omega)⟩
theorem addP_in {p : Int} (x y : Int) (hp : 2 ≤ p) : 0 ≤ addP p x y ∧ addP p x y < p := ⟨Int.emod_nonneg _ (by omega), Int.emod_lt_of_pos _ (by omega)⟩
theorem subP_in {p : Int} (x y : Int) (hp : 2 ≤ p) : 0 ≤ subP p x y ∧ subP p x y < p := ⟨Int.emod_nonneg _ (by omega), Int.emod_lt_of_pos _ (by omega)⟩

theorem okP_pos {p : Int} (h : okP p = true) : 2 ≤ p ∧ p ≤ 65521 := ⟨((okP_iff p).1 h).1, ((okP_iff p).1 h).2.1⟩

/-- The primes that the maker of fields knows. -/
def isKnown (p : Int) : Prop := p = 2 ∨ p = 3 ∨ p = 5 ∨ p = 7 ∨ p = 11 ∨ p = 13 ∨ p = 17 ∨ p = 257 ∨ p = 65521
theorem okP_known {p : Int} (h : isKnown p) : okP p = true := by
  rcases h with rfl | rfl | rfl | rfl | rfl | rfl | rfl | rfl | rfl <;> decide +kernel
end Go.Proofs.YtmcgnpdfpfgfpaaGreatDoor

/-! ValueA -/
namespace Go.Proofs.YtmcgnpdfpfgfpaaGreatDoor

/-- The value of a polynomial, as the program reckons it. -/
def valueP (p x : Int) (poly : List Int) : Int := poly.foldr (fun c s => addP p (mulP p s x) c) 0

theorem valueP_in {p : Int} (hp : 2 ≤ p) (x : Int) (l : List Int) : 0 ≤ valueP p x l ∧ valueP p x l < p := by
  cases l with
  | nil => exact ⟨by simp [valueP], by simp [valueP]; omega⟩
  | cons c l => exact addP_in _ _ hp

/-- A place and an element of the field. -/
abbrev PlaceElt (p : Int) := { x : Nat × Int // 0 ≤ x.2 ∧ x.2 < p }

/-- What comes in round k, from the end. -/
def backElt (p : Int) (hp : 2 ≤ p) (zs : List Int) (hz : allP p zs = true) (k : Nat) : PlaceElt p :=
  if h : k < zs.length then ⟨(zs.length - 1 - k, zs.getD (zs.length - 1 - k) 0), allP_getD hz (by omega)⟩ else ⟨(0, 0), by simp; omega⟩

theorem backElt_at {p : Int} {hp : 2 ≤ p} {zs : List Int} {hz : allP p zs = true} {k : Nat} (h : k < zs.length) : (backElt p hp zs hz k).1 = (zs.length - 1 - k, zs.getD (zs.length - 1 - k) 0) := by
  unfold backElt; rw [dif_pos h]

/-- The first k of them. -/
def uptoElt {α : Type} (f : Nat → α) (k : Nat) : List α := (List.range k).map f
theorem uptoElt_succ {α : Type} (f : Nat → α) (k : Nat) : uptoElt f (k + 1) = uptoElt f k ++ [f k] := by simp [uptoElt, List.range_succ]
theorem uptoElt_length {α : Type} (f : Nat → α) (k : Nat) : (uptoElt f k).length = k := by simp [uptoElt]

/-- The sum so far. -/
def valueSo (p x : Int) (pre : List (PlaceElt p)) : Int := pre.foldl (fun s c => addP p (mulP p s x) c.1.2) 0
theorem valueSo_snoc (p x : Int) (pre : List (PlaceElt p)) (c : PlaceElt p) : valueSo p x (pre ++ [c]) = addP p (mulP p (valueSo p x pre) x) c.1.2 := by simp [valueSo]
theorem valueSo_in {p : Int} (hp : 2 ≤ p) (x : Int) (pre : List (PlaceElt p)) : 0 ≤ valueSo p x pre ∧ valueSo p x pre < p := by
  rcases List.eq_nil_or_concat pre with rfl | ⟨l, c, rfl⟩
  · exact ⟨by simp [valueSo], by simp [valueSo]; omega⟩
  · rw [List.concat_eq_append, valueSo_snoc]; exact addP_in _ _ hp

theorem valueSo_all {p : Int} (hp : 2 ≤ p) (x : Int) (zs : List Int) (hz : allP p zs = true) : ∀ k, k ≤ zs.length → valueSo p x (uptoElt (backElt p hp zs hz) k) = valueP p x (zs.drop (zs.length - k)) := by
  intro k
  induction k with
  | zero => intro _; simp [uptoElt, valueSo, valueP]
  | succ k ih =>
    intro hk
    rw [uptoElt_succ, valueSo_snoc, ih (by omega), backElt_at (by omega)]
    have e : zs.length - k = zs.length - (k + 1) + 1 := by omega
    have e2 : zs.length - 1 - k = zs.length - (k + 1) := by omega
    rw [e2, List.drop_eq_getElem_cons (show zs.length - (k + 1) < zs.length by omega), ← e]
    show _ = addP p (mulP p (valueP p x (zs.drop (zs.length - k))) x) _
    rw [List.getD_eq_getElem?_getD, List.getElem?_eq_getElem (by omega), Option.getD_some]
end Go.Proofs.YtmcgnpdfpfgfpaaGreatDoor

/-! VecA -/
namespace Go.Proofs.YtmcgnpdfpfgfpaaGreatDoor

/-- Two lists joined element by element. -/
def zipI (f : Int → Int → Int) (a b : List Int) : List Int := List.zipWith f a b

theorem zipI_length (f : Int → Int → Int) (a b : List Int) (h : a.length = b.length) : (zipI f a b).length = a.length := by simp [zipI, h]
theorem zipI_len2 (f : Int → Int → Int) (a b : List Int) {n : Nat} (h : a.length = n) (h' : b.length = n) : (zipI f a b).length = n := by simp [zipI, h, h']

theorem zipI_take_succ (f : Int → Int → Int) (a b : List Int) (k : Nat) (ha : k < a.length) (hb : k < b.length) : zipI f (a.take (k + 1)) (b.take (k + 1)) = zipI f (a.take k) (b.take k) ++ [f (a.getD k 0) (b.getD k 0)] := by
  unfold zipI
  rw [List.take_succ_eq_append_getElem ha, List.take_succ_eq_append_getElem hb, List.zipWith_append (by simp; omega)]
  simp [List.getD_eq_getElem?_getD, ha, hb]

/-- The inner product, as the program sums it up. -/
def sumP (p : Int) (l : List Int) : Int := l.foldl (addP p) 0
def dotP (p : Int) (a b : List Int) : Int := sumP p (zipI (mulP p) a b)

theorem foldl_in {p : Int} (hp : 2 ≤ p) (l : List Int) : ∀ s : Int, 0 ≤ s → s < p → 0 ≤ l.foldl (addP p) s ∧ l.foldl (addP p) s < p := by
  induction l with
  | nil => intro s h0 h1; exact ⟨h0, h1⟩
  | cons x l ih => intro s _ _; exact ih _ (addP_in s x hp).1 (addP_in s x hp).2
theorem sumP_in {p : Int} (hp : 2 ≤ p) (l : List Int) : 0 ≤ sumP p l ∧ sumP p l < p := foldl_in hp l 0 (by omega) (by omega)
theorem dotP_in {p : Int} (hp : 2 ≤ p) (a b : List Int) : 0 ≤ dotP p a b ∧ dotP p a b < p := sumP_in hp _

theorem zipI_all {p : Int} (f : Int → Int → Int) (hf : ∀ x y, 0 ≤ f x y ∧ f x y < p) (a b : List Int) : allP p (zipI f a b) = true := by
  rw [allP_iff]
  intro x hx
  unfold zipI at hx
  obtain ⟨i, hi, rfl⟩ := List.getElem_of_mem hx
  rw [List.getElem_zipWith]
  exact hf _ _
/-- A list times an element. -/
def scaleP (p x : Int) (a : List Int) : List Int := a.map fun y => mulP p y x
theorem scaleP_len (p x : Int) (a : List Int) : (scaleP p x a).length = a.length := by simp [scaleP]
theorem scaleP_all {p : Int} (hp : 2 ≤ p) (x : Int) (a : List Int) : allP p (scaleP p x a) = true := by
  rw [allP_iff]
  intro y hy
  obtain ⟨z, _, rfl⟩ := List.mem_map.1 hy
  exact mulP_in z x hp
end Go.Proofs.YtmcgnpdfpfgfpaaGreatDoor

/-! Cong -/
namespace Go.Proofs.YtmcgnpdfpfgfpaaGreatDoor

/-- Congruence. -/
def Cong (p a b : Int) : Prop := a % p = b % p

section
variable {p a b c d : Int}
theorem Cong.refl (p a : Int) : Cong p a a := rfl
theorem Cong.symm (h : Cong p a b) : Cong p b a := Eq.symm h
theorem Cong.trans (h : Cong p a b) (k : Cong p b c) : Cong p a c := Eq.trans h k
theorem Cong.of_eq (h : a = b) : Cong p a b := by rw [h]; rfl
theorem Cong.add (h : Cong p a b) (k : Cong p c d) : Cong p (a + c) (b + d) := by
  unfold Cong at *; rw [Int.add_emod, h, k, ← Int.add_emod]
theorem Cong.mul (h : Cong p a b) (k : Cong p c d) : Cong p (a * c) (b * d) := by
  unfold Cong at *; rw [Int.mul_emod, h, k, ← Int.mul_emod]
theorem Cong.neg (h : Cong p a b) : Cong p (-a) (-b) := by
  have := (Cong.refl p (-1)).mul h
  rwa [Int.neg_one_mul, Int.neg_one_mul] at this
theorem Cong.sub (h : Cong p a b) (k : Cong p c d) : Cong p (a - c) (b - d) := by
  rw [Int.sub_eq_add_neg, Int.sub_eq_add_neg]; exact h.add k.neg
theorem Cong.mod (p a : Int) : Cong p (a % p) a := Int.emod_emod_of_dvd a (Int.dvd_refl p)
theorem Cong.self (p : Int) : Cong p p 0 := by unfold Cong; simp
theorem Cong.eq (h : Cong p a b) (ha : 0 ≤ a ∧ a < p) (hb : 0 ≤ b ∧ b < p) : a = b := by
  unfold Cong at h; rwa [Int.emod_eq_of_lt ha.1 ha.2, Int.emod_eq_of_lt hb.1 hb.2] at h
theorem Cong.mulP (p a b : Int) : Cong p (mulP p a b) (a * b) := Cong.mod p _
theorem Cong.addP (p a b : Int) : Cong p (addP p a b) (a + b) := Cong.mod p _
theorem Cong.subP (p a b : Int) : Cong p (subP p a b) (a - b) := by
  have := (Cong.mod p (a - b + p)).trans ((Cong.refl p (a - b)).add (Cong.self p))
  rwa [Int.add_zero] at this
theorem Cong.dvd (h : Cong p a 0) : p ∣ a := by
  unfold Cong at h; rw [Int.zero_emod] at h; exact Int.dvd_of_emod_eq_zero h
theorem Cong.of_dvd (h : p ∣ a) : Cong p a 0 := by
  unfold Cong; rw [Int.zero_emod]; exact Int.emod_eq_zero_of_dvd h
end

/-- A polynomial's value over the integers. -/
def polyZ (x : Int) (l : List Int) : Int := l.foldr (fun c s => s * x + c) 0
theorem polyZ_cons (x c : Int) (l : List Int) : polyZ x (c :: l) = polyZ x l * x + c := rfl
theorem valueP_cons (p x c : Int) (l : List Int) : valueP p x (c :: l) = addP p (mulP p (valueP p x l) x) c := rfl

theorem valueP_cong (p x : Int) (l : List Int) : Cong p (valueP p x l) (polyZ x l) := by
  induction l with
  | nil => exact Cong.refl _ _
  | cons c l ih => rw [valueP_cons, polyZ_cons]; exact (Cong.addP _ _ _).trans (((Cong.mulP _ _ _).trans (ih.mul (Cong.refl _ _))).add (Cong.refl _ _))

end Go.Proofs.YtmcgnpdfpfgfpaaGreatDoor

/-! PrimeA -/
namespace Go.Proofs.YtmcgnpdfpfgfpaaGreatDoor
set_option linter.unusedVariables false

theorem okP_prime {p : Int} (h : okP p = true) {d : Nat} (hd : 2 ≤ d) (hdv : (d : Int) ∣ p) : (d : Int) = p := by
  obtain ⟨h1, h2, h3⟩ := (okP_iff p).1 h
  obtain ⟨k, hk⟩ := hdv
  have hd0 : (0 : Int) < (d : Int) := by omega
  have hk0 : 0 < k := by
    rcases Int.lt_or_le 0 k with h | h
    · exact h
    · have := Int.mul_le_mul_of_nonneg_left h (Int.le_of_lt hd0)
      omega
  obtain ⟨e, rfl⟩ : ∃ e : Nat, k = e := ⟨k.toNat, by omega⟩
  rcases Nat.lt_or_ge e 2 with he | he
  · have : e = 1 := by omega
    subst this; omega
  · exfalso
    rcases Nat.le_total d e with hde | hde
    · have : d * d ≤ d * e := Nat.mul_le_mul_left d hde
      have h5 : ((d * d : Nat) : Int) ≤ p := by rw [hk, ← Int.natCast_mul]; omega
      exact h3 d hd h5 (by rw [hk]; exact Int.mul_emod_right _ _)
    · have : e * e ≤ d * e := Nat.mul_le_mul_right e hde
      have h5 : ((e * e : Nat) : Int) ≤ p := by rw [hk, ← Int.natCast_mul]; omega
      exact h3 e he h5 (by rw [hk]; exact Int.mul_emod_left _ _)

theorem okP_dvd_mul {p : Int} (h : okP p = true) {x y : Int} (hd : p ∣ x * y) : p ∣ x ∨ p ∣ y := by
  have hp := okP_pos h
  by_cases hx : p ∣ x
  · exact .inl hx
  · right
    have hc : Nat.Coprime p.natAbs x.natAbs := by
      have hg1 : Nat.gcd p.natAbs x.natAbs ∣ p.natAbs := Nat.gcd_dvd_left _ _
      have hg2 : Nat.gcd p.natAbs x.natAbs ∣ x.natAbs := Nat.gcd_dvd_right _ _
      have hpos : 0 < Nat.gcd p.natAbs x.natAbs := Nat.gcd_pos_of_pos_left _ (by omega)
      rcases Nat.lt_or_ge (Nat.gcd p.natAbs x.natAbs) 2 with hlt | hge
      · show Nat.gcd p.natAbs x.natAbs = 1
        omega
      · exfalso
        have h5 : ((Nat.gcd p.natAbs x.natAbs : Nat) : Int) ∣ p := Int.natAbs_dvd_natAbs.1 (by simpa using hg1)
        have h6 := okP_prime h hge h5
        apply hx
        rw [← h6]
        exact Int.natAbs_dvd_natAbs.1 (by simpa using hg2)
    have hd2 := Int.natAbs_dvd_natAbs.2 hd
    rw [Int.natAbs_mul] at hd2
    exact Int.natAbs_dvd_natAbs.1 (Nat.Coprime.dvd_of_dvd_mul_left hc hd2)

/-- A product is 0 just where a factor is. -/
theorem Cong.mul_zero {p : Int} (h : okP p = true) {x y : Int} (hc : Cong p (x * y) 0) : Cong p x 0 ∨ Cong p y 0 := by
  rcases okP_dvd_mul h hc.dvd with h1 | h1
  · exact .inl (Cong.of_dvd h1)
  · exact .inr (Cong.of_dvd h1)
theorem Cong.sub_zero {p a b : Int} (h : Cong p (a - b) 0) : Cong p a b := by
  have := h.add (Cong.refl p b)
  rwa [Int.sub_add_cancel, Int.zero_add] at this
theorem Cong.zero_sub {p a b : Int} (h : Cong p a b) : Cong p (a - b) 0 := by
  have := h.sub (Cong.refl p b)
  rwa [Int.sub_self] at this
theorem Cong.cancel {p : Int} (h : okP p = true) {x y z : Int} (hz : ¬ Cong p z 0) (hc : Cong p (x * z) (y * z)) : Cong p x y := by
  have h1 := hc.zero_sub
  rw [← Int.sub_mul] at h1
  rcases Cong.mul_zero h h1 with h2 | h2
  · exact h2.sub_zero
  · exact absurd h2 hz
theorem Cong.elt_zero {p x : Int} (hx : 0 ≤ x ∧ x < p) : Cong p x 0 ↔ x = 0 := by
  constructor
  · intro h; exact h.eq hx (by omega)
  · rintro rfl; exact Cong.refl _ _
end Go.Proofs.YtmcgnpdfpfgfpaaGreatDoor

/-! PolyA -/
namespace Go.Proofs.YtmcgnpdfpfgfpaaGreatDoor
set_option linter.unusedVariables false

/-- A coefficient. -/
def cf (l : List Int) (k : Nat) : Int := l.getD k 0
theorem cf_nil (k : Nat) : cf [] k = 0 := by simp [cf]
theorem cf_zero (a : Int) (l : List Int) : cf (a :: l) 0 = a := rfl
theorem cf_succ (a : Int) (l : List Int) (k : Nat) : cf (a :: l) (k + 1) = cf l k := rfl
theorem cf_out {l : List Int} {k : Nat} (h : l.length ≤ k) : cf l k = 0 := by
  unfold cf; rw [List.getD_eq_getElem?_getD, List.getElem?_eq_none h]; rfl
theorem cf_take (l : List Int) (n k : Nat) : cf (l.take n) k = if k < n then cf l k else 0 := by
  unfold cf
  rw [List.getD_eq_getElem?_getD, List.getElem?_take]
  split
  · rw [List.getD_eq_getElem?_getD]
  · rfl
theorem cf_map_range (f : Nat → Int) (n k : Nat) : cf ((List.range n).map f) k = if k < n then f k else 0 := by
  unfold cf
  rw [List.getD_eq_getElem?_getD, List.getElem?_map]
  by_cases h : k < n
  · rw [List.getElem?_range h, if_pos h]; rfl
  · rw [List.getElem?_eq_none (by simp; omega), if_neg h]; rfl
theorem cf_in {p : Int} {l : List Int} (hp : 2 ≤ p) (h : allP p l = true) (k : Nat) : 0 ≤ cf l k ∧ cf l k < p := by
  by_cases hk : k < l.length
  · exact allP_getD h hk
  · rw [cf_out (by omega)]; omega
theorem cf_ext {a b : List Int} (h : a.length = b.length) (hk : ∀ k, cf a k = cf b k) : a = b := by
  apply List.ext_getElem h
  intro i h1 h2
  have := hk i
  unfold cf at this
  rw [List.getD_eq_getElem?_getD, List.getD_eq_getElem?_getD, List.getElem?_eq_getElem h1, List.getElem?_eq_getElem h2] at this
  exact this

/-- A sum over the numbers below n. -/
def Sg (f : Nat → Int) : Nat → Int
  | 0 => 0
  | n + 1 => Sg f n + f n
theorem Sg_congr {f g : Nat → Int} : ∀ {n : Nat}, (∀ i, i < n → f i = g i) → Sg f n = Sg g n
  | 0, _ => rfl
  | n + 1, h => by simp only [Sg]; rw [Sg_congr (n := n) (fun i hi => h i (by omega)), h n (by omega)]
theorem Sg_cong {p : Int} {f g : Nat → Int} : ∀ {n : Nat}, (∀ i, i < n → Cong p (f i) (g i)) → Cong p (Sg f n) (Sg g n)
  | 0, _ => Cong.refl _ _
  | n + 1, h => (Sg_cong (n := n) (fun i hi => h i (by omega))).add (h n (by omega))
theorem Sg_add (f g : Nat → Int) : ∀ n, Sg (fun i => f i + g i) n = Sg f n + Sg g n
  | 0 => rfl
  | n + 1 => by simp only [Sg]; rw [Sg_add f g n]; omega
theorem Sg_mul (c : Int) (f : Nat → Int) : ∀ n, Sg (fun i => c * f i) n = c * Sg f n
  | 0 => by simp [Sg]
  | n + 1 => by simp only [Sg]; rw [Sg_mul c f n, Int.mul_add]
theorem Sg_zero {f : Nat → Int} : ∀ {n : Nat}, (∀ i, i < n → f i = 0) → Sg f n = 0
  | 0, _ => rfl
  | n + 1, h => by simp only [Sg]; rw [Sg_zero (n := n) (fun i hi => h i (by omega)), h n (by omega)]; rfl
theorem Sg_head (f : Nat → Int) : ∀ n, Sg f (n + 1) = f 0 + Sg (fun i => f (i + 1)) n
  | 0 => by simp [Sg]
  | n + 1 => by rw [Sg, Sg_head f n]; simp only [Sg]; omega
theorem Sg_more {f : Nat → Int} {n : Nat} : ∀ {m : Nat}, n ≤ m → (∀ i, n ≤ i → f i = 0) → Sg f m = Sg f n
  | 0, h, _ => by rw [show n = 0 by omega]
  | m + 1, h, hz => by
    by_cases he : n = m + 1
    · rw [he]
    · simp only [Sg]; rw [Sg_more (m := m) (by omega) hz, hz m (by omega), Int.add_zero]
theorem Sg_single {f : Nat → Int} {j : Nat} : ∀ {n : Nat}, j < n → (∀ i, i < n → i ≠ j → f i = 0) → Sg f n = f j
  | 0, h, _ => by omega
  | n + 1, h, hz => by
    simp only [Sg]
    by_cases he : j = n
    · subst he; rw [Sg_zero (fun i hi => hz i (by omega) (by omega)), Int.zero_add]
    · rw [Sg_single (n := n) (by omega) (fun i hi hn => hz i (by omega) hn), hz n (by omega) (by omega), Int.add_zero]

/-- A coefficient of a product. -/
def conv (a b : List Int) (k : Nat) : Int := Sg (fun i => cf a i * cf b (k - i)) (k + 1)

theorem conv_cons_zero (x : Int) (a b : List Int) : conv (x :: a) b 0 = x * cf b 0 := by
  simp [conv, Sg, cf_zero]
theorem conv_cons_succ (x : Int) (a b : List Int) (k : Nat) : conv (x :: a) b (k + 1) = x * cf b (k + 1) + conv a b k := by
  unfold conv
  rw [Sg_head]
  show x * cf b (k + 1 - 0) + _ = _
  rw [Nat.sub_zero]
  congr 1
  refine Sg_congr fun i hi => ?_
  rw [cf_succ, show k + 1 - (i + 1) = k - i by omega]
theorem conv_nil (b : List Int) (k : Nat) : conv [] b k = 0 := Sg_zero fun i _ => by rw [cf_nil, Int.zero_mul]
theorem conv_out {a b : List Int} {k : Nat} (h : a.length + b.length ≤ k + 1) : conv a b k = 0 := by
  refine Sg_zero fun i hi => ?_
  by_cases h1 : a.length ≤ i
  · rw [cf_out h1, Int.zero_mul]
  · rw [cf_out (l := b) (by omega), Int.mul_zero]
theorem conv_last {a b : List Int} {n m : Nat} (ha : a.length = n + 1) (hb : b.length = m + 1) : conv a b (n + m) = cf a n * cf b m := by
  unfold conv
  rw [Sg_single (j := n) (by omega)]
  · rw [show n + m - n = m by omega]
  · intro i hi hne
    by_cases h1 : n < i
    · rw [cf_out (l := a) (by omega), Int.zero_mul]
    · rw [cf_out (l := b) (by omega), Int.mul_zero]

theorem polyZ_Sg (x : Int) (l : List Int) : ∀ N, l.length ≤ N → polyZ x l = Sg (fun k => cf l k * x ^ k) N := by
  induction l with
  | nil => intro N _; rw [Sg_zero (fun i _ => by rw [cf_nil, Int.zero_mul])]; rfl
  | cons c l ih =>
    intro N hN
    obtain ⟨M, rfl⟩ : ∃ M, N = M + 1 := ⟨N - 1, by simp at hN; omega⟩
    rw [Sg_head, polyZ_cons, ih M (by simpa using hN)]
    rw [cf_zero, Int.pow_zero, Int.mul_one, Int.add_comm]
    congr 1
    rw [Int.mul_comm, ← Sg_mul]
    exact Sg_congr fun i _ => by rw [cf_succ, Int.pow_succ, ← Int.mul_assoc, Int.mul_comm x, Int.mul_assoc, Int.mul_comm x]

theorem conv_value (x : Int) (b : List Int) (a : List Int) : ∀ N, a.length + b.length ≤ N → Sg (fun k => conv a b k * x ^ k) N = polyZ x a * polyZ x b := by
  induction a with
  | nil => intro N _; rw [Sg_zero (fun i _ => by rw [conv_nil, Int.zero_mul])]; simp [polyZ]
  | cons c a ih =>
    intro N hN
    obtain ⟨M, rfl⟩ : ∃ M, N = M + 1 := ⟨N - 1, by simp at hN; omega⟩
    simp only [List.length_cons] at hN
    have h1 := polyZ_Sg x b (M + 1) (by omega)
    rw [Sg_head] at h1
    have h2 := ih M (by omega)
    rw [Sg_head, conv_cons_zero]
    have h3 : Sg (fun i => conv (c :: a) b (i + 1) * x ^ (i + 1)) M = c * Sg (fun i => cf b (i + 1) * x ^ (i + 1)) M + x * Sg (fun k => conv a b k * x ^ k) M := by
      rw [← Sg_mul, ← Sg_mul, ← Sg_add]
      refine Sg_congr fun i _ => ?_
      rw [conv_cons_succ, Int.add_mul, Int.mul_assoc, Int.pow_succ, ← Int.mul_assoc (conv a b i), Int.mul_comm x]
    rw [h3, h2, polyZ_cons, h1]
    simp only [Int.pow_zero, Int.mul_one]
    rw [Int.add_mul, Int.mul_add c, Int.mul_assoc (polyZ x a) x, Int.mul_comm x (_ + _), ← Int.mul_assoc (polyZ x a)]
    rw [Int.mul_comm x]; omega

theorem polyZ_cfs {p x : Int} {l m : List Int} (h : ∀ k, Cong p (cf l k) (cf m k)) : Cong p (polyZ x l) (polyZ x m) := by
  rw [polyZ_Sg x l (l.length + m.length) (by omega), polyZ_Sg x m (l.length + m.length) (by omega)]
  exact Sg_cong fun i _ => (h i).mul (Cong.refl _ _)
theorem polyZ_prod {p x : Int} {s a b : List Int} (h : ∀ k, Cong p (cf s k) (conv a b k)) : Cong p (polyZ x s) (polyZ x a * polyZ x b) := by
  have hN : s.length ≤ s.length + (a.length + b.length) ∧ a.length + b.length ≤ s.length + (a.length + b.length) := by omega
  generalize s.length + (a.length + b.length) = N at hN
  rw [polyZ_Sg x s N hN.1, ← conv_value x b a N hN.2]
  exact Sg_cong fun i _ => (h i).mul (Cong.refl _ _)

/-- How many of the first n coefficients are left without zeros at the end. -/
def tn (l : List Int) : Nat → Nat
  | 0 => 0
  | n + 1 => if cf l n = 0 then tn l n else n + 1
theorem tn_le (l : List Int) : ∀ n, tn l n ≤ n
  | 0 => Nat.le_refl _
  | n + 1 => by
    simp only [tn]; split
    · have := tn_le l n; omega
    · omega
theorem tn_zero {l : List Int} : ∀ {n k : Nat}, tn l n ≤ k → k < n → cf l k = 0
  | 0, k, _, h => by omega
  | n + 1, k, h1, h2 => by
    simp only [tn] at h1
    split at h1
    · rename_i h
      by_cases hk : k = n
      · rw [hk]; exact h
      · exact tn_zero (n := n) h1 (by omega)
    · omega
theorem tn_last {l : List Int} : ∀ {n m : Nat}, tn l n = m + 1 → cf l m ≠ 0
  | 0, m, h => by simp [tn] at h
  | n + 1, m, h => by
    simp only [tn] at h
    split at h
    · exact tn_last (n := n) h
    · rename_i h0; rw [show m = n by omega]; exact h0
/-- A polynomial without zeros at the end. -/
def trimL (l : List Int) : List Int := l.take (tn l l.length)
theorem trimL_len (l : List Int) : (trimL l).length = tn l l.length := by
  unfold trimL; rw [List.length_take]; have := tn_le l l.length; omega
theorem cf_trimL (l : List Int) (k : Nat) : cf (trimL l) k = cf l k := by
  unfold trimL
  rw [cf_take]
  split
  · rfl
  · by_cases hk : k < l.length
    · exact (tn_zero (n := l.length) (by omega) hk).symm
    · exact (cf_out (by omega)).symm
theorem trimL_allP {p : Int} {l : List Int} (h : allP p l = true) : allP p (trimL l) = true := allP_iff.2 fun x hx => allP_iff.1 h x (List.mem_of_mem_take hx)
/-- It has no zeros at the end. -/
def Trimd (l : List Int) : Prop := ∀ n, l.length = n + 1 → cf l n ≠ 0
theorem Trimd.nil_ : Trimd [] := fun n h => by simp at h
theorem trimL_trimd (l : List Int) : Trimd (trimL l) := fun n h => by
  rw [trimL_len] at h
  rw [cf_trimL]
  exact tn_last h
theorem Trimd.len_le {a b : List Int} (ha : Trimd a) (h : ∀ k, cf a k = cf b k) : a.length ≤ b.length := by
  cases hn : a.length with
  | zero => omega
  | succ n =>
    have h1 := ha n hn
    rw [h n] at h1
    rcases Nat.lt_or_ge n b.length with h2 | h2
    · omega
    · exact absurd (cf_out h2) h1
theorem Trimd.ext {a b : List Int} (ha : Trimd a) (hb : Trimd b) (h : ∀ k, cf a k = cf b k) : a = b := by
  have h1 := ha.len_le h
  have h2 := hb.len_le (fun k => (h k).symm)
  exact cf_ext (by omega) h
theorem Trimd.trimL {a : List Int} (ha : Trimd a) : Go.Proofs.YtmcgnpdfpfgfpaaGreatDoor.trimL a = a := (trimL_trimd a).ext ha (cf_trimL a)

/-- A product of trimmed polynomials. -/
def rawMul (p : Int) (a b : List Int) : List Int := (List.range (a.length + b.length - 1)).map fun k => conv a b k % p
def mulL (p : Int) (a b : List Int) : List Int := if (trimL a).length = 0 ∨ (trimL b).length = 0 then [] else rawMul p (trimL a) (trimL b)
theorem conv_trim (a b : List Int) (k : Nat) : conv (trimL a) (trimL b) k = conv a b k := Sg_congr fun i _ => by rw [cf_trimL, cf_trimL]
theorem emod_in {p : Int} (hp : 2 ≤ p) (x : Int) : 0 ≤ x % p ∧ x % p < p := ⟨Int.emod_nonneg _ (by omega), Int.emod_lt_of_pos _ (by omega)⟩
theorem map_allP {p : Int} (hp : 2 ≤ p) (f : Nat → Int) (n : Nat) : allP p ((List.range n).map fun k => f k % p) = true := allP_iff.2 fun x hx => by
  obtain ⟨k, _, rfl⟩ := List.mem_map.1 hx
  exact emod_in hp _
theorem rawMul_allP {p : Int} (hp : 2 ≤ p) (a b : List Int) : allP p (rawMul p a b) = true := map_allP hp _ _
/-! The laws. -/
end Go.Proofs.YtmcgnpdfpfgfpaaGreatDoor

/-! CombA -/
namespace Go.Proofs.YtmcgnpdfpfgfpaaGreatDoor
set_option linter.unusedVariables false

/-- One element more of a row, times x. -/
def timesP (p x t a : Int) : Int := addP p t (mulP p x a)
theorem timesP_in {p : Int} (hp : 2 ≤ p) (x t a : Int) : 0 ≤ timesP p x t a ∧ timesP p x t a < p := addP_in _ _ hp

/-- A list to which another one has been added at its first k places. -/
def partly (f : Int → Int → Int) (ts l : List Int) (k : Nat) : List Int := zipI f (ts.take k) (l.take k) ++ ts.drop k

theorem partly_zero (f : Int → Int → Int) (ts l : List Int) : partly f ts l 0 = ts := by simp [partly, zipI]
theorem partly_all (f : Int → Int → Int) (ts l : List Int) (h : ts.length = l.length) : partly f ts l ts.length = zipI f ts l := by
  unfold partly
  rw [List.take_length, List.drop_length, List.append_nil, h, List.take_length]
theorem partly_at (f : Int → Int → Int) (ts l : List Int) (h : ts.length = l.length) (k : Nat) (hk : k < ts.length) : (partly f ts l k).getD k 0 = ts.getD k 0 := by
  have hl : (zipI f (ts.take k) (l.take k)).length = k := by rw [zipI_length _ _ _ (by simp [h]), List.length_take]; omega
  unfold partly
  rw [List.getD_eq_getElem?_getD, List.getElem?_append_right (by omega), hl, Nat.sub_self, List.getElem?_drop, Nat.add_zero, List.getD_eq_getElem?_getD]
theorem partly_set (f : Int → Int → Int) (ts l : List Int) (h : ts.length = l.length) (k : Nat) (hk : k < ts.length) : (partly f ts l k).set k (f (ts.getD k 0) (l.getD k 0)) = partly f ts l (k + 1) := by
  have hl : (zipI f (ts.take k) (l.take k)).length = k := by rw [zipI_length _ _ _ (by simp [h]), List.length_take]; omega
  unfold partly
  rw [zipI_take_succ f ts l k hk (by omega), List.set_append_right _ _ (by omega), hl, Nat.sub_self, List.append_assoc]
  congr 1
  rw [List.drop_eq_getElem_cons hk]; rfl

/-- The combination of some rows, from a list on. -/
def combFrom (p : Int) (acc : List Int) : List Int → List (List Int) → List Int
  | c :: cs, r :: rs => combFrom p (zipI (timesP p c) acc r) cs rs
  | _, _ => acc
/-- The combination of rows of a width. -/
def combP (p : Int) (cs : List Int) (rows : List (List Int)) (w : Nat) : List Int := combFrom p (List.replicate w 0) cs rows

theorem combFrom_snoc (p : Int) (cs : List Int) (c : Int) (rs : List (List Int)) (r : List Int) : ∀ acc, cs.length = rs.length → combFrom p acc (cs ++ [c]) (rs ++ [r]) = zipI (timesP p c) (combFrom p acc cs rs) r := by
  induction cs generalizing rs with
  | nil => intro acc h; cases rs with
    | nil => rfl
    | cons _ _ => simp at h
  | cons c' cs ih => intro acc h; cases rs with
    | nil => simp at h
    | cons r' rs => exact ih rs _ (by simpa using h)

theorem combFrom_len (p : Int) (cs : List Int) : ∀ (rs : List (List Int)) (acc : List Int), (∀ r ∈ rs, r.length = acc.length) → (combFrom p acc cs rs).length = acc.length := by
  induction cs with
  | nil => intro rs acc _; cases rs <;> rfl
  | cons c cs ih =>
    intro rs acc h
    cases rs with
    | nil => rfl
    | cons r rs =>
      have e : (zipI (timesP p c) acc r).length = acc.length := zipI_length _ _ _ (h r (by simp)).symm
      show (combFrom p (zipI (timesP p c) acc r) cs rs).length = _
      rw [ih rs _ (fun r' hr' => by rw [e]; exact h r' (by simp [hr'])), e]

theorem combFrom_all {p : Int} (hp : 2 ≤ p) (cs : List Int) : ∀ (rs : List (List Int)) (acc : List Int), allP p acc = true → allP p (combFrom p acc cs rs) = true := by
  induction cs with
  | nil => intro rs acc h; cases rs <;> exact h
  | cons c cs ih =>
    intro rs acc h
    cases rs with
    | nil => exact h
    | cons r rs => exact ih rs _ (zipI_all _ (fun x y => timesP_in hp c x y) _ _)

theorem zeros_all {p : Int} (hp : 2 ≤ p) (w : Nat) : allP p (List.replicate w 0) = true := by
  rw [allP_iff]; intro x hx
  rw [List.mem_replicate] at hx
  omega
theorem combP_len (p : Int) (cs : List Int) (rows : List (List Int)) (w : Nat) (h : ∀ r ∈ rows, r.length = w) : (combP p cs rows w).length = w := by
  unfold combP; rw [combFrom_len p cs rows _ (by simpa using h)]; simp
theorem combP_all {p : Int} (hp : 2 ≤ p) (cs : List Int) (rows : List (List Int)) (w : Nat) : allP p (combP p cs rows w) = true := combFrom_all hp cs rows _ (zeros_all hp w)

theorem getD_mem2 {α : Type} {l : List α} {k : Nat} {d : α} (hk : k < l.length) : l.getD k d ∈ l := by
  rw [List.getD_eq_getElem?_getD, List.getElem?_eq_getElem hk, Option.getD_some]; exact List.getElem_mem hk

theorem combP_take_succ (p : Int) (cs : List Int) (rows : List (List Int)) (w j : Nat) (hc : j < cs.length) (hr : j < rows.length) :
    combP p (cs.take (j + 1)) (rows.take (j + 1)) w = zipI (timesP p (cs.getD j 0)) (combP p (cs.take j) (rows.take j) w) (rows.getD j []) := by
  unfold combP
  rw [List.take_succ_eq_append_getElem hc, List.take_succ_eq_append_getElem hr, combFrom_snoc _ _ _ _ _ _ (by simp; omega), List.getD_eq_getElem?_getD, List.getElem?_eq_getElem hc, List.getD_eq_getElem?_getD, List.getElem?_eq_getElem hr]
  rfl
end Go.Proofs.YtmcgnpdfpfgfpaaGreatDoor

/-! PolyB -/
namespace Go.Proofs.YtmcgnpdfpfgfpaaGreatDoor
set_option linter.unusedVariables false

theorem cf_set (l : List Int) (j i : Nat) (v : Int) : cf (l.set j v) i = if j = i ∧ j < l.length then v else cf l i := by
  unfold cf
  rw [List.getD_eq_getElem?_getD, List.getElem?_set, List.getD_eq_getElem?_getD]
  by_cases h : j = i
  · subst h
    by_cases h2 : j < l.length
    · rw [if_pos rfl, if_pos h2, if_pos ⟨rfl, h2⟩]; rfl
    · rw [if_pos rfl, if_neg h2, if_neg (by omega), List.getElem?_eq_none (by omega)]
  · rw [if_neg h, if_neg (by omega)]

/-- x times l added to ts from place o on, the first k places of l done. -/
def addTo (p x : Int) (o : Nat) (l ts : List Int) (k : Nat) : List Int := (List.range ts.length).map fun i => if o ≤ i ∧ i < o + k then timesP p x (cf ts i) (cf l (i - o)) else cf ts i
theorem addTo_len (p x : Int) (o : Nat) (l ts : List Int) (k : Nat) : (addTo p x o l ts k).length = ts.length := by simp [addTo]
theorem cf_addTo_raw (p x : Int) (o : Nat) (l ts : List Int) (k i : Nat) : cf (addTo p x o l ts k) i = if i < ts.length then (if o ≤ i ∧ i < o + k then timesP p x (cf ts i) (cf l (i - o)) else cf ts i) else 0 := by
  unfold addTo; rw [cf_map_range]
theorem addTo_zero (p x : Int) (o : Nat) (l ts : List Int) : addTo p x o l ts 0 = ts := by
  refine cf_ext (addTo_len _ _ _ _ _ _) fun i => ?_
  rw [cf_addTo_raw]
  split
  · rw [if_neg (by omega)]
  · rw [cf_out (by omega)]
theorem addTo_at (p x : Int) (o : Nat) (l ts : List Int) (k : Nat) (h : o + k < ts.length) : (addTo p x o l ts k).getD (o + k) 0 = ts.getD (o + k) 0 := by
  show cf (addTo p x o l ts k) (o + k) = cf ts (o + k)
  rw [cf_addTo_raw, if_pos h, if_neg (by omega)]
theorem addTo_set (p x : Int) (o : Nat) (l ts : List Int) (k : Nat) (h : o + k < ts.length) : (addTo p x o l ts k).set (o + k) (timesP p x (ts.getD (o + k) 0) (l.getD k 0)) = addTo p x o l ts (k + 1) := by
  refine cf_ext (by rw [List.length_set, addTo_len, addTo_len]) fun i => ?_
  rw [cf_set, addTo_len, cf_addTo_raw, cf_addTo_raw]
  by_cases hi : o + k = i
  · subst hi
    rw [if_pos ⟨rfl, h⟩, if_pos h, if_pos (by omega)]
    show timesP p x (cf ts (o + k)) (cf l k) = _
    rw [show o + k - o = k by omega]
  · rw [if_neg (by omega)]
    by_cases h2 : i < ts.length
    · rw [if_pos h2, if_pos h2]
      by_cases h3 : o ≤ i ∧ i < o + k
      · rw [if_pos h3, if_pos (by omega)]
      · rw [if_neg h3, if_neg (by omega)]
    · rw [if_neg h2, if_neg h2]
theorem timesP_mod2 (p x t a : Int) : timesP p x t a = (t + x * a) % p := by
  unfold timesP addP mulP; rw [Int.add_emod, Int.emod_emod_of_dvd _ (Int.dvd_refl p), ← Int.add_emod]
/-- All places of l done. -/
theorem cf_addTo {p x : Int} {o : Nat} {l ts : List Int} {m : Nat} (hm : l.length = m) (hta : ∀ i, 0 ≤ cf ts i ∧ cf ts i < p) {i : Nat} (hi : i < ts.length) : cf (addTo p x o l ts m) i = (cf ts i + x * (if o ≤ i then cf l (i - o) else 0)) % p := by
  rw [cf_addTo_raw, if_pos hi]
  have h1 := Int.emod_eq_of_lt (hta i).1 (hta i).2
  by_cases h2 : o ≤ i
  · rw [if_pos h2]
    by_cases h3 : i < o + m
    · rw [if_pos ⟨h2, h3⟩, timesP_mod2]
    · rw [if_neg (by omega), cf_out (l := l) (by omega), Int.mul_zero, Int.add_zero, h1]
  · rw [if_neg (by omega), if_neg h2, Int.mul_zero, Int.add_zero, h1]
theorem addTo_allP {p : Int} (hp : 2 ≤ p) (x : Int) (o : Nat) (l ts : List Int) (k : Nat) (h : allP p ts = true) : allP p (addTo p x o l ts k) = true := allP_iff.2 fun y hy => by
  obtain ⟨i, hi, rfl⟩ := List.mem_map.1 hy
  split
  · exact timesP_in hp _ _ _
  · exact cf_in hp h i

/-! The product, row by row. -/
def mulK (p : Int) (a b : List Int) (k : Nat) : List Int := (List.range (a.length + b.length - 1)).map fun i => Sg (fun j => if j ≤ i then cf a j * cf b (i - j) else 0) k % p
theorem mulK_len (p : Int) (a b : List Int) (k : Nat) : (mulK p a b k).length = a.length + b.length - 1 := by simp [mulK]
theorem mulK_zero (p : Int) (a b : List Int) : mulK p a b 0 = List.replicate (a.length + b.length - 1) 0 := by
  refine cf_ext (by rw [mulK_len, List.length_replicate]) fun i => ?_
  unfold mulK
  rw [cf_map_range]
  unfold cf
  rw [List.getD_eq_getElem?_getD, List.getElem?_replicate]
  simp only [Sg, Int.zero_emod]
  split <;> rfl
theorem mulK_allP {p : Int} (hp : 2 ≤ p) (a b : List Int) (k : Nat) : allP p (mulK p a b k) = true := map_allP hp _ _
theorem mulK_step {p : Int} (hp : 2 ≤ p) (a b : List Int) (k : Nat) {m : Nat} (hm : b.length = m) : addTo p (a.getD k 0) k b (mulK p a b k) m = mulK p a b (k + 1) := by
  refine cf_ext (by rw [addTo_len, mulK_len, mulK_len]) fun i => ?_
  by_cases hi : i < a.length + b.length - 1
  · rw [cf_addTo hm (cf_in hp (mulK_allP hp a b k)) (by rw [mulK_len]; exact hi)]
    unfold mulK
    rw [cf_map_range, if_pos hi, cf_map_range, if_pos hi]
    simp only [Sg]
    rw [Int.emod_add_emod]
    have : a.getD k 0 = cf a k := rfl
    rw [this]
    split
    · rfl
    · rw [Int.mul_zero]
  · rw [cf_out (by rw [addTo_len, mulK_len]; omega), cf_out (by rw [mulK_len]; omega)]
theorem mulK_all (p : Int) (a b : List Int) {n : Nat} (hn : a.length = n) : mulK p a b n = rawMul p a b := by
  refine cf_ext (by rw [mulK_len]; simp [rawMul]) fun i => ?_
  unfold mulK rawMul
  rw [cf_map_range, cf_map_range]
  split
  · have h1 : Sg (fun j => if j ≤ i then cf a j * cf b (i - j) else 0) (n + (i + 1)) = Sg (fun j => if j ≤ i then cf a j * cf b (i - j) else 0) n := Sg_more (by omega) fun j hj => by
      rw [cf_out (l := a) (by omega), Int.zero_mul]; simp
    have h2 : Sg (fun j => if j ≤ i then cf a j * cf b (i - j) else 0) (n + (i + 1)) = Sg (fun j => if j ≤ i then cf a j * cf b (i - j) else 0) (i + 1) := Sg_more (by omega) fun j hj => by
      rw [if_neg (by omega)]
    rw [← h1, h2]
    congr 1
    exact Sg_congr fun j hj => by rw [if_pos (by omega)]
  · rfl
/-! The sum by AddTimes. -/
end Go.Proofs.YtmcgnpdfpfgfpaaGreatDoor

/-! ItpA -/
namespace Go.Proofs.YtmcgnpdfpfgfpaaGreatDoor
set_option linter.unusedVariables false

/-- The product of all x - a. -/
def prodX (x : Int) (as : List Int) : Int := as.foldr (fun a s => (x - a) * s) 1
theorem prodX_snoc (x a : Int) (as : List Int) : prodX x (as ++ [a]) = prodX x as * (x - a) := by
  induction as with
  | nil => simp [prodX]
  | cons b as ih =>
    have h1 : prodX x (b :: as ++ [a]) = (x - b) * prodX x (as ++ [a]) := rfl
    have h2 : prodX x (b :: as) = (x - b) * prodX x as := rfl
    rw [h1, h2, ih, Int.mul_assoc]
theorem prodX_zero {p : Int} (x : Int) (as : List Int) {a : Int} (h : a ∈ as) (hx : Cong p (x - a) 0) : Cong p (prodX x as) 0 := by
  induction as with
  | nil => simp at h
  | cons b as ih =>
    have h2 : prodX x (b :: as) = (x - b) * prodX x as := rfl
    rw [h2]
    rcases List.mem_cons.1 h with rfl | h
    · have := hx.mul (Cong.refl p (prodX x as)); rwa [Int.zero_mul] at this
    · have := (Cong.refl p (x - b)).mul (ih h); rwa [Int.mul_zero] at this
theorem prodX_not {p : Int} (hok : okP p = true) (x : Int) (as : List Int) (h : ∀ a ∈ as, ¬ Cong p (x - a) 0) : ¬ Cong p (prodX x as) 0 := by
  induction as with
  | nil =>
    intro hc
    have hp := okP_pos hok
    have h1 : Cong p 1 0 := hc
    have := (Cong.elt_zero (p := p) (x := 1) (by omega)).1 h1
    omega
  | cons b as ih =>
    have h2 : prodX x (b :: as) = (x - b) * prodX x as := rfl
    rw [h2]
    intro hc
    rcases Cong.mul_zero hok hc with h1 | h1
    · exact h b (by simp) h1
    · exact ih (fun a ha => h a (by simp [ha])) h1
theorem elt_ne {p x a : Int} (hx : 0 ≤ x ∧ x < p) (ha : 0 ≤ a ∧ a < p) (hne : x ≠ a) : ¬ Cong p (x - a) 0 := fun h => hne (h.sub_zero.eq hx ha)
theorem polyZ_scaled {p x c : Int} {s a b : List Int} (h : ∀ k, Cong p (cf s k) (cf a k + c * cf b k)) : Cong p (polyZ x s) (polyZ x a + c * polyZ x b) := by
  have hN : s.length ≤ s.length + a.length + b.length ∧ a.length ≤ s.length + a.length + b.length ∧ b.length ≤ s.length + a.length + b.length := by omega
  generalize s.length + a.length + b.length = N at hN
  rw [polyZ_Sg x s N hN.1, polyZ_Sg x a N hN.2.1, polyZ_Sg x b N hN.2.2, ← Sg_mul, ← Sg_add]
  refine Sg_cong fun i _ => ?_
  have e : cf a i * x ^ i + c * (cf b i * x ^ i) = (cf a i + c * cf b i) * x ^ i := by rw [Int.add_mul, Int.mul_assoc]
  rw [e]
  exact (h i).mul (Cong.refl _ _)
theorem value_of {p x : Int} (hp : 2 ≤ p) {l : List Int} {y : Int} (hy : 0 ≤ y ∧ y < p) (h : Cong p (polyZ x l) y) : valueP p x l = y := ((valueP_cong p x l).trans h).eq (valueP_in hp x l) hy

/-- What holds between the rounds of Interpolate. -/
structure Itp (p : Int) (as ys poly node : List Int) (i : Nat) : Prop where
  lp : poly.length = i
  ln : node.length = i + 1
  ap : allP p poly = true
  an : allP p node = true
  pv : ∀ j, j < i → Cong p (polyZ (as.getD j 0) poly) (ys.getD j 0)
  nv : ∀ x, Cong p (polyZ x node) (prodX x (as.take i))

theorem Itp.start {p : Int} (hp : 2 ≤ p) (as ys : List Int) : Itp p as ys [] [1] 0 :=
  ⟨rfl, rfl, rfl, allP_iff.2 (by simp; omega), fun j hj => absurd hj (by omega), fun x => by simp [polyZ, prodX]; exact Cong.refl _ _⟩

theorem take_mem {l : List Int} {i : Nat} {a : Int} (h : a ∈ l.take i) : ∃ j, j < i ∧ j < l.length ∧ l.getD j 0 = a := by
  obtain ⟨j, hj, e⟩ := List.mem_iff_getElem.1 h
  have hl : (l.take i).length ≤ l.length ∧ (l.take i).length ≤ i := by rw [List.length_take]; omega
  refine ⟨j, by omega, by omega, ?_⟩
  rw [List.getD_eq_getElem?_getD, List.getElem?_eq_getElem (by omega)]
  rw [List.getElem_take] at e
  exact e

/-- The node is not 0 at a new point. -/
theorem Itp.new {p : Int} (hok : okP p = true) {as ys poly node : List Int} {i : Nat} (h : Itp p as ys poly node i) (ha : allP p as = true) (hi : i < as.length) (hd : ∀ j k, j < k → k < as.length → as.getD j 0 ≠ as.getD k 0) :
    0 < valueP p (as.getD i 0) node ∧ valueP p (as.getD i 0) node < p := by
  have hp := okP_pos hok
  have hin := valueP_in hp.1 (as.getD i 0) node
  refine ⟨?_, hin.2⟩
  rcases Int.lt_or_le 0 (valueP p (as.getD i 0) node) with h1 | h1
  · exact h1
  · exfalso
    have h0 : valueP p (as.getD i 0) node = 0 := by omega
    have h2 := (valueP_cong p (as.getD i 0) node).symm
    rw [h0] at h2
    refine prodX_not hok (as.getD i 0) (as.take i) (fun a hm => ?_) ((h.nv _).symm.trans h2)
    obtain ⟨j, hj, hjl, rfl⟩ := take_mem hm
    exact elt_ne (allP_getD ha hi) (allP_getD ha hjl) (fun e => hd j i hj hi e.symm)

theorem take_succ_getD (l : List Int) (k : Nat) (h : k < l.length) : l.take (k + 1) = l.take k ++ [l.getD k 0] := by
  rw [List.take_add_one, List.getElem?_eq_getElem h, List.getD_eq_getElem?_getD, List.getElem?_eq_getElem h]; rfl

theorem Itp.step {p : Int} (hok : okP p = true) {as ys poly node : List Int} {i : Nat} (h : Itp p as ys poly node i) (ha : allP p as = true) (hy : allP p ys = true) (hi : i < as.length) (hi2 : i < ys.length) {inv : Int} (hv : Cong p (valueP p (as.getD i 0) node * inv) 1) :
    Itp p as ys (addTo p (mulP p (subP p (ys.getD i 0) (valueP p (as.getD i 0) poly)) inv) 0 node (poly ++ List.replicate 1 0) (i + 1)) (rawMul p node [subP p 0 (as.getD i 0), 1]) (i + 1) := by
  have hp := okP_pos hok
  have hap : allP p (poly ++ List.replicate 1 0) = true := allP_append.2 ⟨h.ap, allP_iff.2 (by simp; omega)⟩
  have hln : (poly ++ List.replicate 1 0).length = i + 1 := by simp [h.lp]
  have hcf : ∀ k, cf (poly ++ List.replicate 1 0) k = cf poly k := fun k => by
    unfold cf
    rw [List.getD_eq_getElem?_getD, List.getD_eq_getElem?_getD, List.getElem?_append]
    split
    · rfl
    · rw [List.getElem?_replicate, List.getElem?_eq_none (by omega)]
      split <;> rfl
  generalize hby : mulP p (subP p (ys.getD i 0) (valueP p (as.getD i 0) poly)) inv = by_
  have hval : ∀ z, Cong p (polyZ z (addTo p by_ 0 node (poly ++ List.replicate 1 0) (i + 1))) (polyZ z poly + by_ * polyZ z node) := fun z => polyZ_scaled fun k => by
    by_cases hk : k < i + 1
    · rw [cf_addTo h.ln (cf_in hp.1 hap) (by rw [hln]; exact hk), hcf, if_pos (Nat.zero_le _), Nat.sub_zero]
      exact Cong.mod _ _
    · rw [cf_out (by rw [addTo_len, hln]; omega), cf_out (l := poly) (by rw [h.lp]; omega), cf_out (l := node) (by rw [h.ln]; omega), Int.mul_zero]
      exact Cong.refl _ _
  refine ⟨by rw [addTo_len, hln], by simp [rawMul, h.ln], addTo_allP hp.1 _ _ _ _ _ hap, rawMul_allP hp.1 _ _, fun j hj => ?_, fun x => ?_⟩
  · refine (hval _).trans ?_
    by_cases hji : j = i
    · subst hji
      have h1 := valueP_cong p (as.getD j 0) poly
      have h2 := valueP_cong p (as.getD j 0) node
      generalize valueP p (as.getD j 0) poly = u at *
      generalize valueP p (as.getD j 0) node = v at *
      have h3 : Cong p (by_ * polyZ (as.getD j 0) node) (ys.getD j 0 - u) := by
        rw [← hby]
        have h4 : Cong p (mulP p (subP p (ys.getD j 0) u) inv * polyZ (as.getD j 0) node) ((ys.getD j 0 - u) * inv * v) := (((Cong.mulP _ _ _).trans ((Cong.subP _ _ _).mul (Cong.refl _ _)))).mul h2.symm
        refine h4.trans ?_
        rw [Int.mul_assoc, Int.mul_comm inv]
        have := (Cong.refl p (ys.getD j 0 - u)).mul hv
        rwa [Int.mul_one] at this
      have h5 := h1.symm.add h3
      refine h5.trans (Cong.of_eq ?_)
      omega
    · have h1 := h.pv j (by omega)
      have h2 : Cong p (polyZ (as.getD j 0) node) 0 := (h.nv _).trans (prodX_zero _ _ (a := as.getD j 0) (by
        rw [List.getD_eq_getElem?_getD, List.getElem?_eq_getElem (by omega)]
        exact List.mem_take_iff_getElem.2 ⟨j, by omega, rfl⟩) (by rw [Int.sub_self]; exact Cong.refl _ _))
      have h3 := h1.add ((Cong.refl p by_).mul h2)
      rwa [Int.mul_zero, Int.add_zero] at h3
  · have hml : mulL p node [subP p 0 (as.getD i 0), 1] = mulL p node [subP p 0 (as.getD i 0), 1] := rfl
    have h1 : Cong p (polyZ x (rawMul p node [subP p 0 (as.getD i 0), 1])) (polyZ x node * polyZ x [subP p 0 (as.getD i 0), 1]) := polyZ_prod fun k => by
      unfold rawMul
      rw [cf_map_range]
      split
      · exact Cong.mod _ _
      · rename_i hk
        rw [conv_out (by omega)]
        exact Cong.refl _ _
    refine h1.trans ?_
    rw [take_succ_getD as i hi, prodX_snoc]
    refine (h.nv x).mul ?_
    have h2 : polyZ x [subP p 0 (as.getD i 0), 1] = x + subP p 0 (as.getD i 0) := by simp [polyZ]
    rw [h2]
    have h3 := (Cong.refl p x).add (Cong.subP p 0 (as.getD i 0))
    refine h3.trans (Cong.of_eq ?_)
    omega

/-- What Interpolate hands back. -/
structure Through (p : Int) (as ys R : List Int) : Prop where
  tr : Trimd R
  al : allP p R = true
  ln : R.length ≤ as.length
  va : ∀ j, j < as.length → valueP p (as.getD j 0) R = ys.getD j 0
theorem Itp.done {p : Int} (hp : 2 ≤ p) {as ys poly node : List Int} {n : Nat} (h : Itp p as ys poly node n) (hn : as.length = n) (hn2 : ys.length = n) (hy : allP p ys = true) : Through p as ys (trimL poly) :=
  ⟨trimL_trimd _, trimL_allP h.ap, by rw [trimL_len]; have := tn_le poly poly.length; have := h.lp; omega, fun j hj => value_of hp (allP_getD hy (by omega)) ((polyZ_cfs fun k => by rw [cf_trimL]; exact Cong.refl _ _).trans (h.pv j (by omega)))⟩
end Go.Proofs.YtmcgnpdfpfgfpaaGreatDoor

/-! RootA -/
namespace Go.Proofs.YtmcgnpdfpfgfpaaGreatDoor
set_option linter.unusedVariables false

/-- The quotient by x - a. -/
def sd (a : Int) : List Int → List Int
  | [] => []
  | [_] => []
  | _ :: d :: l => polyZ a (d :: l) :: sd a (d :: l)
theorem sd_len (a : Int) : ∀ l, (sd a l).length = l.length - 1
  | [] => rfl
  | [_] => rfl
  | _ :: d :: l => by
    have := sd_len a (d :: l)
    simp only [sd, List.length_cons] at *
    omega
theorem sd_eq (x a : Int) : ∀ l, polyZ x l - polyZ a l = (x - a) * polyZ x (sd a l)
  | [] => by simp [polyZ, sd]
  | [c] => by simp [polyZ, sd]
  | c :: d :: l => by
    have ih := sd_eq x a (d :: l)
    simp only [sd]
    rw [polyZ_cons x c, polyZ_cons a c, polyZ_cons x (polyZ a (d :: l))]
    generalize polyZ x (d :: l) = X at *
    generalize polyZ a (d :: l) = Y at *
    generalize polyZ x (sd a (d :: l)) = Q at *
    have e : (x - a) * (Q * x + Y) = ((x - a) * Q) * x + (x - a) * Y := by rw [Int.mul_add, Int.mul_assoc]
    rw [e, ← ih, Int.sub_mul, Int.sub_mul, Int.mul_comm x Y, Int.mul_comm a Y]
    omega
theorem sd_zero {p a : Int} : ∀ l, Cong p (polyZ a l) 0 → (∀ k, Cong p (cf (sd a l) k) 0) → ∀ k, Cong p (cf l k) 0
  | [], _, _, k => by rw [cf_nil]; exact Cong.refl _ _
  | [c], h, _, k => by
    cases k with
    | zero => rw [cf_zero]; simpa [polyZ] using h
    | succ k => rw [cf_succ, cf_nil]; exact Cong.refl _ _
  | c :: d :: l, h, hq, k => by
    have h0 := hq 0
    simp only [sd] at hq h0
    rw [cf_zero] at h0
    have ih := sd_zero (d :: l) h0 (fun k => by have := hq (k + 1); rwa [cf_succ] at this)
    cases k with
    | succ k => rw [cf_succ]; exact ih k
    | zero =>
      rw [cf_zero]
      rw [polyZ_cons] at h
      have h1 := h0.mul (Cong.refl p a)
      rw [Int.zero_mul] at h1
      have h2 := h.sub h1
      rwa [Int.add_comm, Int.add_sub_cancel, Int.sub_zero] at h2

theorem roots_zero {p : Int} (hok : okP p = true) : ∀ (us l : List Int), l.length ≤ us.length → us.Pairwise (fun x y => ¬ Cong p (y - x) 0) → (∀ a ∈ us, Cong p (polyZ a l) 0) → ∀ k, Cong p (cf l k) 0 := by
  intro us
  induction us with
  | nil =>
    intro l hl _ _ k
    have : l = [] := List.eq_nil_of_length_eq_zero (by simpa using hl)
    rw [this, cf_nil]; exact Cong.refl _ _
  | cons a us ih =>
    intro l hl hd hz
    have ha := hz a (by simp)
    rw [List.pairwise_cons] at hd
    refine sd_zero l ha (ih (sd a l) (by rw [sd_len]; simp at hl; omega) hd.2 fun b hb => ?_)
    have h1 := hz b (by simp [hb])
    have h2 := (h1.sub ha)
    rw [sd_eq, Int.sub_self] at h2
    rcases Cong.mul_zero hok h2 with h3 | h3
    · exact absurd h3 (hd.1 b hb)
    · exact h3

theorem pairwise_of {p : Int} {us : List Int} (ha : allP p us = true) (hd : ∀ j k, j < k → k < us.length → us.getD j 0 ≠ us.getD k 0) : us.Pairwise (fun x y => ¬ Cong p (y - x) 0) := by
  rw [List.pairwise_iff_getElem]
  intro i j hi hj hij
  have h1 := hd i j hij hj
  have h2 := allP_getD ha hi
  have h3 := allP_getD ha hj
  rw [List.getD_eq_getElem?_getD, List.getElem?_eq_getElem hi, List.getD_eq_getElem?_getD, List.getElem?_eq_getElem hj] at h1
  rw [List.getD_eq_getElem?_getD, List.getElem?_eq_getElem hi] at h2
  rw [List.getD_eq_getElem?_getD, List.getElem?_eq_getElem hj] at h3
  exact elt_ne h3 h2 (fun e => h1 e.symm)

/-- Two polynomials with no more coefficients than points, of the same values there, are the same. -/
theorem same_cfs {p : Int} (hok : okP p = true) {us a b : List Int} (hu : us.Pairwise (fun x y => ¬ Cong p (y - x) 0)) (ha : allP p a = true) (hb : allP p b = true) (hla : a.length ≤ us.length) (hlb : b.length ≤ us.length)
    (hv : ∀ x ∈ us, valueP p x a = valueP p x b) : ∀ k, cf a k = cf b k := by
  have hp := okP_pos hok
  intro k
  have hcf : ∀ k, cf ((List.range us.length).map fun k => cf a k - cf b k) k = cf a k + (-1) * cf b k := fun k => by
    rw [cf_map_range]
    split
    · omega
    · rw [cf_out (l := a) (by omega), cf_out (l := b) (by omega)]; rfl
  have h1 := roots_zero hok us ((List.range us.length).map fun k => cf a k - cf b k) (by simp) hu (fun x hx => by
    refine (polyZ_scaled (a := a) (b := b) (c := -1) fun k => Cong.of_eq (hcf k)).trans ?_
    have h2 := ((valueP_cong p x a).symm.trans (Cong.of_eq (hv x hx))).trans (valueP_cong p x b)
    have h3 := h2.zero_sub
    refine Cong.trans (Cong.of_eq ?_) h3
    omega) k
  rw [hcf] at h1
  have h2 : Cong p (cf a k - cf b k) 0 := by refine Cong.trans (Cong.of_eq ?_) h1; omega
  exact h2.sub_zero.eq (cf_in hp.1 ha k) (cf_in hp.1 hb k)
end Go.Proofs.YtmcgnpdfpfgfpaaGreatDoor

/-! LinesA -/
namespace Go.Proofs.YtmcgnpdfpfgfpaaGreatDoor
set_option linter.unusedVariables false

end Go.Proofs.YtmcgnpdfpfgfpaaGreatDoor

/-! ShareA -/
namespace Go.Proofs.YtmcgnpdfpfgfpaaGreatDoor
set_option linter.unusedVariables false

/-- The values of a polynomial at some points. -/
def valsP (p : Int) (cs us : List Int) : List Int := us.map fun x => valueP p x cs
theorem valsP_at (p : Int) (cs us : List Int) {j : Nat} (hj : j < us.length) : (valsP p cs us).getD j 0 = valueP p (us.getD j 0) cs := by
  unfold valsP
  rw [List.getD_eq_getElem?_getD, List.getElem?_map, List.getD_eq_getElem?_getD, List.getElem?_eq_getElem hj]; rfl
theorem valsP_snoc (p : Int) (cs us : List Int) (x : Int) : valsP p cs (us ++ [x]) = valsP p cs us ++ [valueP p x cs] := by simp [valsP]

theorem take_getD (l : List Int) {k j : Nat} (hj : j < k) : (l.take k).getD j 0 = l.getD j 0 := by
  rw [List.getD_eq_getElem?_getD, List.getElem?_take_of_lt hj, List.getD_eq_getElem?_getD]
theorem take_allP {p : Int} {l : List Int} (h : allP p l = true) (k : Nat) : allP p (l.take k) = true := allP_iff.2 fun x hx => allP_iff.1 h x (List.mem_of_mem_take hx)
theorem value_trim (p x : Int) (hp : 2 ≤ p) (cs : List Int) : valueP p x (trimL cs) = valueP p x cs := by
  refine Cong.eq (p := p) ?_ (valueP_in hp _ _) (valueP_in hp _ _)
  exact (valueP_cong _ _ _).trans ((polyZ_cfs fun k => by rw [cf_trimL]; exact Cong.refl _ _).trans (valueP_cong _ _ _).symm)

/-- Points are apart. -/
def Apart2 (us : List Int) : Prop := ∀ j k, j < k → k < us.length → us.getD j 0 ≠ us.getD k 0
theorem Apart2.take {us : List Int} (h : Apart2 us) (k : Nat) : Apart2 (us.take k) := fun i j h1 h2 => by
  have hl : (us.take k).length ≤ us.length ∧ (us.take k).length ≤ k := by rw [List.length_take]; omega
  rw [take_getD us (by omega), take_getD us (by omega)]
  exact h i j h1 (by omega)

end Go.Proofs.YtmcgnpdfpfgfpaaGreatDoor

/-! KnownA -/
namespace Go.Proofs.YtmcgnpdfpfgfpaaGreatDoor
set_option linter.unusedVariables false

/-- The places, counted from i on, and values of the cells that are known. -/
def knF (i : Int) : List Int → List Bool → List (Int × Int)
  | v :: vs, b :: bs => if b then (i, v) :: knF (i + 1) vs bs else knF (i + 1) vs bs
  | _, _ => []
theorem knF_snoc (v : Int) (b : Bool) : ∀ (vs : List Int) (bs : List Bool) (i : Int), vs.length = bs.length → knF i (vs ++ [v]) (bs ++ [b]) = knF i vs bs ++ (if b then [(i + vs.length, v)] else [])
  | [], [], i, _ => by cases b <;> simp [knF]
  | u :: vs, c :: bs, i, h => by
    have := knF_snoc v b vs bs (i + 1) (by simpa using h)
    simp only [List.cons_append, knF, this, List.length_cons]
    rw [show i + 1 + (vs.length : Int) = i + ((vs.length + 1 : Nat) : Int) by omega]
    cases c <;> rfl
/-- All that is known. -/
def knL (vs : List Int) (bs : List Bool) : List (Int × Int) := knF 1 vs bs
theorem take_succB (l : List Bool) {j : Nat} (hj : j < l.length) : l.take (j + 1) = l.take j ++ [l.getD j false] := by
  rw [List.take_add_one, List.getD_eq_getElem?_getD, List.getElem?_eq_getElem hj]; rfl
theorem take_succI (l : List Int) {j : Nat} (hj : j < l.length) : l.take (j + 1) = l.take j ++ [l.getD j 0] := by
  rw [List.take_add_one, List.getD_eq_getElem?_getD, List.getElem?_eq_getElem hj]; rfl
theorem knL_step {vs : List Int} {bs : List Bool} (h : vs.length = bs.length) {j : Nat} (hj : j < vs.length) :
    knL (vs.take (j + 1)) (bs.take (j + 1)) = knL (vs.take j) (bs.take j) ++ (if bs.getD j false then [((j : Int) + 1, vs.getD j 0)] else []) := by
  rw [take_succI vs hj, take_succB bs (by omega)]
  unfold knL
  rw [knF_snoc _ _ _ _ _ (by rw [List.length_take, List.length_take]; omega), List.length_take, Nat.min_eq_left (by omega), Int.add_comm]
theorem knF_split : ∀ (vs : List Int) (bs : List Bool) (i : Int) (k : Nat), vs.length = bs.length → knF i vs bs = knF i (vs.take k) (bs.take k) ++ knF (i + (vs.take k).length) (vs.drop k) (bs.drop k)
  | [], [], i, k, _ => by simp [knF]
  | u :: vs, c :: bs, i, 0, h => by simp [knF]
  | u :: vs, c :: bs, i, k + 1, h => by
    have := knF_split vs bs (i + 1) k (by simpa using h)
    simp only [List.take_succ_cons, List.drop_succ_cons, knF, List.length_cons]
    rw [this, show i + 1 + ((vs.take k).length : Int) = i + (((vs.take k).length + 1 : Nat) : Int) by omega]
    cases c <;> rfl
theorem knL_prefix {vs : List Int} {bs : List Bool} (h : vs.length = bs.length) (j : Nat) : ∃ t, knL vs bs = knL (vs.take j) (bs.take j) ++ t := ⟨_, knF_split vs bs 1 j h⟩
theorem knL_mem {vs : List Int} {bs : List Bool} (h : vs.length = bs.length) {j : Nat} (hj : j < vs.length) (hb : bs.getD j false = true) : ((j : Int) + 1, vs.getD j 0) ∈ knL vs bs := by
  obtain ⟨t, ht⟩ := knL_prefix h (j + 1)
  rw [ht, knL_step h hj, hb]; simp
theorem knL_lt {vs : List Int} {bs : List Bool} (h : vs.length = bs.length) {j : Nat} (hj : j < vs.length) (hb : bs.getD j false = true) : (knL (vs.take j) (bs.take j)).length < (knL vs bs).length := by
  obtain ⟨t, ht⟩ := knL_prefix h (j + 1)
  rw [ht, knL_step h hj, hb, List.length_append, List.length_append]; simp; omega
theorem knL_takes {vs : List Int} {bs : List Bool} (h : vs.length = bs.length) (j : Nat) : knL (vs.take j) (bs.take j) = (knL vs bs).take (knL (vs.take j) (bs.take j)).length := by
  obtain ⟨t, ht⟩ := knL_prefix h j
  rw [ht, List.take_left']; rfl
theorem knF_len : ∀ (vs : List Int) (bs : List Bool) (i : Int), (knF i vs bs).length ≤ vs.length
  | [], _, i => by simp [knF]
  | u :: vs, [], i => by simp [knF]
  | u :: vs, c :: bs, i => by
    have := knF_len vs bs (i + 1)
    simp only [knF, List.length_cons]
    split
    · simp; omega
    · omega
theorem knL_len (vs : List Int) (bs : List Bool) : (knL vs bs).length ≤ vs.length := knF_len vs bs 1
/-- What is known: where it lies, and that it is the value there. -/
theorem knF_of : ∀ (vs : List Int) (bs : List Bool) (i : Int) (e : Int × Int), e ∈ knF i vs bs → ∃ j : Nat, j < vs.length ∧ bs.getD j false = true ∧ e = (i + j, vs.getD j 0)
  | [], _, i, e, h => by simp [knF] at h
  | u :: vs, [], i, e, h => by simp [knF] at h
  | u :: vs, c :: bs, i, e, h => by
    have ih := knF_of vs bs (i + 1) e
    simp only [knF] at h
    by_cases hc : c = true
    · rw [hc] at h
      simp only [if_true, List.mem_cons] at h
      rcases h with h | h
      · exact ⟨0, by simp, by simp [hc], by rw [h]; simp⟩
      · obtain ⟨j, h1, h2, h3⟩ := ih h
        exact ⟨j + 1, by simpa using h1, by simpa using h2, by rw [h3]; simp; omega⟩
    · rw [if_neg hc] at h
      obtain ⟨j, h1, h2, h3⟩ := ih h
      exact ⟨j + 1, by simpa using h1, by simpa using h2, by rw [h3]; simp; omega⟩
theorem knL_of {vs : List Int} {bs : List Bool} {e : Int × Int} (h : e ∈ knL vs bs) : ∃ j : Nat, j < vs.length ∧ bs.getD j false = true ∧ e = ((j : Int) + 1, vs.getD j 0) := by
  obtain ⟨j, h1, h2, h3⟩ := knF_of vs bs 1 e h
  exact ⟨j, h1, h2, by rw [h3, Int.add_comm]⟩
theorem knF_sorted : ∀ (vs : List Int) (bs : List Bool) (i : Int), (knF i vs bs).Pairwise (fun a b => a.1 < b.1)
  | [], _, i => by simp [knF]
  | u :: vs, [], i => by simp [knF]
  | u :: vs, c :: bs, i => by
    have ih := knF_sorted vs bs (i + 1)
    simp only [knF]
    split
    · refine List.pairwise_cons.2 ⟨fun e he => ?_, ih⟩
      obtain ⟨j, _, _, h3⟩ := knF_of vs bs (i + 1) e he
      rw [h3]; show i < i + 1 + (j : Int); omega
    · exact ih

/-- The points of what is known, and the values. -/
def ptK (l : List (Int × Int)) : List Int := l.map fun e => e.1
def vlK (l : List (Int × Int)) : List Int := l.map fun e => e.2
theorem ptK_len (l : List (Int × Int)) : (ptK l).length = l.length := by simp [ptK]
theorem ptK_take (l : List (Int × Int)) (k : Nat) : ptK (l.take k) = (ptK l).take k := by simp [ptK, List.map_take]
theorem vlK_take (l : List (Int × Int)) (k : Nat) : vlK (l.take k) = (vlK l).take k := by simp [vlK, List.map_take]
theorem ptK_at {l : List (Int × Int)} {j : Nat} (hj : j < l.length) : (ptK l).getD j 0 = l[j].1 := by
  unfold ptK
  rw [List.getD_eq_getElem?_getD, List.getElem?_map, List.getElem?_eq_getElem hj]; rfl
theorem ptK_apart (vs : List Int) (bs : List Bool) : Apart2 (ptK (knL vs bs)) := fun j k h1 h2 => by
  rw [ptK_len] at h2
  rw [ptK_at (by omega), ptK_at h2]
  have := (List.pairwise_iff_getElem.1 (knF_sorted vs bs 1)) j k (by show j < (knL vs bs).length; omega) h2 h1
  have h3 : (knL vs bs)[j].1 < (knL vs bs)[k].1 := this
  omega
theorem ptK_allP {p : Int} (vs : List Int) (bs : List Bool) (h : (vs.length : Int) < p) : allP p (ptK (knL vs bs)) = true := allP_iff.2 fun x hx => by
  obtain ⟨e, he, rfl⟩ := List.mem_map.1 hx
  obtain ⟨j, h1, _, h3⟩ := knL_of he
  rw [h3]; show 0 ≤ (j : Int) + 1 ∧ (j : Int) + 1 < p; omega
/-- All known values are elements. -/
def knOk (p : Int) (vs : List Int) (bs : List Bool) : Prop := ∀ e ∈ knL vs bs, 0 ≤ e.2 ∧ e.2 < p
theorem vlK_allP {p : Int} {vs : List Int} {bs : List Bool} (h : knOk p vs bs) : allP p (vlK (knL vs bs)) = true := allP_iff.2 fun x hx => by
  obtain ⟨e, he, rfl⟩ := List.mem_map.1 hx
  exact h e he
end Go.Proofs.YtmcgnpdfpfgfpaaGreatDoor

/-! Keeps -/
namespace Go.Proofs.YtmcgnpdfpfgfpaaGreatDoor
open Go.RowKit
set_option linter.unusedVariables false

/-- What lay below n₁ lies as it lay, but for block gs; nothing is gone. -/
def KeepsB (n₁ gs : Nat) (W W' : World) : Prop := W.heap.size ≤ W'.heap.size ∧ ∀ k, k < n₁ → k ≠ gs → W'.heap[k]? = W.heap[k]?
theorem KeepsB.refl (n₁ gs : Nat) (W : World) : KeepsB n₁ gs W W := ⟨Nat.le_refl _, fun _ _ _ => rfl⟩
theorem KeepsB.trans {n₁ gs : Nat} {A B C : World} (h : KeepsB n₁ gs A B) (k : KeepsB n₁ gs B C) : KeepsB n₁ gs A C := ⟨Nat.le_trans h.1 k.1, fun i h1 h2 => (k.2 i h1 h2).trans (h.2 i h1 h2)⟩
theorem KeepsB.cell {n₁ gs : Nat} {W W' : World} (h : KeepsB n₁ gs W W') {b o : Nat} (h1 : b < n₁) (h2 : b ≠ gs) : W'.cell? ⟨b, o, none⟩ = W.cell? ⟨b, o, none⟩ := World.cell?_of_block (h.2 b h1 h2)
theorem KeepsB.put {n₁ gs : Nat} {w : World} (hn : n₁ ≤ w.heap.size) (W : World) (l : Nat) (o o' : Obj) (hl : w.heap.size ≤ l) (_ : W.heap[l]? = some o) (_ : o.isCells = false) (_ : o.isWalk = false) : KeepsB n₁ gs W (W.putObj l o') :=
  ⟨by simp, fun k hk _ => World.putObj_heap_other (by omega)⟩
theorem KeepsB.alloc {n₁ gs : Nat} {W : World} (hn : n₁ ≤ W.heap.size) (o : Obj) : KeepsB n₁ gs W (W.alloc o) := ⟨by simp, fun k hk _ => Below.heap_alloc W o k (by omega)⟩
theorem ownFrom_keepsB {β : Type} {n₁ gs B : Nat} {W0 : World} (h : n₁ ≤ B) (h0 : n₁ ≤ W0.heap.size) : OwnFrom B (fun (_ : β) W => KeepsB n₁ gs W0 W) :=
  fun _ A C row hs hg hr => hs.trans ⟨hg.size, fun k hk _ => hg.block k (by have := hs.1; omega) (fun e => by have := (hr k e.symm).1; omega)⟩
theorem KeepsB.blk {n₁ gs : Nat} {W W' : World} (h : KeepsB n₁ gs W W') {b : Nat} {t : TypeId} {cs : Array Value} (h1 : b < n₁) (h2 : b ≠ gs) (hb : Blk W b t cs) : Blk W' b t cs := (h.2 b h1 h2).trans hb
end Go.Proofs.YtmcgnpdfpfgfpaaGreatDoor

/-! NumA -/
namespace Go.Proofs.YtmcgnpdfpfgfpaaGreatDoor

theorem tmod_facts (x k : Int) (hk : 0 < k) : -k < x.tmod k ∧ x.tmod k < k ∧ (x.tmod k < 0 → x.tmod k + k = x % k) ∧ (0 ≤ x.tmod k → x.tmod k = x % k) := by
  have h1 := Int.emod_nonneg x (by omega : k ≠ 0)
  have h2 := Int.emod_lt_of_pos x hk
  rw [Int.tmod_eq_emod]
  have hn : (k.natAbs : Int) = k := by omega
  split <;> rename_i h
  · omega
  · rw [hn]
    have : x % k ≠ 0 := fun h0 => h (Or.inr (Int.dvd_of_emod_eq_zero h0))
    omega

/-- '(n%k + k) % k'. -/
theorem mod_of_go (x k : Int) (hk : 0 < k) : (x.tmod k + k) % k = x % k := by
  have h := tmod_facts x k hk
  rcases Int.lt_or_le (x.tmod k) 0 with h0 | h0
  · rw [h.2.2.1 h0]; exact Int.emod_emod_of_dvd x (Int.dvd_refl k)
  · rw [h.2.2.2 h0, Int.add_emod_right]; exact Int.emod_emod_of_dvd x (Int.dvd_refl k)

end Go.Proofs.YtmcgnpdfpfgfpaaGreatDoor

/-! InvA -/
namespace Go.Proofs.YtmcgnpdfpfgfpaaGreatDoor
set_option linter.unusedVariables false

theorem le_mul_one {x y : Int} (hx : 0 ≤ x) (hy : 1 ≤ y) : x ≤ x * y := by
  have := Int.mul_le_mul_of_nonneg_left hy hx
  rwa [Int.mul_one] at this

/-- What holds between the rounds of Inverse. -/
structure Euc (p a r s x y : Int) : Prop where
  s0 : 0 ≤ s
  sr : s < r
  rp : r ≤ p
  c1 : Cong p (x * a) r
  c2 : Cong p (y * a) s
  sg : (x ≤ 0 ∧ 0 ≤ y ∧ y * r - x * s = p) ∨ (0 ≤ x ∧ y ≤ 0 ∧ x * s - y * r = p)
  bx : -p ≤ x ∧ x ≤ p
  gd : ∀ d : Int, d ∣ r → d ∣ s → d ∣ 1

theorem Euc.start {p a : Int} (h : okP p = true) (ha : 0 < a ∧ a < p) : Euc p a p a 0 1 := by
  have hp := okP_pos h
  refine ⟨by omega, ha.2, Int.le_refl _, by rw [Int.zero_mul]; exact (Cong.self p).symm, by rw [Int.one_mul]; exact Cong.refl _ _, .inl ⟨Int.le_refl _, by omega, by rw [Int.one_mul, Int.zero_mul]; omega⟩, by omega, fun d h1 h2 => ?_⟩
  rcases Nat.lt_or_ge d.natAbs 2 with h3 | h3
  · rcases (by omega : d.natAbs = 0 ∨ d.natAbs = 1) with h4 | h4
    · rw [Int.natAbs_eq_zero.1 h4] at h1
      have := Int.zero_dvd.1 h1
      omega
    · exact Int.natAbs_dvd_natAbs.1 (by rw [h4]; exact Nat.one_dvd _)
  · exfalso
    have h4 := okP_prime h h3 (Int.natAbs_dvd.2 h1)
    have h5 : p ∣ a := by rw [← h4]; exact Int.natAbs_dvd.2 h2
    have := Int.le_of_dvd ha.1 h5
    omega

theorem Euc.by_ {p a r s x y : Int} (h : Euc p a r s x y) : -p ≤ y ∧ y ≤ p := by
  have hr : 1 ≤ r := by have := h.s0; have := h.sr; omega
  rcases h.sg with ⟨h1, h2, h3⟩ | ⟨h1, h2, h3⟩
  · have h4 : x * s ≤ 0 := Int.mul_nonpos_of_nonpos_of_nonneg h1 h.s0
    have := le_mul_one h2 hr
    omega
  · have h4 : 0 ≤ x * s := Int.mul_nonneg h1 h.s0
    have := le_mul_one (x := -y) (by omega) hr
    rw [Int.neg_mul] at this
    omega

theorem Euc.step {p a r s x y : Int} (h : Euc p a r s x y) (hs : 0 < s) : Euc p a s (r - r / s * s) y (x - r / s * y) := by
  have hm : r - r / s * s = r % s := by have := Int.emod_add_mul_ediv r s; rw [Int.mul_comm s] at this; omega
  have hm0 : 0 ≤ r % s := Int.emod_nonneg _ (by omega)
  have hm1 : r % s < s := Int.emod_lt_of_pos _ hs
  have hq : 0 ≤ r / s := Int.ediv_nonneg (by have := h.sr; omega) h.s0
  refine ⟨by omega, by omega, by have := h.sr; have := h.rp; omega, h.c2, ?_, ?_, h.by_, fun d h1 h2 => h.gd d ?_ h1⟩
  · rw [Int.sub_mul, Int.mul_assoc]
    exact h.c1.sub ((Cong.refl p (r / s)).mul h.c2)
  · have e : y * (r - r / s * s) - (x - r / s * y) * s = y * r - x * s := by
      rw [Int.mul_sub, Int.sub_mul, ← Int.mul_assoc, Int.mul_comm y (r / s)]; omega
    rcases h.sg with ⟨h1, h2, h3⟩ | ⟨h1, h2, h3⟩
    · right
      have := Int.mul_nonneg hq h2
      exact ⟨h2, by omega, by rw [e]; exact h3⟩
    · left
      have := Int.mul_nonneg hq (show 0 ≤ -y by omega)
      rw [Int.mul_neg] at this
      refine ⟨h2, by omega, ?_⟩
      have : (x - r / s * y) * s - y * (r - r / s * s) = -(y * (r - r / s * s) - (x - r / s * y) * s) := by omega
      rw [this, e]; omega
  · have : r = (r - r / s * s) + r / s * s := by omega
    rw [this]
    exact Int.dvd_add h2 (Int.dvd_mul_of_dvd_right h1)

theorem Euc.bounds {p a r s x y : Int} (h : Euc p a r s x y) (hs : 0 < s) : (0 ≤ r / s ∧ r / s ≤ p) ∧ (0 ≤ r / s * s ∧ r / s * s ≤ p) ∧ (-(2 * p) ≤ r / s * y ∧ r / s * y ≤ 2 * p) := by
  have hst := h.step hs
  have h1 := hst.by_
  have h2 := h.bx
  have h3 := hst.s0
  have h4 := h.rp
  have h5 : 0 ≤ r / s := Int.ediv_nonneg (by have := h.sr; omega) h.s0
  have h6 := le_mul_one h5 (show 1 ≤ s by omega)
  exact ⟨⟨h5, by omega⟩, ⟨by omega, by omega⟩, by omega, by omega⟩

theorem Euc.done {p a r x y : Int} (h : Euc p a r 0 x y) : Cong p (a * (x % p)) 1 := by
  have hr : r = 1 := by
    have h1 := h.gd r (Int.dvd_refl r) (Int.dvd_zero r)
    have h2 := h.sr
    have := Int.le_of_dvd (by omega) h1
    omega
  have h1 := h.c1
  rw [hr, Int.mul_comm] at h1
  exact ((Cong.refl p a).mul (Cong.mod p x)).trans h1
end Go.Proofs.YtmcgnpdfpfgfpaaGreatDoor

/-! Cut -/
namespace Go.Proofs.YtmcgnpdfpfgfpaaGreatDoor
open Go.RowKit
set_option linter.unusedVariables false

theorem run_append_zero {P : Program} (w : World) (t ty e : TypeId) (i : TypeInfo) (ht : P.underlying t = some (.slice e)) (hi : P.info? e = some i) (A A2 : Option Addr) (j c2 : Nat) (hA : A = none → j = 0) :
    (Builtin.append_ #[t, t] ty #[.slice A j j, .slice A2 0 c2]).run P w = .ok (.slice A j j) w := by
  rcases A with _ | a
  · obtain rfl := hA rfl
    rcases A2 with _ | a2 <;> simp [Builtin.append_, run_underlying ht, sizeOf, typeInfo, hi, Builtin.lenOf, Builtin.firstCells, loadCells, loadCellsFrom]
  · rcases A2 with _ | a2 <;> simp [Builtin.append_, run_underlying ht, sizeOf, typeInfo, hi, Builtin.lenOf, Builtin.firstCells, storeCells, loadCells, loadCellsFrom]

theorem run_append_cut {P : Program} (w : World) (t ty e : TypeId) (i : TypeInfo) (z : Value) (ht : P.underlying t = some (.slice e)) (hi : P.info? e = some i) (hz : i.zero = some z)
    (hsize : i.size = 1) (hby : i.bytes = 8) (hzs : z.cells.size = 1)
    (A : Option Addr) (j : Nat) (xs : List Int) (hA : A = none → j = 0) (B : Nat) (hxs : Ints w B A j xs) (A2 : Option Addr) (m c2 : Nat) (ys : List Int) (B2 : Nat) (hys : Ints w B2 A2 m ys) (hcap : j + m ≤ 17592186044416) :
    ∃ A' c' w', (Builtin.append_ #[t, t] ty #[.slice A j j, .slice A2 m c2]).run P w = .ok (.slice A' (j + m) c') w' ∧ j + m ≤ c' ∧ (A' = none → j + m = 0) ∧ Below w.heap.size w w' ∧
      ((m = 0 ∧ A' = A ∧ w' = w) ∨ OwnI w' w.heap.size e A' (j + m) c' (xs ++ ys)) := by
  rcases Nat.eq_zero_or_pos m with h0 | h0
  · subst h0
    exact ⟨A, j, w, run_append_zero w t ty e i ht hi A A2 j c2 hA, Nat.le_refl _, hA, Below.refl _ _, .inl ⟨rfl, rfl, rfl⟩⟩
  · have hry := hys.reads
    obtain ⟨ad, hA2, _, hc2⟩ := hry.2 h0
    subst hA2
    have hl2 : (vals ys).length = m * 1 := hry.1
    rcases A with _ | a
    · obtain rfl := hA rfl
      have hx0 : xs = [] := List.eq_nil_of_length_eq_zero hxs.1
      subst hx0
      obtain ⟨v', w', hrun, r1, r2, _⟩ := run_append_own (P := P) w w.heap.size t ty e i z 1 8 ht hi hz hsize hby hzs (by omega) (.slice none 0 0) 0 [] (World.ownsRow_nil w _ e 1) ad m c2 (vals ys) hl2 hc2 (vals_one ys) (by unfold maxLen; omega) (by omega) (Nat.le_refl _)
      rcases r1.2 with ⟨_, hn⟩ | ⟨g, cap, cur, rfl, hg, hh, hnc, r⟩
      · omega
      · refine ⟨some ⟨g, 0, none⟩, cap, w', hrun, hnc, (fun h => by cases h), (Below.refl _ _).grown r2 (Nat.le_refl _) (fun k hk => by cases hk), .inr ?_⟩
        exact r1
    · obtain ⟨v', w', hrun, r1, r2⟩ := run_append_arg_grows (P := P) w t ty e i z 1 8 ht hi hz hsize hby hzs (by omega) a j j (vals xs) (by simpa using hxs.reads.1)
        (fun q u hu => by
          rcases Nat.eq_zero_or_pos j with h | h
          · subst h
            have hx0 : xs = [] := List.eq_nil_of_length_eq_zero hxs.1
            subst hx0; simp [vals] at hu
          · obtain ⟨ad', e', _, hc⟩ := hxs.reads.2 h
            injection e' with e'
            subst e'
            exact hc q u hu) ad m c2 (vals ys) hl2 hc2 (by omega) (by unfold maxLen; omega) (by omega)
      rcases r1.2 with ⟨_, hn⟩ | ⟨g, cap, cur, rfl, hg, hh, hnc, r⟩
      · omega
      · refine ⟨some ⟨g, 0, none⟩, cap, w', hrun, hnc, (fun h => by cases h), (Below.refl _ _).grown r2 (Nat.le_refl _) (fun k hk => by cases hk), .inr ?_⟩
        have e1 : vals xs ++ vals ys = vals (xs ++ ys) := by simp [vals]
        rw [e1] at r1
        exact r1

theorem step_append_cut {P : Program} {ops : Array Oper} {o : Oper} {a : Act} {w : World} {K : Act → World → Prop} {Q : Exit → Act → World → Prop} {E : Prop}
    (hg : o.guard = none) (s x : Operand) (t : TypeId) (hop : o.op = Op.call { callee := Callee.builtin Builtin.append, args := #[s, x], argTypes := #[t, t] })
    (e : TypeId) (i : TypeInfo) (z : Value) (ht : P.underlying t = some (.slice e)) (hi : P.info? e = some i) (hz : i.zero = some z) (hsize : i.size = 1) (hby : i.bytes = 8) (hzs : z.cells.size = 1)
    (A : Option Addr) (j : Nat) (xs : List Int) (hA : A = none → j = 0) (hs : a.eval s = .slice A j j) (B : Nat) (hxs : Ints w B A j xs) (A2 : Option Addr) (m c2 : Nat) (ys : List Int) (hx : a.eval x = .slice A2 m c2) (B2 : Nat) (hys : Ints w B2 A2 m ys) (hcap : j + m ≤ 17592186044416)
    (N : Nat) (hN : j + m = N) (zs : List Int) (hzz : xs ++ ys = zs)
    (hK : ∀ A' c' w', N ≤ c' → (A' = none → N = 0) → Below w.heap.size w w' → ((m = 0 ∧ A' = A ∧ w' = w) ∨ OwnI w' w.heap.size e A' N c' zs) → K (a.put o.dst (.slice A' N c')) w') :
    if Region.wanted o (yielded ops a.tmps) = true then Oper.wp P o a w K Q else E := by
  subst hN hzz
  have hw : Region.wanted o (yielded ops a.tmps) = true := by simp [Region.wanted, hg]
  rw [if_pos hw]
  obtain ⟨A', c', w', hrun, h1, h2, h3, h4⟩ := run_append_cut (P := P) w t o.type e i z ht hi hz hsize hby hzs A j xs hA B hxs A2 m c2 ys B2 hys hcap
  unfold Oper.wp
  simp [execOp, hop, resolve, invoke, builtin, hs, hx, hrun, Result.andThen]
  exact hK A' c' w' h1 h2 h3 h4
end Go.Proofs.YtmcgnpdfpfgfpaaGreatDoor

/-! Shape -/
namespace Go.Proofs.YtmcgnpdfpfgfpaaGreatDoor
open Go.RowKit
set_option linter.unusedVariables false

/-- A list of the call's own is nil or begins its block. -/
theorem OwnI.shape {w : World} {base n c : Nat} {e : TypeId} {A : Option Addr} {xs : List Int} (h : OwnI w base e A n c xs) : (A = none ∧ n = 0 ∧ c = 0) ∨ ∃ g, A = some ⟨g, 0, none⟩ ∧ n ≤ c ∧ c ≤ maxLen := by
  rcases h.2 with ⟨hv, hn⟩ | ⟨g, cap, cur, hv, _, _, hc, hm, _⟩
  · injection hv with h1 h2 h3; exact .inl ⟨h1, hn, h3⟩
  · injection hv with h1 h2 h3; subst h3; exact .inr ⟨g, h1, hc, hm⟩

/-- An append of numbers, from any source, onto a row of the call's own: the step alone. -/
theorem wp_append_ints {P : Program} {w : World} {o : Oper} {a : Act} {K : Act → World → Prop} {Q : Exit → Act → World → Prop} (s x : Operand) (t : TypeId)
    (ho : o.op = .call { callee := .builtin .append, args := #[s, x], argTypes := #[t, t] })
    (base : Nat) (e : TypeId) (i : TypeInfo) (z : Value) (ht : P.underlying t = some (.slice e)) (hi : P.info? e = some i) (hz : i.zero = some z)
    (hsize : i.size = 1) (hby : i.bytes = 8) (hzs : z.cells.size = 1)
    (A : Option Addr) (n c : Nat) (xs : List Int) (hs : a.eval s = .slice A n c) (hown : OwnI w base e A n c xs)
    (B : Nat) (A2 : Option Addr) (m c2 : Nat) (ys : List Int) (hx : a.eval x = .slice A2 m c2) (hr : Ints w B A2 m ys)
    (N : Nat) (hN : n + m = N) (zs : List Int) (hzz : xs ++ ys = zs) (hcap : N ≤ 17592186044416) (hbase : base ≤ w.heap.size)
    (h : ∀ A' c' w', OwnI w' base e A' N c' zs → w.grownBy w' (Value.slice A n c).ownBlock → Below base w w' →
      ((Value.slice A' N c').ownBlock = (Value.slice A n c).ownBlock ∨ (Value.slice A' N c').ownBlock = some w.heap.size) → K (a.put o.dst (.slice A' N c')) w') : o.wp P a w K Q := by
  subst hN hzz
  refine wp_append_any w s x t ho base e i z 1 8 ht hi hz hsize hby hzs (by omega) (.slice A n c) n (vals xs) hs hown B A2 m c2 (vals ys) hx hr.reads (vals_one ys) (by unfold maxLen; omega) (by omega) hbase ?_
  intro v' w' hown' hg hat
  rw [show vals xs ++ vals ys = vals (xs ++ ys) by simp [vals]] at hown'
  have hb : Below base w w' := (Below.refl base w).grown hg hbase (OwnI.row hown)
  rcases hown'.2 with ⟨hv, hn⟩ | ⟨g, cap, cur, hv, _⟩
  · rw [hv] at hown' hat ⊢
    rw [hn] at hown' h
    exact h none 0 w' hown' hg hb hat
  · rw [hv] at hown' hat ⊢
    exact h _ cap w' hown' hg hb hat

theorem OwnI.cap {w : World} {base n c : Nat} {e : TypeId} {A : Option Addr} {xs : List Int} (h : OwnI w base e A n c xs) : n ≤ c := by
  rcases h.shape with ⟨_, h1, h2⟩ | ⟨_, _, h1, _⟩ <;> omega
end Go.Proofs.YtmcgnpdfpfgfpaaGreatDoor

/-! MapB -/
namespace Go.Proofs.YtmcgnpdfpfgfpaaGreatDoor
open Go.RowKit
open Go.Maps
set_option linter.unusedVariables false

theorem plainElem_bool_inv {H : Type} {P : Program} {e : TypeId} (he : P.underlying e = some .bool) {v : Value} {z : DataW H × List MemPlace} (h : plainElem P e v = some z) : ∃ x, v = .bool x ∧ z = (.lit (.bool x), []) := by
  unfold plainElem at h
  rw [he] at h
  cases v <;> simp at h
  exact ⟨_, rfl, h.symm⟩

theorem wpList_lookup_own_bool {H : Type} {P : Program} (w : World) {ops : Array Oper} {rest : List Oper} {o : Oper} {a : Act} {Q : Exit → Act → World → Prop}
    (hg : o.guard = none) (m x : Operand) (t : TypeId) (hop : o.op = Op.lookup t m x false)
    (k e : TypeId) (K : Keyed P k) (ht : P.underlying t = some (.map k e)) (he : P.underlying e = some .bool) (hz : (zeroValue e).run P w = .ok (.bool false) w) (b n : Nat) (D : DataW H)
    (hm : a.eval m = .map (some b)) (hown : w.ownsMap P k (plainElem P e) b n D) (key : Value) (kl : Lit) (hx : a.eval x = key) (hkey : keyOf P k key = some kl)
    (hK : ∀ c : Bool, D.atKey kl (.lit (.bool false)) = .lit (.bool c) → wpList P ops Q rest (a.put o.dst (.bool c)) w) :
    wpList P ops Q (o :: rest) a w := by
  refine wpList_plain hg fun K' hK' => ?_
  obtain ⟨v, ps, hrun, hv⟩ := hown.lookup K ht hz (plainElem_bool he false) hkey
  obtain ⟨c, rfl, hc⟩ := plainElem_bool_inv he hv
  simp only [Prod.mk.injEq] at hc
  unfold Oper.wp
  simp [execOp, hop, hm, hx, hrun, Result.andThen]
  exact hK' _ _ (hK c hc.1)

/-- None of some keys is in a set. -/
def Unseen (D : DataW Unit) (seen : List Int) : Prop := ∀ x : Int, x ∉ seen → D.atKey (.int .i64 x) (.lit (.bool false)) = .lit (.bool false)
theorem Unseen.start : Unseen (.map []) [] := fun x _ => rfl
theorem Unseen.step {D : DataW Unit} {seen : List Int} (h : Unseen D seen) (a : Int) : Unseen (D.put (.int .i64 a) (.lit (.bool true))) (seen ++ [a]) := fun x hx => by
  have h1 : x ∉ seen ∧ x ≠ a := by simpa using hx
  rw [atKey_put_other (fun e => h1.2 (by injection e))]
  exact h x h1.1
end Go.Proofs.YtmcgnpdfpfgfpaaGreatDoor

/-! LinE -/
namespace Go.Proofs.YtmcgnpdfpfgfpaaGreatDoor
set_option linter.unusedVariables false

/-- An element of a list of rows. -/
def mx (m : List (List Int)) (i j : Nat) : Int := cf (m.getD i []) j
/-- z is 0 under each row, of n elements. -/
def Ker (p : Int) (n : Nat) (m : List (List Int)) (z : Nat → Int) : Prop := ∀ i, i < m.length → Cong p (Sg (fun j => mx m i j * z j) n) 0
/-- Rows of n elements. -/
def Elts (p : Int) (n : Nat) (m : List (List Int)) : Prop := ∀ i, i < m.length → (m.getD i []).length = n ∧ allP p (m.getD i []) = true
theorem Elts.mx_in {p : Int} {n : Nat} {m : List (List Int)} (h : Elts p n m) (hp : 2 ≤ p) {i : Nat} (hi : i < m.length) (j : Nat) : 0 ≤ mx m i j ∧ mx m i j < p := cf_in hp (h i hi).2 j

theorem getD_set_row (m : List (List Int)) (i j : Nat) (l : List Int) (hi : i < m.length) : (m.set i l).getD j [] = if i = j then l else m.getD j [] := by
  rw [List.getD_eq_getElem?_getD, List.getElem?_set, List.getD_eq_getElem?_getD]
  by_cases h : i = j
  · subst h; rw [if_pos rfl, if_pos rfl, if_pos hi]; rfl
  · rw [if_neg h, if_neg h]

/-- Two rows exchanged. -/
def swapM (m : List (List Int)) (r i : Nat) : List (List Int) := (m.set r (m.getD i [])).set i (m.getD r [])
/-- Where a row of the exchanged ones comes from. -/
def swI (r i j : Nat) : Nat := if j = r then i else if j = i then r else j
theorem swapM_len (m : List (List Int)) (r i : Nat) : (swapM m r i).length = m.length := by simp [swapM]
theorem swapM_at (m : List (List Int)) {r i : Nat} (hr : r < m.length) (hi : i < m.length) (j : Nat) : (swapM m r i).getD j [] = m.getD (swI r i j) [] := by
  unfold swapM swI
  rw [getD_set_row _ _ _ _ (by simpa using hi), getD_set_row _ _ _ _ hr]
  by_cases h1 : i = j
  · subst h1
    rw [if_pos rfl]
    by_cases h2 : i = r
    · rw [if_pos h2, h2]
    · rw [if_neg h2, if_pos rfl]
  · rw [if_neg h1]
    by_cases h2 : r = j
    · rw [if_pos h2, if_pos h2.symm]
    · rw [if_neg h2, if_neg (fun e => h2 e.symm), if_neg (fun e => h1 e.symm)]
theorem swI_lt {r i j N : Nat} (hr : r < N) (hi : i < N) (hj : j < N) : swI r i j < N := by
  unfold swI; split
  · exact hi
  · split <;> omega
theorem swI_swI (r i j : Nat) : swI r i (swI r i j) = j := by
  unfold swI
  by_cases h1 : j = r
  · rw [if_pos h1]
    by_cases h2 : i = r
    · rw [if_pos h2]; omega
    · rw [if_neg h2, if_pos rfl]; omega
  · rw [if_neg h1]
    by_cases h2 : j = i
    · rw [if_pos h2, if_pos rfl]; omega
    · rw [if_neg h2, if_neg h1, if_neg h2]

/-- A row times an element. -/
def scaleM (p v : Int) (m : List (List Int)) (r : Nat) : List (List Int) := m.set r (scaleP p v (m.getD r []))
theorem scaleM_len (p v : Int) (m : List (List Int)) (r : Nat) : (scaleM p v m r).length = m.length := by simp [scaleM]
theorem scaleM_at (p v : Int) (m : List (List Int)) {r : Nat} (hr : r < m.length) (j : Nat) : (scaleM p v m r).getD j [] = if j = r then scaleP p v (m.getD r []) else m.getD j [] := by
  unfold scaleM
  rw [getD_set_row _ _ _ _ hr]
  by_cases h : r = j
  · rw [if_pos h, if_pos h.symm]
  · rw [if_neg h, if_neg (fun e => h e.symm)]
theorem cf_scaleP (p v : Int) (l : List Int) (j : Nat) : cf (scaleP p v l) j = cf l j * v % p := by
  unfold scaleP cf mulP
  rw [List.getD_eq_getElem?_getD, List.getElem?_map, List.getD_eq_getElem?_getD]
  cases l[j]? <;> simp

/-- A row less a multiple of the leading one, if it is not 0 at the column. -/
def elimR (p : Int) (k : Nat) (first row : List Int) : List Int := if cf row k = 0 then row else zipI (timesP p (subP p 0 (cf row k))) row first
theorem elimR_len (p : Int) (k : Nat) (first row : List Int) (h : row.length = first.length) : (elimR p k first row).length = row.length := by
  unfold elimR; split
  · rfl
  · exact zipI_length _ _ _ h
theorem elimR_all {p : Int} (hp : 2 ≤ p) (k : Nat) (first row : List Int) (h : allP p row = true) : allP p (elimR p k first row) = true := by
  unfold elimR; split
  · exact h
  · exact zipI_all _ (fun x y => timesP_in hp _ x y) _ _
theorem cf_zipI (f : Int → Int → Int) (a b : List Int) {j : Nat} (h : a.length = b.length) (hj : j < a.length) : cf (zipI f a b) j = f (cf a j) (cf b j) := by
  unfold cf zipI
  rw [List.getD_eq_getElem?_getD, List.getD_eq_getElem?_getD, List.getD_eq_getElem?_getD, List.getElem?_zipWith, List.getElem?_eq_getElem hj, List.getElem?_eq_getElem (by omega)]
  rfl
theorem timesP_mod3 (p x t a : Int) : timesP p x t a = (t + x * a) % p := by
  unfold timesP addP mulP; rw [Int.add_emod, Int.emod_emod_of_dvd _ (Int.dvd_refl p), ← Int.add_emod]
theorem cf_elimR {p : Int} (k : Nat) (first row : List Int) (h : row.length = first.length) (hin : ∀ j, 0 ≤ cf row j ∧ cf row j < p) (j : Nat) : cf (elimR p k first row) j = (cf row j + subP p 0 (cf row k) * cf first j) % p := by
  unfold elimR
  split
  · rename_i h0
    rw [h0]
    unfold subP
    rw [show (0 - 0 + p : Int) = p by omega, Int.emod_self, Int.zero_mul, Int.add_zero, Int.emod_eq_of_lt (hin j).1 (hin j).2]
  · by_cases hj : j < row.length
    · rw [cf_zipI _ _ _ h hj, timesP_mod3]
    · rw [cf_out (by rw [zipI_length _ _ _ h]; omega), cf_out (l := row) (by omega), cf_out (l := first) (by omega), Int.mul_zero]; simp

/-- The rows below place n that are not the leading one. -/
def elimM (p : Int) (k r n : Nat) (m : List (List Int)) : List (List Int) := (List.range m.length).map fun i => if i < n ∧ i ≠ r then elimR p k (m.getD r []) (m.getD i []) else m.getD i []
theorem elimM_len (p : Int) (k r n : Nat) (m : List (List Int)) : (elimM p k r n m).length = m.length := by simp [elimM]
theorem elimM_at (p : Int) (k r n : Nat) (m : List (List Int)) {i : Nat} (hi : i < m.length) : (elimM p k r n m).getD i [] = if i < n ∧ i ≠ r then elimR p k (m.getD r []) (m.getD i []) else m.getD i [] := by
  unfold elimM
  rw [List.getD_eq_getElem?_getD, List.getElem?_map, List.getElem?_range hi]; rfl
theorem rows_ext {a b : List (List Int)} (h : a.length = b.length) (hk : ∀ i, i < a.length → a.getD i [] = b.getD i []) : a = b := by
  apply List.ext_getElem h
  intro i h1 h2
  have := hk i h1
  rw [List.getD_eq_getElem?_getD, List.getD_eq_getElem?_getD, List.getElem?_eq_getElem h1, List.getElem?_eq_getElem h2] at this
  exact this
theorem elimM_zero (p : Int) (k r : Nat) (m : List (List Int)) : elimM p k r 0 m = m :=
  rows_ext (elimM_len _ _ _ _ _) fun i hi => by rw [elimM_at _ _ _ _ _ (by rwa [elimM_len] at hi), if_neg (by omega)]
/-- One row more. -/
theorem elimM_step (p : Int) (k r n : Nat) (m : List (List Int)) (hn : n < m.length) (h : n ≠ r) : (elimM p k r n m).set n (elimR p k (m.getD r []) (m.getD n [])) = elimM p k r (n + 1) m := by
  refine rows_ext (by rw [List.length_set, elimM_len, elimM_len]) fun i hi => ?_
  rw [List.length_set, elimM_len] at hi
  rw [getD_set_row _ _ _ _ (by rw [elimM_len]; exact hn), elimM_at _ _ _ _ _ hi, elimM_at _ _ _ _ _ hi]
  by_cases h1 : n = i
  · subst h1; rw [if_pos rfl, if_pos ⟨by omega, h⟩]
  · rw [if_neg h1]
    by_cases h2 : i < n ∧ i ≠ r
    · rw [if_pos h2, if_pos ⟨by omega, h2.2⟩]
    · rw [if_neg h2, if_neg (by omega)]
theorem elimM_skip (p : Int) (k r n : Nat) (m : List (List Int)) (h : n = r ∨ cf (m.getD n []) k = 0) : elimM p k r n m = elimM p k r (n + 1) m := by
  refine rows_ext (by rw [elimM_len, elimM_len]) fun i hi => ?_
  rw [elimM_len] at hi
  rw [elimM_at _ _ _ _ _ hi, elimM_at _ _ _ _ _ hi]
  by_cases h1 : n = i
  · subst h1
    rw [if_neg (by omega)]
    rcases h with h | h
    · rw [if_neg (by omega)]
    · by_cases h2 : n = r
      · rw [if_neg (by omega)]
      · rw [if_pos ⟨by omega, h2⟩]; unfold elimR; rw [if_pos h]
  · by_cases h2 : i < n ∧ i ≠ r
    · rw [if_pos h2, if_pos ⟨by omega, h2.2⟩]
    · rw [if_neg h2, if_neg (by omega)]

/-- What becomes of the rows where row i comes to lead in column k, at place r. -/
def leadM (p v : Int) (k r i : Nat) (m : List (List Int)) : List (List Int) := elimM p k r m.length (scaleM p v (swapM m r i) r)
section
variable {p v : Int} {n k r i : Nat} {m : List (List Int)}
theorem leadM_len : (leadM p v k r i m).length = m.length := by unfold leadM; rw [elimM_len, scaleM_len, swapM_len]
theorem swapM_elts (h : Elts p n m) (hr : r < m.length) (hi : i < m.length) : Elts p n (swapM m r i) := fun j hj => by
  rw [swapM_len] at hj
  rw [swapM_at m hr hi]; exact h _ (swI_lt hr hi hj)
theorem scaleM_elts (hp : 2 ≤ p) (h : Elts p n m) (hr : r < m.length) : Elts p n (scaleM p v m r) := fun j hj => by
  rw [scaleM_len] at hj
  rw [scaleM_at _ _ _ hr]
  split
  · exact ⟨by rw [scaleP_len]; exact (h r hr).1, scaleP_all hp _ _⟩
  · exact h j hj
theorem elimM_elts (hp : 2 ≤ p) (h : Elts p n m) (hr : r < m.length) (c : Nat) : Elts p n (elimM p k r c m) := fun j hj => by
  rw [elimM_len] at hj
  rw [elimM_at _ _ _ _ _ hj]
  split
  · exact ⟨by rw [elimR_len _ _ _ _ (by rw [(h j hj).1, (h r hr).1])]; exact (h j hj).1, elimR_all hp _ _ _ (h j hj).2⟩
  · exact h j hj
theorem leadM_elts (hp : 2 ≤ p) (h : Elts p n m) (hr : r < m.length) (hi : i < m.length) : Elts p n (leadM p v k r i m) :=
  elimM_elts hp (scaleM_elts hp (swapM_elts h hr hi) (by rw [swapM_len]; exact hr)) (by rw [scaleM_len, swapM_len]; exact hr) _
/-- The leading row. -/
theorem leadM_first (hr : r < m.length) (hi : i < m.length) (j : Nat) : mx (leadM p v k r i m) r j = mx m i j * v % p := by
  unfold leadM mx
  rw [elimM_at _ _ _ _ _ (by rw [scaleM_len, swapM_len]; exact hr), if_neg (by omega), scaleM_at _ _ _ (by rw [swapM_len]; exact hr), if_pos rfl, cf_scaleP, swapM_at m hr hi]
  unfold swI; rw [if_pos rfl]
/-- The other rows. -/
theorem leadM_other (hp : 2 ≤ p) (h : Elts p n m) (hr : r < m.length) (hi : i < m.length) {q : Nat} (hq : q < m.length) (hqr : q ≠ r) (j : Nat) :
    mx (leadM p v k r i m) q j = (mx m (swI r i q) j + subP p 0 (mx m (swI r i q) k) * mx (leadM p v k r i m) r j) % p := by
  have h1 : (swapM m r i).length = m.length := swapM_len _ _ _
  have h2 : (scaleM p v (swapM m r i) r).length = m.length := by rw [scaleM_len, h1]
  have e2 := scaleM_elts (v := v) hp (swapM_elts h hr hi) (by rw [h1]; exact hr)
  have hrow : (scaleM p v (swapM m r i) r).getD q [] = m.getD (swI r i q) [] := by rw [scaleM_at _ _ _ (by rw [h1]; exact hr), if_neg hqr, swapM_at m hr hi]
  have hf : (scaleM p v (swapM m r i) r).getD r [] = (leadM p v k r i m).getD r [] := by
    unfold leadM; rw [elimM_at _ _ _ _ _ (by rw [h2]; exact hr), if_neg (by omega)]
  have e3 := e2 q (by rw [h2]; exact hq)
  have e4 := e2 r (by rw [h2]; exact hr)
  rw [hf] at e4
  rw [hrow] at e3
  have : (leadM p v k r i m).getD q [] = elimR p k ((leadM p v k r i m).getD r []) (m.getD (swI r i q) []) := by
    rw [← hf, ← hrow]
    show (elimM p k r m.length (scaleM p v (swapM m r i) r)).getD q [] = _
    rw [elimM_at _ _ _ _ _ (by rw [h2]; exact hq), if_pos ⟨hq, hqr⟩]
  unfold mx
  rw [this, cf_elimR k _ _ (by rw [e3.1, e4.1]) (cf_in hp e3.2)]
end

/-- The sum of a row and a multiple of another one. -/
theorem Sg_lin (y : Int) (f g z : Nat → Int) (n : Nat) : Sg (fun j => (f j + y * g j) * z j) n = Sg (fun j => f j * z j) n + y * Sg (fun j => g j * z j) n := by
  rw [← Sg_mul, ← Sg_add]
  exact Sg_congr fun j _ => by rw [Int.add_mul, Int.mul_assoc]

section
variable {p v : Int} {n k r i : Nat} {m : List (List Int)}
theorem first_Sg (hr : r < m.length) (hi : i < m.length) (z : Nat → Int) : Cong p (Sg (fun j => mx (leadM p v k r i m) r j * z j) n) (v * Sg (fun j => mx m i j * z j) n) := by
  rw [← Sg_mul]
  refine Sg_cong fun j _ => ?_
  rw [leadM_first hr hi, ← Int.mul_assoc, Int.mul_comm v]
  exact (Cong.mod p _).mul (Cong.refl _ _)
theorem other_Sg (hp : 2 ≤ p) (h : Elts p n m) (hr : r < m.length) (hi : i < m.length) {q : Nat} (hq : q < m.length) (hqr : q ≠ r) (z : Nat → Int) (N : Nat) :
    Cong p (Sg (fun j => mx (leadM p v k r i m) q j * z j) N) (Sg (fun j => mx m (swI r i q) j * z j) N + subP p 0 (mx m (swI r i q) k) * Sg (fun j => mx (leadM p v k r i m) r j * z j) N) := by
  rw [← Sg_lin]
  refine Sg_cong fun j _ => ?_
  rw [leadM_other hp h hr hi hq hqr]
  exact (Cong.mod p _).mul (Cong.refl _ _)
/-- The same lists are 0 under the rows before and after. -/
theorem leadM_ker (hp : 2 ≤ p) (h : Elts p n m) (hr : r < m.length) (hi : i < m.length) (hv : Cong p (mx m i k * v) 1) (z : Nat → Int) : Ker p n m z ↔ Ker p n (leadM p v k r i m) z := by
  constructor
  · intro hz q hq
    rw [leadM_len] at hq
    have h1 : Cong p (Sg (fun j => mx (leadM p v k r i m) r j * z j) n) 0 := (first_Sg hr hi z).trans (by have := (Cong.refl p v).mul (hz i hi); rwa [Int.mul_zero] at this)
    by_cases hqr : q = r
    · rw [hqr]; exact h1
    · have h2 := other_Sg (v := v) (k := k) hp h hr hi hq hqr z n
      have h3 := (hz _ (swI_lt hr hi hq)).add ((Cong.refl p (subP p 0 (mx m (swI r i q) k))).mul h1)
      rw [Int.mul_zero, Int.add_zero] at h3
      exact h2.trans h3
  · intro hz
    have h1 := hz r (by rw [leadM_len]; exact hr)
    have h2 : Cong p (Sg (fun j => mx m i j * z j) n) 0 := by
      have h3 := (Cong.refl p (mx m i k)).mul ((first_Sg (n := n) (k := k) (v := v) hr hi z).symm.trans h1)
      rw [Int.mul_zero, ← Int.mul_assoc] at h3
      have h4 := hv.mul (Cong.refl p (Sg (fun j => mx m i j * z j) n))
      rw [Int.one_mul] at h4
      exact h4.symm.trans h3
    intro s hs
    by_cases hsi : s = i
    · rw [hsi]; exact h2
    · have hqr : swI r i s ≠ r := by
        intro e
        have := swI_swI r i s
        rw [e] at this
        unfold swI at this; rw [if_pos rfl] at this; omega
      have h3 := other_Sg (v := v) (k := k) hp h hr hi (swI_lt hr hi hs) hqr z n
      rw [swI_swI] at h3
      have h4 := h3.symm.trans (hz _ (by rw [leadM_len]; exact swI_lt hr hi hs))
      have h5 := h4.sub ((Cong.refl p (subP p 0 (mx m s k))).mul h1)
      rw [Int.mul_zero, Int.sub_zero, Int.add_sub_cancel] at h5
      exact h5
end

/-- The form of the rows behind k columns: the first ones lead in columns, in order, and are alone there; the others are 0. -/
structure RInv (p : Int) (k : Nat) (lead : List Nat) (m : List (List Int)) : Prop where
  rm : lead.length ≤ m.length
  lt : ∀ i, i < lead.length → lead.getD i 0 < k
  one : ∀ i q, i < lead.length → q < m.length → mx m q (lead.getD i 0) = if q = i then 1 else 0
  low : ∀ i j, i < lead.length → j < lead.getD i 0 → mx m i j = 0
  zero : ∀ i j, lead.length ≤ i → i < m.length → j < k → mx m i j = 0
  fil : lead = (List.range k).filter fun j => decide (j ∈ lead)

theorem RInv.start (p : Int) (m : List (List Int)) : RInv p 0 [] m := ⟨Nat.zero_le _, fun i h => absurd h (by simp), fun i q h => absurd h (by simp), fun i j h => absurd h (by simp), fun i j _ _ h => absurd h (by omega), rfl⟩
theorem RInv.mem_lt {p : Int} {k : Nat} {lead : List Nat} {m : List (List Int)} (h : RInv p k lead m) {j : Nat} (hj : j ∈ lead) : j < k := by
  rw [h.fil] at hj
  exact List.mem_range.1 (List.mem_filter.1 hj).1
theorem RInv.skip {p : Int} {k : Nat} {lead : List Nat} {m : List (List Int)} (h : RInv p k lead m) (hz : ∀ i, lead.length ≤ i → i < m.length → mx m i k = 0) : RInv p (k + 1) lead m := by
  refine ⟨h.rm, fun i hi => by have := h.lt i hi; omega, h.one, h.low, fun i j h1 h2 h3 => ?_, ?_⟩
  · by_cases e : j = k
    · rw [e]; exact hz i h1 h2
    · exact h.zero i j h1 h2 (by omega)
  · have : ¬ k ∈ lead := fun e => by have := h.mem_lt e; omega
    rw [List.range_succ, List.filter_append, ← h.fil]
    simp [this]
theorem getD_snocN (l : List Nat) (k i : Nat) : (l ++ [k]).getD i 0 = if i < l.length then l.getD i 0 else if i = l.length then k else 0 := by
  rw [List.getD_eq_getElem?_getD, List.getElem?_append]
  by_cases h : i < l.length
  · rw [if_pos h, if_pos h, List.getD_eq_getElem?_getD]
  · rw [if_neg h, if_neg h]
    by_cases h2 : i = l.length
    · rw [if_pos h2, h2, Nat.sub_self]; rfl
    · rw [if_neg h2, List.getElem?_eq_none (by simp; omega)]; rfl
theorem RInv.lead_ {p v : Int} {n k i : Nat} {lead : List Nat} {m : List (List Int)} (h : RInv p k lead m) (hp : 2 ≤ p) (he : Elts p n m) (hi0 : lead.length ≤ i) (hi : i < m.length) (hv : Cong p (mx m i k * v) 1) :
    RInv p (k + 1) (lead ++ [k]) (leadM p v k lead.length i m) := by
  have hr : lead.length < m.length := by omega
  have hk1 : mx (leadM p v k lead.length i m) lead.length k = 1 := by
    rw [leadM_first hr hi]
    have := (Cong.mod p (mx m i k * v)).trans hv
    exact this.eq ⟨Int.emod_nonneg _ (by omega), Int.emod_lt_of_pos _ (by omega)⟩ (by omega)
  have hlow : ∀ j, j < k → mx (leadM p v k lead.length i m) lead.length j = 0 := fun j hj => by
    rw [leadM_first hr hi, h.zero i j hi0 hi hj, Int.zero_mul, Int.zero_emod]
  have keep : ∀ q j, q < m.length → q ≠ lead.length → j < k → mx (leadM p v k lead.length i m) q j = mx m (swI lead.length i q) j := fun q j hq hqr hj => by
    have h1 := he.mx_in hp (swI_lt hr hi hq) j
    rw [leadM_other hp he hr hi hq hqr, hlow j hj, Int.mul_zero, Int.add_zero, Int.emod_eq_of_lt h1.1 h1.2]
  have swlt : ∀ q, q < lead.length → swI lead.length i q = q := fun q hq => by unfold swI; rw [if_neg (by omega), if_neg (by omega)]
  have swge : ∀ q, lead.length ≤ q → lead.length ≤ swI lead.length i q := fun q hq => by
    unfold swI; split
    · exact hi0
    · split <;> omega
  refine ⟨by rw [leadM_len]; simp; omega, fun a ha => ?_, fun a q ha hq => ?_, fun a j ha hj => ?_, fun q j hq1 hq2 hj => ?_, ?_⟩
  · rw [getD_snocN]
    by_cases h1 : a < lead.length
    · rw [if_pos h1]; have := h.lt a h1; omega
    · rw [if_neg h1]; split <;> omega
  · rw [leadM_len] at hq
    rw [getD_snocN]
    by_cases h1 : a < lead.length
    · rw [if_pos h1]
      by_cases h2 : q = lead.length
      · rw [h2, hlow _ (h.lt a h1), if_neg (by omega)]
      · rw [keep q _ hq h2 (h.lt a h1), h.one a _ h1 (swI_lt hr hi hq)]
        by_cases h3 : q < lead.length
        · rw [swlt q h3]
        · have := swge q (by omega)
          rw [if_neg (by omega), if_neg (by omega)]
    · have h4 : a = lead.length := by simp at ha; omega
      rw [if_neg h1, if_pos h4]
      by_cases h2 : q = lead.length
      · rw [h2, hk1, if_pos h4.symm]
      · rw [if_neg (by omega), leadM_other hp he hr hi hq h2, hk1, Int.mul_one]
        have h5 := (Cong.refl p (mx m (swI lead.length i q) k)).add (Cong.subP p 0 (mx m (swI lead.length i q) k))
        have h6 := (Cong.mod p _).trans h5
        rw [show mx m (swI lead.length i q) k + (0 - mx m (swI lead.length i q) k) = 0 by omega] at h6
        exact h6.eq ⟨Int.emod_nonneg _ (by omega), Int.emod_lt_of_pos _ (by omega)⟩ (by omega)
  · rw [getD_snocN] at hj
    by_cases h1 : a < lead.length
    · rw [if_pos h1] at hj
      have := h.lt a h1
      rw [keep a j (by omega) (by omega) (by omega), swlt a h1]
      exact h.low a j h1 hj
    · have h4 : a = lead.length := by simp at ha; omega
      rw [if_neg h1, if_pos h4] at hj
      rw [h4]; exact hlow j hj
  · rw [leadM_len] at hq2
    have hq3 : lead.length + 1 ≤ q := by simpa using hq1
    by_cases h1 : j = k
    · rw [h1, leadM_other hp he hr hi hq2 (by omega), hk1, Int.mul_one]
      have h5 := (Cong.refl p (mx m (swI lead.length i q) k)).add (Cong.subP p 0 (mx m (swI lead.length i q) k))
      have h6 := (Cong.mod p _).trans h5
      rw [show mx m (swI lead.length i q) k + (0 - mx m (swI lead.length i q) k) = 0 by omega] at h6
      exact h6.eq ⟨Int.emod_nonneg _ (by omega), Int.emod_lt_of_pos _ (by omega)⟩ (by omega)
    · rw [keep q j hq2 (by omega) (by omega)]
      exact h.zero _ j (swge q (by omega)) (swI_lt hr hi hq2) (by omega)
  · have h1 : (List.range k).filter (fun j => decide (j ∈ lead ++ [k])) = (List.range k).filter fun j => decide (j ∈ lead) := by
      apply List.filter_congr
      intro j hj
      have : j ≠ k := by have := List.mem_range.1 hj; omega
      simp [this]
    rw [List.range_succ, List.filter_append, h1, ← h.fil]
    simp

/-- Rows m and the columns in which they lead are the reduced form of rows m0, of c coefficients and a right side each. -/
structure Red (p : Int) (c : Nat) (m0 m : List (List Int)) (lead : List Nat) : Prop where
  inv : RInv p c lead m
  ln : m.length = m0.length
  el : Elts p (c + 1) m
  ker : ∀ z, Ker p (c + 1) m0 z ↔ Ker p (c + 1) m z
end Go.Proofs.YtmcgnpdfpfgfpaaGreatDoor

/-! LinF -/
namespace Go.Proofs.YtmcgnpdfpfgfpaaGreatDoor
set_option linter.unusedVariables false

section
variable {p : Int} {c k : Nat} {lead : List Nat} {m : List (List Int)}
theorem RInv.idx (h : RInv p k lead m) {j : Nat} (hj : j ∈ lead) : ∃ i, i < lead.length ∧ lead.getD i 0 = j := by
  obtain ⟨i, hi, e⟩ := List.getElem_of_mem hj
  exact ⟨i, hi, by rw [List.getD_eq_getElem?_getD, List.getElem?_eq_getElem hi]; exact e⟩
theorem lead_mem {lead : List Nat} {i : Nat} (hi : i < lead.length) : lead.getD i 0 ∈ lead := by
  rw [List.getD_eq_getElem?_getD, List.getElem?_eq_getElem hi]; exact List.getElem_mem hi
/-- A column leads only once. -/
theorem RInv.inj (h : RInv p k lead m) {i i' : Nat} (hi : i < lead.length) (hi' : i' < lead.length) (e : lead.getD i 0 = lead.getD i' 0) : i = i' := by
  have h1 := h.one i i hi (by have := h.rm; omega)
  have h2 := h.one i' i hi' (by have := h.rm; omega)
  rw [if_pos rfl] at h1
  rw [e, h2] at h1
  by_cases e2 : i = i'
  · exact e2
  · rw [if_neg e2] at h1; omega

/-- A leading row under a list that is 0 at the free columns. -/
theorem RInv.row_free (h : RInv p c lead m) {z : Nat → Int} (hz : ∀ j, j < c → j ∉ lead → z j = 0) {i : Nat} (hi : i < lead.length) : Sg (fun j => mx m i j * z j) c = z (lead.getD i 0) := by
  have hrm := h.rm
  rw [Sg_single (j := lead.getD i 0) (h.lt i hi), h.one i i hi (by omega), if_pos rfl, Int.one_mul]
  intro j hj hne
  by_cases hm : j ∈ lead
  · obtain ⟨i', hi', rfl⟩ := h.idx hm
    rw [h.one i' i hi' (by omega), if_neg (fun e => hne (by rw [e])), Int.zero_mul]
  · rw [hz j hj hm, Int.mul_zero]
theorem RInv.row_zero (h : RInv p c lead m) (z : Nat → Int) {i : Nat} (hi : lead.length ≤ i) (hm : i < m.length) : Sg (fun j => mx m i j * z j) c = 0 := Sg_zero fun j hj => by rw [h.zero i j hi hm hj, Int.zero_mul]

theorem idxOf_lead (h : RInv p c lead m) {i : Nat} (hi : i < lead.length) : lead.idxOf (lead.getD i 0) = i := by
  have h1 : lead.idxOf (lead.getD i 0) < lead.length := List.idxOf_lt_length_of_mem (lead_mem hi)
  refine h.inj h1 hi ?_
  rw [List.getD_eq_getElem?_getD, List.getElem?_eq_getElem h1, Option.getD_some, List.getElem_idxOf]
/-- There is a solution as far as the rows tell. -/
def NoClash (c r : Nat) (m : List (List Int)) : Prop := ∀ i, r ≤ i → i < m.length → mx m i c = 0
/-- A list with the right side's place behind it. -/
def aug (c : Nat) (x : List Int) (t : Int) (j : Nat) : Int := if j < c then cf x j else if j = c then t else 0
theorem aug_sum (c : Nat) (x : List Int) (t : Int) (f : Nat → Int) : Sg (fun j => f j * aug c x t j) (c + 1) = Sg (fun j => f j * cf x j) c + f c * t := by
  show Sg (fun j => f j * aug c x t j) c + f c * aug c x t c = _
  congr 1
  · exact Sg_congr fun j hj => by unfold aug; rw [if_pos hj]
  · unfold aug; rw [if_neg (by omega), if_pos rfl]
/-- x solves the rows. -/
def Solv (p : Int) (c : Nat) (m : List (List Int)) (x : List Int) : Prop := ∀ i, i < m.length → Cong p (Sg (fun j => mx m i j * cf x j) c) (mx m i c)
theorem solv_ker {x : List Int} : Solv p c m x ↔ Ker p (c + 1) m (aug c x (-1)) := by
  constructor
  · intro h i hi
    rw [aug_sum]
    have := (h i hi).zero_sub
    rwa [Int.sub_eq_add_neg, ← Int.mul_neg_one] at this
  · intro h i hi
    have := h i hi
    rw [aug_sum, Int.mul_neg_one, ← Int.sub_eq_add_neg] at this
    exact this.sub_zero
/-- x is the solution that is 0 at the free columns. -/
structure SolX (p : Int) (c : Nat) (lead : List Nat) (m : List (List Int)) (x : List Int) : Prop where
  ln : x.length = c
  at_ : ∀ i, i < lead.length → cf x (lead.getD i 0) = mx m i c
  fr : ∀ j, j < c → j ∉ lead → cf x j = 0
theorem SolX.all {x : List Int} (h : SolX p c lead m x) (hR : RInv p c lead m) (hp : 2 ≤ p) (he : Elts p (c + 1) m) : allP p x = true := by
  refine allP_iff.2 fun y hy => ?_
  obtain ⟨j, hj, rfl⟩ := List.getElem_of_mem hy
  have e : x[j] = cf x j := by unfold cf; rw [List.getD_eq_getElem?_getD, List.getElem?_eq_getElem hj]; rfl
  rw [e]
  by_cases hm : j ∈ lead
  · obtain ⟨i, hi, rfl⟩ := hR.idx hm
    rw [h.at_ i hi]; exact he.mx_in hp (by have := hR.rm; omega) c
  · rw [h.fr j (by rw [← h.ln]; exact hj) hm]; omega
theorem SolX.solv {x : List Int} (h : SolX p c lead m x) (hR : RInv p c lead m) (hc : NoClash c lead.length m) : Solv p c m x := by
  intro i hi
  by_cases hr : i < lead.length
  · rw [hR.row_free (fun j hj hm => h.fr j hj hm) hr, h.at_ i hr]; exact Cong.refl _ _
  · rw [hR.row_zero _ (by omega) hi, hc i (by omega) hi]; exact Cong.refl _ _
/-- Whatever solves the rows shows that they do not clash. -/
theorem noClash_of {x : List Int} (hR : RInv p c lead m) (he : Elts p (c + 1) m) (hp : 2 ≤ p) (h : Solv p c m x) : NoClash c lead.length m := by
  intro i hi hm
  have := h i hm
  rw [hR.row_zero _ hi hm] at this
  exact (Cong.elt_zero (he.mx_in hp hm c)).1 this.symm
end

end Go.Proofs.YtmcgnpdfpfgfpaaGreatDoor

/-! LinC -/
namespace Go.Proofs.YtmcgnpdfpfgfpaaGreatDoor
set_option linter.unusedVariables false

section
variable {p : Nat} {c : Nat} {lead : List Nat} {m : List (List Int)}
end
end Go.Proofs.YtmcgnpdfpfgfpaaGreatDoor

/-! EqA -/
namespace Go.Proofs.YtmcgnpdfpfgfpaaGreatDoor
set_option linter.unusedVariables false

/-- The rows of equations, each with its right side behind it. -/
def augM (r c : Nat) (cells right : List Int) : List (List Int) := (List.range r).map fun i => (cells.drop (i * c)).take c ++ [right.getD i 0]
/-- Valid equations. -/
structure EqOk (p : Int) (r c : Nat) (cells right : List Int) : Prop where
  ok : okP p = true
  r32 : r ≤ 32
  c32 : c ≤ 32
  lc : cells.length = r * c
  lr : right.length = r
  ac : allP p cells = true
  ar : allP p right = true

theorem row_le {i r c : Nat} (hi : i < r) : i * c + c ≤ r * c := by
  have h1 : (i + 1) * c ≤ r * c := Nat.mul_le_mul_right c hi
  rwa [Nat.succ_mul] at h1
theorem augM_len (r c : Nat) (cells right : List Int) : (augM r c cells right).length = r := by simp [augM]
theorem augM_at (r c : Nat) (cells right : List Int) {i : Nat} (hi : i < r) : (augM r c cells right).getD i [] = (cells.drop (i * c)).take c ++ [right.getD i 0] := by
  unfold augM
  rw [List.getD_eq_getElem?_getD, List.getElem?_map, List.getElem?_range hi]; rfl
theorem cf_append (a b : List Int) (j : Nat) : cf (a ++ b) j = if j < a.length then cf a j else cf b (j - a.length) := by
  unfold cf
  rw [List.getD_eq_getElem?_getD, List.getElem?_append]
  split
  · rw [List.getD_eq_getElem?_getD]
  · rw [List.getD_eq_getElem?_getD]
theorem cf_drop (l : List Int) (n j : Nat) : cf (l.drop n) j = cf l (n + j) := by
  unfold cf
  rw [List.getD_eq_getElem?_getD, List.getElem?_drop, List.getD_eq_getElem?_getD]
theorem rowL_len {r c : Nat} {cells : List Int} (hl : cells.length = r * c) {i : Nat} (hi : i < r) : ((cells.drop (i * c)).take c).length = c := by
  have := row_le (c := c) hi
  rw [List.length_take, List.length_drop, hl]; omega
theorem mx_augM {r c : Nat} {cells right : List Int} (hl : cells.length = r * c) {i : Nat} (hi : i < r) (j : Nat) : mx (augM r c cells right) i j = if j < c then cf cells (i * c + j) else if j = c then cf right i else 0 := by
  unfold mx
  rw [augM_at _ _ _ _ hi, cf_append, rowL_len hl hi]
  by_cases hj : j < c
  · rw [if_pos hj, if_pos hj, cf_take, if_pos hj, cf_drop]
  · rw [if_neg hj, if_neg hj]
    by_cases h2 : j = c
    · rw [if_pos h2, h2, Nat.sub_self]; rfl
    · rw [if_neg h2, cf_out (by simp; omega)]
theorem EqOk.elts {p : Int} {r c : Nat} {cells right : List Int} (h : EqOk p r c cells right) : Elts p (c + 1) (augM r c cells right) := fun i hi => by
  rw [augM_len] at hi
  rw [augM_at _ _ _ _ hi]
  refine ⟨by rw [List.length_append, rowL_len h.lc hi]; rfl, allP_append.2 ⟨allP_iff.2 fun x hx => allP_iff.1 h.ac x (List.mem_of_mem_drop (List.mem_of_mem_take hx)), allP_iff.2 fun x hx => ?_⟩⟩
  rw [List.mem_singleton.1 hx]
  exact allP_getD h.ar (by rw [h.lr]; exact hi)
theorem solv_augM {p : Int} {r c : Nat} {cells right : List Int} (hl : cells.length = r * c) (x : List Int) :
    Solv p c (augM r c cells right) x ↔ ∀ i, i < r → Cong p (Sg (fun j => cf cells (i * c + j) * cf x j) c) (cf right i) := by
  have e : ∀ i, i < r → Sg (fun j => mx (augM r c cells right) i j * cf x j) c = Sg (fun j => cf cells (i * c + j) * cf x j) c := fun i hi => Sg_congr fun j hj => by rw [mx_augM hl hi, if_pos hj]
  constructor
  · intro h i hi
    have := h i (by rw [augM_len]; exact hi)
    rwa [e i hi, mx_augM hl hi, if_neg (by omega), if_pos rfl] at this
  · intro h i hi
    rw [augM_len] at hi
    rw [e i hi, mx_augM hl hi, if_neg (by omega), if_pos rfl]; exact h i hi

/-- What Solve finds: the solution that is 0 at the free columns, or that there is none. -/
def SolveOf (p : Int) (c : Nat) (m0 : List (List Int)) : Option (List Int) → Prop
  | some x => ∃ m lead, Red p c m0 m lead ∧ NoClash c lead.length m ∧ SolX p c lead m x
  | none => ∃ m lead, Red p c m0 m lead ∧ ¬ NoClash c lead.length m
section
variable {p : Int} {c : Nat} {m0 m1 : List (List Int)}
/-- Solutions of the given rows and of the reduced ones. -/
theorem Red.solv {m : List (List Int)} {lead : List Nat} (h : Red p c m0 m lead) (x : List Int) : Solv p c m0 x ↔ Solv p c m x := by
  rw [solv_ker, solv_ker]; exact h.ker _
theorem Red.noClash_iff {m : List (List Int)} {lead : List Nat} (hp : 2 ≤ p) (h : Red p c m0 m lead) : NoClash c lead.length m ↔ ∃ x, Solv p c m0 x := by
  constructor
  · intro hc
    let x : List Int := (List.range c).map fun j => if j ∈ lead then mx m (lead.idxOf j) c else 0
    have hx : SolX p c lead m x := by
      refine ⟨by simp [x], fun i hi => ?_, fun j hj hm => ?_⟩
      · show cf ((List.range c).map _) _ = _
        rw [cf_map_range, if_pos (h.inv.lt i hi), if_pos (lead_mem hi), idxOf_lead h.inv hi]
      · show cf ((List.range c).map _) _ = _
        rw [cf_map_range, if_pos hj, if_neg hm]
    exact ⟨x, (h.solv x).2 (hx.solv h.inv hc)⟩
  · rintro ⟨x, hx⟩
    exact noClash_of h.inv h.el hp ((h.solv x).1 hx)
end
end Go.Proofs.YtmcgnpdfpfgfpaaGreatDoor

/-! DivA -/
namespace Go.Proofs.YtmcgnpdfpfgfpaaGreatDoor
set_option linter.unusedVariables false

theorem conv_set {qs : List Int} {j : Nat} (hj : j < qs.length) (h0 : cf qs j = 0) (q : Int) (b : List Int) (k : Nat) : conv (qs.set j q) b k = conv qs b k + (if j ≤ k then q * cf b (k - j) else 0) := by
  have h1 : conv (qs.set j q) b k = Sg (fun i => cf qs i * cf b (k - i) + (if i = j then q * cf b (k - i) else 0)) (k + 1) := Sg_congr fun i _ => by
    rw [cf_set]
    by_cases h : j = i
    · subst h; rw [if_pos ⟨rfl, hj⟩, if_pos rfl, h0]; omega
    · rw [if_neg (by omega), if_neg (by omega), Int.add_zero]
  rw [h1, Sg_add]
  congr 1
  by_cases h : j ≤ k
  · rw [if_pos h, Sg_single (j := j) (by omega) (fun i _ hne => by rw [if_neg hne]), if_pos rfl]
  · rw [if_neg h, Sg_zero fun i hi => by rw [if_neg (by omega)]]

/-- What holds between the rounds of Divide. -/
structure Dvs (p : Int) (xs bs ts qs : List Int) (lr : Nat) : Prop where
  at_ : allP p ts = true
  aq : allP p qs = true
  le : lr ≤ ts.length
  lq : ts.length + 1 ≤ qs.length + bs.length
  tr : ∀ j, lr = j + 1 → cf ts j ≠ 0
  z : ∀ i, i + bs.length ≤ lr → cf qs i = 0
  eq : ∀ k, Cong p (conv qs bs k + cf (ts.take lr) k) (cf xs k)

theorem cf_replicate (n k : Nat) : cf (List.replicate n 0) k = 0 := by
  unfold cf
  rw [List.getD_eq_getElem?_getD, List.getElem?_replicate]
  split <;> rfl
theorem Dvs.start {p : Int} (hp : 2 ≤ p) {xs : List Int} (hx : allP p xs = true) (bs : List Int) (L : Nat) (hL : (trimL xs).length + 1 ≤ L + bs.length) : Dvs p xs bs (trimL xs) (List.replicate L 0) (trimL xs).length :=
  ⟨trimL_allP hx, allP_iff.2 fun x h => by rw [(List.mem_replicate.1 h).2]; omega, Nat.le_refl _, by rw [List.length_replicate]; exact hL, fun j hj => trimL_trimd xs j hj, fun i _ => cf_replicate L i, fun k => by
    have h1 : conv (List.replicate L 0) bs k = 0 := Sg_zero fun i _ => by rw [cf_replicate, Int.zero_mul]
    rw [h1, Int.zero_add, List.take_length, cf_trimL]; exact Cong.refl _ _⟩

theorem set_allP {p : Int} {l : List Int} (h : allP p l = true) (j : Nat) {v : Int} (hv : 0 ≤ v ∧ v < p) : allP p (l.set j v) = true := allP_iff.2 fun x hx => by
  rcases List.mem_or_eq_of_mem_set hx with h1 | h1
  · exact allP_iff.1 h x h1
  · rw [h1]; exact hv

theorem Dvs.step {p : Int} (hp : 2 ≤ p) {xs bs ts qs : List Int} {l1 n1 at0 : Nat} (h : Dvs p xs bs ts qs (l1 + 1)) (hb : bs.length = n1 + 1) (ha : at0 + n1 = l1) {inv q : Int} (hinv : Cong p (bs.getD n1 0 * inv) 1) (hq : q = mulP p (ts.getD l1 0) inv) :
    Dvs p xs bs (addTo p (subP p 0 q) at0 bs ts (n1 + 1)) (qs.set at0 q) (tn (addTo p (subP p 0 q) at0 bs ts (n1 + 1)) l1) := by
  have hle := h.le
  have hlq := h.lq
  have htl : (addTo p (subP p 0 q) at0 bs ts (n1 + 1)).length = ts.length := addTo_len _ _ _ _ _ _
  have htn := tn_le (addTo p (subP p 0 q) at0 bs ts (n1 + 1)) l1
  have hqin : 0 ≤ q ∧ q < p := by rw [hq]; exact mulP_in _ _ hp
  have hz0 : cf qs at0 = 0 := h.z at0 (by omega)
  have hcf : ∀ i, i < ts.length → cf (addTo p (subP p 0 q) at0 bs ts (n1 + 1)) i = (cf ts i + subP p 0 q * (if at0 ≤ i then cf bs (i - at0) else 0)) % p := fun i hi => cf_addTo hb (cf_in hp h.at_) hi
  have hneg : ∀ x : Int, Cong p (subP p 0 q * x) (-(q * x)) := fun x => by
    have := (Cong.subP p 0 q).mul (Cong.refl p x)
    refine this.trans (Cong.of_eq ?_)
    rw [Int.zero_sub, Int.neg_mul]
  generalize hts : addTo p (subP p 0 q) at0 bs ts (n1 + 1) = ts' at *
  refine ⟨by rw [← hts]; exact addTo_allP hp _ _ _ _ _ h.at_, set_allP h.aq _ hqin, by omega, by rw [List.length_set]; omega, fun j hj => tn_last hj, fun i hi => ?_, fun k => ?_⟩
  · rw [cf_set, if_neg (by omega)]
    exact h.z i (by omega)
  · rw [conv_set (by omega) hz0]
    have hmain : Cong p (cf (ts'.take (tn ts' l1)) k) (cf (ts.take (l1 + 1)) k - (if at0 ≤ k then q * cf bs (k - at0) else 0)) := by
      rw [cf_take, cf_take]
      by_cases hk : k < l1
      · have e1 : (if k < tn ts' l1 then cf ts' k else 0) = cf ts' k := by
          split
          · rfl
          · exact (tn_zero (by omega) hk).symm
        rw [e1, hcf k (by omega), if_pos (show k < l1 + 1 by omega)]
        refine (Cong.mod _ _).trans ?_
        by_cases h2 : at0 ≤ k
        · simp only [h2, if_true]; rw [Int.sub_eq_add_neg]
          exact (Cong.refl _ _).add (hneg _)
        · simp only [h2, if_false]; rw [Int.mul_zero, Int.add_zero, Int.sub_zero]; exact Cong.refl _ _
      · rw [if_neg (by omega)]
        by_cases hk1 : k = l1
        · subst hk1
          rw [if_pos (show k < k + 1 by omega), if_pos (show at0 ≤ k by omega), show k - at0 = n1 by omega]
          have h3 : Cong p (q * cf bs n1) (cf ts k) := by
            rw [hq]
            refine ((Cong.mulP _ _ _).mul (Cong.refl _ _)).trans ?_
            have e2 : ts.getD k 0 * inv * cf bs n1 = ts.getD k 0 * (bs.getD n1 0 * inv) := by rw [Int.mul_assoc, Int.mul_comm inv]; rfl
            rw [e2]
            have := (Cong.refl p (ts.getD k 0)).mul hinv
            rwa [Int.mul_one] at this
          have h4 := (Cong.refl p (cf ts k)).sub h3
          rw [Int.sub_self] at h4
          exact h4.symm
        · rw [if_neg (by omega)]
          have : (if at0 ≤ k then q * cf bs (k - at0) else 0) = 0 := by
            split
            · rw [cf_out (l := bs) (by omega), Int.mul_zero]
            · rfl
          rw [this]; exact Cong.refl _ _
    have h5 := ((Cong.refl p (conv qs bs k + (if at0 ≤ k then q * cf bs (k - at0) else 0))).add hmain)
    refine h5.trans ((Cong.of_eq ?_).trans (h.eq k))
    omega

/-- Quotient and remainder. -/
structure DivOf (p : Int) (a b q r : List Int) : Prop where
  tq : Trimd q
  tr : Trimd r
  aq : allP p q = true
  ar : allP p r = true
  ln : r.length < tn b b.length
  eq : ∀ k, Cong p (conv q b k + cf r k) (cf a k)
theorem Dvs.done {p : Int} {xs ys ts qs : List Int} {lr : Nat} (h : Dvs p xs (trimL ys) ts qs lr) (hl : lr < (trimL ys).length) : DivOf p xs ys (trimL qs) (ts.take lr) := by
  have hle := h.le
  have hrl : (ts.take lr).length = lr := by rw [List.length_take]; omega
  refine ⟨trimL_trimd _, fun j hj => ?_, trimL_allP h.aq, allP_iff.2 fun x hx => allP_iff.1 h.at_ x (List.mem_of_mem_take hx), by rw [hrl, ← trimL_len]; exact hl, fun k => ?_⟩
  · rw [hrl] at hj
    rw [cf_take, if_pos (by omega)]
    exact h.tr j hj
  · have e : conv (trimL qs) ys k = conv qs (trimL ys) k := Sg_congr fun i _ => by rw [cf_trimL, cf_trimL]
    rw [e]; exact h.eq k

theorem conv_scaled {p c : Int} {s a b : List Int} (h : ∀ k, Cong p (cf s k) (cf a k + c * cf b k)) (d : List Int) (k : Nat) : Cong p (conv s d k) (conv a d k + c * conv b d k) := by
  unfold conv
  rw [← Sg_mul, ← Sg_add]
  refine Sg_cong fun i _ => ?_
  have e : cf a i * cf d (k - i) + c * (cf b i * cf d (k - i)) = (cf a i + c * cf b i) * cf d (k - i) := by rw [Int.add_mul, Int.mul_assoc]
  rw [e]
  exact (h i).mul (Cong.refl _ _)

end Go.Proofs.YtmcgnpdfpfgfpaaGreatDoor

/-! DivU -/
namespace Go.Proofs.YtmcgnpdfpfgfpaaGreatDoor
set_option linter.unusedVariables false

theorem DivOf.unique {p : Int} (hok : okP p = true) {a b q r q2 r2 : List Int} (hb : allP p b = true) (h : DivOf p a b q r) (h2 : DivOf p a b q2 r2) : q = q2 ∧ r = r2 := by
  have hp := (okP_pos hok).1
  have hcd : ∀ k, Cong p (cf (trimL ((List.range (q.length + q2.length)).map fun k => (cf q k - cf q2 k) % p)) k) (cf q k + (-1) * cf q2 k) := fun k => by
    rw [cf_trimL, cf_map_range]
    split
    · exact (Cong.mod _ _).trans (Cong.of_eq (by omega))
    · rw [cf_out (l := q) (by omega), cf_out (l := q2) (by omega)]; exact Cong.refl _ _
  have hda : allP p (trimL ((List.range (q.length + q2.length)).map fun k => (cf q k - cf q2 k) % p)) = true := trimL_allP (map_allP hp _ _)
  have hdt := trimL_trimd ((List.range (q.length + q2.length)).map fun k => (cf q k - cf q2 k) % p)
  generalize trimL ((List.range (q.length + q2.length)).map fun k => (cf q k - cf q2 k) % p) = d at *
  have hd : ∀ k, Cong p (conv d b k) (cf r2 k - cf r k) := fun k => by
    have h1 := conv_scaled hcd b k
    have h3 := (h.eq k).trans (h2.eq k).symm
    have h4 := h3.sub (Cong.refl p (conv q2 b k + cf r k))
    refine h1.trans ((Cong.of_eq ?_).trans (h4.trans (Cong.of_eq ?_)))
    · omega
    · omega
  have hdz : d = [] := by
    cases hdl : d.length with
    | zero => exact List.eq_nil_of_length_eq_zero hdl
    | succ i =>
      exfalso
      have hln := h.ln
      have hln2 := h2.ln
      rw [← trimL_len] at hln hln2
      obtain ⟨j, hj⟩ : ∃ j, (trimL b).length = j + 1 := ⟨(trimL b).length - 1, by omega⟩
      have h1 := hd (i + j)
      rw [cf_out (l := r) (by omega), cf_out (l := r2) (by omega), ← conv_trim d b, hdt.trimL, conv_last hdl hj] at h1
      rcases Cong.mul_zero hok h1 with h3 | h3
      · exact hdt i hdl ((Cong.elt_zero (cf_in hp hda i)).1 h3)
      · exact trimL_trimd b j hj ((Cong.elt_zero (cf_in hp (trimL_allP hb) j)).1 h3)
  have hq : q = q2 := h.tq.ext h2.tq fun k => by
    have h1 := hcd k
    rw [hdz, cf_nil] at h1
    have h3 := h1.symm.add (Cong.refl p (cf q2 k))
    have h4 : Cong p (cf q k) (cf q2 k) := (Cong.of_eq (by omega)).trans (h3.trans (Cong.of_eq (by omega)))
    exact h4.eq (cf_in hp h.aq k) (cf_in hp h2.aq k)
  refine ⟨hq, h.tr.ext h2.tr fun k => ?_⟩
  have h1 := (h.eq k).trans (h2.eq k).symm
  rw [hq] at h1
  have h3 := h1.sub (Cong.refl p (conv q2 b k))
  have h4 : Cong p (cf r k) (cf r2 k) := (Cong.of_eq (by omega)).trans (h3.trans (Cong.of_eq (by omega)))
  exact h4.eq (cf_in hp h.ar k) (cf_in hp h2.ar k)

/-- What holds between the rounds of the second form's Divide: the rest is 0 from L on, the quotient below L - length of the divisor. -/
structure Dvr (p : Int) (xs bs ts qs : List Int) (L : Nat) : Prop where
  at_ : allP p ts = true
  aq : allP p qs = true
  z : ∀ i, i + bs.length ≤ L → cf qs i = 0
  hi : ∀ k, L ≤ k → cf ts k = 0
  eq : ∀ k, Cong p (conv qs bs k + cf ts k) (cf xs k)

end Go.Proofs.YtmcgnpdfpfgfpaaGreatDoor

/-! DecA -/
namespace Go.Proofs.YtmcgnpdfpfgfpaaGreatDoor
set_option linter.unusedVariables false

/-- Powers as the program makes them. -/
def pwP (p s : Int) : Nat → Int
  | 0 => 1
  | n + 1 => mulP p (pwP p s n) s
theorem pwP_cong (p s : Int) : ∀ n, Cong p (pwP p s n) (s ^ n)
  | 0 => Cong.of_eq (by simp [pwP])
  | n + 1 => by
    show Cong p (mulP p (pwP p s n) s) _
    rw [Int.pow_succ]
    exact (Cong.mulP p _ _).trans ((pwP_cong p s n).mul (Cong.refl _ _))
theorem pwP_in {p : Int} (hp : 2 ≤ p) (s : Int) : ∀ n, 0 ≤ pwP p s n ∧ pwP p s n < p
  | 0 => by show (0 : Int) ≤ 1 ∧ (1 : Int) < p; omega
  | n + 1 => mulP_in _ _ hp

/-- The coefficients of one known cell. -/
def keyC (p : Int) (k v : Nat) (e : Int × Int) : List Int := (List.range (k + v)).map (pwP p e.1) ++ (List.range v).map fun i => subP p 0 (mulP p e.2 (pwP p e.1 i))
def keyR (p : Int) (v : Nat) (e : Int × Int) : Int := mulP p e.2 (pwP p e.1 v)
/-- All cells of the key, and its right sides. -/
def keyCs (p : Int) (k v : Nat) (l : List (Int × Int)) : List Int := (l.map (keyC p k v)).flatten
def keyRs (p : Int) (v : Nat) (l : List (Int × Int)) : List Int := l.map (keyR p v)
theorem keyC_len (p : Int) (k v : Nat) (e : Int × Int) : (keyC p k v e).length = k + v + v := by simp [keyC]
theorem keyC_all {p : Int} (hp : 2 ≤ p) (k v : Nat) (e : Int × Int) : allP p (keyC p k v e) = true := by
  refine allP_append.2 ⟨allP_iff.2 fun x hx => ?_, allP_iff.2 fun x hx => ?_⟩
  · obtain ⟨i, _, rfl⟩ := List.mem_map.1 hx
    exact pwP_in hp _ _
  · obtain ⟨i, _, rfl⟩ := List.mem_map.1 hx
    exact subP_in _ _ hp
theorem keyCs_len (p : Int) (k v : Nat) : ∀ l, (keyCs p k v l).length = l.length * (k + v + v)
  | [] => by simp [keyCs]
  | e :: l => by
    have ih := keyCs_len p k v l
    unfold keyCs at ih ⊢
    rw [List.map_cons, List.flatten_cons, List.length_append, keyC_len, ih, List.length_cons, Nat.add_mul]; omega
theorem keyCs_all {p : Int} (hp : 2 ≤ p) (k v : Nat) : ∀ l, allP p (keyCs p k v l) = true
  | [] => rfl
  | e :: l => allP_append.2 ⟨keyC_all hp k v e, keyCs_all hp k v l⟩
theorem keyRs_len (p : Int) (v : Nat) (l : List (Int × Int)) : (keyRs p v l).length = l.length := by simp [keyRs]
theorem keyRs_all {p : Int} (hp : 2 ≤ p) (v : Nat) (l : List (Int × Int)) : allP p (keyRs p v l) = true := allP_iff.2 fun x hx => by
  obtain ⟨e, _, rfl⟩ := List.mem_map.1 hx
  exact mulP_in _ _ hp
theorem keyCs_snoc (p : Int) (k v : Nat) (l : List (Int × Int)) (e : Int × Int) : keyCs p k v (l ++ [e]) = keyCs p k v l ++ keyC p k v e := by simp [keyCs]
theorem keyRs_snoc (p : Int) (v : Nat) (l : List (Int × Int)) (e : Int × Int) : keyRs p v (l ++ [e]) = keyRs p v l ++ [keyR p v e] := by simp [keyRs]
theorem keyCs_row (p : Int) (k v : Nat) (c : Nat) (hc : c = k + v + v) : ∀ (l : List (Int × Int)) (i : Nat) (hi : i < l.length), ∀ j, j < c → cf (keyCs p k v l) (i * c + j) = cf (keyC p k v l[i]) j
  | [], i, hi => by simp at hi
  | e :: l, 0, hi => fun j hj => by
    show cf (keyC p k v e ++ keyCs p k v l) _ = _
    rw [cf_append, if_pos (by rw [keyC_len]; omega), Nat.zero_mul, Nat.zero_add]; rfl
  | e :: l, i + 1, hi => fun j hj => by
    show cf (keyC p k v e ++ keyCs p k v l) _ = _
    rw [cf_append, keyC_len, ← hc, Nat.succ_mul, if_neg (by omega), show i * c + c + j - c = i * c + j by omega]
    exact keyCs_row p k v c hc l i (by simpa using hi) j hj
theorem cf_keyRs (p : Int) (v : Nat) (l : List (Int × Int)) (i : Nat) (hi : i < l.length) : cf (keyRs p v l) i = keyR p v l[i] := by
  unfold cf keyRs
  rw [List.getD_eq_getElem?_getD, List.getElem?_map, List.getElem?_eq_getElem hi]; rfl
theorem cf_keyC (p : Int) (k v : Nat) (e : Int × Int) (j : Nat) : cf (keyC p k v e) j = if j < k + v then pwP p e.1 j else if j - (k + v) < v then subP p 0 (mulP p e.2 (pwP p e.1 (j - (k + v)))) else 0 := by
  unfold keyC
  rw [cf_append, List.length_map, List.length_range]
  split
  · rename_i h; rw [cf_map_range, if_pos h]
  · rw [cf_map_range]
theorem key_eqOk {p : Int} (hok : okP p = true) (k v : Nat) (l : List (Int × Int)) (hl : l.length ≤ 32) (hc : k + 2 * v ≤ 32) : EqOk p l.length (k + 2 * v) (keyCs p k v l) (keyRs p v l) :=
  ⟨hok, hl, hc, by rw [keyCs_len, show k + 2 * v = k + v + v by omega], keyRs_len _ _ _, keyCs_all (okP_pos hok).1 _ _ _, keyRs_all (okP_pos hok).1 _ _⟩

theorem Sg_apart (f : Nat → Int) (a : Nat) : ∀ b, Sg f (a + b) = Sg f a + Sg (fun j => f (a + j)) b
  | 0 => by show Sg f a = Sg f a + 0; omega
  | b + 1 => by
    have ih := Sg_apart f a b
    show Sg f (a + b) + f (a + b) = Sg f a + (Sg (fun j => f (a + j)) b + f (a + b))
    omega
theorem cong_move {p A y B C : Int} : Cong p (A + -(y * B)) (y * C) ↔ Cong p A (y * (B + C)) := by
  rw [Int.mul_add]
  generalize y * B = u
  generalize y * C = t
  constructor
  · intro h
    have h2 := h.add (Cong.refl p u)
    exact (Cong.of_eq (by omega)).trans (h2.trans (Cong.of_eq (by omega)))
  · intro h
    have h2 := h.add (Cong.refl p (-u))
    exact h2.trans (Cong.of_eq (by omega))
/-- What a solution of the key says at one known cell. -/
theorem key_row {p : Int} (k v : Nat) (x : List Int) (hx : x.length = k + 2 * v) (e : Int × Int) :
    Cong p (Sg (fun j => cf (keyC p k v e) j * cf x j) (k + 2 * v)) (keyR p v e) ↔ Cong p (polyZ e.1 (x.take (k + v))) (e.2 * polyZ e.1 (x.drop (k + v) ++ [1])) := by
  have h1 : Cong p (Sg (fun j => cf (keyC p k v e) j * cf x j) (k + v)) (polyZ e.1 (x.take (k + v))) := by
    rw [polyZ_Sg e.1 (x.take (k + v)) (k + v) (by rw [List.length_take]; omega)]
    refine Sg_cong fun j hj => ?_
    rw [cf_keyC, if_pos hj, cf_take, if_pos hj, Int.mul_comm]
    exact (Cong.refl _ _).mul (pwP_cong p e.1 j)
  have h2 : Cong p (Sg (fun j => cf (keyC p k v e) (k + v + j) * cf x (k + v + j)) v) (-(e.2 * Sg (fun j => cf (x.drop (k + v)) j * e.1 ^ j) v)) := by
    have : -(e.2 * Sg (fun j => cf (x.drop (k + v)) j * e.1 ^ j) v) = Sg (fun j => (-e.2) * (cf (x.drop (k + v)) j * e.1 ^ j)) v := by rw [Sg_mul, Int.neg_mul]
    rw [this]
    refine Sg_cong fun j hj => ?_
    rw [cf_keyC, if_neg (by omega), show k + v + j - (k + v) = j by omega, if_pos hj, cf_drop]
    have h3 : Cong p (subP p 0 (mulP p e.2 (pwP p e.1 j))) (-(e.2 * e.1 ^ j)) := by
      refine (Cong.subP p _ _).trans ?_
      have h4 := (Cong.mulP p e.2 (pwP p e.1 j)).trans ((Cong.refl p e.2).mul (pwP_cong p e.1 j))
      exact ((Cong.refl p 0).sub h4).trans (Cong.of_eq (by omega))
    refine (h3.mul (Cong.refl _ _)).trans (Cong.of_eq ?_)
    rw [Int.neg_mul, Int.neg_mul, Int.mul_assoc, Int.mul_comm (e.1 ^ j)]
  have h3 : polyZ e.1 (x.drop (k + v) ++ [1]) = Sg (fun j => cf (x.drop (k + v)) j * e.1 ^ j) v + e.1 ^ v := by
    have hd : (x.drop (k + v)).length = v := by rw [List.length_drop]; omega
    rw [polyZ_Sg e.1 _ (v + 1) (by rw [List.length_append, hd]; exact Nat.le_refl _)]
    show Sg _ v + _ = _
    congr 1
    · exact Sg_congr fun j hj => by rw [cf_append, if_pos (by omega)]
    · show cf (x.drop (k + v) ++ [1]) v * e.1 ^ v = e.1 ^ v
      rw [cf_append, if_neg (by omega), hd, Nat.sub_self]
      show 1 * _ = _
      rw [Int.one_mul]
  have h4 : Cong p (keyR p v e) (e.2 * e.1 ^ v) := (Cong.mulP p _ _).trans ((Cong.refl p e.2).mul (pwP_cong p e.1 v))
  have h5 : Cong p (Sg (fun j => cf (keyC p k v e) j * cf x j) (k + 2 * v)) (polyZ e.1 (x.take (k + v)) + -(e.2 * Sg (fun j => cf (x.drop (k + v)) j * e.1 ^ j) v)) := by
    rw [show k + 2 * v = k + v + v by omega, Sg_apart]
    exact h1.add h2
  rw [h3]
  constructor
  · intro h; exact cong_move.1 (h5.symm.trans (h.trans h4))
  · intro h; exact h5.trans ((cong_move.2 h).trans h4.symm)
/-- The solutions of the key. -/
theorem key_solv {p : Int} (k v : Nat) (l : List (Int × Int)) (x : List Int) (hx : x.length = k + 2 * v) :
    Solv p (k + 2 * v) (augM l.length (k + 2 * v) (keyCs p k v l) (keyRs p v l)) x ↔ ∀ e ∈ l, Cong p (polyZ e.1 (x.take (k + v))) (e.2 * polyZ e.1 (x.drop (k + v) ++ [1])) := by
  rw [solv_augM (by rw [keyCs_len, show k + 2 * v = k + v + v by omega])]
  have hr : ∀ i (hi : i < l.length), Sg (fun j => cf (keyCs p k v l) (i * (k + 2 * v) + j) * cf x j) (k + 2 * v) = Sg (fun j => cf (keyC p k v l[i]) j * cf x j) (k + 2 * v) := fun i hi => Sg_congr fun j hj => by
    rw [keyCs_row p k v (k + 2 * v) (by omega) l i hi j hj]
  constructor
  · intro h e he
    obtain ⟨i, hi, rfl⟩ := List.mem_iff_getElem.1 he
    have := h i hi
    rw [hr i hi, cf_keyRs p v l i hi] at this
    exact (key_row k v x hx _).1 this
  · intro h i hi
    rw [hr i hi, cf_keyRs p v l i hi]
    exact (key_row k v x hx _).2 (h _ (List.getElem_mem hi))

theorem filter_parts {α : Type} (q : α → Bool) : ∀ l : List α, (l.filter q).length + (l.filter fun e => !q e).length = l.length
  | [] => rfl
  | a :: l => by
    have := filter_parts q l
    cases h : q a <;> simp [h] <;> omega
/-- The numbers of the known cells whose values differ from a polynomial. -/
def wrL (p : Int) (P : List Int) (l : List (Int × Int)) : List Int := (l.filter fun e => decide (valueP p e.1 P ≠ e.2)).map fun e => e.1
theorem wrL_snoc (p : Int) (P : List Int) (l : List (Int × Int)) (e : Int × Int) : wrL p P (l ++ [e]) = wrL p P l ++ (if valueP p e.1 P = e.2 then [] else [e.1]) := by
  unfold wrL
  rw [List.filter_append, List.map_append]
  by_cases h : valueP p e.1 P = e.2
  · rw [if_pos h, List.filter_cons_of_neg (by simpa using h)]; rfl
  · rw [if_neg h, List.filter_cons_of_pos (by simpa using h)]; rfl
theorem wrL_parts (p : Int) (P : List Int) (l : List (Int × Int)) : (l.filter fun e => decide (valueP p e.1 P = e.2)).length + (wrL p P l).length = l.length := by
  have h := filter_parts (fun e : Int × Int => decide (valueP p e.1 P = e.2)) l
  unfold wrL
  rw [List.length_map, ← h]
  congr 2
  refine List.filter_congr fun e _ => ?_
  simp
theorem wrL_mem {p : Int} {P : List Int} {l : List (Int × Int)} {e : Int × Int} (he : e ∈ l) (h : e.1 ∉ wrL p P l) : valueP p e.1 P = e.2 := by
  by_cases h1 : valueP p e.1 P = e.2
  · exact h1
  · exact absurd (List.mem_map.2 ⟨e, List.mem_filter.2 ⟨he, by simpa using h1⟩, rfl⟩) h
theorem wrL_trim (p : Int) (hp : 2 ≤ p) (P : List Int) (l : List (Int × Int)) : wrL p (trimL P) l = wrL p P l := by
  unfold wrL
  congr 1
  refine List.filter_congr fun e _ => ?_
  rw [value_trim p e.1 hp]

/-- The monic polynomial with given zeros. -/
structure Monic (p : Int) (zs ps : List Int) : Prop where
  al : allP p ps = true
  ln : ps.length = zs.length + 1
  one : cf ps zs.length = 1
  ev : ∀ x, Cong p (polyZ x ps) (prodX x zs)
theorem monic_ex {p : Int} (hp : 2 ≤ p) : ∀ zs : List Int, ∃ ps, Monic p zs ps
  | [] => ⟨[1], allP_iff.2 (by simp; omega), rfl, rfl, fun x => by simp [polyZ, prodX]; exact Cong.refl _ _⟩
  | a :: zs => by
    obtain ⟨ps, h⟩ := monic_ex hp zs
    refine ⟨rawMul p [subP p 0 a, 1] ps, rawMul_allP hp _ _, ?_, ?_, fun x => ?_⟩
    · simp [rawMul, h.ln]; omega
    · show cf (rawMul p [subP p 0 a, 1] ps) (zs.length + 1) = 1
      unfold rawMul
      rw [cf_map_range, if_pos (by simp [h.ln]; omega)]
      rw [show zs.length + 1 = 1 + zs.length by omega, conv_last (n := 1) (a := [subP p 0 a, 1]) (b := ps) rfl h.ln, h.one]
      show (1 * 1 : Int) % p = 1
      exact Int.emod_eq_of_lt (by omega) (by omega)
    · have h1 : ∀ k, Cong p (cf (rawMul p [subP p 0 a, 1] ps) k) (conv [subP p 0 a, 1] ps k) := fun k => by
        unfold rawMul
        rw [cf_map_range]
        split
        · exact Cong.mod _ _
        · rw [conv_out (by simp at *; omega)]; exact Cong.refl _ _
      refine (polyZ_prod h1).trans ?_
      show Cong p _ ((x - a) * prodX x zs)
      refine Cong.mul ?_ (h.ev x)
      have h2 : polyZ x [subP p 0 a, 1] = x + subP p 0 a := by rw [polyZ_cons, polyZ_cons]; show (0 * x + 1) * x + _ = _; rw [Int.zero_mul, Int.zero_add, Int.one_mul]
      rw [h2]
      exact ((Cong.refl p x).add (Cong.subP p 0 a)).trans (Cong.of_eq (by omega))

/-- A polynomial that differs from the known values at no more than v places: the key has a solution. -/
theorem key_has {p : Int} (hok : okP p = true) {k v : Nat} {l : List (Int × Int)} {P : List Int} (hP : allP p P = true) (hk : P.length ≤ k) (hk1 : 1 ≤ k) (hw : (wrL p P l).length ≤ v) :
    ∃ x, x.length = k + 2 * v ∧ Solv p (k + 2 * v) (augM l.length (k + 2 * v) (keyCs p k v l) (keyRs p v l)) x := by
  have hp := (okP_pos hok).1
  obtain ⟨ps, h⟩ := monic_ex hp (wrL p P l ++ List.replicate (v - (wrL p P l).length) 0)
  have hzl : (wrL p P l ++ List.replicate (v - (wrL p P l).length) 0).length = v := by simp; omega
  have hln := h.ln
  have hone := h.one
  rw [hzl] at hln hone
  let Q : List Int := (List.range (k + v)).map fun i => conv P ps i
  have hQ : ∀ i, cf Q i = conv P ps i := fun i => by
    show cf ((List.range (k + v)).map _) i = _
    rw [cf_map_range]
    split
    · rfl
    · rw [conv_out (by omega)]
  have hQl : Q.length = k + v := by simp [Q]
  have hE : ps.take v ++ [1] = ps := by
    refine cf_ext (by rw [List.length_append, List.length_take]; simp; omega) fun j => ?_
    rw [cf_append, List.length_take, Nat.min_eq_left (by omega)]
    split
    · rw [cf_take, if_pos ‹_›]
    · rcases Nat.lt_or_ge j (v + 1) with h1 | h1
      · obtain rfl : j = v := by omega
        rw [Nat.sub_self, hone]; rfl
      · rw [cf_out (by simp; omega), cf_out (by omega)]
  have hxt : (Q ++ ps.take v).take (k + v) = Q := by rw [List.take_left' hQl]
  have hxd : (Q ++ ps.take v).drop (k + v) = ps.take v := by rw [List.drop_left' hQl]
  refine ⟨Q ++ ps.take v, by rw [List.length_append, hQl, List.length_take]; omega, (key_solv k v l _ (by rw [List.length_append, hQl, List.length_take]; omega)).2 fun e he => ?_⟩
  rw [hxt, hxd, hE]
  have h1 : Cong p (polyZ e.1 Q) (polyZ e.1 P * polyZ e.1 ps) := polyZ_prod fun i => Cong.of_eq (hQ i)
  refine h1.trans ?_
  by_cases hm : e.1 ∈ wrL p P l
  · have h2 : Cong p (polyZ e.1 ps) 0 := (h.ev e.1).trans (prodX_zero _ _ (List.mem_append_left _ hm) (by rw [Int.sub_self]; exact Cong.refl _ _))
    refine ((Cong.refl p _).mul h2).trans ?_
    rw [Int.mul_zero]
    have := (Cong.refl p e.2).mul h2
    rw [Int.mul_zero] at this
    exact this.symm
  · refine Cong.mul ?_ (Cong.refl _ _)
    exact (valueP_cong p e.1 P).symm.trans (Cong.of_eq (wrL_mem he hm))

/-- Any solution of the key leads to the polynomial. -/
theorem key_div {p : Int} (hok : okP p = true) {k v : Nat} {l : List (Int × Int)} {P x : List Int} (hP : allP p P = true) (hk : P.length ≤ k) (hk1 : 1 ≤ k) (hw : (wrL p P l).length ≤ v) (hd : (ptK l).Pairwise (fun x y => ¬ Cong p (y - x) 0)) (hn : k + 2 * v ≤ l.length)
    (hx : x.length = k + 2 * v) (hxa : allP p x = true) (hs : Solv p (k + 2 * v) (augM l.length (k + 2 * v) (keyCs p k v l) (keyRs p v l)) x) : DivOf p (x.take (k + v)) (x.drop (k + v) ++ [1]) (trimL P) [] := by
  have hp := (okP_pos hok).1
  have hxd : (x.drop (k + v)).length = v := by rw [List.length_drop]; omega
  have hEl : (x.drop (k + v) ++ [1]).length = v + 1 := by rw [List.length_append, hxd]; rfl
  have hkey := (key_solv k v l x hx).1 hs
  generalize hE : x.drop (k + v) ++ [1] = E at *
  have hone : cf E v = 1 := by rw [← hE, cf_append, if_neg (by omega), hxd, Nat.sub_self]; rfl
  have hQl : (x.take (k + v)).length = k + v := by rw [List.length_take]; omega
  generalize hQ : x.take (k + v) = Q at *
  let D : List Int := (List.range (k + v)).map fun i => cf Q i - conv P E i
  have hD : ∀ i, cf D i = cf Q i + (-1) * conv P E i := fun i => by
    show cf ((List.range (k + v)).map _) i = _
    rw [cf_map_range]
    split
    · omega
    · rw [conv_out (by omega), cf_out (by omega)]; rfl
  have hz : ∀ k, Cong p (cf D k) 0 := by
    refine roots_zero hok (((l.filter fun e => decide (valueP p e.1 P = e.2)).map fun e => e.1)) D ?_ ?_ ?_
    · have h1 := wrL_parts p P l
      rw [List.length_map, List.length_range, List.length_map]; omega
    · exact hd.sublist ((List.filter_sublist).map _)
    · intro a ha
      obtain ⟨e, he, rfl⟩ := List.mem_map.1 ha
      obtain ⟨he1, he2⟩ := List.mem_filter.1 he
      have he3 : valueP p e.1 P = e.2 := by simpa using he2
      have h1 : Cong p (polyZ e.1 ((List.range (k + v)).map fun i => conv P E i)) (polyZ e.1 P * polyZ e.1 E) := polyZ_prod fun i => by
        rw [cf_map_range]
        split
        · exact Cong.refl _ _
        · rw [conv_out (by omega)]; exact Cong.refl _ _
      have h2 : Cong p (polyZ e.1 D) (polyZ e.1 Q + (-1) * polyZ e.1 ((List.range (k + v)).map fun i => conv P E i)) := polyZ_scaled fun i => by
        refine Cong.of_eq ?_
        rw [hD, cf_map_range]
        split
        · rfl
        · rw [conv_out (by omega)]
      have h3 := hkey e he1
      have h4 : Cong p (polyZ e.1 P) e.2 := (valueP_cong p e.1 P).symm.trans (Cong.of_eq he3)
      have h5 := h3.sub (h1.trans (h4.mul (Cong.refl p (polyZ e.1 E))))
      rw [Int.sub_self] at h5
      exact h2.trans ((Cong.of_eq (by omega)).trans h5)
  refine ⟨trimL_trimd _, Trimd.nil_, trimL_allP hP, rfl, ?_, fun i => ?_⟩
  · show 0 < tn E E.length
    rcases Nat.eq_zero_or_pos (tn E E.length) with h0 | h0
    · exfalso
      have := tn_zero (l := E) (n := E.length) (k := v) (by omega) (by omega)
      omega
    · exact h0
  · rw [cf_nil, Int.add_zero]
    have h1 : conv (trimL P) E i = conv P E i := Sg_congr fun j _ => by rw [cf_trimL]
    rw [h1]
    have h2 := hz i
    rw [hD] at h2
    have h3 := h2.add (Cong.refl p (conv P E i))
    exact (Cong.of_eq (by omega)).trans (h3.symm.trans (Cong.of_eq (by omega)))
end Go.Proofs.YtmcgnpdfpfgfpaaGreatDoor

/-! DecB -/
namespace Go.Proofs.YtmcgnpdfpfgfpaaGreatDoor
set_option linter.unusedVariables false

/-- What is decoded: a polynomial and the numbers of the wrong values; or that there is none. -/
def DecOf (p : Int) (k v : Nat) (l : List (Int × Int)) : Option (List Int) → Prop
  | some P => Trimd P ∧ allP p P = true ∧ P.length ≤ k ∧ (wrL p P l).length ≤ v
  | none => ∀ P, allP p P = true → P.length ≤ k → v < (wrL p P l).length

section
variable {p : Int} {k v : Nat} {l : List (Int × Int)}
theorem trimL_le_ (P : List Int) : (trimL P).length ≤ P.length := by rw [trimL_len]; exact tn_le _ _
/-- Two polynomials within the radius are the same. -/
theorem near_one (hok : okP p = true) {P Q : List Int} (hP : allP p P = true) (hQ : allP p Q = true) (hlP : P.length ≤ k) (hlQ : Q.length ≤ k) (hd : (ptK l).Pairwise (fun x y => ¬ Cong p (y - x) 0)) (hn : k + 2 * v ≤ l.length)
    (hw : (wrL p P l).length ≤ v) (hw2 : (wrL p Q l).length ≤ v) : trimL P = trimL Q := by
  refine (trimL_trimd P).ext (trimL_trimd Q) fun i => ?_
  rw [cf_trimL, cf_trimL]
  have h1 := wrL_parts p P l
  have h2 := wrL_parts p Q (l.filter fun e => decide (valueP p e.1 P = e.2))
  have h3 : (wrL p Q (l.filter fun e => decide (valueP p e.1 P = e.2))).length ≤ (wrL p Q l).length := by
    unfold wrL
    rw [List.length_map, List.length_map]
    exact ((List.filter_sublist (l := l) (p := fun e : Int × Int => decide (valueP p e.1 P = e.2))).filter _).length_le
  have hsub : (((l.filter fun e => decide (valueP p e.1 P = e.2)).filter fun e => decide (valueP p e.1 Q = e.2)).map fun e => e.1).Sublist (ptK l) := ((List.filter_sublist).trans (List.filter_sublist)).map _
  refine same_cfs hok (hd.sublist hsub) hP hQ (by rw [List.length_map]; omega) (by rw [List.length_map]; omega) (fun x hx => ?_) i
  obtain ⟨e, he, rfl⟩ := List.mem_map.1 hx
  obtain ⟨he1, he2⟩ := List.mem_filter.1 he
  have a1 : valueP p e.1 P = e.2 := by simpa using (List.mem_filter.1 he1).2
  have a2 : valueP p e.1 Q = e.2 := by simpa using he2
  rw [a1, a2]
theorem DecOf.one (hok : okP p = true) {a : Option (List Int)} (h : DecOf p k v l a) (hd : (ptK l).Pairwise (fun x y => ¬ Cong p (y - x) 0)) (hn : k + 2 * v ≤ l.length) {P : List Int} (hP : allP p P = true) (hlP : P.length ≤ k) (hw : (wrL p P l).length ≤ v) : a = some (trimL P) := by
  rcases a with _ | Q
  · have := h P hP hlP; omega
  · obtain ⟨h1, h2, h3, h4⟩ := h
    rw [near_one hok hP h2 hlP h3 hd hn hw h4, h1.trimL]
/-- No solution of the key: nothing is decoded. -/
theorem decOf_unsolved (hok : okP p = true) (hk1 : 1 ≤ k) (h : ∀ x, ¬ Solv p (k + 2 * v) (augM l.length (k + 2 * v) (keyCs p k v l) (keyRs p v l)) x) : DecOf p k v l none := fun P hP hl => by
  rcases Nat.lt_or_ge v (wrL p P l).length with h1 | h1
  · exact h1
  · obtain ⟨x, _, hx⟩ := key_has hok hP hl hk1 h1
    exact absurd hx (h x)
/-- What a solution's quotient tells. -/
theorem decOf_div (hok : okP p = true) (hk1 : 1 ≤ k) (hd : (ptK l).Pairwise (fun x y => ¬ Cong p (y - x) 0)) (hn : k + 2 * v ≤ l.length) {x q r : List Int} (hx : x.length = k + 2 * v) (hxa : allP p x = true)
    (hs : Solv p (k + 2 * v) (augM l.length (k + 2 * v) (keyCs p k v l) (keyRs p v l)) x) (h : DivOf p (x.take (k + v)) (x.drop (k + v) ++ [1]) q r) : DecOf p k v l (if r = [] ∧ q.length ≤ k ∧ (wrL p q l).length ≤ v then some q else none) := by
  have hp := (okP_pos hok).1
  split
  · rename_i hc
    exact ⟨h.tq, h.aq, hc.2.1, hc.2.2⟩
  · rename_i hc
    intro P hP hl
    rcases Nat.lt_or_ge v (wrL p P l).length with h1 | h1
    · exact h1
    · have h2 := key_div hok hP hl hk1 h1 hd hn hx hxa hs
      have hea : allP p (x.drop (k + v) ++ [1]) = true := allP_append.2 ⟨allP_iff.2 fun y hy => allP_iff.1 hxa y (List.mem_of_mem_drop hy), allP_iff.2 fun y hy => by rw [List.mem_singleton.1 hy]; omega⟩
      obtain ⟨e1, e2⟩ := DivOf.unique hok hea h h2
      refine absurd ⟨e2, ?_, ?_⟩ hc
      · rw [e1]; exact Nat.le_trans (trimL_le_ P) hl
      · rw [e1, wrL_trim p hp]; exact h1
end

/-- The points of the known cells are apart. -/
theorem knL_apart {p : Int} {vs : List Int} {bs : List Bool} (h : (vs.length : Int) < p) : (ptK (knL vs bs)).Pairwise (fun x y => ¬ Cong p (y - x) 0) := pairwise_of (ptK_allP vs bs h) (ptK_apart vs bs)

/-- The numbers of wrong values among the first cells, as a walk over the cells finds them. -/
theorem wrL_step {p : Int} {P vs : List Int} {bs : List Bool} (h : vs.length = bs.length) {j : Nat} (hj : j < vs.length) :
    wrL p P (knL (vs.take (j + 1)) (bs.take (j + 1))) = wrL p P (knL (vs.take j) (bs.take j)) ++ (if bs.getD j false = true ∧ valueP p ((j : Int) + 1) P ≠ vs.getD j 0 then [(j : Int) + 1] else []) := by
  rw [knL_step h hj]
  by_cases hb : bs.getD j false = true
  · rw [if_pos hb, wrL_snoc]
    by_cases hv : valueP p ((j : Int) + 1) P = vs.getD j 0
    · rw [if_pos hv, if_neg (fun hh => hh.2 hv)]
    · rw [if_neg hv, if_pos ⟨hb, hv⟩]
  · rw [if_neg hb, if_neg (fun hh => hb hh.1), List.append_nil, List.append_nil]
end Go.Proofs.YtmcgnpdfpfgfpaaGreatDoor

/-! FermA -/
namespace Go.Proofs.YtmcgnpdfpfgfpaaGreatDoor
set_option linter.unusedVariables false

def prodN (l : List Nat) : Int := l.foldr (fun (x : Nat) (s : Int) => (x : Int) * s) 1
theorem prodN_cons (x : Nat) (l : List Nat) : prodN (x :: l) = (x : Int) * prodN l := rfl
theorem prodN_erase {a : Nat} : ∀ {l : List Nat}, a ∈ l → prodN l = (a : Int) * prodN (l.erase a)
  | x :: l, h => by
    by_cases hx : x = a
    · subst hx; rw [List.erase_cons_head]; rfl
    · have hm : a ∈ l := by
        rcases List.mem_cons.1 h with h1 | h1
        · exact absurd h1.symm hx
        · exact h1
      rw [List.erase_cons_tail (by simpa using hx), prodN_cons, prodN_cons, prodN_erase hm, Int.mul_left_comm]
theorem erase_nodup {l : List Nat} (h : l.Nodup) (a : Nat) : (l.erase a).Nodup := h.erase a
theorem len_le_of_range : ∀ (n : Nat) {l : List Nat}, l.Nodup → (∀ x ∈ l, 1 ≤ x ∧ x ≤ n) → l.length ≤ n := by
  intro n
  induction n with
  | zero =>
    intro l _ h
    cases l with
    | nil => exact Nat.le_refl _
    | cons x l => have := h x List.mem_cons_self; omega
  | succ n ih =>
    intro l hn h
    by_cases hm : n + 1 ∈ l
    · have h1 := ih (erase_nodup hn (n + 1)) (fun x hx => by
        have h2 := h x (List.mem_of_mem_erase hx)
        have h3 : x ≠ n + 1 := fun e => by subst e; exact (hn.not_mem_erase) hx
        omega)
      rw [List.length_erase_of_mem hm] at h1
      omega
    · have := ih hn (fun x hx => by
        have h2 := h x hx
        have h3 : x ≠ n + 1 := fun e => by subst e; exact hm hx
        omega)
      omega
def factZ : Nat → Int
  | 0 => 1
  | n + 1 => ((n + 1 : Nat) : Int) * factZ n
theorem prod_range : ∀ (n : Nat) {l : List Nat}, l.Nodup → (∀ x ∈ l, 1 ≤ x ∧ x ≤ n) → l.length = n → prodN l = factZ n := by
  intro n
  induction n with
  | zero =>
    intro l _ _ hl
    rw [List.eq_nil_of_length_eq_zero hl]; rfl
  | succ n ih =>
    intro l hn h hl
    by_cases hm : n + 1 ∈ l
    · rw [prodN_erase hm, ih (erase_nodup hn (n + 1)) (fun x hx => by
        have h2 := h x (List.mem_of_mem_erase hx)
        have h3 : x ≠ n + 1 := fun e => by subst e; exact (hn.not_mem_erase) hx
        omega) (by rw [List.length_erase_of_mem hm]; omega)]
      rfl
    · exfalso
      have := len_le_of_range n hn (fun x hx => by
        have h2 := h x hx
        have h3 : x ≠ n + 1 := fun e => by subst e; exact hm hx
        omega)
      omega

theorem timesN_prod {p : Int} (hp : 2 ≤ p) (a : Int) : ∀ n, Cong p (prodN ((List.range n).reverse.map fun i : Nat => (a * ((i : Int) + 1) % p).toNat)) (a ^ n * factZ n)
  | 0 => by rw [Int.pow_zero]; exact Cong.refl _ _
  | n + 1 => by
    rw [List.range_succ, List.reverse_append, List.reverse_cons, List.reverse_nil, List.nil_append, List.map_append]
    show Cong p (((a * ((n : Int) + 1) % p).toNat : Int) * prodN ((List.range n).reverse.map fun i : Nat => (a * ((i : Int) + 1) % p).toNat)) _
    have h1 : ((a * ((n : Int) + 1) % p).toNat : Int) = a * ((n : Int) + 1) % p := Int.toNat_of_nonneg (Int.emod_nonneg _ (by omega))
    rw [h1]
    refine ((Cong.mod p _).mul (timesN_prod hp a n)).trans (Cong.of_eq ?_)
    show _ = a ^ (n + 1) * (((n + 1 : Nat) : Int) * factZ n)
    rw [Int.pow_succ]
    have : ((n + 1 : Nat) : Int) = (n : Int) + 1 := by omega
    rw [this]
    simp only [Int.mul_assoc, Int.mul_comm, Int.mul_left_comm]

theorem fact_not {p : Int} (h : okP p = true) : ∀ n : Nat, (n : Int) < p → ¬ Cong p (factZ n) 0
  | 0, _, h1 => by
    have hp := okP_pos h
    have h2 : Cong p 1 0 := h1
    have := Int.le_of_dvd (by decide) h2.dvd
    omega
  | n + 1, hn, h1 => by
    rcases Cong.mul_zero h h1 with h2 | h2
    · rw [Cong.elt_zero (by omega)] at h2; omega
    · exact fact_not h n (by omega) h2

theorem nodup_rev (n : Nat) : (List.range n).reverse.Pairwise fun x y => x ≠ y := by
  rw [List.pairwise_reverse]
  exact (List.nodup_range (n := n)).imp fun h e => h e.symm
theorem fermat {p a : Int} (h : okP p = true) (ha : ¬ Cong p a 0) : Cong p (a ^ (p - 1).toNat) 1 := by
  have hp := okP_pos h
  obtain ⟨n, hn⟩ : ∃ n : Nat, p - 1 = n := ⟨(p - 1).toNat, by omega⟩
  have h1 := timesN_prod (show 2 ≤ p by omega) a n
  have hinj : ∀ i j : Nat, i < n → j < n → (a * ((i : Int) + 1) % p).toNat = (a * ((j : Int) + 1) % p).toNat → i = j := by
    intro i j hi hj e
    have e1 : a * ((i : Int) + 1) % p = a * ((j : Int) + 1) % p := by
      have h2 := Int.emod_nonneg (a * ((i : Int) + 1)) (show p ≠ 0 by omega)
      have h3 := Int.emod_nonneg (a * ((j : Int) + 1)) (show p ≠ 0 by omega)
      omega
    have e2 : Cong p (((i : Int) + 1) * a) (((j : Int) + 1) * a) := by rw [Int.mul_comm _ a, Int.mul_comm _ a]; exact e1
    have e3 := (Cong.cancel h ha e2).eq (by omega) (by omega)
    omega
  have h2 : prodN ((List.range n).reverse.map fun i : Nat => (a * ((i : Int) + 1) % p).toNat) = factZ n := by
    refine prod_range n ?_ ?_ (by simp)
    · rw [List.Nodup, List.pairwise_map]
      refine List.Pairwise.imp_of_mem (R := fun x y => x ≠ y) ?_ (nodup_rev n)
      intro x y hx hy hne e
      rw [List.mem_reverse, List.mem_range] at hx hy
      exact hne (hinj x y hx hy e)
    · intro x hx
      obtain ⟨i, hi, rfl⟩ := List.mem_map.1 hx
      rw [List.mem_reverse, List.mem_range] at hi
      have h3 := Int.emod_nonneg (a * ((i : Int) + 1)) (show p ≠ 0 by omega)
      have h4 := Int.emod_lt_of_pos (a * ((i : Int) + 1)) (show 0 < p by omega)
      have h5 : a * ((i : Int) + 1) % p ≠ 0 := by
        intro e
        have e2 : Cong p (a * ((i : Int) + 1)) 0 := by unfold Cong; rw [e]; simp
        rcases Cong.mul_zero h e2 with e3 | e3
        · exact ha e3
        · rw [Cong.elt_zero (by omega)] at e3; omega
      omega
  rw [h2] at h1
  rw [hn, Int.toNat_natCast]
  have h6 : Cong p (a ^ n * factZ n) (1 * factZ n) := by rw [Int.one_mul]; exact h1.symm
  exact Cong.cancel h (fact_not h n (by omega)) h6

theorem inv_pow {p a : Int} (h : okP p = true) (ha : 0 < a ∧ a < p) : Cong p (a * a ^ (p - 2).toNat) 1 := by
  have hp := okP_pos h
  have h1 := fermat h (a := a) (by rw [Cong.elt_zero (by omega)]; omega)
  have h2 : (p - 1).toNat = (p - 2).toNat + 1 := by omega
  rw [h2, Int.pow_succ, Int.mul_comm] at h1
  exact h1

theorem inv_unique {p a u v : Int} (h : okP p = true) (hu : 0 ≤ u ∧ u < p) (hv : 0 ≤ v ∧ v < p) (h1 : Cong p (a * u) 1) (h2 : Cong p (a * v) 1) : u = v := by
  have ha : ¬ Cong p a 0 := by
    intro h3
    have h4 := (h3.mul (Cong.refl p u)).symm.trans h1
    rw [Int.zero_mul] at h4
    have hp := okP_pos h
    have := (Int.le_of_dvd (by decide) h4.symm.dvd)
    omega
  refine (Cong.cancel h ha (x := u) (y := v) ?_).eq hu hv
  rw [Int.mul_comm u, Int.mul_comm v]
  exact h1.trans h2.symm

end Go.Proofs.YtmcgnpdfpfgfpaaGreatDoor

/-! ColsA -/
namespace Go.Proofs.YtmcgnpdfpfgfpaaGreatDoor
set_option linter.unusedVariables false

/-- A column of some rows. -/
def colP (rows : List (List Int)) (k : Nat) : List Int := rows.map fun r => r.getD k 0
theorem colP_len (rows : List (List Int)) (k : Nat) : (colP rows k).length = rows.length := by simp [colP]
theorem colP_all {p : Int} (rows : List (List Int)) (k w : Nat) (h : ∀ r ∈ rows, allP p r = true ∧ r.length = w) (hk : k < w) : allP p (colP rows k) = true := by
  rw [allP_iff]
  intro x hx
  obtain ⟨r, hr, rfl⟩ := List.mem_map.1 hx
  exact allP_getD (h r hr).1 (by rw [(h r hr).2]; exact hk)

theorem zipI_getD (f : Int → Int → Int) (a b : List Int) (k : Nat) (ha : k < a.length) (hb : k < b.length) : (zipI f a b).getD k 0 = f (a.getD k 0) (b.getD k 0) := by
  unfold zipI
  rw [List.getD_eq_getElem?_getD, List.getElem?_zipWith, List.getElem?_eq_getElem ha, List.getElem?_eq_getElem hb, List.getD_eq_getElem?_getD, List.getElem?_eq_getElem ha, List.getD_eq_getElem?_getD, List.getElem?_eq_getElem hb]
  rfl

theorem combFrom_at (p : Int) (w k : Nat) (hk : k < w) (cs : List Int) : ∀ (rows : List (List Int)) (acc : List Int), (∀ r ∈ rows, r.length = w) → acc.length = w →
    (combFrom p acc cs rows).getD k 0 = (zipI (mulP p) cs (colP rows k)).foldl (addP p) (acc.getD k 0) := by
  induction cs with
  | nil => intro rows acc _ _; cases rows <;> rfl
  | cons c cs ih =>
    intro rows acc h ha
    cases rows with
    | nil => rfl
    | cons r rows =>
      have hr := h r (by simp)
      show (combFrom p (zipI (timesP p c) acc r) cs rows).getD k 0 = _
      rw [ih rows _ (fun r' hr' => h r' (by simp [hr'])) (by rw [zipI_length _ _ _ (by rw [ha, hr]), ha]), zipI_getD _ _ _ _ (by omega) (by omega)]
      rfl

theorem comb_col (p : Int) (cs : List Int) (rows : List (List Int)) (w k : Nat) (h : ∀ r ∈ rows, r.length = w) (hk : k < w) : (combP p cs rows w).getD k 0 = dotP p cs (colP rows k) := by
  unfold combP dotP sumP
  rw [combFrom_at p w k hk cs rows _ h (by simp)]
  congr 1
  simp [List.getD_eq_getElem?_getD, hk]
end Go.Proofs.YtmcgnpdfpfgfpaaGreatDoor

/-! UnitsA -/
namespace Go.Proofs.YtmcgnpdfpfgfpaaGreatDoor
set_option linter.unusedVariables false

/-- A list with a single number. -/
def spikeL (n i : Nat) (v : Int) : List Int := (List.replicate n 0).set i v

theorem spikeL_len (n i : Nat) (v : Int) : (spikeL n i v).length = n := by simp [spikeL]
theorem spikeL_at (n i : Nat) (v : Int) (k : Nat) (hk : k < n) : (spikeL n i v).getD k 0 = if i = k then v else 0 := by
  unfold spikeL
  rw [List.getD_eq_getElem?_getD, List.getElem?_set]
  by_cases h : i = k
  · rw [if_pos h, if_pos h]; simp [h, hk]
  · rw [if_neg h, if_neg h]; simp [hk]

theorem ext_getD {a b : List Int} (h : a.length = b.length) (hk : ∀ k, k < a.length → a.getD k 0 = b.getD k 0) : a = b := by
  apply List.ext_getElem h
  intro i h1 h2
  have := hk i h1
  rwa [List.getD_eq_getElem?_getD, List.getElem?_eq_getElem h1, List.getD_eq_getElem?_getD, List.getElem?_eq_getElem h2] at this

theorem foldl_zeros (p : Int) (hp : 2 ≤ p) (n : Nat) (s : Int) (h0 : 0 ≤ s) (h1 : s < p) : (List.replicate n 0).foldl (addP p) s = s := by
  induction n with
  | zero => rfl
  | succ n ih =>
    rw [List.replicate_succ, List.foldl_cons]
    have : addP p s 0 = s := by unfold addP; rw [Int.add_zero]; exact Int.emod_eq_of_lt h0 h1
    rw [this]; exact ih

theorem sum_spike (p : Int) (hp : 2 ≤ p) (n i : Nat) (v : Int) (hi : i < n) (h0 : 0 ≤ v) (h1 : v < p) : sumP p (spikeL n i v) = v := by
  unfold sumP spikeL
  rw [List.set_eq_take_append_cons_drop, if_pos (by simpa using hi), List.foldl_append, List.foldl_cons, List.take_replicate, List.drop_replicate, foldl_zeros p hp _ 0 (by omega) (by omega)]
  have : addP p 0 v = v := by unfold addP; rw [Int.zero_add]; exact Int.emod_eq_of_lt h0 h1
  rw [this, foldl_zeros p hp _ v h0 h1]

theorem dot_unit_left (p : Int) (hp : 2 ≤ p) (n i : Nat) (l : List Int) (hl : l.length = n) (hi : i < n) (ha : allP p l = true) : dotP p (spikeL n i 1) l = l.getD i 0 := by
  have h := allP_getD ha (k := i) (by omega)
  unfold dotP
  have e : zipI (mulP p) (spikeL n i 1) l = spikeL n i (l.getD i 0) := by
    apply ext_getD
    · rw [zipI_len2 _ _ _ (spikeL_len n i 1) hl, spikeL_len]
    · intro k hk
      rw [zipI_len2 _ _ _ (spikeL_len n i 1) hl] at hk
      rw [zipI_getD _ _ _ _ (by rw [spikeL_len]; exact hk) (by omega), spikeL_at _ _ _ _ hk, spikeL_at _ _ _ _ hk]
      by_cases he : i = k
      · subst he
        rw [if_pos rfl, if_pos rfl]
        unfold mulP; rw [Int.one_mul]; exact Int.emod_eq_of_lt h.1 h.2
      · rw [if_neg he, if_neg he]; unfold mulP; rw [Int.zero_mul]; rfl
  rw [e]; exact sum_spike p hp n i _ hi h.1 h.2

end Go.Proofs.YtmcgnpdfpfgfpaaGreatDoor

/-! LinA -/
namespace Go.Proofs.YtmcgnpdfpfgfpaaGreatDoor
set_option linter.unusedVariables false

/-- A sum over the integers. -/
def sumZ (l : List Int) : Int := l.foldr (· + ·) 0
theorem sumZ_cons (c : Int) (l : List Int) : sumZ (c :: l) = c + sumZ l := rfl

theorem foldl_cong (p : Int) (l : List Int) : ∀ s : Int, Cong p (l.foldl (addP p) s) (s + sumZ l) := by
  induction l with
  | nil => intro s; exact Cong.of_eq (by simp [sumZ])
  | cons c l ih =>
    intro s
    rw [List.foldl_cons, sumZ_cons, ← Int.add_assoc]
    exact (ih _).trans ((Cong.addP p s c).add (Cong.refl _ _))
theorem sumP_cong (p : Int) (l : List Int) : Cong p (sumP p l) (sumZ l) := by
  have := foldl_cong p l 0
  rwa [Int.zero_add] at this

/-- An inner product over the integers. -/
def dotZ (a b : List Int) : Int := sumZ (zipI (· * ·) a b)
theorem dotZ_cons (x y : Int) (a b : List Int) : dotZ (x :: a) (y :: b) = x * y + dotZ a b := rfl
theorem dotZ_nil (b : List Int) : dotZ [] b = 0 := rfl
theorem dotZ_nil2 (a : List Int) : dotZ a [] = 0 := by cases a <;> rfl

theorem dotP_cong (p : Int) (a : List Int) : ∀ b, Cong p (dotP p a b) (dotZ a b) := by
  intro b
  refine (sumP_cong p _).trans ?_
  induction a generalizing b with
  | nil => exact Cong.refl _ _
  | cons x a ih => cases b with
    | nil => exact Cong.refl _ _
    | cons y b => exact (Cong.mulP p x y).add (ih b)

theorem comb_pick (p : Int) (hp : 2 ≤ p) (rows : List (List Int)) (n w i : Nat) (hn : rows.length = n) (hi : i < n) (hr : ∀ r ∈ rows, allP p r = true ∧ r.length = w) : combP p (spikeL n i 1) rows w = rows.getD i [] := by
  have l1 := combP_len p (spikeL n i 1) rows w (fun r h => (hr r h).2)
  have hri := hr _ (getD_mem2 (d := []) (show i < rows.length by omega))
  apply ext_getD (by rw [l1, hri.2])
  intro k hk
  rw [l1] at hk
  rw [comb_col p _ rows w k (fun r h => (hr r h).2) hk, dot_unit_left p hp n i _ (by rw [colP_len, hn]) hi (colP_all rows k w hr hk)]
  simp only [colP, List.getD_eq_getElem?_getD, List.getElem?_map]
  rw [List.getElem?_eq_getElem (by omega)]; rfl
end Go.Proofs.YtmcgnpdfpfgfpaaGreatDoor

/-! FitsA -/
namespace Go.Proofs.YtmcgnpdfpfgfpaaGreatDoor
set_option linter.unusedVariables false

theorem polyZ_times (p pt c : Int) (l : List Int) : ∀ acc : List Int, acc.length = l.length → Cong p (polyZ pt (zipI (timesP p c) acc l)) (polyZ pt acc + c * polyZ pt l) := by
  induction l with
  | nil => intro acc h; cases acc with
    | nil => exact Cong.of_eq (by simp [polyZ, zipI])
    | cons _ _ => simp at h
  | cons y l ih =>
    intro acc h
    cases acc with
    | nil => simp at h
    | cons a acc =>
      have e : zipI (timesP p c) (a :: acc) (y :: l) = timesP p c a y :: zipI (timesP p c) acc l := rfl
      rw [e, polyZ_cons, polyZ_cons, polyZ_cons]
      have h1 : Cong p (timesP p c a y) (a + c * y) := (Cong.addP p a (mulP p c y)).trans ((Cong.refl p a).add (Cong.mulP p c y))
      exact (((ih acc (by simpa using h)).mul (Cong.refl p pt)).add h1).trans (Cong.of_eq (by grind))

theorem polyZ_comb (p pt : Int) (w : Nat) (cs : List Int) : ∀ (rows : List (List Int)) (acc : List Int), (∀ r ∈ rows, r.length = w) → acc.length = w →
    Cong p (polyZ pt (combFrom p acc cs rows)) (polyZ pt acc + dotZ cs (rows.map (polyZ pt))) := by
  induction cs with
  | nil => intro rows acc _ _; cases rows <;> exact Cong.of_eq (by simp [combFrom, dotZ_nil])
  | cons c cs ih =>
    intro rows acc h ha
    cases rows with
    | nil => exact Cong.of_eq (by simp [combFrom, dotZ_nil2])
    | cons r rows =>
      have hr := h r (by simp)
      show Cong p (polyZ pt (combFrom p (zipI (timesP p c) acc r) cs rows)) _
      rw [List.map_cons, dotZ_cons]
      have h1 := ih rows (zipI (timesP p c) acc r) (fun r' h' => h r' (by simp [h'])) (by rw [zipI_length _ _ _ (by rw [ha, hr]), ha])
      have h2 := (polyZ_times p pt c r acc (by rw [ha, hr])).add (Cong.refl p (dotZ cs (rows.map (polyZ pt))))
      exact (h1.trans h2).trans (Cong.of_eq (by grind))

theorem polyZ_zeros (pt : Int) (w : Nat) : polyZ pt (List.replicate w 0) = 0 := by
  induction w with
  | zero => rfl
  | succ w ih => rw [List.replicate_succ, polyZ_cons, ih]; simp

theorem dotZ_cong {p : Int} (a : List Int) : ∀ b c : List Int, b.length = c.length → (∀ i, i < b.length → Cong p (b.getD i 0) (c.getD i 0)) → Cong p (dotZ a b) (dotZ a c) := by
  induction a with
  | nil => intro b c _ _; exact Cong.refl _ _
  | cons x a ih =>
    intro b c h hc
    cases b with
    | nil => cases c with
      | nil => exact Cong.refl _ _
      | cons _ _ => simp at h
    | cons y b =>
      cases c with
      | nil => simp at h
      | cons z c =>
        rw [dotZ_cons, dotZ_cons]
        have h0 := hc 0 (by simp)
        simp at h0
        exact ((Cong.refl p x).mul h0).add (ih b c (by simpa using h) (fun i hi => by have := hc (i + 1) (by simp; omega); simpa using this))

/-- The right answer fits. -/
theorem fits_right (p pt : Int) (hp : 2 ≤ p) (q : List Int) (rows : List (List Int)) (w : Nat) (h : ∀ r ∈ rows, r.length = w) : valueP p pt (combP p q rows w) = dotP p q (rows.map (valueP p pt)) := by
  refine Cong.eq ?_ (valueP_in hp _ _) (dotP_in hp _ _)
  refine (valueP_cong p pt _).trans ?_
  have h1 := polyZ_comb p pt w q rows (List.replicate w 0) h (by simp)
  rw [polyZ_zeros, Int.zero_add] at h1
  refine h1.trans (Cong.symm ((dotP_cong p q _).trans ?_))
  refine dotZ_cong q _ _ (by simp) (fun i hi => ?_)
  have hi' : i < rows.length := by simpa using hi
  simp only [List.getD_eq_getElem?_getD, List.getElem?_map, List.getElem?_eq_getElem hi', Option.map_some, Option.getD_some]
  exact valueP_cong p pt _

end Go.Proofs.YtmcgnpdfpfgfpaaGreatDoor

/-! CrvA -/
namespace Go.Proofs.YtmcgnpdfpfgfpaaGreatDoor
set_option linter.unusedVariables false

theorem dot_comm (p : Int) (a b : List Int) : dotP p a b = dotP p b a := by
  unfold dotP zipI
  rw [List.zipWith_comm (f := mulP p)]
  congr 1
  congr 1
  funext x y
  unfold mulP
  rw [Int.mul_comm]

/-- The polynomial of one element of the queries: 1 or 0, and what was drawn for it. -/
def cvF (i d : Nat) (ds : List Int) (j : Nat) : List Int := (if j = i then 1 else 0) :: (ds.drop (j * d)).take d
def cvFs (n i d : Nat) (ds : List Int) : List (List Int) := (List.range n).map (cvF i d ds)
/-- The query at a point. -/
def cvQ (p : Int) (n i d : Nat) (ds : List Int) (x : Int) : List Int := (cvFs n i d ds).map (valueP p x)
/-- The polynomial of a column of the answers. -/
def cvP (p : Int) (n i d : Nat) (ds : List Int) (rows : List (List Int)) (c : Nat) : List Int := combP p (colP rows c) (cvFs n i d ds) (d + 1)

theorem cvQ_len (p : Int) (n i d : Nat) (ds : List Int) (x : Int) : (cvQ p n i d ds x).length = n := by simp [cvQ, cvFs]
theorem cvF_len {n i d : Nat} {ds : List Int} (h : ds.length = n * d) {j : Nat} (hj : j < n) : (cvF i d ds j).length = d + 1 := by
  have h1 : (j + 1) * d ≤ n * d := Nat.mul_le_mul_right d hj
  rw [Nat.add_one_mul] at h1
  simp [cvF, h]
  omega
theorem cvFs_mem {n i d : Nat} {ds : List Int} (h : ds.length = n * d) : ∀ F ∈ cvFs n i d ds, F.length = d + 1 := fun F hF => by
  obtain ⟨j, hj, rfl⟩ := List.mem_map.1 hF
  exact cvF_len h (List.mem_range.1 hj)
theorem cvQ_all {p : Int} (hp : 2 ≤ p) (n i d : Nat) (ds : List Int) (x : Int) : allP p (cvQ p n i d ds x) = true := allP_iff.2 fun y hy => by
  obtain ⟨F, _, rfl⟩ := List.mem_map.1 hy
  exact valueP_in hp x F
theorem cvP_len {p : Int} {n i d : Nat} {ds : List Int} (rows : List (List Int)) (c : Nat) (h : ds.length = n * d) : (cvP p n i d ds rows c).length = d + 1 := combP_len p _ _ _ (cvFs_mem h)
theorem cvP_all {p : Int} (hp : 2 ≤ p) (n i d : Nat) (ds : List Int) (rows : List (List Int)) (c : Nat) : allP p (cvP p n i d ds rows c) = true := combP_all hp _ _ _
theorem cvFs_col0 (n i d : Nat) (ds : List Int) : colP (cvFs n i d ds) 0 = spikeL n i 1 := by
  apply List.ext_getElem?
  intro k
  by_cases hk : k < n
  · have h1 : (spikeL n i 1).length = n := spikeL_len n i 1
    have h2 := spikeL_at n i 1 k hk
    rw [List.getD_eq_getElem?_getD, List.getElem?_eq_getElem (by omega)] at h2
    rw [List.getElem?_eq_getElem (by omega : k < (spikeL n i 1).length)]
    have h3 : (spikeL n i 1)[k] = if i = k then 1 else 0 := h2
    simp only [colP, cvFs, List.getElem?_map, List.getElem?_range hk, Option.map_some]
    rw [h3]
    simp [cvF, eq_comm]
  · rw [List.getElem?_eq_none (by simp [colP, cvFs]; omega), List.getElem?_eq_none (by rw [spikeL_len]; omega)]

/-- What is answered at a point. -/
theorem cv_answer {p : Int} (hp : 2 ≤ p) {n i d w c : Nat} {ds : List Int} {rows : List (List Int)} (hds : ds.length = n * d) (hw : ∀ r ∈ rows, r.length = w) (hc : c < w) (x : Int) :
    (combP p (cvQ p n i d ds x) rows w).getD c 0 = valueP p x (cvP p n i d ds rows c) := by
  rw [comb_col p _ rows w c hw hc, cvP, fits_right p x hp (colP rows c) (cvFs n i d ds) (d + 1) (cvFs_mem hds), dot_comm]
  rfl
/-- Its first coefficient. -/
theorem cv_zero {p : Int} (hp : 2 ≤ p) {n i d w c : Nat} {ds : List Int} {rows : List (List Int)} (hds : ds.length = n * d) (hn : rows.length = n) (hi : i < n) (hr : ∀ r ∈ rows, allP p r = true ∧ r.length = w) (hc : c < w) :
    cf (cvP p n i d ds rows c) 0 = (rows.getD i []).getD c 0 := by
  have h1 := comb_pick p hp rows n w i hn hi hr
  have h2 := comb_col p (spikeL n i 1) rows w c (fun r h => (hr r h).2) hc
  rw [h1] at h2
  rw [h2, cf, cvP, comb_col p _ (cvFs n i d ds) (d + 1) 0 (cvFs_mem hds) (by omega), cvFs_col0, dot_comm]
/-- The queries half made: j elements of each, one more of the first k. -/
def qM (p : Int) (i d S : Nat) (ds : List Int) (j k : Nat) : List (List Int) := (List.range S).map fun s => (List.range (if s < k then j + 1 else j)).map fun t => valueP p ((s : Int) + 1) (cvF i d ds t)
theorem qM_len (p : Int) (i d S : Nat) (ds : List Int) (j k : Nat) : (qM p i d S ds j k).length = S := by simp [qM]
theorem qM_row (p : Int) (i d S : Nat) (ds : List Int) (j k : Nat) {s : Nat} (hs : s < S) : (qM p i d S ds j k).getD s [] = (List.range (if s < k then j + 1 else j)).map fun t => valueP p ((s : Int) + 1) (cvF i d ds t) := by
  unfold qM
  rw [List.getD_eq_getElem?_getD, List.getElem?_map, List.getElem?_range hs]; rfl
theorem qM_row_len (p : Int) (i d S : Nat) (ds : List Int) (j k : Nat) {s : Nat} (hs : s < S) : ((qM p i d S ds j k).getD s []).length = if s < k then j + 1 else j := by rw [qM_row p i d S ds j k hs]; simp
theorem qM_zero (p : Int) (i d S : Nat) (ds : List Int) : qM p i d S ds 0 0 = List.replicate S [] := by
  unfold qM
  simp [List.map_const']
theorem qM_set (p : Int) (i d S : Nat) (ds : List Int) (j k : Nat) (hk : k < S) :
    (qM p i d S ds j k).set k ((qM p i d S ds j k).getD k [] ++ [valueP p ((k : Int) + 1) (cvF i d ds j)]) = qM p i d S ds j (k + 1) := by
  apply List.ext_getElem?
  intro s
  rw [List.getElem?_set, qM_row p i d S ds j k hk, qM_len]
  by_cases hs : s < S
  · unfold qM
    rw [List.getElem?_map, List.getElem?_range hs, List.getElem?_map, List.getElem?_range hs]
    by_cases h : k = s
    · subst h
      rw [if_pos rfl, if_pos hs]
      simp [List.range_succ]
    · rw [if_neg h]
      by_cases h2 : s < k
      · simp [h2, show s < k + 1 by omega]
      · simp [h2, show ¬ s < k + 1 by omega]
  · by_cases h : k = s
    · omega
    · rw [if_neg h, List.getElem?_eq_none (by rw [qM_len]; omega), List.getElem?_eq_none (by rw [qM_len]; omega)]
theorem qM_next (p : Int) (i d S : Nat) (ds : List Int) (j : Nat) : qM p i d S ds j S = qM p i d S ds (j + 1) 0 := by
  unfold qM
  apply List.map_congr_left
  intro s hs
  rw [if_pos (List.mem_range.1 hs), if_neg (by omega)]
theorem qM_done (p : Int) (n i d S : Nat) (ds : List Int) : qM p i d S ds n 0 = (List.range S).map fun s : Nat => cvQ p n i d ds ((s : Int) + 1) := by
  unfold qM cvQ cvFs
  apply List.map_congr_left
  intro s _
  rw [if_neg (by omega), List.map_map]
  rfl
end Go.Proofs.YtmcgnpdfpfgfpaaGreatDoor

/-! TapeA -/
namespace Go.Proofs.YtmcgnpdfpfgfpaaGreatDoor
set_option linter.unusedVariables false

def limT (n : Int) : Bool := decide (1 ≤ n ∧ n ≤ 2147483647)
def validT (m : Nat) (a : Int) : Bool := decide (m ≤ 16384 ∧ 0 ≤ a ∧ a ≤ m)
/-- The error of drawing one number below n at place a. -/
def nextE (xs : List Int) (n : Int) (a : Nat) : Int := if a = xs.length then 3 else if xs.getD a 0 < 0 ∨ n ≤ xs.getD a 0 then 8 else 0
def nextV (xs : List Int) (n : Int) (a : Nat) : Int := if nextE xs n a = 0 then xs.getD a 0 else 0
/-- The error of drawing some numbers. -/
def drawE (xs : List Int) (n : Int) : Nat → Nat → Int
  | _, 0 => 0
  | a, k + 1 => if nextE xs n a = 0 then drawE xs n (a + 1) k else nextE xs n a
/-- The error of Draws. -/
def drawsE (xs : List Int) (m : Nat) (a n count : Int) : Int := if validT m a = false then 2 else if limT n = false ∨ count < 0 then 1 else drawE xs n a.toNat count.toNat

theorem drawE_ok {xs : List Int} {n : Int} : ∀ (k a : Nat), a ≤ xs.length → (drawE xs n a k = 0 ↔ a + k ≤ xs.length ∧ ∀ j, a ≤ j → j < a + k → 0 ≤ xs.getD j 0 ∧ xs.getD j 0 < n) := by
  intro k
  induction k with
  | zero => intro a ha; simp only [drawE, true_iff]; exact ⟨by omega, fun j _ _ => by omega⟩
  | succ k ih =>
    intro a ha
    simp only [drawE]
    by_cases hl : a = xs.length
    · have : nextE xs n a = 3 := by unfold nextE; rw [if_pos hl]
      rw [this]; simp; omega
    · by_cases hb : xs.getD a 0 < 0 ∨ n ≤ xs.getD a 0
      · have : nextE xs n a = 8 := by unfold nextE; rw [if_neg hl, if_pos hb]
        rw [this]
        constructor
        · intro h; simp at h
        · intro h; have := h.2 a (Nat.le_refl _) (by omega); omega
      · have : nextE xs n a = 0 := by unfold nextE; rw [if_neg hl, if_neg hb]
        rw [if_pos this, ih (a + 1) (by omega)]
        constructor
        · intro h
          refine ⟨by omega, fun j h1 h2 => ?_⟩
          by_cases hj : j = a
          · rw [hj]; omega
          · exact h.2 j (by omega) (by omega)
        · intro h
          exact ⟨by omega, fun j h1 h2 => h.2 j (by omega) (by omega)⟩

theorem nextE_cases (xs : List Int) (n : Int) (a : Nat) : nextE xs n a = 0 ∨ nextE xs n a = 3 ∨ nextE xs n a = 8 := by
  unfold nextE; split <;> (try split) <;> simp
theorem drawE_step (xs : List Int) (n : Int) (a : Nat) {k c : Nat} (hk : k < c) : drawE xs n (a + k) (c - k) = if nextE xs n (a + k) = 0 then drawE xs n (a + (k + 1)) (c - (k + 1)) else nextE xs n (a + k) := by
  obtain ⟨d, hd⟩ : ∃ d, c - k = d + 1 := ⟨c - k - 1, by omega⟩
  rw [hd, show c - (k + 1) = d by omega]; rfl
theorem drop_take_succ (xs : List Int) (a k : Nat) (h : a + k < xs.length) : (xs.drop a).take (k + 1) = (xs.drop a).take k ++ [xs.getD (a + k) 0] := by
  rw [List.take_add_one, List.getElem?_drop, List.getD_eq_getElem?_getD, List.getElem?_eq_getElem h]; rfl
end Go.Proofs.YtmcgnpdfpfgfpaaGreatDoor

/-! LstA -/
namespace Go.Proofs.YtmcgnpdfpfgfpaaGreatDoor
set_option linter.unusedVariables false

section
variable {p : Int} {vs : List Int} {bs : List Bool} {k agree : Nat} {us ys : List Int}
end
end Go.Proofs.YtmcgnpdfpfgfpaaGreatDoor

/-! DigA -/
namespace Go.Proofs.YtmcgnpdfpfgfpaaGreatDoor

/-- One step of a digest. -/
def dStep (d m : Int) : Int := (d * 1000003 + m + 1) % 2147483647

theorem dStep_bd (d m : Int) : 0 ≤ dStep d m ∧ dStep d m < 2147483647 := by unfold dStep; omega

/-- A digest that goes on from d over elements that are already reduced. -/
def dFold (d : Int) (l : List Int) : Int := l.foldl dStep d

theorem dFold_snoc (d : Int) (l : List Int) (x : Int) : dFold d (l ++ [x]) = dStep (dFold d l) x := by simp [dFold, List.foldl_append]
theorem dFold_bd (l : List Int) : ∀ d : Int, 0 ≤ d → d < 2147483647 → 0 ≤ dFold d l ∧ dFold d l < 2147483647 := by
  induction l with
  | nil => intro d h0 h1; exact ⟨h0, h1⟩
  | cons x l ih => intro d _ _; exact ih _ (dStep_bd d x).1 (dStep_bd d x).2

/-- The digest of a text. -/
def byteNums (l : List UInt8) : List Int := l.map fun b => (b.toNat : Int)
def dSum (l : List UInt8) : Int := dFold 1 (byteNums l)

theorem dSum_snocFold (d : Int) (l : List UInt8) (b : UInt8) : dFold d (byteNums (l ++ [b])) = dStep (dFold d (byteNums l)) (b.toNat : Int) := by simp [dFold_snoc, byteNums]

end Go.Proofs.YtmcgnpdfpfgfpaaGreatDoor
