/-
  The plain lemmas of the claim, no program in sight: elements of a field, polynomials, lists, memory. No conditions.
-/
import Derived.WalkKit
import Derived.Below
import Derived.Laws.OwnMore
import Derived.Laws.Rows
import Derived.Deep.AppendLies
import Derived.Deep.Draws
import Derived.Maps.AppendAt
import Derived.RegionTactic
import Derived.OwnWalk
import Derived.Deep.QuietTactic
import Derived.ArgAppend
import Derived.Deep.RegionLaw
import Derived.BigFrame
import Derived.Maps.OwnSet
import Derived.Maps.OwnOps
import Derived.Maps.Views
/-! Mem -/
namespace Go.Proofs.Ytgboojmoplcpdaa
open Go.RowKit
set_option linter.unusedVariables false

theorem block_of_add (a : Addr) (n : Nat) : (a.add n).block = a.block := by unfold Addr.add; split <;> rfl
theorem add_of_add (a : Addr) (i j : Nat) : (a.add i).add j = a.add (i + j) := by
  unfold Addr.add
  by_cases hi : i = 0 <;> by_cases hj : j = 0 <;> simp [hi, hj, Nat.add_assoc]

def Reads (w : World) (B size : Nat) (A : Option Addr) (n : Nat) (xs : List Value) : Prop :=
  xs.length = n * size ∧ (0 < n → ∃ ad, A = some ad ∧ ad.block < B ∧ ∀ j u, xs[j]? = some u → w.cell? (ad.add j) = some u)

section
variable {w w' : World} {B B' size n : Nat} {A : Option Addr} {xs : List Value}
theorem Reads.none_ : Reads w B size A 0 [] := ⟨by simp, fun h => absurd h (by omega)⟩
theorem Reads.at_ {k : Nat} (h : Reads w B 1 A n xs) (hk : k < n) : ∃ ad u, A = some ad ∧ ad.block < B ∧ xs[k]? = some u ∧ w.cell? (ad.add k) = some u := by
  obtain ⟨ad, e, hb, hc⟩ := h.2 (by omega)
  have hl : k < xs.length := by have := h.1; omega
  exact ⟨ad, xs[k], e, hb, List.getElem?_eq_getElem hl, hc k _ (List.getElem?_eq_getElem hl)⟩
theorem Reads.keep (h : Reads w B size A n xs) (hk : ∀ p : Addr, p.block < B → w'.cell? p = w.cell? p) : Reads w' B size A n xs :=
  ⟨h.1, fun hn => by
    obtain ⟨ad, e, hb, hc⟩ := h.2 hn
    exact ⟨ad, e, hb, fun j u hu => (hk _ (by rw [block_of_add]; exact hb)).trans (hc j u hu)⟩⟩
theorem Reads.more (h : Reads w B size A n xs) (hB : B ≤ B') : Reads w B' size A n xs :=
  ⟨h.1, fun hn => by
    obtain ⟨ad, e, hb, hc⟩ := h.2 hn
    exact ⟨ad, e, by omega, hc⟩⟩
theorem Reads.below (h : Reads w B size A n xs) (hb : Below B w w') : Reads w' B size A n xs := h.keep fun _ hp => hb.cell hp
theorem Reads.drew (h : Reads w B size A n xs) : Reads w.drew B size A n xs := h
theorem Reads.drewN (h : Reads w B size A n xs) (k : Nat) : Reads (w.drewN k) B size A n xs := h
theorem Reads.alloc (h : Reads w B size A n xs) (hB : B ≤ w.heap.size) (o : Obj) : Reads (w.alloc o) B size A n xs := h.keep fun p hp => World.cell?_alloc_lt w o p (by omega)
theorem Reads.setCell (h : Reads w B size A n xs) {p : Addr} (hB : B ≤ p.block) (u : Value) : Reads (w.setCell p u) B size A n xs :=
  h.keep fun q hq => World.cell?_setCell_other w p q u (fun e => by subst e; omega)
theorem Reads.grown (h : Reads w B size A n xs) {row : Option Nat} (hg : w.grownBy w' row) (hB : B ≤ w.heap.size) (hr : ∀ g, row = some g → B ≤ g) : Reads w' B size A n xs :=
  h.keep fun p hp => World.cell?_of_block (hg.block p.block (by omega) (fun e => by have := hr _ e.symm; omega))
theorem Reads.cut (h : Reads w B size A n xs) {k cap : Nat} (hk : k ≤ n) (hc : n ≤ cap) :
    Reads w B size (if cap = k then A else A.map (·.add (k * size))) (n - k) (xs.drop (k * size)) := by
  refine ⟨by rw [List.length_drop, h.1, Nat.sub_mul], fun hn => ?_⟩
  obtain ⟨ad, rfl, hb, hcell⟩ := h.2 (by omega)
  rw [if_neg (by omega)]
  refine ⟨ad.add (k * size), rfl, by rw [block_of_add]; exact hb, fun j u hu => ?_⟩
  rw [add_of_add]
  exact hcell _ u (by rw [← hu, List.getElem?_drop])
theorem Reads.of_own {base : Nat} {e : TypeId} {c : Nat} (h : w.ownsRow base e size (.slice A n c) n xs) : Reads w w.heap.size size A n xs := by
  refine ⟨h.1, fun hn => ?_⟩
  obtain ⟨g, cap, hv, _, hlt⟩ := h.form hn
  have hA : A = some ⟨g, 0, none⟩ := by injection hv
  subst hA
  exact ⟨_, rfl, hlt, h.cells (g := g) rfl⟩
end

def Blk (w : World) (g : Nat) (t : TypeId) (cs : Array Value) : Prop := w.heap[g]? = some (.cells cs t (0, 0))

section
variable {w w' : World} {g : Nat} {t : TypeId} {cs : Array Value}
theorem Blk.lt (h : Blk w g t cs) : g < w.heap.size := by
  rcases Nat.lt_or_ge g w.heap.size with hlt | hge
  · exact hlt
  · unfold Blk at h; rw [Array.getElem?_eq_none hge] at h; cases h
theorem Blk.cell (h : Blk w g t cs) (i : Nat) : w.cell? ⟨g, i, none⟩ = cs[i]? := cell_of_row w g i cs t (0, 0) h
theorem Blk.frozen (h : Blk w g t cs) (i : Nat) : w.frozen? ⟨g, i, none⟩ = false := by
  unfold Blk at h
  simp [World.frozen?, h]
theorem Blk.new (w : World) (t : TypeId) (cs : Array Value) : Blk (w.alloc (.cells cs t)) w.heap.size t cs := heap_alloc_new w _
theorem Blk.drew (h : Blk w g t cs) : Blk w.drew g t cs := h
theorem Blk.drewN (h : Blk w g t cs) (n : Nat) : Blk (w.drewN n) g t cs := h
theorem Blk.alloc (h : Blk w g t cs) (o : Obj) : Blk (w.alloc o) g t cs := (Below.heap_alloc w o g h.lt).trans h
theorem Blk.set_ (h : Blk w g t cs) (i : Nat) (u : Value) : Blk (w.setCell ⟨g, i, none⟩ u) g t (cs.setIfInBounds i u) := by
  unfold Blk at h ⊢
  simp [World.setCell, Array.getElem?_modify, h]
theorem Blk.far (h : Blk w g t cs) {p : Addr} (hp : g ≠ p.block) (u : Value) : Blk (w.setCell p u) g t cs := (Below.heap_setCell w p u g hp).trans h
theorem Blk.below {B : Nat} (h : Blk w g t cs) (hb : Below B w w') (hg : g < B) : Blk w' g t cs := (hb.block g hg).trans h
theorem Blk.grown {row : Option Nat} (h : Blk w g t cs) (hb : w.grownBy w' row) (hg : some g ≠ row) : Blk w' g t cs := (hb.block g h.lt hg).trans h
theorem Blk.ne_ {g' : Nat} {t' : TypeId} {cs' : Array Value} (h : Blk w g t cs) (h' : Blk w g' t' cs') (hne : t ≠ t') : g ≠ g' := by
  rintro rfl
  unfold Blk at h h'
  rw [h] at h'
  injection h' with h'
  injection h' with _ ht
  exact hne ht
theorem own_blk_ne {base : Nat} {e : TypeId} {size n : Nat} {v : Value} {xs : List Value} (h : w.ownsRow base e size v n xs) (hg : Blk w g t cs) (hne : e ≠ t) : v.ownBlock ≠ some g := by
  rcases h.2 with ⟨rfl, _⟩ | ⟨g', cap, cur, rfl, _, hh, _⟩
  · simp [Value.ownBlock]
  · intro he
    have : g' = g := by simpa [Value.ownBlock] using he
    subst this
    exact Blk.ne_ (t := e) hh hg hne rfl
end

section
variable {P : Program} (w : World)

theorem run_append_of_nil (base : Nat) (t ty e : TypeId) (i : TypeInfo) (size : Nat) (ht : P.underlying t = some (.slice e)) (hi : P.info? e = some i)
    (v : Value) (n : Nat) (xs : List Value) (hown : w.ownsRow base e size v n xs) (c : Nat) : (Builtin.append_ #[t, t] ty #[v, .slice none 0 c]).run P w = .ok v w := by
  rcases hown.2 with ⟨rfl, rfl⟩ | ⟨g, cap, cur, rfl, _, _, hnc, _⟩
  · simp [Builtin.append_, run_underlying ht, sizeOf, typeInfo, hi, Builtin.lenOf, Builtin.firstCells]
  · simp [Builtin.append_, run_underlying ht, sizeOf, typeInfo, hi, Builtin.lenOf, Builtin.firstCells, hnc, storeCells]

theorem run_append_any (base : Nat) (t ty e : TypeId) (i : TypeInfo) (z : Value) (size bytes : Nat) (ht : P.underlying t = some (.slice e)) (hi : P.info? e = some i) (hz : i.zero = some z)
    (hsize : i.size = size) (hby : i.bytes = bytes) (hzs : z.cells.size = size) (hsz : 0 < size)
    (v : Value) (n : Nat) (xs : List Value) (hown : w.ownsRow base e size v n xs)
    (B : Nat) (A : Option Addr) (m c : Nat) (news : List Value) (hr : Reads w B size A m news) (h1 : ∀ u ∈ news, u.oneCell' = true)
    (h63 : n + m ≤ maxLen) (hbytes : (n + m) * bytes ≤ 140737488355328) (hbase : base ≤ w.heap.size) :
    ∃ v' w', (Builtin.append_ #[t, t] ty #[v, .slice A m c]).run P w = .ok v' w' ∧ w'.ownsRow base e size v' (n + m) (xs ++ news) ∧ w.grownBy w' v.ownBlock ∧
      (v'.ownBlock = v.ownBlock ∨ v'.ownBlock = some w.heap.size) := by
  rcases A with _ | ad
  · have hm : m = 0 := by
      rcases Nat.eq_zero_or_pos m with h0 | h0
      · exact h0
      · obtain ⟨ad, h, _⟩ := hr.2 h0
        cases h
    subst hm
    have hn : news = [] := List.eq_nil_of_length_eq_zero (by simpa using hr.1)
    subst hn
    exact ⟨v, w, run_append_of_nil w base t ty e i size ht hi v n xs hown c, by simpa using hown, World.grownBy.refl w _, .inl rfl⟩
  · have hcells : ∀ j u, news[j]? = some u → w.cell? (ad.add j) = some u := by
      intro j u hu
      rcases Nat.eq_zero_or_pos m with h0 | h0
      · subst h0
        have hn : news = [] := List.eq_nil_of_length_eq_zero (by simpa using hr.1)
        subst hn
        simp at hu
      · obtain ⟨ad', h, _, hc⟩ := hr.2 h0
        injection h with h
        subst h
        exact hc j u hu
    obtain ⟨v', w', hrun, h2, h3, _, h5⟩ := run_append_own_at (P := P) w base t ty e i z size bytes ht hi hz hsize hby hzs hsz v n xs hown ad m c news hr.1 hcells h1 h63 hbytes hbase
    exact ⟨v', w', hrun, h2, h3, h5⟩

theorem wp_append_any {o : Oper} {a : Act} {K : Act → World → Prop} {Q : Exit → Act → World → Prop} (s x : Operand) (t : TypeId)
    (ho : o.op = .call { callee := .builtin .append, args := #[s, x], argTypes := #[t, t] })
    (base : Nat) (e : TypeId) (i : TypeInfo) (z : Value) (size bytes : Nat) (ht : P.underlying t = some (.slice e)) (hi : P.info? e = some i) (hz : i.zero = some z)
    (hsize : i.size = size) (hby : i.bytes = bytes) (hzs : z.cells.size = size) (hsz : 0 < size)
    (v : Value) (n : Nat) (xs : List Value) (hs : a.eval s = v) (hown : w.ownsRow base e size v n xs)
    (B : Nat) (A : Option Addr) (m c : Nat) (news : List Value) (hx : a.eval x = .slice A m c) (hr : Reads w B size A m news) (h1 : ∀ u ∈ news, u.oneCell' = true)
    (h63 : n + m ≤ maxLen) (hbytes : (n + m) * bytes ≤ 140737488355328) (hbase : base ≤ w.heap.size)
    (h : ∀ v' w', w'.ownsRow base e size v' (n + m) (xs ++ news) → w.grownBy w' v.ownBlock → (v'.ownBlock = v.ownBlock ∨ v'.ownBlock = some w.heap.size) → K (a.put o.dst v') w') : o.wp P a w K Q := by
  obtain ⟨v', w', hrun, h2, h3, h4⟩ := run_append_any (P := P) w base t o.type e i z size bytes ht hi hz hsize hby hzs hsz v n xs hown B A m c news hr h1 h63 hbytes hbase
  unfold Oper.wp execOp
  simp only [ho, resolve, invoke, builtin, Sem.run_bind, Sem.run_pure, Result.andThen_ok, List.map_toArray, List.map_cons, List.map_nil, hs, hx, hrun]
  exact h v' w' h2 h3 h4

theorem wpList_append_any {ops : Array Oper} {rest : List Oper} {o : Oper} {a : Act} {Q : Exit → Act → World → Prop} (hgd : o.guard = none) (s x : Operand) (t : TypeId)
    (ho : o.op = .call { callee := .builtin .append, args := #[s, x], argTypes := #[t, t] })
    (base : Nat) (e : TypeId) (i : TypeInfo) (z : Value) (size bytes : Nat) (ht : P.underlying t = some (.slice e)) (hi : P.info? e = some i) (hz : i.zero = some z)
    (hsize : i.size = size) (hby : i.bytes = bytes) (hzs : z.cells.size = size) (hsz : 0 < size)
    (v : Value) (n : Nat) (xs : List Value) (hs : a.eval s = v) (hown : w.ownsRow base e size v n xs)
    (B : Nat) (A : Option Addr) (m c : Nat) (news : List Value) (hx : a.eval x = .slice A m c) (hr : Reads w B size A m news) (h1 : ∀ u ∈ news, u.oneCell' = true)
    (h63 : n + m ≤ maxLen) (hbytes : (n + m) * bytes ≤ 140737488355328) (hbase : base ≤ w.heap.size)
    (h : ∀ v' w', w'.ownsRow base e size v' (n + m) (xs ++ news) → w.grownBy w' v.ownBlock → (v'.ownBlock = v.ownBlock ∨ v'.ownBlock = some w.heap.size) → wpList P ops Q rest (a.put o.dst v') w') : wpList P ops Q (o :: rest) a w :=
  wpList_plain hgd fun _ hK => wp_append_any w s x t ho base e i z size bytes ht hi hz hsize hby hzs hsz v n xs hs hown B A m c news hx hr h1 h63 hbytes hbase fun v' w' h2 h3 h4 => hK _ _ (h v' w' h2 h3 h4)

theorem step_append_any {ops : Array Oper} {o : Oper} {a : Act} {K : Act → World → Prop} {Q : Exit → Act → World → Prop} {E : Prop} (hgd : o.guard = none) (s x : Operand) (t : TypeId)
    (ho : o.op = .call { callee := .builtin .append, args := #[s, x], argTypes := #[t, t] })
    (base : Nat) (e : TypeId) (i : TypeInfo) (z : Value) (size bytes : Nat) (ht : P.underlying t = some (.slice e)) (hi : P.info? e = some i) (hz : i.zero = some z)
    (hsize : i.size = size) (hby : i.bytes = bytes) (hzs : z.cells.size = size) (hsz : 0 < size)
    (v : Value) (n : Nat) (xs : List Value) (hs : a.eval s = v) (hown : w.ownsRow base e size v n xs)
    (B : Nat) (A : Option Addr) (m c : Nat) (news : List Value) (hx : a.eval x = .slice A m c) (hr : Reads w B size A m news) (h1 : ∀ u ∈ news, u.oneCell' = true)
    (h63 : n + m ≤ maxLen) (hbytes : (n + m) * bytes ≤ 140737488355328) (hbase : base ≤ w.heap.size)
    (h : ∀ v' w', w'.ownsRow base e size v' (n + m) (xs ++ news) → w.grownBy w' v.ownBlock → (v'.ownBlock = v.ownBlock ∨ v'.ownBlock = some w.heap.size) → K (a.put o.dst v') w') :
    if Region.wanted o (yielded ops a.tmps) = true then Oper.wp P o a w K Q else E := by
  have hw : Region.wanted o (yielded ops a.tmps) = true := by simp [Region.wanted, hgd]
  rw [if_pos hw]
  exact wp_append_any w s x t ho base e i z size bytes ht hi hz hsize hby hzs hsz v n xs hs hown B A m c news hx hr h1 h63 hbytes hbase h
end

theorem quiet_add {P : Program} {f : FuncId} {args : Array Value} {w : World} {a n : Nat} {v : Value}
    (h : Calls P f args (w.drewN (a + n)) fun e w' => e = .returned v ∧ ∃ m, w' = (w.drewN (a + n)).drewN m) :
    Calls P f args (w.drewN (a + n)) fun e w'' => e = .returned v ∧ ∃ m, w'' = w.drewN (a + m) :=
  h.mono fun _ _ ⟨he, m, hm⟩ => ⟨he, n + m, by rw [hm, World.drewN_drewN, Nat.add_assoc]⟩
theorem quiet_add_same {P : Program} {f : FuncId} {args : Array Value} {w : World} {a n : Nat} {v : Value}
    (h : Calls P f args (w.drewN (a + n)) fun e w' => e = .returned v ∧ w' = w.drewN (a + n)) :
    Calls P f args (w.drewN (a + n)) fun e w'' => e = .returned v ∧ ∃ m, w'' = w.drewN (a + m) :=
  h.mono fun _ _ ⟨he, hm⟩ => ⟨he, n, hm⟩
theorem quiet_add_left {P : Program} {f : FuncId} {args : Array Value} {w : World} {a n : Nat} {v : Value}
    (h : Calls P f args (w.drewN (a + n)) fun e w' => e = .returned v ∧ w.drewN (a + n) = w') :
    Calls P f args (w.drewN (a + n)) fun e w'' => e = .returned v ∧ ∃ m, w'' = w.drewN (a + m) :=
  h.mono fun _ _ ⟨he, hm⟩ => ⟨he, n, hm.symm⟩
theorem quiet_left {P : Program} {f : FuncId} {args : Array Value} {w : World} {n : Nat} {v : Value}
    (h : Calls P f args (w.drewN n) fun e w' => e = .returned v ∧ w.drewN n = w') : Calls P f args (w.drewN n) fun e w'' => e = .returned v ∧ ∃ m, w'' = w.drewN m :=
  h.mono fun _ _ ⟨he, hm⟩ => ⟨he, n, hm.symm⟩

theorem bcell {W w1 : World} (hb : Below W.heap.size W w1) : (∀ b o, b < W.heap.size → w1.cell? ⟨b, o, none⟩ = W.cell? ⟨b, o, none⟩) ∧ (∀ b o, b < W.heap.size → w1.frozen? ⟨b, o, none⟩ = W.frozen? ⟨b, o, none⟩) :=
  ⟨fun b o h => hb.cell (p := ⟨b, o, none⟩) h, fun b o h => hb.frozen (p := ⟨b, o, none⟩) h⟩

theorem below_drewN {B : Nat} {a w : World} (h : Below B a w) (n : Nat) : Below B a (w.drewN n) := ⟨h.os, h.tape, h.output, h.size, h.block⟩

/-- A list of numbers as the cells of a row. -/
def vals (xs : List Int) : List Value := xs.map (Value.int .i64)

theorem vals_one (xs : List Int) : ∀ u ∈ vals xs, u.oneCell' = true := by
  intro u hu
  simp only [vals, List.mem_map] at hu
  obtain ⟨x, _, rfl⟩ := hu
  rfl

theorem bnext {w0 w w' : World} (h : Below w0.heap.size w0 w) (h' : Below w.heap.size w w') : Below w0.heap.size w0 w' := h.trans (h'.mono h.size)
theorem bbox {w0 : World} (o : Obj) : Below w0.heap.size w0 (w0.alloc o) := (Below.refl _ _).alloc (Nat.le_refl _) _
theorem ballocs {w0 w : World} (h : Below w0.heap.size w0 w) (o : Obj) : Below w0.heap.size w0 (w.alloc o) := h.alloc h.size _

theorem le_alloc {B : Nat} {w : World} (h : B ≤ w.heap.size) (o : Obj) : B ≤ (w.alloc o).heap.size := by simp; omega

theorem ret_int {k : IntKind} {a b : Int} (h : a = b) : Ending.returned (.int k a) = .returned (.int k b) := by rw [h]
theorem ret_bool {a b : Bool} (h : a = b) : Ending.returned (.bool a) = .returned (.bool b) := by rw [h]

/-- What is known of a slice of numbers that came in, as the row's own step hands it over. -/
def IsRow (k : IntKind) (w : World) (a : Option Addr) (len cap : Nat) (zs : List Int) : Prop :=
  (a = none ∧ len = 0 ∧ cap = 0 ∧ zs = []) ∨
  ∃ x, a = some x ∧ len ≤ cap ∧ cap ≤ maxLen ∧ zs.length = cap ∧ (∀ i, i < zs.length → w.cell? (x.add i) = some (.int k (zs.getD i 0))) ∧ ∀ n ∈ zs, (Lit.int k n).wf = true

/-- Every number of a list is an int of 64 bits. -/
def Wf64 (xs : List Int) : Prop := ∀ x ∈ xs, -9223372036854775808 ≤ x ∧ x ≤ 9223372036854775807

/-- The slice value with address A and n elements reads as the list xs; it lies below block B. -/
def Ints (w : World) (B : Nat) (A : Option Addr) (n : Nat) (xs : List Int) : Prop :=
  xs.length = n ∧ (0 < n → ∃ b off, A = some ⟨b, off, none⟩ ∧ b < B ∧ ∀ j, j < n → w.cell? ⟨b, off + j, none⟩ = some (.int .i64 (xs.getD j 0)))

section
variable {w w' : World} {B B' n : Nat} {A : Option Addr} {xs : List Int}
theorem Ints.nil_ : Ints w B A 0 [] := ⟨rfl, fun h => absurd h (by omega)⟩
theorem Ints.len (h : Ints w B A n xs) : xs.length = n := h.1
theorem Ints.keep (h : Ints w B A n xs) (hk : ∀ p : Addr, p.block < B → w'.cell? p = w.cell? p) : Ints w' B A n xs :=
  ⟨h.1, fun hn => by
    obtain ⟨b, off, e, hb, hc⟩ := h.2 hn
    exact ⟨b, off, e, hb, fun j hj => (hk _ hb).trans (hc j hj)⟩⟩
theorem Ints.more (h : Ints w B A n xs) (hB : B ≤ B') : Ints w B' A n xs :=
  ⟨h.1, fun hn => by
    obtain ⟨b, off, e, hb, hc⟩ := h.2 hn
    exact ⟨b, off, e, by omega, hc⟩⟩
theorem Ints.below (h : Ints w B A n xs) (hb : Below B w w') : Ints w' B A n xs := h.keep fun _ hp => hb.cell hp
theorem Ints.upto {w0 : World} (h : Ints w0 w0.heap.size A n xs) (hb : Below w0.heap.size w0 w') : Ints w' w'.heap.size A n xs := (h.below hb).more hb.size
theorem Ints.drewN (h : Ints w B A n xs) (k : Nat) : Ints (w.drewN k) B A n xs := h
theorem Ints.alloc (h : Ints w B A n xs) (hB : B ≤ w.heap.size) (o : Obj) : Ints (w.alloc o) B A n xs := h.keep fun p hp => World.cell?_alloc_lt w o p (by omega)
theorem Ints.setCell (h : Ints w B A n xs) {p : Addr} (hB : B ≤ p.block) (u : Value) : Ints (w.setCell p u) B A n xs :=
  h.keep fun q hq => World.cell?_setCell_other w p q u (fun e => by subst e; omega)
theorem Ints.reads (h : Ints w B A n xs) : Reads w B 1 A n (vals xs) := by
  refine ⟨by simp [vals, h.1], fun hn => ?_⟩
  obtain ⟨b, off, e, hb, hc⟩ := h.2 hn
  refine ⟨⟨b, off, none⟩, e, hb, fun j u hu => ?_⟩
  have hj : j < xs.length := by
    rcases Nat.lt_or_ge j xs.length with h1 | h1
    · exact h1
    · rw [vals, List.getElem?_map, List.getElem?_eq_none h1] at hu; cases hu
  have := hc j (by have := h.1; omega)
  simp only [vals, List.getElem?_map, List.getElem?_eq_getElem hj, Option.map_some, Option.some.injEq] at hu
  subst hu
  rw [List.getD_eq_getElem?_getD, List.getElem?_eq_getElem hj, Option.getD_some] at this
  rw [← this]
  by_cases h0 : j = 0
  · subst h0; simp [Addr.add]
  · simp [Addr.add, h0]
theorem Ints.of_own {base : Nat} {e : TypeId} {c : Nat} (h : w.ownsRow base e 1 (.slice A n c) n (vals xs)) : Ints w w.heap.size A n xs := by
  have hl : xs.length = n := by have := h.1; simpa [vals] using this
  refine ⟨hl, fun hn => ?_⟩
  obtain ⟨g, cap, hv, _, hlt⟩ := h.form hn
  have hA : A = some ⟨g, 0, none⟩ := by injection hv
  subst hA
  refine ⟨g, 0, rfl, hlt, fun j hj => ?_⟩
  have := h.cells (g := g) rfl j (.int .i64 (xs.getD j 0)) (by rw [vals, List.getElem?_map, List.getElem?_eq_getElem (by omega)]; simp [List.getD_eq_getElem?_getD, List.getElem?_eq_getElem (show j < xs.length by omega)])
  by_cases h0 : j = 0
  · subst h0; simpa [Addr.add] using this
  · simpa [Addr.add, h0] using this
theorem Ints.lt {b off : Nat} {s : Option _} (h : Ints w B (some ⟨b, off, s⟩) n xs) (hn : 0 < n) : b < B := by
  obtain ⟨b', off', e, hb, _⟩ := h.2 hn
  injection e with e
  injection e with e1 e2 e3
  omega
end

theorem wf64_of {n : Int} (h : (Lit.int .i64 n).wf = true) : -9223372036854775808 ≤ n ∧ n ≤ 9223372036854775807 := by
  simpa [Lit.wf, IntKind.min, IntKind.max, IntKind.signed, IntKind.bits] using h

/-- What came in reads as the list of its elements. -/
theorem IsRow.ints {w : World} {a : Option Addr} {len cap : Nat} {zs : List Int} (h : IsRow .i64 w a len cap zs) :
    Ints w w.heap.size a len (zs.take len) ∧ Wf64 (zs.take len) := by
  rcases h with ⟨rfl, rfl, rfl, rfl⟩ | ⟨x, rfl, hl, hm, hz, hc, hw⟩
  · exact ⟨⟨rfl, fun h => absurd h (by omega)⟩, fun x hx => by cases hx⟩
  · refine ⟨⟨by rw [List.length_take]; omega, fun hn => ?_⟩, fun n hn => wf64_of (hw n (List.mem_of_mem_take hn))⟩
    obtain ⟨b, off, spot⟩ := x
    have h0 := hc 0 (by omega)
    have hs : spot = none := by simpa [Addr.add] using World.cell?_spot h0
    subst hs
    refine ⟨b, off, rfl, by simpa [Addr.add] using block_lt_of_cell h0, fun j hj => ?_⟩
    have := hc j (by omega)
    rw [List.getD_eq_getElem?_getD, List.getElem?_take, if_pos hj, ← List.getD_eq_getElem?_getD, ← this]
    by_cases h0 : j = 0
    · subst h0; simp [Addr.add]
    · simp [Addr.add, h0]
theorem take_snoc_int (l : List Int) (k : Nat) (h : k < l.length) : l.take (k + 1) = l.take k ++ [l.getD k 0] := by
  rw [List.take_succ_eq_append_getElem h, List.getD_eq_getElem?_getD, List.getElem?_eq_getElem h, Option.getD_some]

theorem getD_wf {xs : List Int} (h : Wf64 xs) (k : Nat) : -9223372036854775808 ≤ xs.getD k 0 ∧ xs.getD k 0 ≤ 9223372036854775807 := by
  rw [List.getD_eq_getElem?_getD]
  rcases Nat.lt_or_ge k xs.length with h1 | h1
  · rw [List.getElem?_eq_getElem h1]; exact h _ (List.getElem_mem h1)
  · rw [List.getElem?_eq_none h1]; decide


/-- A row of numbers that the call itself made. -/
def OwnI (w : World) (base : Nat) (e : TypeId) (A : Option Addr) (n c : Nat) (xs : List Int) : Prop := w.ownsRow base e 1 (.slice A n c) n (vals xs)

section
variable {w w' : World} {base n c : Nat} {e : TypeId} {A : Option Addr} {xs : List Int}
theorem OwnI.nil_ : OwnI w base e none 0 0 [] := World.ownsRow_nil _ _ _ _
theorem OwnI.len (h : OwnI w base e A n c xs) : xs.length = n := by have := h.1; simpa [vals] using this
theorem OwnI.ints (h : OwnI w base e A n c xs) : Ints w w.heap.size A n xs := Ints.of_own h
theorem OwnI.alloc (h : OwnI w base e A n c xs) (o : Obj) : OwnI (w.alloc o) base e A n c xs := World.ownsRow.alloc h o
theorem OwnI.drewN (h : OwnI w base e A n c xs) (k : Nat) : OwnI (w.drewN k) base e A n c xs := h
theorem OwnI.row (h : OwnI w base e A n c xs) : ∀ k, (Value.slice A n c).ownBlock = some k → base ≤ k := fun k hk => (World.ownsRow.lt h k hk).1
theorem OwnI.below {B : Nat} (h : OwnI w base e A n c xs) (hb : Below B w w') (hB : ∀ k, (Value.slice A n c).ownBlock = some k → k < B) : OwnI w' base e A n c xs := by
  refine ⟨h.1, ?_⟩
  rcases h.2 with h0 | ⟨g, cap, cur, hv, hg, hh, r⟩
  · exact .inl h0
  · refine .inr ⟨g, cap, cur, hv, hg, ?_, r⟩
    rw [hb.block g (hB g (by rw [hv]; rfl))]; exact hh
theorem OwnI.belowAll (h : OwnI w base e A n c xs) (hb : Below w.heap.size w w') : OwnI w' base e A n c xs := h.below hb fun k hk => (World.ownsRow.lt h k hk).2
theorem OwnI.kept {row : Option Nat} (h : OwnI w base e A n c xs) (hg : w.grownBy w' row) (hne : (Value.slice A n c).ownBlock = none ∨ (Value.slice A n c).ownBlock ≠ row) : OwnI w' base e A n c xs := World.ownsRow.kept h hg hne
theorem OwnI.form (h : OwnI w base e A n c xs) (hn : 0 < n) : ∃ g, A = some ⟨g, 0, none⟩ ∧ base ≤ g ∧ g < w.heap.size := by
  obtain ⟨g, cap, hv, h1, h2⟩ := World.ownsRow.form h hn
  injection hv with hA
  exact ⟨g, hA, h1, h2⟩
theorem OwnI.cellAt {g : Nat} (h : OwnI w base e (some ⟨g, 0, none⟩) n c xs) {j : Nat} (hj : j < n) : w.cell? ⟨g, j, none⟩ = some (.int .i64 (xs.getD j 0)) := by
  have hl := h.len
  rw [World.ownsRow.cellAt h j (by omega), vals, List.getElem?_map, List.getElem?_eq_getElem (by omega), List.getD_eq_getElem?_getD, List.getElem?_eq_getElem (by omega)]
  rfl
theorem OwnI.frozenAt {g : Nat} (h : OwnI w base e (some ⟨g, 0, none⟩) n c xs) (j : Nat) : w.frozen? ⟨g, j, none⟩ = false := World.ownsRow.frozenAt h j
theorem OwnI.stored {g : Nat} (h : OwnI w base e (some ⟨g, 0, none⟩) n c xs) (j : Nat) (x : Int) : OwnI (w.setCell ⟨g, j, none⟩ (.int .i64 x)) base e (some ⟨g, 0, none⟩) n c (xs.set j x) := by
  have := (World.ownsRow.stored h j (.int .i64 x)).1
  unfold OwnI vals
  rw [List.map_set]; exact this
end

/-- The new cell in which an appended element lies. -/
theorem Ints.one (w : World) (x : Int) (t : TypeId) : Ints (w.alloc (.cells #[.int .i64 x] t)) (w.heap.size + 1) (some ⟨w.heap.size, 0, none⟩) 1 [x] :=
  ⟨rfl, fun _ => ⟨_, _, rfl, by omega, fun j hj => by
    obtain rfl : j = 0 := by omega
    exact cell_one_new w (.int .i64 x) t 0 _ rfl⟩⟩

/-- An append of numbers, from any source, onto a row of the call's own. -/
theorem wpList_append_ints {P : Program} {w : World} {ops : Array Oper} {rest : List Oper} {o : Oper} {a : Act} {Q : Exit → Act → World → Prop} (hgd : o.guard = none) (s x : Operand) (t : TypeId)
    (ho : o.op = .call { callee := .builtin .append, args := #[s, x], argTypes := #[t, t] })
    (base : Nat) (e : TypeId) (i : TypeInfo) (z : Value) (ht : P.underlying t = some (.slice e)) (hi : P.info? e = some i) (hz : i.zero = some z)
    (hsize : i.size = 1) (hby : i.bytes = 8) (hzs : z.cells.size = 1)
    (A : Option Addr) (n c : Nat) (xs : List Int) (hs : a.eval s = .slice A n c) (hown : OwnI w base e A n c xs)
    (B : Nat) (A2 : Option Addr) (m c2 : Nat) (ys : List Int) (hx : a.eval x = .slice A2 m c2) (hr : Ints w B A2 m ys)
    (N : Nat) (hN : n + m = N) (zs : List Int) (hzz : xs ++ ys = zs) (hcap : N ≤ 17592186044416) (hbase : base ≤ w.heap.size)
    (h : ∀ A' c' w', OwnI w' base e A' N c' zs → w.grownBy w' (Value.slice A n c).ownBlock → Below base w w' →
      ((Value.slice A' N c').ownBlock = (Value.slice A n c).ownBlock ∨ (Value.slice A' N c').ownBlock = some w.heap.size) → wpList P ops Q rest (a.put o.dst (.slice A' N c')) w') : wpList P ops Q (o :: rest) a w := by
  subst hN hzz
  refine wpList_append_any w hgd s x t ho base e i z 1 8 ht hi hz hsize hby hzs (by omega) (.slice A n c) n (vals xs) hs hown B A2 m c2 (vals ys) hx hr.reads (vals_one ys) (by unfold maxLen; omega) (by omega) hbase ?_
  intro v' w' hown' hg hat
  rw [show vals xs ++ vals ys = vals (xs ++ ys) by simp [vals]] at hown'
  have hb : Below base w w' := (Below.refl base w).grown hg hbase (OwnI.row hown)
  rcases hown'.2 with ⟨hv, hn⟩ | ⟨g, cap, cur, hv, _⟩
  · rw [hv] at hown' hat ⊢
    rw [hn] at hown' h
    exact h none 0 w' hown' hg hb hat
  · rw [hv] at hown' hat ⊢
    exact h _ cap w' hown' hg hb hat
end Go.Proofs.Ytgboojmoplcpdaa

/-! NumA -/
namespace Go.Proofs.Ytgboojmoplcpdaa

theorem tmod_facts (x k : Int) (hk : 0 < k) : -k < x.tmod k ∧ x.tmod k < k ∧ (x.tmod k < 0 → x.tmod k + k = x % k) ∧ (0 ≤ x.tmod k → x.tmod k = x % k) := by
  have h1 := Int.emod_nonneg x (by omega : k ≠ 0)
  have h2 := Int.emod_lt_of_pos x hk
  rw [Int.tmod_eq_emod]
  have hn : (k.natAbs : Int) = k := by omega
  split <;> rename_i h
  · omega
  · rw [hn]
    have : x % k ≠ 0 := fun h0 => h (Or.inr (Int.dvd_of_emod_eq_zero h0))
    omega

/-- '(n%k + k) % k'. -/
theorem mod_of_go (x k : Int) (hk : 0 < k) : (x.tmod k + k) % k = x % k := by
  have h := tmod_facts x k hk
  rcases Int.lt_or_le (x.tmod k) 0 with h0 | h0
  · rw [h.2.2.1 h0]; exact Int.emod_emod_of_dvd x (Int.dvd_refl k)
  · rw [h.2.2.2 h0, Int.add_emod_right]; exact Int.emod_emod_of_dvd x (Int.dvd_refl k)

end Go.Proofs.Ytgboojmoplcpdaa

/-! FieldA -/
namespace Go.Proofs.Ytgboojmoplcpdaa

/-- The number is a prime from 2 to 65521, as the program looks for divisors. -/
def okP (p : Int) : Bool := decide (2 ≤ p) && decide (p ≤ 65521) && (List.range 256).all fun d => decide (d < 2) || decide (p < ((d * d : Nat) : Int)) || decide (p % (d : Int) ≠ 0)

theorem okP_iff (p : Int) : okP p = true ↔ 2 ≤ p ∧ p ≤ 65521 ∧ ∀ d : Nat, 2 ≤ d → ((d * d : Nat) : Int) ≤ p → p % (d : Int) ≠ 0 := by
  unfold okP
  simp only [Bool.and_eq_true, decide_eq_true_eq, List.all_eq_true, List.mem_range, Bool.or_eq_true]
  constructor
  · rintro ⟨⟨h1, h2⟩, h3⟩
    refine ⟨h1, h2, fun d hd hdd => ?_⟩
    have hlt : d < 256 := by
      rcases Nat.lt_or_ge d 256 with h | h
      · exact h
      · have : 256 * 256 ≤ d * d := Nat.mul_le_mul h h
        omega
    rcases h3 d hlt with (h | h) | h
    · omega
    · omega
    · exact h
  · rintro ⟨h1, h2, h3⟩
    refine ⟨⟨h1, h2⟩, fun d _ => ?_⟩
    by_cases hd : d < 2
    · exact .inl (.inl hd)
    · by_cases hdd : p < ((d * d : Nat) : Int)
      · exact .inl (.inr hdd)
      · exact .inr (h3 d (by omega) (by omega))

/-- The number is an element. -/
def inP (p a : Int) : Bool := decide (0 ≤ a ∧ a < p)
theorem inP_iff {p a : Int} : inP p a = true ↔ 0 ≤ a ∧ a < p := by simp [inP]

/-- All numbers are elements. -/
def allP (p : Int) (xs : List Int) : Bool := xs.all (inP p)
theorem allP_iff {p : Int} {xs : List Int} : allP p xs = true ↔ ∀ x ∈ xs, 0 ≤ x ∧ x < p := by simp [allP, inP_iff]
theorem allP_nil (p : Int) : allP p [] = true := rfl
theorem allP_getD {p : Int} {xs : List Int} (h : allP p xs = true) {k : Nat} (hk : k < xs.length) : 0 ≤ xs.getD k 0 ∧ xs.getD k 0 < p := by
  rw [List.getD_eq_getElem?_getD, List.getElem?_eq_getElem hk]; exact allP_iff.1 h _ (List.getElem_mem hk)
theorem allP_append {p : Int} {xs ys : List Int} : allP p (xs ++ ys) = true ↔ allP p xs = true ∧ allP p ys = true := by simp [allP]

def mulP (p x y : Int) : Int := x * y % p
def addP (p x y : Int) : Int := (x + y) % p
def subP (p x y : Int) : Int := (x - y + p) % p

theorem mulP_in {p : Int} (x y : Int) (hp : 2 ≤ p) : 0 ≤ mulP p x y ∧ mulP p x y < p := ⟨Int.emod_nonneg _ (by omega), Int.emod_lt_of_pos _ (by omega)⟩
theorem addP_in {p : Int} (x y : Int) (hp : 2 ≤ p) : 0 ≤ addP p x y ∧ addP p x y < p := ⟨Int.emod_nonneg _ (by omega), Int.emod_lt_of_pos _ (by omega)⟩
theorem subP_in {p : Int} (x y : Int) (hp : 2 ≤ p) : 0 ≤ subP p x y ∧ subP p x y < p := ⟨Int.emod_nonneg _ (by omega), Int.emod_lt_of_pos _ (by omega)⟩

theorem okP_pos {p : Int} (h : okP p = true) : 2 ≤ p ∧ p ≤ 65521 := ⟨((okP_iff p).1 h).1, ((okP_iff p).1 h).2.1⟩

/-- The primes that the maker of fields knows. -/
def isKnown (p : Int) : Prop := p = 2 ∨ p = 3 ∨ p = 5 ∨ p = 7 ∨ p = 11 ∨ p = 13 ∨ p = 17 ∨ p = 257 ∨ p = 65521
theorem okP_known {p : Int} (h : isKnown p) : okP p = true := by
  rcases h with rfl | rfl | rfl | rfl | rfl | rfl | rfl | rfl | rfl <;> decide +kernel
def knownL : List Int := [2, 3, 5, 7, 11, 13, 17, 257, 65521]
theorem known_of {j : Nat} (hj : j < 9) : isKnown (knownL.getD j 0) := by
  have : j = 0 ∨ j = 1 ∨ j = 2 ∨ j = 3 ∨ j = 4 ∨ j = 5 ∨ j = 6 ∨ j = 7 ∨ j = 8 := by omega
  rcases this with rfl | rfl | rfl | rfl | rfl | rfl | rfl | rfl | rfl <;> simp [knownL, isKnown]
end Go.Proofs.Ytgboojmoplcpdaa

/-! VecA -/
namespace Go.Proofs.Ytgboojmoplcpdaa

/-- Two lists joined element by element. -/
def zipI (f : Int → Int → Int) (a b : List Int) : List Int := List.zipWith f a b

theorem zipI_length (f : Int → Int → Int) (a b : List Int) (h : a.length = b.length) : (zipI f a b).length = a.length := by simp [zipI, h]
theorem zipI_len2 (f : Int → Int → Int) (a b : List Int) {n : Nat} (h : a.length = n) (h' : b.length = n) : (zipI f a b).length = n := by simp [zipI, h, h']

theorem zipI_take_succ (f : Int → Int → Int) (a b : List Int) (k : Nat) (ha : k < a.length) (hb : k < b.length) : zipI f (a.take (k + 1)) (b.take (k + 1)) = zipI f (a.take k) (b.take k) ++ [f (a.getD k 0) (b.getD k 0)] := by
  unfold zipI
  rw [List.take_succ_eq_append_getElem ha, List.take_succ_eq_append_getElem hb, List.zipWith_append (by simp; omega)]
  simp [List.getD_eq_getElem?_getD, ha, hb]

/-- The inner product, as the program sums it up. -/
def sumP (p : Int) (l : List Int) : Int := l.foldl (addP p) 0
def dotP (p : Int) (a b : List Int) : Int := sumP p (zipI (mulP p) a b)

theorem sumP_snoc (p : Int) (l : List Int) (x : Int) : sumP p (l ++ [x]) = addP p (sumP p l) x := by simp [sumP, List.foldl_append]
theorem foldl_in {p : Int} (hp : 2 ≤ p) (l : List Int) : ∀ s : Int, 0 ≤ s → s < p → 0 ≤ l.foldl (addP p) s ∧ l.foldl (addP p) s < p := by
  induction l with
  | nil => intro s h0 h1; exact ⟨h0, h1⟩
  | cons x l ih => intro s _ _; exact ih _ (addP_in s x hp).1 (addP_in s x hp).2
theorem sumP_in {p : Int} (hp : 2 ≤ p) (l : List Int) : 0 ≤ sumP p l ∧ sumP p l < p := foldl_in hp l 0 (by omega) (by omega)
theorem dotP_in {p : Int} (hp : 2 ≤ p) (a b : List Int) : 0 ≤ dotP p a b ∧ dotP p a b < p := sumP_in hp _

theorem zipI_all {p : Int} (f : Int → Int → Int) (hf : ∀ x y, 0 ≤ f x y ∧ f x y < p) (a b : List Int) : allP p (zipI f a b) = true := by
  rw [allP_iff]
  intro x hx
  unfold zipI at hx
  obtain ⟨i, hi, rfl⟩ := List.getElem_of_mem hx
  rw [List.getElem_zipWith]
  exact hf _ _
theorem zipI_mul_all {p : Int} (hp : 2 ≤ p) (a b : List Int) : allP p (zipI (mulP p) a b) = true := zipI_all _ (fun x y => mulP_in x y hp) a b
theorem zipI_add_all {p : Int} (hp : 2 ≤ p) (a b : List Int) : allP p (zipI (addP p) a b) = true := zipI_all _ (fun x y => addP_in x y hp) a b

/-- A list times an element. -/
def scaleP (p x : Int) (a : List Int) : List Int := a.map fun y => mulP p y x
theorem scaleP_len (p x : Int) (a : List Int) : (scaleP p x a).length = a.length := by simp [scaleP]
theorem scaleP_all {p : Int} (hp : 2 ≤ p) (x : Int) (a : List Int) : allP p (scaleP p x a) = true := by
  rw [allP_iff]
  intro y hy
  obtain ⟨z, _, rfl⟩ := List.mem_map.1 hy
  exact mulP_in z x hp
theorem scaleP_take_succ (p x : Int) (a : List Int) (k : Nat) (ha : k < a.length) : scaleP p x (a.take (k + 1)) = scaleP p x (a.take k) ++ [mulP p (a.getD k 0) x] := by
  rw [List.take_succ_eq_append_getElem ha, List.getD_eq_getElem?_getD, List.getElem?_eq_getElem ha, Option.getD_some]
  simp only [scaleP, List.map_append, List.map_cons, List.map_nil]
end Go.Proofs.Ytgboojmoplcpdaa

/-! Cut -/
namespace Go.Proofs.Ytgboojmoplcpdaa
open Go.RowKit
set_option linter.unusedVariables false

theorem run_append_zero {P : Program} (w : World) (t ty e : TypeId) (i : TypeInfo) (ht : P.underlying t = some (.slice e)) (hi : P.info? e = some i) (A A2 : Option Addr) (j c2 : Nat) (hA : A = none → j = 0) :
    (Builtin.append_ #[t, t] ty #[.slice A j j, .slice A2 0 c2]).run P w = .ok (.slice A j j) w := by
  rcases A with _ | a
  · obtain rfl := hA rfl
    rcases A2 with _ | a2 <;> simp [Builtin.append_, run_underlying ht, sizeOf, typeInfo, hi, Builtin.lenOf, Builtin.firstCells, loadCells, loadCellsFrom]
  · rcases A2 with _ | a2 <;> simp [Builtin.append_, run_underlying ht, sizeOf, typeInfo, hi, Builtin.lenOf, Builtin.firstCells, storeCells, loadCells, loadCellsFrom]

theorem run_append_cut {P : Program} (w : World) (t ty e : TypeId) (i : TypeInfo) (z : Value) (ht : P.underlying t = some (.slice e)) (hi : P.info? e = some i) (hz : i.zero = some z)
    (hsize : i.size = 1) (hby : i.bytes = 8) (hzs : z.cells.size = 1)
    (A : Option Addr) (j : Nat) (xs : List Int) (hA : A = none → j = 0) (B : Nat) (hxs : Ints w B A j xs) (A2 : Option Addr) (m c2 : Nat) (ys : List Int) (B2 : Nat) (hys : Ints w B2 A2 m ys) (hcap : j + m ≤ 17592186044416) :
    ∃ A' c' w', (Builtin.append_ #[t, t] ty #[.slice A j j, .slice A2 m c2]).run P w = .ok (.slice A' (j + m) c') w' ∧ j + m ≤ c' ∧ (A' = none → j + m = 0) ∧ Below w.heap.size w w' ∧
      ((m = 0 ∧ A' = A ∧ w' = w) ∨ OwnI w' w.heap.size e A' (j + m) c' (xs ++ ys)) := by
  rcases Nat.eq_zero_or_pos m with h0 | h0
  · subst h0
    exact ⟨A, j, w, run_append_zero w t ty e i ht hi A A2 j c2 hA, Nat.le_refl _, hA, Below.refl _ _, .inl ⟨rfl, rfl, rfl⟩⟩
  · have hry := hys.reads
    obtain ⟨ad, hA2, _, hc2⟩ := hry.2 h0
    subst hA2
    have hl2 : (vals ys).length = m * 1 := hry.1
    rcases A with _ | a
    · obtain rfl := hA rfl
      have hx0 : xs = [] := List.eq_nil_of_length_eq_zero hxs.1
      subst hx0
      obtain ⟨v', w', hrun, r1, r2, _⟩ := run_append_own (P := P) w w.heap.size t ty e i z 1 8 ht hi hz hsize hby hzs (by omega) (.slice none 0 0) 0 [] (World.ownsRow_nil w _ e 1) ad m c2 (vals ys) hl2 hc2 (vals_one ys) (by unfold maxLen; omega) (by omega) (Nat.le_refl _)
      rcases r1.2 with ⟨_, hn⟩ | ⟨g, cap, cur, rfl, hg, hh, hnc, r⟩
      · omega
      · refine ⟨some ⟨g, 0, none⟩, cap, w', hrun, hnc, (fun h => by cases h), (Below.refl _ _).grown r2 (Nat.le_refl _) (fun k hk => by cases hk), .inr ?_⟩
        exact r1
    · obtain ⟨v', w', hrun, r1, r2⟩ := run_append_arg_grows (P := P) w t ty e i z 1 8 ht hi hz hsize hby hzs (by omega) a j j (vals xs) (by simpa using hxs.reads.1)
        (fun q u hu => by
          rcases Nat.eq_zero_or_pos j with h | h
          · subst h
            have hx0 : xs = [] := List.eq_nil_of_length_eq_zero hxs.1
            subst hx0; simp [vals] at hu
          · obtain ⟨ad', e', _, hc⟩ := hxs.reads.2 h
            injection e' with e'
            subst e'
            exact hc q u hu) ad m c2 (vals ys) hl2 hc2 (by omega) (by unfold maxLen; omega) (by omega)
      rcases r1.2 with ⟨_, hn⟩ | ⟨g, cap, cur, rfl, hg, hh, hnc, r⟩
      · omega
      · refine ⟨some ⟨g, 0, none⟩, cap, w', hrun, hnc, (fun h => by cases h), (Below.refl _ _).grown r2 (Nat.le_refl _) (fun k hk => by cases hk), .inr ?_⟩
        have e1 : vals xs ++ vals ys = vals (xs ++ ys) := by simp [vals]
        rw [e1] at r1
        exact r1

theorem step_append_cut {P : Program} {ops : Array Oper} {o : Oper} {a : Act} {w : World} {K : Act → World → Prop} {Q : Exit → Act → World → Prop} {E : Prop}
    (hg : o.guard = none) (s x : Operand) (t : TypeId) (hop : o.op = Op.call { callee := Callee.builtin Builtin.append, args := #[s, x], argTypes := #[t, t] })
    (e : TypeId) (i : TypeInfo) (z : Value) (ht : P.underlying t = some (.slice e)) (hi : P.info? e = some i) (hz : i.zero = some z) (hsize : i.size = 1) (hby : i.bytes = 8) (hzs : z.cells.size = 1)
    (A : Option Addr) (j : Nat) (xs : List Int) (hA : A = none → j = 0) (hs : a.eval s = .slice A j j) (B : Nat) (hxs : Ints w B A j xs) (A2 : Option Addr) (m c2 : Nat) (ys : List Int) (hx : a.eval x = .slice A2 m c2) (B2 : Nat) (hys : Ints w B2 A2 m ys) (hcap : j + m ≤ 17592186044416)
    (N : Nat) (hN : j + m = N) (zs : List Int) (hzz : xs ++ ys = zs)
    (hK : ∀ A' c' w', N ≤ c' → (A' = none → N = 0) → Below w.heap.size w w' → ((m = 0 ∧ A' = A ∧ w' = w) ∨ OwnI w' w.heap.size e A' N c' zs) → K (a.put o.dst (.slice A' N c')) w') :
    if Region.wanted o (yielded ops a.tmps) = true then Oper.wp P o a w K Q else E := by
  subst hN hzz
  have hw : Region.wanted o (yielded ops a.tmps) = true := by simp [Region.wanted, hg]
  rw [if_pos hw]
  obtain ⟨A', c', w', hrun, h1, h2, h3, h4⟩ := run_append_cut (P := P) w t o.type e i z ht hi hz hsize hby hzs A j xs hA B hxs A2 m c2 ys B2 hys hcap
  unfold Oper.wp
  simp [execOp, hop, resolve, invoke, builtin, hs, hx, hrun, Result.andThen]
  exact hK A' c' w' h1 h2 h3 h4
end Go.Proofs.Ytgboojmoplcpdaa

/-! ValueA -/
namespace Go.Proofs.Ytgboojmoplcpdaa

/-- The value of a polynomial, as the program reckons it. -/
def valueP (p x : Int) (poly : List Int) : Int := poly.foldr (fun c s => addP p (mulP p s x) c) 0

theorem valueP_in {p : Int} (hp : 2 ≤ p) (x : Int) (l : List Int) : 0 ≤ valueP p x l ∧ valueP p x l < p := by
  cases l with
  | nil => exact ⟨by simp [valueP], by simp [valueP]; omega⟩
  | cons c l => exact addP_in _ _ hp

/-- A place and an element of the field. -/
abbrev PlaceElt (p : Int) := { x : Nat × Int // 0 ≤ x.2 ∧ x.2 < p }

/-- What comes in round k, from the end. -/
def backElt (p : Int) (hp : 2 ≤ p) (zs : List Int) (hz : allP p zs = true) (k : Nat) : PlaceElt p :=
  if h : k < zs.length then ⟨(zs.length - 1 - k, zs.getD (zs.length - 1 - k) 0), allP_getD hz (by omega)⟩ else ⟨(0, 0), by simp; omega⟩

theorem backElt_at {p : Int} {hp : 2 ≤ p} {zs : List Int} {hz : allP p zs = true} {k : Nat} (h : k < zs.length) : (backElt p hp zs hz k).1 = (zs.length - 1 - k, zs.getD (zs.length - 1 - k) 0) := by
  unfold backElt; rw [dif_pos h]

/-- The first k of them. -/
def uptoElt {α : Type} (f : Nat → α) (k : Nat) : List α := (List.range k).map f
theorem uptoElt_succ {α : Type} (f : Nat → α) (k : Nat) : uptoElt f (k + 1) = uptoElt f k ++ [f k] := by simp [uptoElt, List.range_succ]
theorem uptoElt_length {α : Type} (f : Nat → α) (k : Nat) : (uptoElt f k).length = k := by simp [uptoElt]

/-- The sum so far. -/
def valueSo (p x : Int) (pre : List (PlaceElt p)) : Int := pre.foldl (fun s c => addP p (mulP p s x) c.1.2) 0
theorem valueSo_snoc (p x : Int) (pre : List (PlaceElt p)) (c : PlaceElt p) : valueSo p x (pre ++ [c]) = addP p (mulP p (valueSo p x pre) x) c.1.2 := by simp [valueSo]
theorem valueSo_in {p : Int} (hp : 2 ≤ p) (x : Int) (pre : List (PlaceElt p)) : 0 ≤ valueSo p x pre ∧ valueSo p x pre < p := by
  rcases List.eq_nil_or_concat pre with rfl | ⟨l, c, rfl⟩
  · exact ⟨by simp [valueSo], by simp [valueSo]; omega⟩
  · rw [List.concat_eq_append, valueSo_snoc]; exact addP_in _ _ hp

theorem valueSo_all {p : Int} (hp : 2 ≤ p) (x : Int) (zs : List Int) (hz : allP p zs = true) : ∀ k, k ≤ zs.length → valueSo p x (uptoElt (backElt p hp zs hz) k) = valueP p x (zs.drop (zs.length - k)) := by
  intro k
  induction k with
  | zero => intro _; simp [uptoElt, valueSo, valueP]
  | succ k ih =>
    intro hk
    rw [uptoElt_succ, valueSo_snoc, ih (by omega), backElt_at (by omega)]
    have e : zs.length - k = zs.length - (k + 1) + 1 := by omega
    have e2 : zs.length - 1 - k = zs.length - (k + 1) := by omega
    rw [e2, List.drop_eq_getElem_cons (show zs.length - (k + 1) < zs.length by omega), ← e]
    show _ = addP p (mulP p (valueP p x (zs.drop (zs.length - k))) x) _
    rw [List.getD_eq_getElem?_getD, List.getElem?_eq_getElem (by omega), Option.getD_some]
end Go.Proofs.Ytgboojmoplcpdaa

/-! Cong -/
namespace Go.Proofs.Ytgboojmoplcpdaa

/-- Congruence. -/
def Cong (p a b : Int) : Prop := a % p = b % p

section
variable {p a b c d : Int}
theorem Cong.refl (p a : Int) : Cong p a a := rfl
theorem Cong.symm (h : Cong p a b) : Cong p b a := Eq.symm h
theorem Cong.trans (h : Cong p a b) (k : Cong p b c) : Cong p a c := Eq.trans h k
theorem Cong.of_eq (h : a = b) : Cong p a b := by rw [h]; rfl
theorem Cong.add (h : Cong p a b) (k : Cong p c d) : Cong p (a + c) (b + d) := by
  unfold Cong at *; rw [Int.add_emod, h, k, ← Int.add_emod]
theorem Cong.mul (h : Cong p a b) (k : Cong p c d) : Cong p (a * c) (b * d) := by
  unfold Cong at *; rw [Int.mul_emod, h, k, ← Int.mul_emod]
theorem Cong.neg (h : Cong p a b) : Cong p (-a) (-b) := by
  have := (Cong.refl p (-1)).mul h
  rwa [Int.neg_one_mul, Int.neg_one_mul] at this
theorem Cong.sub (h : Cong p a b) (k : Cong p c d) : Cong p (a - c) (b - d) := by
  rw [Int.sub_eq_add_neg, Int.sub_eq_add_neg]; exact h.add k.neg
theorem Cong.mod (p a : Int) : Cong p (a % p) a := Int.emod_emod_of_dvd a (Int.dvd_refl p)
theorem Cong.self (p : Int) : Cong p p 0 := by unfold Cong; simp
theorem Cong.eq (h : Cong p a b) (ha : 0 ≤ a ∧ a < p) (hb : 0 ≤ b ∧ b < p) : a = b := by
  unfold Cong at h; rwa [Int.emod_eq_of_lt ha.1 ha.2, Int.emod_eq_of_lt hb.1 hb.2] at h
theorem Cong.mulP (p a b : Int) : Cong p (mulP p a b) (a * b) := Cong.mod p _
theorem Cong.addP (p a b : Int) : Cong p (addP p a b) (a + b) := Cong.mod p _
theorem Cong.subP (p a b : Int) : Cong p (subP p a b) (a - b) := by
  have := (Cong.mod p (a - b + p)).trans ((Cong.refl p (a - b)).add (Cong.self p))
  rwa [Int.add_zero] at this
theorem Cong.dvd (h : Cong p a 0) : p ∣ a := by
  unfold Cong at h; rw [Int.zero_emod] at h; exact Int.dvd_of_emod_eq_zero h
theorem Cong.of_dvd (h : p ∣ a) : Cong p a 0 := by
  unfold Cong; rw [Int.zero_emod]; exact Int.emod_eq_zero_of_dvd h
end

/-- A polynomial's value over the integers. -/
def polyZ (x : Int) (l : List Int) : Int := l.foldr (fun c s => s * x + c) 0
theorem polyZ_cons (x c : Int) (l : List Int) : polyZ x (c :: l) = polyZ x l * x + c := rfl
theorem valueP_cons (p x c : Int) (l : List Int) : valueP p x (c :: l) = addP p (mulP p (valueP p x l) x) c := rfl

theorem valueP_cong (p x : Int) (l : List Int) : Cong p (valueP p x l) (polyZ x l) := by
  induction l with
  | nil => exact Cong.refl _ _
  | cons c l ih => rw [valueP_cons, polyZ_cons]; exact (Cong.addP _ _ _).trans (((Cong.mulP _ _ _).trans (ih.mul (Cong.refl _ _))).add (Cong.refl _ _))

/-- Congruent coefficients, congruent values. -/
theorem polyZ_cong {p x : Int} {l m : List Int} (h : l.length = m.length) (hc : ∀ i, i < l.length → Cong p (l.getD i 0) (m.getD i 0)) : Cong p (polyZ x l) (polyZ x m) := by
  induction l generalizing m with
  | nil => cases m with
    | nil => exact Cong.refl _ _
    | cons _ _ => simp at h
  | cons c l ih =>
    cases m with
    | nil => simp at h
    | cons d m =>
      rw [polyZ_cons, polyZ_cons]
      have h0 := hc 0 (by simp)
      simp at h0
      exact ((ih (by simpa using h) (fun i hi => by have := hc (i + 1) (by simp; omega); simpa using this)).mul (Cong.refl _ _)).add h0
end Go.Proofs.Ytgboojmoplcpdaa

/-! PrimeA -/
namespace Go.Proofs.Ytgboojmoplcpdaa
set_option linter.unusedVariables false

theorem okP_prime {p : Int} (h : okP p = true) {d : Nat} (hd : 2 ≤ d) (hdv : (d : Int) ∣ p) : (d : Int) = p := by
  obtain ⟨h1, h2, h3⟩ := (okP_iff p).1 h
  obtain ⟨k, hk⟩ := hdv
  have hd0 : (0 : Int) < (d : Int) := by omega
  have hk0 : 0 < k := by
    rcases Int.lt_or_le 0 k with h | h
    · exact h
    · have := Int.mul_le_mul_of_nonneg_left h (Int.le_of_lt hd0)
      omega
  obtain ⟨e, rfl⟩ : ∃ e : Nat, k = e := ⟨k.toNat, by omega⟩
  rcases Nat.lt_or_ge e 2 with he | he
  · have : e = 1 := by omega
    subst this; omega
  · exfalso
    rcases Nat.le_total d e with hde | hde
    · have : d * d ≤ d * e := Nat.mul_le_mul_left d hde
      have h5 : ((d * d : Nat) : Int) ≤ p := by rw [hk, ← Int.natCast_mul]; omega
      exact h3 d hd h5 (by rw [hk]; exact Int.mul_emod_right _ _)
    · have : e * e ≤ d * e := Nat.mul_le_mul_right e hde
      have h5 : ((e * e : Nat) : Int) ≤ p := by rw [hk, ← Int.natCast_mul]; omega
      exact h3 e he h5 (by rw [hk]; exact Int.mul_emod_left _ _)

theorem okP_dvd_mul {p : Int} (h : okP p = true) {x y : Int} (hd : p ∣ x * y) : p ∣ x ∨ p ∣ y := by
  have hp := okP_pos h
  by_cases hx : p ∣ x
  · exact .inl hx
  · right
    have hc : Nat.Coprime p.natAbs x.natAbs := by
      have hg1 : Nat.gcd p.natAbs x.natAbs ∣ p.natAbs := Nat.gcd_dvd_left _ _
      have hg2 : Nat.gcd p.natAbs x.natAbs ∣ x.natAbs := Nat.gcd_dvd_right _ _
      have hpos : 0 < Nat.gcd p.natAbs x.natAbs := Nat.gcd_pos_of_pos_left _ (by omega)
      rcases Nat.lt_or_ge (Nat.gcd p.natAbs x.natAbs) 2 with hlt | hge
      · show Nat.gcd p.natAbs x.natAbs = 1
        omega
      · exfalso
        have h5 : ((Nat.gcd p.natAbs x.natAbs : Nat) : Int) ∣ p := Int.natAbs_dvd_natAbs.1 (by simpa using hg1)
        have h6 := okP_prime h hge h5
        apply hx
        rw [← h6]
        exact Int.natAbs_dvd_natAbs.1 (by simpa using hg2)
    have hd2 := Int.natAbs_dvd_natAbs.2 hd
    rw [Int.natAbs_mul] at hd2
    exact Int.natAbs_dvd_natAbs.1 (Nat.Coprime.dvd_of_dvd_mul_left hc hd2)

/-- A product is 0 just where a factor is. -/
theorem Cong.mul_zero {p : Int} (h : okP p = true) {x y : Int} (hc : Cong p (x * y) 0) : Cong p x 0 ∨ Cong p y 0 := by
  rcases okP_dvd_mul h hc.dvd with h1 | h1
  · exact .inl (Cong.of_dvd h1)
  · exact .inr (Cong.of_dvd h1)
theorem Cong.sub_zero {p a b : Int} (h : Cong p (a - b) 0) : Cong p a b := by
  have := h.add (Cong.refl p b)
  rwa [Int.sub_add_cancel, Int.zero_add] at this
theorem Cong.zero_sub {p a b : Int} (h : Cong p a b) : Cong p (a - b) 0 := by
  have := h.sub (Cong.refl p b)
  rwa [Int.sub_self] at this
theorem Cong.cancel {p : Int} (h : okP p = true) {x y z : Int} (hz : ¬ Cong p z 0) (hc : Cong p (x * z) (y * z)) : Cong p x y := by
  have h1 := hc.zero_sub
  rw [← Int.sub_mul] at h1
  rcases Cong.mul_zero h h1 with h2 | h2
  · exact h2.sub_zero
  · exact absurd h2 hz
theorem Cong.elt_zero {p x : Int} (hx : 0 ≤ x ∧ x < p) : Cong p x 0 ↔ x = 0 := by
  constructor
  · intro h; exact h.eq hx (by omega)
  · rintro rfl; exact Cong.refl _ _
end Go.Proofs.Ytgboojmoplcpdaa

/-! PolyA -/
namespace Go.Proofs.Ytgboojmoplcpdaa
set_option linter.unusedVariables false

/-- A coefficient. -/
def cf (l : List Int) (k : Nat) : Int := l.getD k 0
theorem cf_nil (k : Nat) : cf [] k = 0 := by simp [cf]
theorem cf_zero (a : Int) (l : List Int) : cf (a :: l) 0 = a := rfl
theorem cf_succ (a : Int) (l : List Int) (k : Nat) : cf (a :: l) (k + 1) = cf l k := rfl
theorem cf_out {l : List Int} {k : Nat} (h : l.length ≤ k) : cf l k = 0 := by
  unfold cf; rw [List.getD_eq_getElem?_getD, List.getElem?_eq_none h]; rfl
theorem cf_take (l : List Int) (n k : Nat) : cf (l.take n) k = if k < n then cf l k else 0 := by
  unfold cf
  rw [List.getD_eq_getElem?_getD, List.getElem?_take]
  split
  · rw [List.getD_eq_getElem?_getD]
  · rfl
theorem cf_map_range (f : Nat → Int) (n k : Nat) : cf ((List.range n).map f) k = if k < n then f k else 0 := by
  unfold cf
  rw [List.getD_eq_getElem?_getD, List.getElem?_map]
  by_cases h : k < n
  · rw [List.getElem?_range h, if_pos h]; rfl
  · rw [List.getElem?_eq_none (by simp; omega), if_neg h]; rfl
theorem cf_in {p : Int} {l : List Int} (hp : 2 ≤ p) (h : allP p l = true) (k : Nat) : 0 ≤ cf l k ∧ cf l k < p := by
  by_cases hk : k < l.length
  · exact allP_getD h hk
  · rw [cf_out (by omega)]; omega
theorem cf_ext {a b : List Int} (h : a.length = b.length) (hk : ∀ k, cf a k = cf b k) : a = b := by
  apply List.ext_getElem h
  intro i h1 h2
  have := hk i
  unfold cf at this
  rw [List.getD_eq_getElem?_getD, List.getD_eq_getElem?_getD, List.getElem?_eq_getElem h1, List.getElem?_eq_getElem h2] at this
  exact this

/-- A sum over the numbers below n. -/
def Sg (f : Nat → Int) : Nat → Int
  | 0 => 0
  | n + 1 => Sg f n + f n
theorem Sg_congr {f g : Nat → Int} : ∀ {n : Nat}, (∀ i, i < n → f i = g i) → Sg f n = Sg g n
  | 0, _ => rfl
  | n + 1, h => by simp only [Sg]; rw [Sg_congr (n := n) (fun i hi => h i (by omega)), h n (by omega)]
theorem Sg_cong {p : Int} {f g : Nat → Int} : ∀ {n : Nat}, (∀ i, i < n → Cong p (f i) (g i)) → Cong p (Sg f n) (Sg g n)
  | 0, _ => Cong.refl _ _
  | n + 1, h => (Sg_cong (n := n) (fun i hi => h i (by omega))).add (h n (by omega))
theorem Sg_add (f g : Nat → Int) : ∀ n, Sg (fun i => f i + g i) n = Sg f n + Sg g n
  | 0 => rfl
  | n + 1 => by simp only [Sg]; rw [Sg_add f g n]; omega
theorem Sg_mul (c : Int) (f : Nat → Int) : ∀ n, Sg (fun i => c * f i) n = c * Sg f n
  | 0 => by simp [Sg]
  | n + 1 => by simp only [Sg]; rw [Sg_mul c f n, Int.mul_add]
theorem Sg_zero {f : Nat → Int} : ∀ {n : Nat}, (∀ i, i < n → f i = 0) → Sg f n = 0
  | 0, _ => rfl
  | n + 1, h => by simp only [Sg]; rw [Sg_zero (n := n) (fun i hi => h i (by omega)), h n (by omega)]; rfl
theorem Sg_head (f : Nat → Int) : ∀ n, Sg f (n + 1) = f 0 + Sg (fun i => f (i + 1)) n
  | 0 => by simp [Sg]
  | n + 1 => by rw [Sg, Sg_head f n]; simp only [Sg]; omega
theorem Sg_more {f : Nat → Int} {n : Nat} : ∀ {m : Nat}, n ≤ m → (∀ i, n ≤ i → f i = 0) → Sg f m = Sg f n
  | 0, h, _ => by rw [show n = 0 by omega]
  | m + 1, h, hz => by
    by_cases he : n = m + 1
    · rw [he]
    · simp only [Sg]; rw [Sg_more (m := m) (by omega) hz, hz m (by omega), Int.add_zero]
theorem Sg_rev (f : Nat → Int) : ∀ n, Sg f n = Sg (fun i => f (n - 1 - i)) n
  | 0 => rfl
  | n + 1 => by
    rw [Sg_head (fun i => f (n + 1 - 1 - i)) n]
    simp only [Sg]
    rw [Sg_rev f n]
    have : Sg (fun i => f (n + 1 - 1 - (i + 1))) n = Sg (fun i => f (n - 1 - i)) n := Sg_congr fun i hi => by rw [show n + 1 - 1 - (i + 1) = n - 1 - i by omega]
    rw [this]
    simp; omega
theorem Sg_single {f : Nat → Int} {j : Nat} : ∀ {n : Nat}, j < n → (∀ i, i < n → i ≠ j → f i = 0) → Sg f n = f j
  | 0, h, _ => by omega
  | n + 1, h, hz => by
    simp only [Sg]
    by_cases he : j = n
    · subst he; rw [Sg_zero (fun i hi => hz i (by omega) (by omega)), Int.zero_add]
    · rw [Sg_single (n := n) (by omega) (fun i hi hn => hz i (by omega) hn), hz n (by omega) (by omega), Int.add_zero]

/-- A coefficient of a product. -/
def conv (a b : List Int) (k : Nat) : Int := Sg (fun i => cf a i * cf b (k - i)) (k + 1)

theorem conv_comm (a b : List Int) (k : Nat) : conv a b k = conv b a k := by
  unfold conv
  rw [Sg_rev]
  refine Sg_congr fun i hi => ?_
  show cf a (k + 1 - 1 - i) * cf b (k - (k + 1 - 1 - i)) = cf b i * cf a (k - i)
  rw [show k - (k + 1 - 1 - i) = i by omega, show k + 1 - 1 - i = k - i by omega, Int.mul_comm]
theorem conv_cong {p : Int} {a b c d : List Int} (h : ∀ k, Cong p (cf a k) (cf c k)) (h2 : ∀ k, Cong p (cf b k) (cf d k)) (k : Nat) : Cong p (conv a b k) (conv c d k) :=
  Sg_cong fun i _ => (h i).mul (h2 _)
theorem conv_add {p : Int} {s a b : List Int} (h : ∀ k, Cong p (cf s k) (cf a k + cf b k)) (c : List Int) (k : Nat) : Cong p (conv s c k) (conv a c k + conv b c k) := by
  unfold conv
  rw [← Sg_add]
  refine Sg_cong fun i _ => ?_
  rw [← Int.add_mul]
  exact (h i).mul (Cong.refl _ _)
theorem conv_cons_zero (x : Int) (a b : List Int) : conv (x :: a) b 0 = x * cf b 0 := by
  simp [conv, Sg, cf_zero]
theorem conv_cons_succ (x : Int) (a b : List Int) (k : Nat) : conv (x :: a) b (k + 1) = x * cf b (k + 1) + conv a b k := by
  unfold conv
  rw [Sg_head]
  show x * cf b (k + 1 - 0) + _ = _
  rw [Nat.sub_zero]
  congr 1
  refine Sg_congr fun i hi => ?_
  rw [cf_succ, show k + 1 - (i + 1) = k - i by omega]
theorem conv_nil (b : List Int) (k : Nat) : conv [] b k = 0 := Sg_zero fun i _ => by rw [cf_nil, Int.zero_mul]
theorem conv_out {a b : List Int} {k : Nat} (h : a.length + b.length ≤ k + 1) : conv a b k = 0 := by
  refine Sg_zero fun i hi => ?_
  by_cases h1 : a.length ≤ i
  · rw [cf_out h1, Int.zero_mul]
  · rw [cf_out (l := b) (by omega), Int.mul_zero]
theorem conv_last {a b : List Int} {n m : Nat} (ha : a.length = n + 1) (hb : b.length = m + 1) : conv a b (n + m) = cf a n * cf b m := by
  unfold conv
  rw [Sg_single (j := n) (by omega)]
  · rw [show n + m - n = m by omega]
  · intro i hi hne
    by_cases h1 : n < i
    · rw [cf_out (l := a) (by omega), Int.zero_mul]
    · rw [cf_out (l := b) (by omega), Int.mul_zero]

theorem polyZ_Sg (x : Int) (l : List Int) : ∀ N, l.length ≤ N → polyZ x l = Sg (fun k => cf l k * x ^ k) N := by
  induction l with
  | nil => intro N _; rw [Sg_zero (fun i _ => by rw [cf_nil, Int.zero_mul])]; rfl
  | cons c l ih =>
    intro N hN
    obtain ⟨M, rfl⟩ : ∃ M, N = M + 1 := ⟨N - 1, by simp at hN; omega⟩
    rw [Sg_head, polyZ_cons, ih M (by simpa using hN)]
    rw [cf_zero, Int.pow_zero, Int.mul_one, Int.add_comm]
    congr 1
    rw [Int.mul_comm, ← Sg_mul]
    exact Sg_congr fun i _ => by rw [cf_succ, Int.pow_succ, ← Int.mul_assoc, Int.mul_comm x, Int.mul_assoc, Int.mul_comm x]

theorem conv_value (x : Int) (b : List Int) (a : List Int) : ∀ N, a.length + b.length ≤ N → Sg (fun k => conv a b k * x ^ k) N = polyZ x a * polyZ x b := by
  induction a with
  | nil => intro N _; rw [Sg_zero (fun i _ => by rw [conv_nil, Int.zero_mul])]; simp [polyZ]
  | cons c a ih =>
    intro N hN
    obtain ⟨M, rfl⟩ : ∃ M, N = M + 1 := ⟨N - 1, by simp at hN; omega⟩
    simp only [List.length_cons] at hN
    have h1 := polyZ_Sg x b (M + 1) (by omega)
    rw [Sg_head] at h1
    have h2 := ih M (by omega)
    rw [Sg_head, conv_cons_zero]
    have h3 : Sg (fun i => conv (c :: a) b (i + 1) * x ^ (i + 1)) M = c * Sg (fun i => cf b (i + 1) * x ^ (i + 1)) M + x * Sg (fun k => conv a b k * x ^ k) M := by
      rw [← Sg_mul, ← Sg_mul, ← Sg_add]
      refine Sg_congr fun i _ => ?_
      rw [conv_cons_succ, Int.add_mul, Int.mul_assoc, Int.pow_succ, ← Int.mul_assoc (conv a b i), Int.mul_comm x]
    rw [h3, h2, polyZ_cons, h1]
    simp only [Int.pow_zero, Int.mul_one]
    rw [Int.add_mul, Int.mul_add c, Int.mul_assoc (polyZ x a) x, Int.mul_comm x (_ + _), ← Int.mul_assoc (polyZ x a)]
    rw [Int.mul_comm x]; omega

theorem polyZ_cfs {p x : Int} {l m : List Int} (h : ∀ k, Cong p (cf l k) (cf m k)) : Cong p (polyZ x l) (polyZ x m) := by
  rw [polyZ_Sg x l (l.length + m.length) (by omega), polyZ_Sg x m (l.length + m.length) (by omega)]
  exact Sg_cong fun i _ => (h i).mul (Cong.refl _ _)
theorem polyZ_sum {p x : Int} {s a b : List Int} (h : ∀ k, Cong p (cf s k) (cf a k + cf b k)) : Cong p (polyZ x s) (polyZ x a + polyZ x b) := by
  have hN : s.length ≤ s.length + a.length + b.length ∧ a.length ≤ s.length + a.length + b.length ∧ b.length ≤ s.length + a.length + b.length := by omega
  generalize s.length + a.length + b.length = N at hN
  rw [polyZ_Sg x s N hN.1, polyZ_Sg x a N hN.2.1, polyZ_Sg x b N hN.2.2, ← Sg_add]
  refine Sg_cong fun i _ => ?_
  rw [← Int.add_mul]
  exact (h i).mul (Cong.refl _ _)
theorem polyZ_prod {p x : Int} {s a b : List Int} (h : ∀ k, Cong p (cf s k) (conv a b k)) : Cong p (polyZ x s) (polyZ x a * polyZ x b) := by
  have hN : s.length ≤ s.length + (a.length + b.length) ∧ a.length + b.length ≤ s.length + (a.length + b.length) := by omega
  generalize s.length + (a.length + b.length) = N at hN
  rw [polyZ_Sg x s N hN.1, ← conv_value x b a N hN.2]
  exact Sg_cong fun i _ => (h i).mul (Cong.refl _ _)

/-- How many of the first n coefficients are left without zeros at the end. -/
def tn (l : List Int) : Nat → Nat
  | 0 => 0
  | n + 1 => if cf l n = 0 then tn l n else n + 1
theorem tn_le (l : List Int) : ∀ n, tn l n ≤ n
  | 0 => Nat.le_refl _
  | n + 1 => by
    simp only [tn]; split
    · have := tn_le l n; omega
    · omega
theorem tn_zero {l : List Int} : ∀ {n k : Nat}, tn l n ≤ k → k < n → cf l k = 0
  | 0, k, _, h => by omega
  | n + 1, k, h1, h2 => by
    simp only [tn] at h1
    split at h1
    · rename_i h
      by_cases hk : k = n
      · rw [hk]; exact h
      · exact tn_zero (n := n) h1 (by omega)
    · omega
theorem tn_last {l : List Int} : ∀ {n m : Nat}, tn l n = m + 1 → cf l m ≠ 0
  | 0, m, h => by simp [tn] at h
  | n + 1, m, h => by
    simp only [tn] at h
    split at h
    · exact tn_last (n := n) h
    · rename_i h0; rw [show m = n by omega]; exact h0
/-- A polynomial without zeros at the end. -/
def trimL (l : List Int) : List Int := l.take (tn l l.length)
theorem trimL_len (l : List Int) : (trimL l).length = tn l l.length := by
  unfold trimL; rw [List.length_take]; have := tn_le l l.length; omega
theorem cf_trimL (l : List Int) (k : Nat) : cf (trimL l) k = cf l k := by
  unfold trimL
  rw [cf_take]
  split
  · rfl
  · by_cases hk : k < l.length
    · exact (tn_zero (n := l.length) (by omega) hk).symm
    · exact (cf_out (by omega)).symm
theorem trimL_allP {p : Int} {l : List Int} (h : allP p l = true) : allP p (trimL l) = true := allP_iff.2 fun x hx => allP_iff.1 h x (List.mem_of_mem_take hx)
/-- It has no zeros at the end. -/
def Trimd (l : List Int) : Prop := ∀ n, l.length = n + 1 → cf l n ≠ 0
theorem Trimd.nil_ : Trimd [] := fun n h => by simp at h
theorem trimL_trimd (l : List Int) : Trimd (trimL l) := fun n h => by
  rw [trimL_len] at h
  rw [cf_trimL]
  exact tn_last h
theorem Trimd.len_le {a b : List Int} (ha : Trimd a) (h : ∀ k, cf a k = cf b k) : a.length ≤ b.length := by
  cases hn : a.length with
  | zero => omega
  | succ n =>
    have h1 := ha n hn
    rw [h n] at h1
    rcases Nat.lt_or_ge n b.length with h2 | h2
    · omega
    · exact absurd (cf_out h2) h1
theorem Trimd.ext {a b : List Int} (ha : Trimd a) (hb : Trimd b) (h : ∀ k, cf a k = cf b k) : a = b := by
  have h1 := ha.len_le h
  have h2 := hb.len_le (fun k => (h k).symm)
  exact cf_ext (by omega) h
theorem Trimd.trimL {a : List Int} (ha : Trimd a) : Go.Proofs.Ytgboojmoplcpdaa.trimL a = a := (trimL_trimd a).ext ha (cf_trimL a)

/-- A sum, trimmed. -/
def rawAdd (p : Int) (a b : List Int) : List Int := (List.range (max a.length b.length)).map fun k => (cf a k + cf b k) % p
def addL (p : Int) (a b : List Int) : List Int := trimL (rawAdd p a b)
theorem cf_addL (p : Int) (a b : List Int) (k : Nat) : cf (addL p a b) k = (cf a k + cf b k) % p := by
  unfold addL rawAdd
  rw [cf_trimL, cf_map_range]
  split
  · rfl
  · rw [cf_out (l := a) (by omega), cf_out (l := b) (by omega)]; simp
/-- A product of trimmed polynomials. -/
def rawMul (p : Int) (a b : List Int) : List Int := (List.range (a.length + b.length - 1)).map fun k => conv a b k % p
def mulL (p : Int) (a b : List Int) : List Int := if (trimL a).length = 0 ∨ (trimL b).length = 0 then [] else rawMul p (trimL a) (trimL b)
theorem conv_trim (a b : List Int) (k : Nat) : conv (trimL a) (trimL b) k = conv a b k := Sg_congr fun i _ => by rw [cf_trimL, cf_trimL]
theorem cf_mulL (p : Int) (a b : List Int) (k : Nat) : cf (mulL p a b) k = conv a b k % p := by
  unfold mulL
  rw [← conv_trim]
  split
  · rename_i h
    rw [cf_nil]
    rcases h with h | h
    · rw [List.eq_nil_of_length_eq_zero h, conv_nil]; simp
    · rw [conv_comm, List.eq_nil_of_length_eq_zero h, conv_nil]; simp
  · unfold rawMul
    rw [cf_map_range]
    split
    · rfl
    · rw [conv_out (by omega)]; simp
theorem emod_in {p : Int} (hp : 2 ≤ p) (x : Int) : 0 ≤ x % p ∧ x % p < p := ⟨Int.emod_nonneg _ (by omega), Int.emod_lt_of_pos _ (by omega)⟩
theorem map_allP {p : Int} (hp : 2 ≤ p) (f : Nat → Int) (n : Nat) : allP p ((List.range n).map fun k => f k % p) = true := allP_iff.2 fun x hx => by
  obtain ⟨k, _, rfl⟩ := List.mem_map.1 hx
  exact emod_in hp _
theorem addL_allP {p : Int} (hp : 2 ≤ p) (a b : List Int) : allP p (addL p a b) = true := trimL_allP (map_allP hp _ _)
theorem rawMul_allP {p : Int} (hp : 2 ≤ p) (a b : List Int) : allP p (rawMul p a b) = true := map_allP hp _ _
theorem mulL_allP {p : Int} (hp : 2 ≤ p) (a b : List Int) : allP p (mulL p a b) = true := by
  unfold mulL; split
  · rfl
  · exact rawMul_allP hp _ _
theorem addL_trimd (p : Int) (a b : List Int) : Trimd (addL p a b) := trimL_trimd _
theorem rawMul_trimd {p : Int} (h : okP p = true) {a b : List Int} (ha : allP p a = true) (hb : allP p b = true) (hta : Trimd a) (htb : Trimd b) (h1 : 0 < a.length) (h2 : 0 < b.length) : Trimd (rawMul p a b) := by
  have hp := (okP_pos h).1
  intro n hn
  obtain ⟨i, hi⟩ : ∃ i, a.length = i + 1 := ⟨a.length - 1, by omega⟩
  obtain ⟨j, hj⟩ : ∃ j, b.length = j + 1 := ⟨b.length - 1, by omega⟩
  have hlen : (rawMul p a b).length = i + j + 1 := by simp [rawMul]; omega
  have hnn : n = i + j := by omega
  subst hnn
  unfold rawMul
  rw [cf_map_range, if_pos (by omega), conv_last hi hj]
  intro h0
  have h3 : Cong p (cf a i * cf b j) 0 := by unfold Cong; rw [h0]; simp
  rcases Cong.mul_zero h h3 with h4 | h4
  · exact hta i hi ((Cong.elt_zero (cf_in hp ha i)).1 h4)
  · exact htb j hj ((Cong.elt_zero (cf_in hp hb j)).1 h4)
theorem mulL_trimd {p : Int} (h : okP p = true) {a b : List Int} (ha : allP p a = true) (hb : allP p b = true) : Trimd (mulL p a b) := by
  unfold mulL; split
  · exact Trimd.nil_
  · exact rawMul_trimd h (trimL_allP ha) (trimL_allP hb) (trimL_trimd _) (trimL_trimd _) (by omega) (by omega)
theorem mulL_len_le (p : Int) (a b : List Int) : (mulL p a b).length ≤ a.length + b.length := by
  unfold mulL; split
  · simp
  · simp [rawMul, trimL_len]; have := tn_le a a.length; have := tn_le b b.length; omega
theorem addL_len_le (p : Int) (a b : List Int) : (addL p a b).length ≤ max a.length b.length := by
  unfold addL rawAdd; rw [trimL_len]
  have := tn_le ((List.range (max a.length b.length)).map fun k => (cf a k + cf b k) % p) ((List.range (max a.length b.length)).map fun k => (cf a k + cf b k) % p).length
  simpa using this

/-! The laws. -/
theorem addL_comm (p : Int) (a b : List Int) : addL p a b = addL p b a := (addL_trimd _ _ _).ext (addL_trimd _ _ _) fun k => by rw [cf_addL, cf_addL, Int.add_comm]
theorem mulL_comm {p : Int} (h : okP p = true) {a b : List Int} (ha : allP p a = true) (hb : allP p b = true) : mulL p a b = mulL p b a := (mulL_trimd h ha hb).ext (mulL_trimd h hb ha) fun k => by rw [cf_mulL, cf_mulL, conv_comm]
theorem mulL_add {p : Int} (h : okP p = true) {a b c : List Int} (ha : allP p a = true) (hb : allP p b = true) (hc : allP p c = true) : mulL p (addL p a b) c = addL p (mulL p a c) (mulL p b c) := by
  have hp := (okP_pos h).1
  refine (mulL_trimd h (addL_allP hp _ _) hc).ext (addL_trimd _ _ _) fun k => ?_
  rw [cf_mulL, cf_addL, cf_mulL, cf_mulL]
  have h1 := conv_add (p := p) (s := addL p a b) (a := a) (b := b) (fun k => by rw [cf_addL]; exact Cong.mod _ _) c k
  exact h1.trans ((Cong.mod p _).symm.add (Cong.mod p _).symm)
theorem value_addL {p : Int} (hp : 2 ≤ p) (x : Int) (a b : List Int) : valueP p x (addL p a b) = (valueP p x a + valueP p x b) % p := by
  refine Cong.eq (p := p) ?_ (valueP_in hp _ _) (emod_in hp _)
  refine (valueP_cong _ _ _).trans ((polyZ_sum (a := a) (b := b) fun k => by rw [cf_addL]; exact Cong.mod _ _).trans (Cong.symm ((Cong.mod _ _).trans ((valueP_cong _ _ _).add (valueP_cong _ _ _)))))
theorem value_mulL {p : Int} (hp : 2 ≤ p) (x : Int) (a b : List Int) : valueP p x (mulL p a b) = valueP p x a * valueP p x b % p := by
  refine Cong.eq (p := p) ?_ (valueP_in hp _ _) (emod_in hp _)
  refine (valueP_cong _ _ _).trans ((polyZ_prod (a := a) (b := b) fun k => by rw [cf_mulL]; exact Cong.mod _ _).trans (Cong.symm ((Cong.mod _ _).trans ((valueP_cong _ _ _).mul (valueP_cong _ _ _)))))
end Go.Proofs.Ytgboojmoplcpdaa

/-! CombA -/
namespace Go.Proofs.Ytgboojmoplcpdaa
set_option linter.unusedVariables false

/-- One element more of a row, times x. -/
def timesP (p x t a : Int) : Int := addP p t (mulP p x a)
theorem timesP_in {p : Int} (hp : 2 ≤ p) (x t a : Int) : 0 ≤ timesP p x t a ∧ timesP p x t a < p := addP_in _ _ hp

/-- A list to which another one has been added at its first k places. -/
def partly (f : Int → Int → Int) (ts l : List Int) (k : Nat) : List Int := zipI f (ts.take k) (l.take k) ++ ts.drop k

theorem partly_zero (f : Int → Int → Int) (ts l : List Int) : partly f ts l 0 = ts := by simp [partly, zipI]
theorem partly_all (f : Int → Int → Int) (ts l : List Int) (h : ts.length = l.length) : partly f ts l ts.length = zipI f ts l := by
  unfold partly
  rw [List.take_length, List.drop_length, List.append_nil, h, List.take_length]
theorem partly_len (f : Int → Int → Int) (ts l : List Int) (h : ts.length = l.length) (k : Nat) (hk : k ≤ ts.length) : (partly f ts l k).length = ts.length := by
  unfold partly
  rw [List.length_append, zipI_length _ _ _ (by simp [h]), List.length_take, List.length_drop]; omega
theorem partly_at (f : Int → Int → Int) (ts l : List Int) (h : ts.length = l.length) (k : Nat) (hk : k < ts.length) : (partly f ts l k).getD k 0 = ts.getD k 0 := by
  have hl : (zipI f (ts.take k) (l.take k)).length = k := by rw [zipI_length _ _ _ (by simp [h]), List.length_take]; omega
  unfold partly
  rw [List.getD_eq_getElem?_getD, List.getElem?_append_right (by omega), hl, Nat.sub_self, List.getElem?_drop, Nat.add_zero, List.getD_eq_getElem?_getD]
theorem partly_set (f : Int → Int → Int) (ts l : List Int) (h : ts.length = l.length) (k : Nat) (hk : k < ts.length) : (partly f ts l k).set k (f (ts.getD k 0) (l.getD k 0)) = partly f ts l (k + 1) := by
  have hl : (zipI f (ts.take k) (l.take k)).length = k := by rw [zipI_length _ _ _ (by simp [h]), List.length_take]; omega
  unfold partly
  rw [zipI_take_succ f ts l k hk (by omega), List.set_append_right _ _ (by omega), hl, Nat.sub_self, List.append_assoc]
  congr 1
  rw [List.drop_eq_getElem_cons hk]; rfl

/-- The combination of some rows, from a list on. -/
def combFrom (p : Int) (acc : List Int) : List Int → List (List Int) → List Int
  | c :: cs, r :: rs => combFrom p (zipI (timesP p c) acc r) cs rs
  | _, _ => acc
/-- The combination of rows of a width. -/
def combP (p : Int) (cs : List Int) (rows : List (List Int)) (w : Nat) : List Int := combFrom p (List.replicate w 0) cs rows

theorem combFrom_snoc (p : Int) (cs : List Int) (c : Int) (rs : List (List Int)) (r : List Int) : ∀ acc, cs.length = rs.length → combFrom p acc (cs ++ [c]) (rs ++ [r]) = zipI (timesP p c) (combFrom p acc cs rs) r := by
  induction cs generalizing rs with
  | nil => intro acc h; cases rs with
    | nil => rfl
    | cons _ _ => simp at h
  | cons c' cs ih => intro acc h; cases rs with
    | nil => simp at h
    | cons r' rs => exact ih rs _ (by simpa using h)

theorem combFrom_len (p : Int) (cs : List Int) : ∀ (rs : List (List Int)) (acc : List Int), (∀ r ∈ rs, r.length = acc.length) → (combFrom p acc cs rs).length = acc.length := by
  induction cs with
  | nil => intro rs acc _; cases rs <;> rfl
  | cons c cs ih =>
    intro rs acc h
    cases rs with
    | nil => rfl
    | cons r rs =>
      have e : (zipI (timesP p c) acc r).length = acc.length := zipI_length _ _ _ (h r (by simp)).symm
      show (combFrom p (zipI (timesP p c) acc r) cs rs).length = _
      rw [ih rs _ (fun r' hr' => by rw [e]; exact h r' (by simp [hr'])), e]

theorem combFrom_all {p : Int} (hp : 2 ≤ p) (cs : List Int) : ∀ (rs : List (List Int)) (acc : List Int), allP p acc = true → allP p (combFrom p acc cs rs) = true := by
  induction cs with
  | nil => intro rs acc h; cases rs <;> exact h
  | cons c cs ih =>
    intro rs acc h
    cases rs with
    | nil => exact h
    | cons r rs => exact ih rs _ (zipI_all _ (fun x y => timesP_in hp c x y) _ _)

theorem zeros_all {p : Int} (hp : 2 ≤ p) (w : Nat) : allP p (List.replicate w 0) = true := by
  rw [allP_iff]; intro x hx
  rw [List.mem_replicate] at hx
  omega
theorem combP_len (p : Int) (cs : List Int) (rows : List (List Int)) (w : Nat) (h : ∀ r ∈ rows, r.length = w) : (combP p cs rows w).length = w := by
  unfold combP; rw [combFrom_len p cs rows _ (by simpa using h)]; simp
theorem combP_all {p : Int} (hp : 2 ≤ p) (cs : List Int) (rows : List (List Int)) (w : Nat) : allP p (combP p cs rows w) = true := combFrom_all hp cs rows _ (zeros_all hp w)

theorem getD_mem2 {α : Type} {l : List α} {k : Nat} {d : α} (hk : k < l.length) : l.getD k d ∈ l := by
  rw [List.getD_eq_getElem?_getD, List.getElem?_eq_getElem hk, Option.getD_some]; exact List.getElem_mem hk

theorem combP_take_succ (p : Int) (cs : List Int) (rows : List (List Int)) (w j : Nat) (hc : j < cs.length) (hr : j < rows.length) :
    combP p (cs.take (j + 1)) (rows.take (j + 1)) w = zipI (timesP p (cs.getD j 0)) (combP p (cs.take j) (rows.take j) w) (rows.getD j []) := by
  unfold combP
  rw [List.take_succ_eq_append_getElem hc, List.take_succ_eq_append_getElem hr, combFrom_snoc _ _ _ _ _ _ (by simp; omega), List.getD_eq_getElem?_getD, List.getElem?_eq_getElem hc, List.getD_eq_getElem?_getD, List.getElem?_eq_getElem hr]
  rfl
end Go.Proofs.Ytgboojmoplcpdaa

/-! PolyB -/
namespace Go.Proofs.Ytgboojmoplcpdaa
set_option linter.unusedVariables false

theorem cf_set (l : List Int) (j i : Nat) (v : Int) : cf (l.set j v) i = if j = i ∧ j < l.length then v else cf l i := by
  unfold cf
  rw [List.getD_eq_getElem?_getD, List.getElem?_set, List.getD_eq_getElem?_getD]
  by_cases h : j = i
  · subst h
    by_cases h2 : j < l.length
    · rw [if_pos rfl, if_pos h2, if_pos ⟨rfl, h2⟩]; rfl
    · rw [if_pos rfl, if_neg h2, if_neg (by omega), List.getElem?_eq_none (by omega)]
  · rw [if_neg h, if_neg (by omega)]

/-- x times l added to ts from place o on, the first k places of l done. -/
def addTo (p x : Int) (o : Nat) (l ts : List Int) (k : Nat) : List Int := (List.range ts.length).map fun i => if o ≤ i ∧ i < o + k then timesP p x (cf ts i) (cf l (i - o)) else cf ts i
theorem addTo_len (p x : Int) (o : Nat) (l ts : List Int) (k : Nat) : (addTo p x o l ts k).length = ts.length := by simp [addTo]
theorem cf_addTo_raw (p x : Int) (o : Nat) (l ts : List Int) (k i : Nat) : cf (addTo p x o l ts k) i = if i < ts.length then (if o ≤ i ∧ i < o + k then timesP p x (cf ts i) (cf l (i - o)) else cf ts i) else 0 := by
  unfold addTo; rw [cf_map_range]
theorem addTo_zero (p x : Int) (o : Nat) (l ts : List Int) : addTo p x o l ts 0 = ts := by
  refine cf_ext (addTo_len _ _ _ _ _ _) fun i => ?_
  rw [cf_addTo_raw]
  split
  · rw [if_neg (by omega)]
  · rw [cf_out (by omega)]
theorem addTo_at (p x : Int) (o : Nat) (l ts : List Int) (k : Nat) (h : o + k < ts.length) : (addTo p x o l ts k).getD (o + k) 0 = ts.getD (o + k) 0 := by
  show cf (addTo p x o l ts k) (o + k) = cf ts (o + k)
  rw [cf_addTo_raw, if_pos h, if_neg (by omega)]
theorem addTo_set (p x : Int) (o : Nat) (l ts : List Int) (k : Nat) (h : o + k < ts.length) : (addTo p x o l ts k).set (o + k) (timesP p x (ts.getD (o + k) 0) (l.getD k 0)) = addTo p x o l ts (k + 1) := by
  refine cf_ext (by rw [List.length_set, addTo_len, addTo_len]) fun i => ?_
  rw [cf_set, addTo_len, cf_addTo_raw, cf_addTo_raw]
  by_cases hi : o + k = i
  · subst hi
    rw [if_pos ⟨rfl, h⟩, if_pos h, if_pos (by omega)]
    show timesP p x (cf ts (o + k)) (cf l k) = _
    rw [show o + k - o = k by omega]
  · rw [if_neg (by omega)]
    by_cases h2 : i < ts.length
    · rw [if_pos h2, if_pos h2]
      by_cases h3 : o ≤ i ∧ i < o + k
      · rw [if_pos h3, if_pos (by omega)]
      · rw [if_neg h3, if_neg (by omega)]
    · rw [if_neg h2, if_neg h2]
theorem timesP_mod2 (p x t a : Int) : timesP p x t a = (t + x * a) % p := by
  unfold timesP addP mulP; rw [Int.add_emod, Int.emod_emod_of_dvd _ (Int.dvd_refl p), ← Int.add_emod]
/-- All places of l done. -/
theorem cf_addTo {p x : Int} {o : Nat} {l ts : List Int} {m : Nat} (hm : l.length = m) (hta : ∀ i, 0 ≤ cf ts i ∧ cf ts i < p) {i : Nat} (hi : i < ts.length) : cf (addTo p x o l ts m) i = (cf ts i + x * (if o ≤ i then cf l (i - o) else 0)) % p := by
  rw [cf_addTo_raw, if_pos hi]
  have h1 := Int.emod_eq_of_lt (hta i).1 (hta i).2
  by_cases h2 : o ≤ i
  · rw [if_pos h2]
    by_cases h3 : i < o + m
    · rw [if_pos ⟨h2, h3⟩, timesP_mod2]
    · rw [if_neg (by omega), cf_out (l := l) (by omega), Int.mul_zero, Int.add_zero, h1]
  · rw [if_neg (by omega), if_neg h2, Int.mul_zero, Int.add_zero, h1]
theorem addTo_allP {p : Int} (hp : 2 ≤ p) (x : Int) (o : Nat) (l ts : List Int) (k : Nat) (h : allP p ts = true) : allP p (addTo p x o l ts k) = true := allP_iff.2 fun y hy => by
  obtain ⟨i, hi, rfl⟩ := List.mem_map.1 hy
  split
  · exact timesP_in hp _ _ _
  · exact cf_in hp h i

/-! The product, row by row. -/
def mulK (p : Int) (a b : List Int) (k : Nat) : List Int := (List.range (a.length + b.length - 1)).map fun i => Sg (fun j => if j ≤ i then cf a j * cf b (i - j) else 0) k % p
theorem mulK_len (p : Int) (a b : List Int) (k : Nat) : (mulK p a b k).length = a.length + b.length - 1 := by simp [mulK]
theorem mulK_zero (p : Int) (a b : List Int) : mulK p a b 0 = List.replicate (a.length + b.length - 1) 0 := by
  refine cf_ext (by rw [mulK_len, List.length_replicate]) fun i => ?_
  unfold mulK
  rw [cf_map_range]
  unfold cf
  rw [List.getD_eq_getElem?_getD, List.getElem?_replicate]
  simp only [Sg, Int.zero_emod]
  split <;> rfl
theorem mulK_allP {p : Int} (hp : 2 ≤ p) (a b : List Int) (k : Nat) : allP p (mulK p a b k) = true := map_allP hp _ _
theorem mulK_step {p : Int} (hp : 2 ≤ p) (a b : List Int) (k : Nat) {m : Nat} (hm : b.length = m) : addTo p (a.getD k 0) k b (mulK p a b k) m = mulK p a b (k + 1) := by
  refine cf_ext (by rw [addTo_len, mulK_len, mulK_len]) fun i => ?_
  by_cases hi : i < a.length + b.length - 1
  · rw [cf_addTo hm (cf_in hp (mulK_allP hp a b k)) (by rw [mulK_len]; exact hi)]
    unfold mulK
    rw [cf_map_range, if_pos hi, cf_map_range, if_pos hi]
    simp only [Sg]
    rw [Int.emod_add_emod]
    have : a.getD k 0 = cf a k := rfl
    rw [this]
    split
    · rfl
    · rw [Int.mul_zero]
  · rw [cf_out (by rw [addTo_len, mulK_len]; omega), cf_out (by rw [mulK_len]; omega)]
theorem mulK_all (p : Int) (a b : List Int) {n : Nat} (hn : a.length = n) : mulK p a b n = rawMul p a b := by
  refine cf_ext (by rw [mulK_len]; simp [rawMul]) fun i => ?_
  unfold mulK rawMul
  rw [cf_map_range, cf_map_range]
  split
  · have h1 : Sg (fun j => if j ≤ i then cf a j * cf b (i - j) else 0) (n + (i + 1)) = Sg (fun j => if j ≤ i then cf a j * cf b (i - j) else 0) n := Sg_more (by omega) fun j hj => by
      rw [cf_out (l := a) (by omega), Int.zero_mul]; simp
    have h2 : Sg (fun j => if j ≤ i then cf a j * cf b (i - j) else 0) (n + (i + 1)) = Sg (fun j => if j ≤ i then cf a j * cf b (i - j) else 0) (i + 1) := Sg_more (by omega) fun j hj => by
      rw [if_neg (by omega)]
    rw [← h1, h2]
    congr 1
    exact Sg_congr fun j hj => by rw [if_pos (by omega)]
  · rfl
/-! The sum by AddTimes. -/
theorem addL_raw {p : Int} (hp : 2 ≤ p) (a b : List Int) (ha : allP p a = true) {m : Nat} (hm : b.length = m) : addTo p 1 0 b (a ++ List.replicate (max a.length b.length - a.length) 0) m = rawAdd p a b := by
  have hlen : (a ++ List.replicate (max a.length b.length - a.length) 0).length = max a.length b.length := by simp; omega
  have hcf : ∀ i, cf (a ++ List.replicate (max a.length b.length - a.length) 0) i = cf a i := fun i => by
    unfold cf
    rw [List.getD_eq_getElem?_getD, List.getD_eq_getElem?_getD, List.getElem?_append]
    split
    · rfl
    · rw [List.getElem?_replicate, List.getElem?_eq_none (by omega)]
      split <;> rfl
  refine cf_ext (by rw [addTo_len, hlen]; simp [rawAdd]) fun i => ?_
  by_cases hi : i < max a.length b.length
  · rw [cf_addTo hm (fun i => by rw [hcf]; exact cf_in hp ha i) (by rw [hlen]; exact hi), hcf]
    unfold rawAdd
    rw [cf_map_range, if_pos hi, if_pos (Nat.zero_le _), Nat.sub_zero, Int.one_mul]
  · rw [cf_out (by rw [addTo_len, hlen]; omega), cf_out (by simp [rawAdd]; omega)]
end Go.Proofs.Ytgboojmoplcpdaa

/-! ItpA -/
namespace Go.Proofs.Ytgboojmoplcpdaa
set_option linter.unusedVariables false

/-- The product of all x - a. -/
def prodX (x : Int) (as : List Int) : Int := as.foldr (fun a s => (x - a) * s) 1
theorem prodX_snoc (x a : Int) (as : List Int) : prodX x (as ++ [a]) = prodX x as * (x - a) := by
  induction as with
  | nil => simp [prodX]
  | cons b as ih =>
    have h1 : prodX x (b :: as ++ [a]) = (x - b) * prodX x (as ++ [a]) := rfl
    have h2 : prodX x (b :: as) = (x - b) * prodX x as := rfl
    rw [h1, h2, ih, Int.mul_assoc]
theorem prodX_zero {p : Int} (x : Int) (as : List Int) {a : Int} (h : a ∈ as) (hx : Cong p (x - a) 0) : Cong p (prodX x as) 0 := by
  induction as with
  | nil => simp at h
  | cons b as ih =>
    have h2 : prodX x (b :: as) = (x - b) * prodX x as := rfl
    rw [h2]
    rcases List.mem_cons.1 h with rfl | h
    · have := hx.mul (Cong.refl p (prodX x as)); rwa [Int.zero_mul] at this
    · have := (Cong.refl p (x - b)).mul (ih h); rwa [Int.mul_zero] at this
theorem prodX_not {p : Int} (hok : okP p = true) (x : Int) (as : List Int) (h : ∀ a ∈ as, ¬ Cong p (x - a) 0) : ¬ Cong p (prodX x as) 0 := by
  induction as with
  | nil =>
    intro hc
    have hp := okP_pos hok
    have h1 : Cong p 1 0 := hc
    have := (Cong.elt_zero (p := p) (x := 1) (by omega)).1 h1
    omega
  | cons b as ih =>
    have h2 : prodX x (b :: as) = (x - b) * prodX x as := rfl
    rw [h2]
    intro hc
    rcases Cong.mul_zero hok hc with h1 | h1
    · exact h b (by simp) h1
    · exact ih (fun a ha => h a (by simp [ha])) h1
theorem elt_ne {p x a : Int} (hx : 0 ≤ x ∧ x < p) (ha : 0 ≤ a ∧ a < p) (hne : x ≠ a) : ¬ Cong p (x - a) 0 := fun h => hne (h.sub_zero.eq hx ha)
theorem polyZ_scaled {p x c : Int} {s a b : List Int} (h : ∀ k, Cong p (cf s k) (cf a k + c * cf b k)) : Cong p (polyZ x s) (polyZ x a + c * polyZ x b) := by
  have hN : s.length ≤ s.length + a.length + b.length ∧ a.length ≤ s.length + a.length + b.length ∧ b.length ≤ s.length + a.length + b.length := by omega
  generalize s.length + a.length + b.length = N at hN
  rw [polyZ_Sg x s N hN.1, polyZ_Sg x a N hN.2.1, polyZ_Sg x b N hN.2.2, ← Sg_mul, ← Sg_add]
  refine Sg_cong fun i _ => ?_
  have e : cf a i * x ^ i + c * (cf b i * x ^ i) = (cf a i + c * cf b i) * x ^ i := by rw [Int.add_mul, Int.mul_assoc]
  rw [e]
  exact (h i).mul (Cong.refl _ _)
theorem value_of {p x : Int} (hp : 2 ≤ p) {l : List Int} {y : Int} (hy : 0 ≤ y ∧ y < p) (h : Cong p (polyZ x l) y) : valueP p x l = y := ((valueP_cong p x l).trans h).eq (valueP_in hp x l) hy

/-- What holds between the rounds of Interpolate. -/
structure Itp (p : Int) (as ys poly node : List Int) (i : Nat) : Prop where
  lp : poly.length = i
  ln : node.length = i + 1
  ap : allP p poly = true
  an : allP p node = true
  pv : ∀ j, j < i → Cong p (polyZ (as.getD j 0) poly) (ys.getD j 0)
  nv : ∀ x, Cong p (polyZ x node) (prodX x (as.take i))

theorem Itp.start {p : Int} (hp : 2 ≤ p) (as ys : List Int) : Itp p as ys [] [1] 0 :=
  ⟨rfl, rfl, rfl, allP_iff.2 (by simp; omega), fun j hj => absurd hj (by omega), fun x => by simp [polyZ, prodX]; exact Cong.refl _ _⟩

theorem take_mem {l : List Int} {i : Nat} {a : Int} (h : a ∈ l.take i) : ∃ j, j < i ∧ j < l.length ∧ l.getD j 0 = a := by
  obtain ⟨j, hj, e⟩ := List.mem_iff_getElem.1 h
  have hl : (l.take i).length ≤ l.length ∧ (l.take i).length ≤ i := by rw [List.length_take]; omega
  refine ⟨j, by omega, by omega, ?_⟩
  rw [List.getD_eq_getElem?_getD, List.getElem?_eq_getElem (by omega)]
  rw [List.getElem_take] at e
  exact e

/-- The node is not 0 at a new point. -/
theorem Itp.new {p : Int} (hok : okP p = true) {as ys poly node : List Int} {i : Nat} (h : Itp p as ys poly node i) (ha : allP p as = true) (hi : i < as.length) (hd : ∀ j k, j < k → k < as.length → as.getD j 0 ≠ as.getD k 0) :
    0 < valueP p (as.getD i 0) node ∧ valueP p (as.getD i 0) node < p := by
  have hp := okP_pos hok
  have hin := valueP_in hp.1 (as.getD i 0) node
  refine ⟨?_, hin.2⟩
  rcases Int.lt_or_le 0 (valueP p (as.getD i 0) node) with h1 | h1
  · exact h1
  · exfalso
    have h0 : valueP p (as.getD i 0) node = 0 := by omega
    have h2 := (valueP_cong p (as.getD i 0) node).symm
    rw [h0] at h2
    refine prodX_not hok (as.getD i 0) (as.take i) (fun a hm => ?_) ((h.nv _).symm.trans h2)
    obtain ⟨j, hj, hjl, rfl⟩ := take_mem hm
    exact elt_ne (allP_getD ha hi) (allP_getD ha hjl) (fun e => hd j i hj hi e.symm)

theorem take_succ_getD (l : List Int) (k : Nat) (h : k < l.length) : l.take (k + 1) = l.take k ++ [l.getD k 0] := by
  rw [List.take_add_one, List.getElem?_eq_getElem h, List.getD_eq_getElem?_getD, List.getElem?_eq_getElem h]; rfl

theorem Itp.step {p : Int} (hok : okP p = true) {as ys poly node : List Int} {i : Nat} (h : Itp p as ys poly node i) (ha : allP p as = true) (hy : allP p ys = true) (hi : i < as.length) (hi2 : i < ys.length) {inv : Int} (hv : Cong p (valueP p (as.getD i 0) node * inv) 1) :
    Itp p as ys (addTo p (mulP p (subP p (ys.getD i 0) (valueP p (as.getD i 0) poly)) inv) 0 node (poly ++ List.replicate 1 0) (i + 1)) (rawMul p node [subP p 0 (as.getD i 0), 1]) (i + 1) := by
  have hp := okP_pos hok
  have hap : allP p (poly ++ List.replicate 1 0) = true := allP_append.2 ⟨h.ap, allP_iff.2 (by simp; omega)⟩
  have hln : (poly ++ List.replicate 1 0).length = i + 1 := by simp [h.lp]
  have hcf : ∀ k, cf (poly ++ List.replicate 1 0) k = cf poly k := fun k => by
    unfold cf
    rw [List.getD_eq_getElem?_getD, List.getD_eq_getElem?_getD, List.getElem?_append]
    split
    · rfl
    · rw [List.getElem?_replicate, List.getElem?_eq_none (by omega)]
      split <;> rfl
  generalize hby : mulP p (subP p (ys.getD i 0) (valueP p (as.getD i 0) poly)) inv = by_
  have hval : ∀ z, Cong p (polyZ z (addTo p by_ 0 node (poly ++ List.replicate 1 0) (i + 1))) (polyZ z poly + by_ * polyZ z node) := fun z => polyZ_scaled fun k => by
    by_cases hk : k < i + 1
    · rw [cf_addTo h.ln (cf_in hp.1 hap) (by rw [hln]; exact hk), hcf, if_pos (Nat.zero_le _), Nat.sub_zero]
      exact Cong.mod _ _
    · rw [cf_out (by rw [addTo_len, hln]; omega), cf_out (l := poly) (by rw [h.lp]; omega), cf_out (l := node) (by rw [h.ln]; omega), Int.mul_zero]
      exact Cong.refl _ _
  refine ⟨by rw [addTo_len, hln], by simp [rawMul, h.ln], addTo_allP hp.1 _ _ _ _ _ hap, rawMul_allP hp.1 _ _, fun j hj => ?_, fun x => ?_⟩
  · refine (hval _).trans ?_
    by_cases hji : j = i
    · subst hji
      have h1 := valueP_cong p (as.getD j 0) poly
      have h2 := valueP_cong p (as.getD j 0) node
      generalize valueP p (as.getD j 0) poly = u at *
      generalize valueP p (as.getD j 0) node = v at *
      have h3 : Cong p (by_ * polyZ (as.getD j 0) node) (ys.getD j 0 - u) := by
        rw [← hby]
        have h4 : Cong p (mulP p (subP p (ys.getD j 0) u) inv * polyZ (as.getD j 0) node) ((ys.getD j 0 - u) * inv * v) := (((Cong.mulP _ _ _).trans ((Cong.subP _ _ _).mul (Cong.refl _ _)))).mul h2.symm
        refine h4.trans ?_
        rw [Int.mul_assoc, Int.mul_comm inv]
        have := (Cong.refl p (ys.getD j 0 - u)).mul hv
        rwa [Int.mul_one] at this
      have h5 := h1.symm.add h3
      refine h5.trans (Cong.of_eq ?_)
      omega
    · have h1 := h.pv j (by omega)
      have h2 : Cong p (polyZ (as.getD j 0) node) 0 := (h.nv _).trans (prodX_zero _ _ (a := as.getD j 0) (by
        rw [List.getD_eq_getElem?_getD, List.getElem?_eq_getElem (by omega)]
        exact List.mem_take_iff_getElem.2 ⟨j, by omega, rfl⟩) (by rw [Int.sub_self]; exact Cong.refl _ _))
      have h3 := h1.add ((Cong.refl p by_).mul h2)
      rwa [Int.mul_zero, Int.add_zero] at h3
  · have hml : mulL p node [subP p 0 (as.getD i 0), 1] = mulL p node [subP p 0 (as.getD i 0), 1] := rfl
    have h1 : Cong p (polyZ x (rawMul p node [subP p 0 (as.getD i 0), 1])) (polyZ x node * polyZ x [subP p 0 (as.getD i 0), 1]) := polyZ_prod fun k => by
      unfold rawMul
      rw [cf_map_range]
      split
      · exact Cong.mod _ _
      · rename_i hk
        rw [conv_out (by omega)]
        exact Cong.refl _ _
    refine h1.trans ?_
    rw [take_succ_getD as i hi, prodX_snoc]
    refine (h.nv x).mul ?_
    have h2 : polyZ x [subP p 0 (as.getD i 0), 1] = x + subP p 0 (as.getD i 0) := by simp [polyZ]
    rw [h2]
    have h3 := (Cong.refl p x).add (Cong.subP p 0 (as.getD i 0))
    refine h3.trans (Cong.of_eq ?_)
    omega

/-- What Interpolate hands back. -/
structure Through (p : Int) (as ys R : List Int) : Prop where
  tr : Trimd R
  al : allP p R = true
  ln : R.length ≤ as.length
  va : ∀ j, j < as.length → valueP p (as.getD j 0) R = ys.getD j 0
theorem Itp.done {p : Int} (hp : 2 ≤ p) {as ys poly node : List Int} {n : Nat} (h : Itp p as ys poly node n) (hn : as.length = n) (hn2 : ys.length = n) (hy : allP p ys = true) : Through p as ys (trimL poly) :=
  ⟨trimL_trimd _, trimL_allP h.ap, by rw [trimL_len]; have := tn_le poly poly.length; have := h.lp; omega, fun j hj => value_of hp (allP_getD hy (by omega)) ((polyZ_cfs fun k => by rw [cf_trimL]; exact Cong.refl _ _).trans (h.pv j (by omega)))⟩
end Go.Proofs.Ytgboojmoplcpdaa

/-! InvA -/
namespace Go.Proofs.Ytgboojmoplcpdaa
set_option linter.unusedVariables false

theorem le_mul_one {x y : Int} (hx : 0 ≤ x) (hy : 1 ≤ y) : x ≤ x * y := by
  have := Int.mul_le_mul_of_nonneg_left hy hx
  rwa [Int.mul_one] at this

/-- What holds between the rounds of Inverse. -/
structure Euc (p a r s x y : Int) : Prop where
  s0 : 0 ≤ s
  sr : s < r
  rp : r ≤ p
  c1 : Cong p (x * a) r
  c2 : Cong p (y * a) s
  sg : (x ≤ 0 ∧ 0 ≤ y ∧ y * r - x * s = p) ∨ (0 ≤ x ∧ y ≤ 0 ∧ x * s - y * r = p)
  bx : -p ≤ x ∧ x ≤ p
  gd : ∀ d : Int, d ∣ r → d ∣ s → d ∣ 1

theorem Euc.start {p a : Int} (h : okP p = true) (ha : 0 < a ∧ a < p) : Euc p a p a 0 1 := by
  have hp := okP_pos h
  refine ⟨by omega, ha.2, Int.le_refl _, by rw [Int.zero_mul]; exact (Cong.self p).symm, by rw [Int.one_mul]; exact Cong.refl _ _, .inl ⟨Int.le_refl _, by omega, by rw [Int.one_mul, Int.zero_mul]; omega⟩, by omega, fun d h1 h2 => ?_⟩
  rcases Nat.lt_or_ge d.natAbs 2 with h3 | h3
  · rcases (by omega : d.natAbs = 0 ∨ d.natAbs = 1) with h4 | h4
    · rw [Int.natAbs_eq_zero.1 h4] at h1
      have := Int.zero_dvd.1 h1
      omega
    · exact Int.natAbs_dvd_natAbs.1 (by rw [h4]; exact Nat.one_dvd _)
  · exfalso
    have h4 := okP_prime h h3 (Int.natAbs_dvd.2 h1)
    have h5 : p ∣ a := by rw [← h4]; exact Int.natAbs_dvd.2 h2
    have := Int.le_of_dvd ha.1 h5
    omega

theorem Euc.by_ {p a r s x y : Int} (h : Euc p a r s x y) : -p ≤ y ∧ y ≤ p := by
  have hr : 1 ≤ r := by have := h.s0; have := h.sr; omega
  rcases h.sg with ⟨h1, h2, h3⟩ | ⟨h1, h2, h3⟩
  · have h4 : x * s ≤ 0 := Int.mul_nonpos_of_nonpos_of_nonneg h1 h.s0
    have := le_mul_one h2 hr
    omega
  · have h4 : 0 ≤ x * s := Int.mul_nonneg h1 h.s0
    have := le_mul_one (x := -y) (by omega) hr
    rw [Int.neg_mul] at this
    omega

theorem Euc.step {p a r s x y : Int} (h : Euc p a r s x y) (hs : 0 < s) : Euc p a s (r - r / s * s) y (x - r / s * y) := by
  have hm : r - r / s * s = r % s := by have := Int.emod_add_mul_ediv r s; rw [Int.mul_comm s] at this; omega
  have hm0 : 0 ≤ r % s := Int.emod_nonneg _ (by omega)
  have hm1 : r % s < s := Int.emod_lt_of_pos _ hs
  have hq : 0 ≤ r / s := Int.ediv_nonneg (by have := h.sr; omega) h.s0
  refine ⟨by omega, by omega, by have := h.sr; have := h.rp; omega, h.c2, ?_, ?_, h.by_, fun d h1 h2 => h.gd d ?_ h1⟩
  · rw [Int.sub_mul, Int.mul_assoc]
    exact h.c1.sub ((Cong.refl p (r / s)).mul h.c2)
  · have e : y * (r - r / s * s) - (x - r / s * y) * s = y * r - x * s := by
      rw [Int.mul_sub, Int.sub_mul, ← Int.mul_assoc, Int.mul_comm y (r / s)]; omega
    rcases h.sg with ⟨h1, h2, h3⟩ | ⟨h1, h2, h3⟩
    · right
      have := Int.mul_nonneg hq h2
      exact ⟨h2, by omega, by rw [e]; exact h3⟩
    · left
      have := Int.mul_nonneg hq (show 0 ≤ -y by omega)
      rw [Int.mul_neg] at this
      refine ⟨h2, by omega, ?_⟩
      have : (x - r / s * y) * s - y * (r - r / s * s) = -(y * (r - r / s * s) - (x - r / s * y) * s) := by omega
      rw [this, e]; omega
  · have : r = (r - r / s * s) + r / s * s := by omega
    rw [this]
    exact Int.dvd_add h2 (Int.dvd_mul_of_dvd_right h1)

theorem Euc.bounds {p a r s x y : Int} (h : Euc p a r s x y) (hs : 0 < s) : (0 ≤ r / s ∧ r / s ≤ p) ∧ (0 ≤ r / s * s ∧ r / s * s ≤ p) ∧ (-(2 * p) ≤ r / s * y ∧ r / s * y ≤ 2 * p) := by
  have hst := h.step hs
  have h1 := hst.by_
  have h2 := h.bx
  have h3 := hst.s0
  have h4 := h.rp
  have h5 : 0 ≤ r / s := Int.ediv_nonneg (by have := h.sr; omega) h.s0
  have h6 := le_mul_one h5 (show 1 ≤ s by omega)
  exact ⟨⟨h5, by omega⟩, ⟨by omega, by omega⟩, by omega, by omega⟩

theorem Euc.done {p a r x y : Int} (h : Euc p a r 0 x y) : Cong p (a * (x % p)) 1 := by
  have hr : r = 1 := by
    have h1 := h.gd r (Int.dvd_refl r) (Int.dvd_zero r)
    have h2 := h.sr
    have := Int.le_of_dvd (by omega) h1
    omega
  have h1 := h.c1
  rw [hr, Int.mul_comm] at h1
  exact ((Cong.refl p a).mul (Cong.mod p x)).trans h1
end Go.Proofs.Ytgboojmoplcpdaa

/-! Shape -/
namespace Go.Proofs.Ytgboojmoplcpdaa
open Go.RowKit
set_option linter.unusedVariables false

theorem quiet_more {P : Program} {f : FuncId} {args : Array Value} {w : World} {n : Nat} {v : Value}
    (h : Calls P f args (w.drewN n) fun e w' => e = .returned v ∧ ∃ q, w' = (w.drewN n).drewN q) : Calls P f args (w.drewN n) fun e w'' => e = .returned v ∧ ∃ m, w'' = w.drewN m :=
  h.mono fun _ _ ⟨he, m, hm⟩ => ⟨he, n + m, by rw [hm, World.drewN_drewN]⟩

/-- A list of the call's own is nil or begins its block. -/
theorem OwnI.shape {w : World} {base n c : Nat} {e : TypeId} {A : Option Addr} {xs : List Int} (h : OwnI w base e A n c xs) : (A = none ∧ n = 0 ∧ c = 0) ∨ ∃ g, A = some ⟨g, 0, none⟩ ∧ n ≤ c ∧ c ≤ maxLen := by
  rcases h.2 with ⟨hv, hn⟩ | ⟨g, cap, cur, hv, _, _, hc, hm, _⟩
  · injection hv with h1 h2 h3; exact .inl ⟨h1, hn, h3⟩
  · injection hv with h1 h2 h3; subst h3; exact .inr ⟨g, h1, hc, hm⟩

/-- An append of numbers, from any source, onto a row of the call's own: the step alone. -/
theorem wp_append_ints {P : Program} {w : World} {o : Oper} {a : Act} {K : Act → World → Prop} {Q : Exit → Act → World → Prop} (s x : Operand) (t : TypeId)
    (ho : o.op = .call { callee := .builtin .append, args := #[s, x], argTypes := #[t, t] })
    (base : Nat) (e : TypeId) (i : TypeInfo) (z : Value) (ht : P.underlying t = some (.slice e)) (hi : P.info? e = some i) (hz : i.zero = some z)
    (hsize : i.size = 1) (hby : i.bytes = 8) (hzs : z.cells.size = 1)
    (A : Option Addr) (n c : Nat) (xs : List Int) (hs : a.eval s = .slice A n c) (hown : OwnI w base e A n c xs)
    (B : Nat) (A2 : Option Addr) (m c2 : Nat) (ys : List Int) (hx : a.eval x = .slice A2 m c2) (hr : Ints w B A2 m ys)
    (N : Nat) (hN : n + m = N) (zs : List Int) (hzz : xs ++ ys = zs) (hcap : N ≤ 17592186044416) (hbase : base ≤ w.heap.size)
    (h : ∀ A' c' w', OwnI w' base e A' N c' zs → w.grownBy w' (Value.slice A n c).ownBlock → Below base w w' →
      ((Value.slice A' N c').ownBlock = (Value.slice A n c).ownBlock ∨ (Value.slice A' N c').ownBlock = some w.heap.size) → K (a.put o.dst (.slice A' N c')) w') : o.wp P a w K Q := by
  subst hN hzz
  refine wp_append_any w s x t ho base e i z 1 8 ht hi hz hsize hby hzs (by omega) (.slice A n c) n (vals xs) hs hown B A2 m c2 (vals ys) hx hr.reads (vals_one ys) (by unfold maxLen; omega) (by omega) hbase ?_
  intro v' w' hown' hg hat
  rw [show vals xs ++ vals ys = vals (xs ++ ys) by simp [vals]] at hown'
  have hb : Below base w w' := (Below.refl base w).grown hg hbase (OwnI.row hown)
  rcases hown'.2 with ⟨hv, hn⟩ | ⟨g, cap, cur, hv, _⟩
  · rw [hv] at hown' hat ⊢
    rw [hn] at hown' h
    exact h none 0 w' hown' hg hb hat
  · rw [hv] at hown' hat ⊢
    exact h _ cap w' hown' hg hb hat

/-- The same where a guard says yes. -/
theorem wpList_append_ints_want {P : Program} {w : World} {ops : Array Oper} {rest : List Oper} {o : Oper} {a : Act} {Q : Exit → Act → World → Prop} (hw : Region.wanted o (yielded ops a.tmps) = true) (s x : Operand) (t : TypeId)
    (ho : o.op = .call { callee := .builtin .append, args := #[s, x], argTypes := #[t, t] })
    (base : Nat) (e : TypeId) (i : TypeInfo) (z : Value) (ht : P.underlying t = some (.slice e)) (hi : P.info? e = some i) (hz : i.zero = some z)
    (hsize : i.size = 1) (hby : i.bytes = 8) (hzs : z.cells.size = 1)
    (A : Option Addr) (n c : Nat) (xs : List Int) (hs : a.eval s = .slice A n c) (hown : OwnI w base e A n c xs)
    (B : Nat) (A2 : Option Addr) (m c2 : Nat) (ys : List Int) (hx : a.eval x = .slice A2 m c2) (hr : Ints w B A2 m ys)
    (N : Nat) (hN : n + m = N) (zs : List Int) (hzz : xs ++ ys = zs) (hcap : N ≤ 17592186044416) (hbase : base ≤ w.heap.size)
    (h : ∀ A' c' w', OwnI w' base e A' N c' zs → w.grownBy w' (Value.slice A n c).ownBlock → Below base w w' →
      ((Value.slice A' N c').ownBlock = (Value.slice A n c).ownBlock ∨ (Value.slice A' N c').ownBlock = some w.heap.size) → wpList P ops Q rest (a.put o.dst (.slice A' N c')) w') : wpList P ops Q (o :: rest) a w :=
  BigFrame.wpList_want hw fun _ hK => wp_append_ints s x t ho base e i z ht hi hz hsize hby hzs A n c xs hs hown B A2 m c2 ys hx hr N hN zs hzz hcap hbase fun A' c' w' h1 h2 h3 h4 => hK _ _ (h A' c' w' h1 h2 h3 h4)

/-- Blocks on both sides of a mark are apart. -/
theorem own_apart {u v : Value} {m : Nat} (h1 : ∀ g, v.ownBlock = some g → g < m) (h2 : ∀ g, u.ownBlock = some g → m ≤ g) : u.ownBlock = none ∨ u.ownBlock ≠ v.ownBlock := by
  cases hu : u.ownBlock with
  | none => exact .inl rfl
  | some g =>
    right
    intro e
    have := h1 g e.symm
    have := h2 g hu
    omega

theorem OwnI.cap {w : World} {base n c : Nat} {e : TypeId} {A : Option Addr} {xs : List Int} (h : OwnI w base e A n c xs) : n ≤ c := by
  rcases h.shape with ⟨_, h1, h2⟩ | ⟨_, _, h1, _⟩ <;> omega
end Go.Proofs.Ytgboojmoplcpdaa

/-! MapB -/
namespace Go.Proofs.Ytgboojmoplcpdaa
open Go.RowKit
open Go.Maps
set_option linter.unusedVariables false

theorem plainElem_bool_inv {H : Type} {P : Program} {e : TypeId} (he : P.underlying e = some .bool) {v : Value} {z : DataW H × List MemPlace} (h : plainElem P e v = some z) : ∃ x, v = .bool x ∧ z = (.lit (.bool x), []) := by
  unfold plainElem at h
  rw [he] at h
  cases v <;> simp at h
  exact ⟨_, rfl, h.symm⟩

theorem wpList_lookup_own_bool {H : Type} {P : Program} (w : World) {ops : Array Oper} {rest : List Oper} {o : Oper} {a : Act} {Q : Exit → Act → World → Prop}
    (hg : o.guard = none) (m x : Operand) (t : TypeId) (hop : o.op = Op.lookup t m x false)
    (k e : TypeId) (K : Keyed P k) (ht : P.underlying t = some (.map k e)) (he : P.underlying e = some .bool) (hz : (zeroValue e).run P w = .ok (.bool false) w) (b n : Nat) (D : DataW H)
    (hm : a.eval m = .map (some b)) (hown : w.ownsMap P k (plainElem P e) b n D) (key : Value) (kl : Lit) (hx : a.eval x = key) (hkey : keyOf P k key = some kl)
    (hK : ∀ c : Bool, D.atKey kl (.lit (.bool false)) = .lit (.bool c) → wpList P ops Q rest (a.put o.dst (.bool c)) w) :
    wpList P ops Q (o :: rest) a w := by
  refine wpList_plain hg fun K' hK' => ?_
  obtain ⟨v, ps, hrun, hv⟩ := hown.lookup K ht hz (plainElem_bool he false) hkey
  obtain ⟨c, rfl, hc⟩ := plainElem_bool_inv he hv
  simp only [Prod.mk.injEq] at hc
  unfold Oper.wp
  simp [execOp, hop, hm, hx, hrun, Result.andThen]
  exact hK' _ _ (hK c hc.1)

/-- None of some keys is in a set. -/
def Unseen (D : DataW Unit) (seen : List Int) : Prop := ∀ x : Int, x ∉ seen → D.atKey (.int .i64 x) (.lit (.bool false)) = .lit (.bool false)
theorem Unseen.start : Unseen (.map []) [] := fun x _ => rfl
theorem Unseen.step {D : DataW Unit} {seen : List Int} (h : Unseen D seen) (a : Int) : Unseen (D.put (.int .i64 a) (.lit (.bool true))) (seen ++ [a]) := fun x hx => by
  have h1 : x ∉ seen ∧ x ≠ a := by simpa using hx
  rw [atKey_put_other (fun e => h1.2 (by injection e))]
  exact h x h1.1
end Go.Proofs.Ytgboojmoplcpdaa

/-! DivA -/
namespace Go.Proofs.Ytgboojmoplcpdaa
set_option linter.unusedVariables false

theorem conv_set {qs : List Int} {j : Nat} (hj : j < qs.length) (h0 : cf qs j = 0) (q : Int) (b : List Int) (k : Nat) : conv (qs.set j q) b k = conv qs b k + (if j ≤ k then q * cf b (k - j) else 0) := by
  have h1 : conv (qs.set j q) b k = Sg (fun i => cf qs i * cf b (k - i) + (if i = j then q * cf b (k - i) else 0)) (k + 1) := Sg_congr fun i _ => by
    rw [cf_set]
    by_cases h : j = i
    · subst h; rw [if_pos ⟨rfl, hj⟩, if_pos rfl, h0]; omega
    · rw [if_neg (by omega), if_neg (by omega), Int.add_zero]
  rw [h1, Sg_add]
  congr 1
  by_cases h : j ≤ k
  · rw [if_pos h, Sg_single (j := j) (by omega) (fun i _ hne => by rw [if_neg hne]), if_pos rfl]
  · rw [if_neg h, Sg_zero fun i hi => by rw [if_neg (by omega)]]

/-- What holds between the rounds of Divide. -/
structure Dvs (p : Int) (xs bs ts qs : List Int) (lr : Nat) : Prop where
  at_ : allP p ts = true
  aq : allP p qs = true
  le : lr ≤ ts.length
  lq : ts.length + 1 ≤ qs.length + bs.length
  tr : ∀ j, lr = j + 1 → cf ts j ≠ 0
  z : ∀ i, i + bs.length ≤ lr → cf qs i = 0
  eq : ∀ k, Cong p (conv qs bs k + cf (ts.take lr) k) (cf xs k)

theorem cf_replicate (n k : Nat) : cf (List.replicate n 0) k = 0 := by
  unfold cf
  rw [List.getD_eq_getElem?_getD, List.getElem?_replicate]
  split <;> rfl
theorem Dvs.start {p : Int} (hp : 2 ≤ p) {xs : List Int} (hx : allP p xs = true) (bs : List Int) (L : Nat) (hL : (trimL xs).length + 1 ≤ L + bs.length) : Dvs p xs bs (trimL xs) (List.replicate L 0) (trimL xs).length :=
  ⟨trimL_allP hx, allP_iff.2 fun x h => by rw [(List.mem_replicate.1 h).2]; omega, Nat.le_refl _, by rw [List.length_replicate]; exact hL, fun j hj => trimL_trimd xs j hj, fun i _ => cf_replicate L i, fun k => by
    have h1 : conv (List.replicate L 0) bs k = 0 := Sg_zero fun i _ => by rw [cf_replicate, Int.zero_mul]
    rw [h1, Int.zero_add, List.take_length, cf_trimL]; exact Cong.refl _ _⟩

theorem set_allP {p : Int} {l : List Int} (h : allP p l = true) (j : Nat) {v : Int} (hv : 0 ≤ v ∧ v < p) : allP p (l.set j v) = true := allP_iff.2 fun x hx => by
  rcases List.mem_or_eq_of_mem_set hx with h1 | h1
  · exact allP_iff.1 h x h1
  · rw [h1]; exact hv

theorem Dvs.step {p : Int} (hp : 2 ≤ p) {xs bs ts qs : List Int} {l1 n1 at0 : Nat} (h : Dvs p xs bs ts qs (l1 + 1)) (hb : bs.length = n1 + 1) (ha : at0 + n1 = l1) {inv q : Int} (hinv : Cong p (bs.getD n1 0 * inv) 1) (hq : q = mulP p (ts.getD l1 0) inv) :
    Dvs p xs bs (addTo p (subP p 0 q) at0 bs ts (n1 + 1)) (qs.set at0 q) (tn (addTo p (subP p 0 q) at0 bs ts (n1 + 1)) l1) := by
  have hle := h.le
  have hlq := h.lq
  have htl : (addTo p (subP p 0 q) at0 bs ts (n1 + 1)).length = ts.length := addTo_len _ _ _ _ _ _
  have htn := tn_le (addTo p (subP p 0 q) at0 bs ts (n1 + 1)) l1
  have hqin : 0 ≤ q ∧ q < p := by rw [hq]; exact mulP_in _ _ hp
  have hz0 : cf qs at0 = 0 := h.z at0 (by omega)
  have hcf : ∀ i, i < ts.length → cf (addTo p (subP p 0 q) at0 bs ts (n1 + 1)) i = (cf ts i + subP p 0 q * (if at0 ≤ i then cf bs (i - at0) else 0)) % p := fun i hi => cf_addTo hb (cf_in hp h.at_) hi
  have hneg : ∀ x : Int, Cong p (subP p 0 q * x) (-(q * x)) := fun x => by
    have := (Cong.subP p 0 q).mul (Cong.refl p x)
    refine this.trans (Cong.of_eq ?_)
    rw [Int.zero_sub, Int.neg_mul]
  generalize hts : addTo p (subP p 0 q) at0 bs ts (n1 + 1) = ts' at *
  refine ⟨by rw [← hts]; exact addTo_allP hp _ _ _ _ _ h.at_, set_allP h.aq _ hqin, by omega, by rw [List.length_set]; omega, fun j hj => tn_last hj, fun i hi => ?_, fun k => ?_⟩
  · rw [cf_set, if_neg (by omega)]
    exact h.z i (by omega)
  · rw [conv_set (by omega) hz0]
    have hmain : Cong p (cf (ts'.take (tn ts' l1)) k) (cf (ts.take (l1 + 1)) k - (if at0 ≤ k then q * cf bs (k - at0) else 0)) := by
      rw [cf_take, cf_take]
      by_cases hk : k < l1
      · have e1 : (if k < tn ts' l1 then cf ts' k else 0) = cf ts' k := by
          split
          · rfl
          · exact (tn_zero (by omega) hk).symm
        rw [e1, hcf k (by omega), if_pos (show k < l1 + 1 by omega)]
        refine (Cong.mod _ _).trans ?_
        by_cases h2 : at0 ≤ k
        · simp only [h2, if_true]; rw [Int.sub_eq_add_neg]
          exact (Cong.refl _ _).add (hneg _)
        · simp only [h2, if_false]; rw [Int.mul_zero, Int.add_zero, Int.sub_zero]; exact Cong.refl _ _
      · rw [if_neg (by omega)]
        by_cases hk1 : k = l1
        · subst hk1
          rw [if_pos (show k < k + 1 by omega), if_pos (show at0 ≤ k by omega), show k - at0 = n1 by omega]
          have h3 : Cong p (q * cf bs n1) (cf ts k) := by
            rw [hq]
            refine ((Cong.mulP _ _ _).mul (Cong.refl _ _)).trans ?_
            have e2 : ts.getD k 0 * inv * cf bs n1 = ts.getD k 0 * (bs.getD n1 0 * inv) := by rw [Int.mul_assoc, Int.mul_comm inv]; rfl
            rw [e2]
            have := (Cong.refl p (ts.getD k 0)).mul hinv
            rwa [Int.mul_one] at this
          have h4 := (Cong.refl p (cf ts k)).sub h3
          rw [Int.sub_self] at h4
          exact h4.symm
        · rw [if_neg (by omega)]
          have : (if at0 ≤ k then q * cf bs (k - at0) else 0) = 0 := by
            split
            · rw [cf_out (l := bs) (by omega), Int.mul_zero]
            · rfl
          rw [this]; exact Cong.refl _ _
    have h5 := ((Cong.refl p (conv qs bs k + (if at0 ≤ k then q * cf bs (k - at0) else 0))).add hmain)
    refine h5.trans ((Cong.of_eq ?_).trans (h.eq k))
    omega

/-- Quotient and remainder. -/
structure DivOf (p : Int) (a b q r : List Int) : Prop where
  tq : Trimd q
  tr : Trimd r
  aq : allP p q = true
  ar : allP p r = true
  ln : r.length < tn b b.length
  eq : ∀ k, Cong p (conv q b k + cf r k) (cf a k)
theorem Dvs.done {p : Int} {xs ys ts qs : List Int} {lr : Nat} (h : Dvs p xs (trimL ys) ts qs lr) (hl : lr < (trimL ys).length) : DivOf p xs ys (trimL qs) (ts.take lr) := by
  have hle := h.le
  have hrl : (ts.take lr).length = lr := by rw [List.length_take]; omega
  refine ⟨trimL_trimd _, fun j hj => ?_, trimL_allP h.aq, allP_iff.2 fun x hx => allP_iff.1 h.at_ x (List.mem_of_mem_take hx), by rw [hrl, ← trimL_len]; exact hl, fun k => ?_⟩
  · rw [hrl] at hj
    rw [cf_take, if_pos (by omega)]
    exact h.tr j hj
  · have e : conv (trimL qs) ys k = conv qs (trimL ys) k := Sg_congr fun i _ => by rw [cf_trimL, cf_trimL]
    rw [e]; exact h.eq k

theorem DivOf.back {p : Int} (hp : 2 ≤ p) {a b q r : List Int} (h : DivOf p a b q r) (ha : allP p a = true) : addL p (mulL p q b) r = trimL a := by
  refine (addL_trimd _ _ _).ext (trimL_trimd _) fun k => ?_
  rw [cf_trimL, cf_addL, cf_mulL]
  have h1 : Cong p ((conv q b k % p + cf r k) % p) (cf a k) := (Cong.mod _ _).trans (((Cong.mod _ _).add (Cong.refl _ _)).trans (h.eq k))
  exact h1.eq (emod_in hp _) (cf_in hp ha k)

theorem conv_scaled {p c : Int} {s a b : List Int} (h : ∀ k, Cong p (cf s k) (cf a k + c * cf b k)) (d : List Int) (k : Nat) : Cong p (conv s d k) (conv a d k + c * conv b d k) := by
  unfold conv
  rw [← Sg_mul, ← Sg_add]
  refine Sg_cong fun i _ => ?_
  have e : cf a i * cf d (k - i) + c * (cf b i * cf d (k - i)) = (cf a i + c * cf b i) * cf d (k - i) := by rw [Int.add_mul, Int.mul_assoc]
  rw [e]
  exact (h i).mul (Cong.refl _ _)

theorem DivOf.exact_ {p : Int} (hok : okP p = true) {a b q r : List Int} (ha : allP p a = true) (hb : allP p b = true) (h : DivOf p (mulL p a b) b q r) : q = trimL a ∧ r = [] := by
  have hp := (okP_pos hok).1
  -- the difference of the quotients, reduced and trimmed
  have hcd : ∀ k, Cong p (cf (trimL ((List.range (q.length + a.length)).map fun k => (cf q k - cf a k) % p)) k) (cf q k + (-1) * cf a k) := fun k => by
    rw [cf_trimL, cf_map_range]
    split
    · exact (Cong.mod _ _).trans (Cong.of_eq (by omega))
    · rw [cf_out (l := q) (by omega), cf_out (l := a) (by omega)]; exact Cong.refl _ _
  have hda : allP p (trimL ((List.range (q.length + a.length)).map fun k => (cf q k - cf a k) % p)) = true := trimL_allP (map_allP hp _ _)
  have hdt := trimL_trimd ((List.range (q.length + a.length)).map fun k => (cf q k - cf a k) % p)
  generalize trimL ((List.range (q.length + a.length)).map fun k => (cf q k - cf a k) % p) = d at *
  have hd : ∀ k, Cong p (conv d b k) (-(cf r k)) := fun k => by
    have h1 := conv_scaled hcd b k
    have h2 := h.eq k
    rw [cf_mulL] at h2
    have h3 := h2.trans (Cong.mod p (conv a b k))
    have h4 := h3.sub (Cong.refl p (conv a b k + cf r k))
    refine h1.trans ((Cong.of_eq ?_).trans (h4.trans (Cong.of_eq ?_)))
    · omega
    · omega
  have hdz : d = [] := by
    cases hdl : d.length with
    | zero => exact List.eq_nil_of_length_eq_zero hdl
    | succ i =>
      exfalso
      have hln := h.ln
      rw [← trimL_len] at hln
      obtain ⟨j, hj⟩ : ∃ j, (trimL b).length = j + 1 := ⟨(trimL b).length - 1, by omega⟩
      have h1 := hd (i + j)
      rw [cf_out (l := r) (by omega)] at h1
      have e : conv d b (i + j) = conv d (trimL b) (i + j) := Sg_congr fun x _ => by rw [cf_trimL]
      rw [e, conv_last hdl hj] at h1
      have h2 : Cong p (cf d i * cf (trimL b) j) 0 := h1
      rcases Cong.mul_zero hok h2 with h3 | h3
      · exact hdt i hdl ((Cong.elt_zero (cf_in hp hda i)).1 h3)
      · exact trimL_trimd b j hj ((Cong.elt_zero (cf_in hp (trimL_allP hb) j)).1 h3)
  subst hdz
  constructor
  · refine h.tq.ext (trimL_trimd _) fun k => ?_
    rw [cf_trimL]
    have h1 := hcd k
    rw [cf_nil] at h1
    have h2 : Cong p (cf q k - cf a k) 0 := by refine Cong.trans (Cong.of_eq ?_) h1.symm; omega
    exact h2.sub_zero.eq (cf_in hp h.aq k) (cf_in hp ha k)
  · cases hrl : r.length with
    | zero => exact List.eq_nil_of_length_eq_zero hrl
    | succ j =>
      exfalso
      have h1 := hd j
      rw [conv_nil] at h1
      have h2 := h1.symm.neg
      rw [Int.neg_neg, Int.neg_zero] at h2
      exact h.tr j hrl ((Cong.elt_zero (cf_in hp h.ar j)).1 h2)
end Go.Proofs.Ytgboojmoplcpdaa

/-! FermA -/
namespace Go.Proofs.Ytgboojmoplcpdaa
set_option linter.unusedVariables false

def prodN (l : List Nat) : Int := l.foldr (fun (x : Nat) (s : Int) => (x : Int) * s) 1
theorem prodN_cons (x : Nat) (l : List Nat) : prodN (x :: l) = (x : Int) * prodN l := rfl
theorem prodN_erase {a : Nat} : ∀ {l : List Nat}, a ∈ l → prodN l = (a : Int) * prodN (l.erase a)
  | x :: l, h => by
    by_cases hx : x = a
    · subst hx; rw [List.erase_cons_head]; rfl
    · have hm : a ∈ l := by
        rcases List.mem_cons.1 h with h1 | h1
        · exact absurd h1.symm hx
        · exact h1
      rw [List.erase_cons_tail (by simpa using hx), prodN_cons, prodN_cons, prodN_erase hm, Int.mul_left_comm]
theorem erase_nodup {l : List Nat} (h : l.Nodup) (a : Nat) : (l.erase a).Nodup := h.erase a
theorem len_le_of_range : ∀ (n : Nat) {l : List Nat}, l.Nodup → (∀ x ∈ l, 1 ≤ x ∧ x ≤ n) → l.length ≤ n := by
  intro n
  induction n with
  | zero =>
    intro l _ h
    cases l with
    | nil => exact Nat.le_refl _
    | cons x l => have := h x List.mem_cons_self; omega
  | succ n ih =>
    intro l hn h
    by_cases hm : n + 1 ∈ l
    · have h1 := ih (erase_nodup hn (n + 1)) (fun x hx => by
        have h2 := h x (List.mem_of_mem_erase hx)
        have h3 : x ≠ n + 1 := fun e => by subst e; exact (hn.not_mem_erase) hx
        omega)
      rw [List.length_erase_of_mem hm] at h1
      omega
    · have := ih hn (fun x hx => by
        have h2 := h x hx
        have h3 : x ≠ n + 1 := fun e => by subst e; exact hm hx
        omega)
      omega
def factZ : Nat → Int
  | 0 => 1
  | n + 1 => ((n + 1 : Nat) : Int) * factZ n
theorem prod_range : ∀ (n : Nat) {l : List Nat}, l.Nodup → (∀ x ∈ l, 1 ≤ x ∧ x ≤ n) → l.length = n → prodN l = factZ n := by
  intro n
  induction n with
  | zero =>
    intro l _ _ hl
    rw [List.eq_nil_of_length_eq_zero hl]; rfl
  | succ n ih =>
    intro l hn h hl
    by_cases hm : n + 1 ∈ l
    · rw [prodN_erase hm, ih (erase_nodup hn (n + 1)) (fun x hx => by
        have h2 := h x (List.mem_of_mem_erase hx)
        have h3 : x ≠ n + 1 := fun e => by subst e; exact (hn.not_mem_erase) hx
        omega) (by rw [List.length_erase_of_mem hm]; omega)]
      rfl
    · exfalso
      have := len_le_of_range n hn (fun x hx => by
        have h2 := h x hx
        have h3 : x ≠ n + 1 := fun e => by subst e; exact hm hx
        omega)
      omega

/-- Each element times a. -/
def timesN (p a : Int) (n : Nat) : List Nat := (List.range n).map fun i : Nat => (a * ((i : Int) + 1) % p).toNat
theorem timesN_prod {p : Int} (hp : 2 ≤ p) (a : Int) : ∀ n, Cong p (prodN ((List.range n).reverse.map fun i : Nat => (a * ((i : Int) + 1) % p).toNat)) (a ^ n * factZ n)
  | 0 => by rw [Int.pow_zero]; exact Cong.refl _ _
  | n + 1 => by
    rw [List.range_succ, List.reverse_append, List.reverse_cons, List.reverse_nil, List.nil_append, List.map_append]
    show Cong p (((a * ((n : Int) + 1) % p).toNat : Int) * prodN ((List.range n).reverse.map fun i : Nat => (a * ((i : Int) + 1) % p).toNat)) _
    have h1 : ((a * ((n : Int) + 1) % p).toNat : Int) = a * ((n : Int) + 1) % p := Int.toNat_of_nonneg (Int.emod_nonneg _ (by omega))
    rw [h1]
    refine ((Cong.mod p _).mul (timesN_prod hp a n)).trans (Cong.of_eq ?_)
    show _ = a ^ (n + 1) * (((n + 1 : Nat) : Int) * factZ n)
    rw [Int.pow_succ]
    have : ((n + 1 : Nat) : Int) = (n : Int) + 1 := by omega
    rw [this]
    simp only [Int.mul_assoc, Int.mul_comm, Int.mul_left_comm]

theorem pow_zero_not {p a : Int} (h : okP p = true) (ha : ¬ Cong p a 0) (k : Nat) : ¬ Cong p (a ^ k) 0 := by
  induction k with
  | zero =>
    intro h1
    have hp := okP_pos h
    rw [Int.pow_zero] at h1
    have := Int.le_of_dvd (by decide) h1.dvd
    omega
  | succ k ih =>
    intro h1
    rw [Int.pow_succ] at h1
    rcases Cong.mul_zero h h1 with h2 | h2
    · exact ih h2
    · exact ha h2
theorem fact_not {p : Int} (h : okP p = true) : ∀ n : Nat, (n : Int) < p → ¬ Cong p (factZ n) 0
  | 0, _, h1 => by
    have hp := okP_pos h
    have h2 : Cong p 1 0 := h1
    have := Int.le_of_dvd (by decide) h2.dvd
    omega
  | n + 1, hn, h1 => by
    rcases Cong.mul_zero h h1 with h2 | h2
    · rw [Cong.elt_zero (by omega)] at h2; omega
    · exact fact_not h n (by omega) h2

theorem nodup_rev (n : Nat) : (List.range n).reverse.Pairwise fun x y => x ≠ y := by
  rw [List.pairwise_reverse]
  exact (List.nodup_range (n := n)).imp fun h e => h e.symm
theorem fermat {p a : Int} (h : okP p = true) (ha : ¬ Cong p a 0) : Cong p (a ^ (p - 1).toNat) 1 := by
  have hp := okP_pos h
  obtain ⟨n, hn⟩ : ∃ n : Nat, p - 1 = n := ⟨(p - 1).toNat, by omega⟩
  have h1 := timesN_prod (show 2 ≤ p by omega) a n
  have hinj : ∀ i j : Nat, i < n → j < n → (a * ((i : Int) + 1) % p).toNat = (a * ((j : Int) + 1) % p).toNat → i = j := by
    intro i j hi hj e
    have e1 : a * ((i : Int) + 1) % p = a * ((j : Int) + 1) % p := by
      have h2 := Int.emod_nonneg (a * ((i : Int) + 1)) (show p ≠ 0 by omega)
      have h3 := Int.emod_nonneg (a * ((j : Int) + 1)) (show p ≠ 0 by omega)
      omega
    have e2 : Cong p (((i : Int) + 1) * a) (((j : Int) + 1) * a) := by rw [Int.mul_comm _ a, Int.mul_comm _ a]; exact e1
    have e3 := (Cong.cancel h ha e2).eq (by omega) (by omega)
    omega
  have h2 : prodN ((List.range n).reverse.map fun i : Nat => (a * ((i : Int) + 1) % p).toNat) = factZ n := by
    refine prod_range n ?_ ?_ (by simp)
    · rw [List.Nodup, List.pairwise_map]
      refine List.Pairwise.imp_of_mem (R := fun x y => x ≠ y) ?_ (nodup_rev n)
      intro x y hx hy hne e
      rw [List.mem_reverse, List.mem_range] at hx hy
      exact hne (hinj x y hx hy e)
    · intro x hx
      obtain ⟨i, hi, rfl⟩ := List.mem_map.1 hx
      rw [List.mem_reverse, List.mem_range] at hi
      have h3 := Int.emod_nonneg (a * ((i : Int) + 1)) (show p ≠ 0 by omega)
      have h4 := Int.emod_lt_of_pos (a * ((i : Int) + 1)) (show 0 < p by omega)
      have h5 : a * ((i : Int) + 1) % p ≠ 0 := by
        intro e
        have e2 : Cong p (a * ((i : Int) + 1)) 0 := by unfold Cong; rw [e]; simp
        rcases Cong.mul_zero h e2 with e3 | e3
        · exact ha e3
        · rw [Cong.elt_zero (by omega)] at e3; omega
      omega
  rw [h2] at h1
  rw [hn, Int.toNat_natCast]
  have h6 : Cong p (a ^ n * factZ n) (1 * factZ n) := by rw [Int.one_mul]; exact h1.symm
  exact Cong.cancel h (fact_not h n (by omega)) h6

theorem inv_pow {p a : Int} (h : okP p = true) (ha : 0 < a ∧ a < p) : Cong p (a * a ^ (p - 2).toNat) 1 := by
  have hp := okP_pos h
  have h1 := fermat h (a := a) (by rw [Cong.elt_zero (by omega)]; omega)
  have h2 : (p - 1).toNat = (p - 2).toNat + 1 := by omega
  rw [h2, Int.pow_succ, Int.mul_comm] at h1
  exact h1

theorem inv_unique {p a u v : Int} (h : okP p = true) (hu : 0 ≤ u ∧ u < p) (hv : 0 ≤ v ∧ v < p) (h1 : Cong p (a * u) 1) (h2 : Cong p (a * v) 1) : u = v := by
  have ha : ¬ Cong p a 0 := by
    intro h3
    have h4 := (h3.mul (Cong.refl p u)).symm.trans h1
    rw [Int.zero_mul] at h4
    have hp := okP_pos h
    have := (Int.le_of_dvd (by decide) h4.symm.dvd)
    omega
  refine (Cong.cancel h ha (x := u) (y := v) ?_).eq hu hv
  rw [Int.mul_comm u, Int.mul_comm v]
  exact h1.trans h2.symm

/-- Half of an exponent. -/
theorem pow_half (a : Int) (n : Nat) : a ^ n = (a * a) ^ (n / 2) * (if n % 2 = 1 then a else 1) := by
  have h2 : ∀ k : Nat, (a * a) ^ k = a ^ (2 * k) := by
    intro k
    induction k with
    | zero => simp
    | succ k ih => rw [Int.pow_succ, ih, show 2 * (k + 1) = 2 * k + 1 + 1 by omega, Int.pow_succ, Int.pow_succ, Int.mul_assoc]
  rw [h2]
  by_cases h : n % 2 = 1
  · rw [if_pos h, ← Int.pow_succ]; congr 1; omega
  · rw [if_neg h, Int.mul_one]; congr 1; omega
theorem Cong.pow {p a b : Int} (h : Cong p a b) : ∀ n : Nat, Cong p (a ^ n) (b ^ n)
  | 0 => by rw [Int.pow_zero, Int.pow_zero]; exact Cong.refl _ _
  | n + 1 => by rw [Int.pow_succ, Int.pow_succ]; exact (Cong.pow h n).mul h
/-- One step of the power's loop: what is made, times the base to the rest, stays. -/
theorem pow_step {p x a : Int} {n : Nat} {g : Int} (h : Cong p (x * a ^ n) g) : Cong p ((if n % 2 = 1 then x * a % p else x) * (a * a % p) ^ (n / 2)) g := by
  refine Cong.trans ?_ h
  rw [pow_half a n]
  have h1 : Cong p ((a * a % p) ^ (n / 2)) ((a * a) ^ (n / 2)) := Cong.pow (Cong.mod p (a * a)) _
  by_cases hn : n % 2 = 1
  · rw [if_pos hn, if_pos hn]
    refine ((Cong.mod p _).mul h1).trans (Cong.of_eq ?_)
    simp only [Int.mul_assoc, Int.mul_comm]
  · rw [if_neg hn, if_neg hn, Int.mul_one]
    exact (Cong.refl p x).mul h1
end Go.Proofs.Ytgboojmoplcpdaa

/-! ItpU -/
namespace Go.Proofs.Ytgboojmoplcpdaa
set_option linter.unusedVariables false

/-- The product of w with (x - a), after k rounds: places below k are done, place k holds the element before. -/
def wideK (p a : Int) (w : List Int) (k : Nat) : List Int :=
  (List.range (w.length + 1)).map fun i => if i < k then conv w [subP p 0 a, 1] i % p else if i = k ∧ 0 < k then cf w (k - 1) else 0

theorem wideK_len (p a : Int) (w : List Int) (k : Nat) : (wideK p a w k).length = w.length + 1 := by simp [wideK]
theorem cf_wideK (p a : Int) (w : List Int) (k i : Nat) (hi : i < w.length + 1) : cf (wideK p a w k) i = if i < k then conv w [subP p 0 a, 1] i % p else if i = k ∧ 0 < k then cf w (k - 1) else 0 := by
  unfold wideK; rw [cf_map_range, if_pos hi]
theorem wideK_zero (p a : Int) (w : List Int) : wideK p a w 0 = List.replicate (w.length + 1) 0 := by
  refine cf_ext (by simp [wideK]) fun i => ?_
  rcases Nat.lt_or_ge i (w.length + 1) with hi | hi
  · rw [cf_wideK _ _ _ _ _ hi, if_neg (by omega), if_neg (by omega)]
    unfold cf; rw [List.getD_eq_getElem?_getD, List.getElem?_replicate]; split <;> rfl
  · rw [cf_out (by rw [wideK_len]; exact hi), cf_out (by simpa using hi)]
theorem conv_two (w : List Int) (c : Int) : ∀ k, conv w [c, 1] k = (if 0 < k then cf w (k - 1) else 0) + c * cf w k := by
  intro k
  rw [conv_comm]
  cases k with
  | zero => rw [conv_cons_zero]; simp
  | succ k =>
    rw [conv_cons_succ, if_pos (by omega)]
    have : conv [1] w k = cf w k := by
      cases k with
      | zero => rw [conv_cons_zero, Int.one_mul]
      | succ k => rw [conv_cons_succ, conv_nil, Int.add_zero, Int.one_mul]
    rw [this, show k + 1 - 1 = k by omega, Int.add_comm]
theorem wideK_all (p a : Int) (w : List Int) (hw : 0 < w.length) {hwp : allP p w = true} (hp : 2 ≤ p) : wideK p a w w.length = rawMul p w [subP p 0 a, 1] := by
  refine cf_ext (by simp [wideK, rawMul]) fun i => ?_
  rcases Nat.lt_or_ge i (w.length + 1) with hi | hi
  · have e : cf (rawMul p w [subP p 0 a, 1]) i = conv w [subP p 0 a, 1] i % p := by
      unfold rawMul
      rw [cf_map_range, if_pos (by simp only [List.length_cons, List.length_nil]; omega)]
    rw [e, cf_wideK _ _ _ _ _ hi]
    by_cases h1 : i < w.length
    · rw [if_pos h1]
    · obtain rfl : i = w.length := by omega
      rw [if_neg (by omega), if_pos ⟨rfl, hw⟩, conv_two, if_pos hw, cf_out (l := w) (k := w.length) (Nat.le_refl _), Int.mul_zero, Int.add_zero]
      have := cf_in hp hwp (w.length - 1)
      exact (Int.emod_eq_of_lt this.1 this.2).symm
  · rw [cf_out (by rw [wideK_len]; exact hi), cf_out (by simp [rawMul]; omega)]
/-- One round: first the place above, then the place itself. -/
theorem wideK_step {p a : Int} (hp : 2 ≤ p) (ha : 0 ≤ a ∧ a < p) {w : List Int} (hw : allP p w = true) {k : Nat} (hk : k < w.length) :
    ((wideK p a w k).set (k + 1) ((cf (wideK p a w k) (k + 1) + cf w k) % p)).set k ((cf ((wideK p a w k).set (k + 1) ((cf (wideK p a w k) (k + 1) + cf w k) % p)) k + (p - a) * cf w k) % p) = wideK p a w (k + 1) := by
  have hlen := wideK_len p a w k
  have h1 : cf (wideK p a w k) (k + 1) = 0 := by rw [cf_wideK _ _ _ _ _ (by omega), if_neg (by omega), if_neg (by omega)]
  have h2 : (0 + cf w k) % p = cf w k := by have := cf_in hp hw k; rw [Int.zero_add]; exact Int.emod_eq_of_lt this.1 this.2
  have h3 : cf (wideK p a w k) k = if 0 < k then cf w (k - 1) else 0 := by
    rw [cf_wideK _ _ _ _ _ (by omega), if_neg (by omega)]
    by_cases h0 : 0 < k
    · rw [if_pos ⟨rfl, h0⟩, if_pos h0]
    · rw [if_neg (fun e => h0 e.2), if_neg h0]
  have h4 : cf ((wideK p a w k).set (k + 1) ((0 + cf w k) % p)) k = if 0 < k then cf w (k - 1) else 0 := by rw [cf_set, if_neg (by omega), h3]
  rw [h1, h4]
  refine cf_ext (by simp [wideK]) fun i => ?_
  rcases Nat.lt_or_ge i (w.length + 1) with hi | hi
  · rw [cf_set, List.length_set, hlen, cf_set, hlen, cf_wideK _ _ _ (k + 1) _ hi, h2]
    by_cases e1 : k = i
    · subst e1
      rw [if_pos (show k = k ∧ k < w.length + 1 from ⟨rfl, hi⟩), if_pos (show k < k + 1 by omega), conv_two]
      have h5 : Cong p ((p - a) * cf w k) (subP p 0 a * cf w k) := by
        refine Cong.mul ?_ (Cong.refl _ _)
        refine Cong.trans ?_ (Cong.subP p 0 a).symm
        have := (Cong.self p).sub (Cong.refl p a)
        exact this
      exact (Cong.refl p (if 0 < k then cf w (k - 1) else 0)).add h5
    · rw [if_neg (by omega)]
      by_cases e2 : k + 1 = i
      · subst e2
        rw [if_pos ⟨rfl, hi⟩, if_neg (by omega), if_pos ⟨rfl, by omega⟩]; rfl
      · rw [if_neg (by omega), cf_wideK _ _ _ _ _ hi]
        by_cases e3 : i < k
        · rw [if_pos e3, if_pos (by omega)]
        · rw [if_neg e3, if_neg (by omega), if_neg (by omega), if_neg (by omega)]
  · rw [cf_out (by simp only [List.length_set]; omega), cf_out (by rw [wideK_len]; exact hi)]
theorem wideK_allP {p : Int} (hp : 2 ≤ p) (a : Int) {w : List Int} (hw : allP p w = true) (k : Nat) : allP p (wideK p a w k) = true := allP_iff.2 fun x hx => by
  obtain ⟨i, hi, rfl⟩ := List.mem_map.1 hx
  split
  · exact emod_in hp _
  · split
    · exact cf_in hp hw _
    · omega
/-- The coefficient is the program's. -/
theorem sub_as {p x y : Int} : (x + p - y) % p = subP p x y := by unfold subP; congr 1; omega
end Go.Proofs.Ytgboojmoplcpdaa

/-! DivU -/
namespace Go.Proofs.Ytgboojmoplcpdaa
set_option linter.unusedVariables false

theorem DivOf.unique {p : Int} (hok : okP p = true) {a b q r q2 r2 : List Int} (hb : allP p b = true) (h : DivOf p a b q r) (h2 : DivOf p a b q2 r2) : q = q2 ∧ r = r2 := by
  have hp := (okP_pos hok).1
  have hcd : ∀ k, Cong p (cf (trimL ((List.range (q.length + q2.length)).map fun k => (cf q k - cf q2 k) % p)) k) (cf q k + (-1) * cf q2 k) := fun k => by
    rw [cf_trimL, cf_map_range]
    split
    · exact (Cong.mod _ _).trans (Cong.of_eq (by omega))
    · rw [cf_out (l := q) (by omega), cf_out (l := q2) (by omega)]; exact Cong.refl _ _
  have hda : allP p (trimL ((List.range (q.length + q2.length)).map fun k => (cf q k - cf q2 k) % p)) = true := trimL_allP (map_allP hp _ _)
  have hdt := trimL_trimd ((List.range (q.length + q2.length)).map fun k => (cf q k - cf q2 k) % p)
  generalize trimL ((List.range (q.length + q2.length)).map fun k => (cf q k - cf q2 k) % p) = d at *
  have hd : ∀ k, Cong p (conv d b k) (cf r2 k - cf r k) := fun k => by
    have h1 := conv_scaled hcd b k
    have h3 := (h.eq k).trans (h2.eq k).symm
    have h4 := h3.sub (Cong.refl p (conv q2 b k + cf r k))
    refine h1.trans ((Cong.of_eq ?_).trans (h4.trans (Cong.of_eq ?_)))
    · omega
    · omega
  have hdz : d = [] := by
    cases hdl : d.length with
    | zero => exact List.eq_nil_of_length_eq_zero hdl
    | succ i =>
      exfalso
      have hln := h.ln
      have hln2 := h2.ln
      rw [← trimL_len] at hln hln2
      obtain ⟨j, hj⟩ : ∃ j, (trimL b).length = j + 1 := ⟨(trimL b).length - 1, by omega⟩
      have h1 := hd (i + j)
      rw [cf_out (l := r) (by omega), cf_out (l := r2) (by omega), ← conv_trim d b, hdt.trimL, conv_last hdl hj] at h1
      rcases Cong.mul_zero hok h1 with h3 | h3
      · exact hdt i hdl ((Cong.elt_zero (cf_in hp hda i)).1 h3)
      · exact trimL_trimd b j hj ((Cong.elt_zero (cf_in hp (trimL_allP hb) j)).1 h3)
  have hq : q = q2 := h.tq.ext h2.tq fun k => by
    have h1 := hcd k
    rw [hdz, cf_nil] at h1
    have h3 := h1.symm.add (Cong.refl p (cf q2 k))
    have h4 : Cong p (cf q k) (cf q2 k) := (Cong.of_eq (by omega)).trans (h3.trans (Cong.of_eq (by omega)))
    exact h4.eq (cf_in hp h.aq k) (cf_in hp h2.aq k)
  refine ⟨hq, h.tr.ext h2.tr fun k => ?_⟩
  have h1 := (h.eq k).trans (h2.eq k).symm
  rw [hq] at h1
  have h3 := h1.sub (Cong.refl p (conv q2 b k))
  have h4 : Cong p (cf r k) (cf r2 k) := (Cong.of_eq (by omega)).trans (h3.trans (Cong.of_eq (by omega)))
  exact h4.eq (cf_in hp h.ar k) (cf_in hp h2.ar k)

/-- What holds between the rounds of the second form's Divide: the rest is 0 from L on, the quotient below L - length of the divisor. -/
structure Dvr (p : Int) (xs bs ts qs : List Int) (L : Nat) : Prop where
  at_ : allP p ts = true
  aq : allP p qs = true
  z : ∀ i, i + bs.length ≤ L → cf qs i = 0
  hi : ∀ k, L ≤ k → cf ts k = 0
  eq : ∀ k, Cong p (conv qs bs k + cf ts k) (cf xs k)

theorem Dvr.start {p : Int} (hp : 2 ≤ p) {xs : List Int} (hx : allP p xs = true) (bs : List Int) (Q : Nat) : Dvr p xs bs (trimL xs) (List.replicate Q 0) (trimL xs).length :=
  ⟨trimL_allP hx, allP_iff.2 fun x h => by rw [(List.mem_replicate.1 h).2]; omega, fun i _ => cf_replicate Q i, fun k hk => cf_out hk, fun k => by
    have h1 : conv (List.replicate Q 0) bs k = 0 := Sg_zero fun i _ => by rw [cf_replicate, Int.zero_mul]
    rw [h1, Int.zero_add, cf_trimL]; exact Cong.refl _ _⟩

theorem Dvr.step {p : Int} (hp : 2 ≤ p) {xs bs ts qs : List Int} {i n1 : Nat} (h : Dvr p xs bs ts qs (i + n1 + 1)) (hb : bs.length = n1 + 1) (hl : i + n1 < ts.length) (hiq : i < qs.length) {inv q : Int} (hinv : Cong p (bs.getD n1 0 * inv) 1) (hq : q = ts.getD (i + n1) 0 * inv % p) :
    Dvr p xs bs (addTo p (p - q) i bs ts (n1 + 1)) (qs.set i q) (i + n1) := by
  have hqin : 0 ≤ q ∧ q < p := by rw [hq]; exact emod_in hp _
  have hz0 : cf qs i = 0 := h.z i (by omega)
  have hcf : ∀ k, k < ts.length → cf (addTo p (p - q) i bs ts (n1 + 1)) k = (cf ts k + (p - q) * (if i ≤ k then cf bs (k - i) else 0)) % p := fun k hk => cf_addTo hb (cf_in hp h.at_) hk
  have htl : (addTo p (p - q) i bs ts (n1 + 1)).length = ts.length := addTo_len _ _ _ _ _ _
  have hat := addTo_allP hp (p - q) i bs ts (n1 + 1) h.at_
  generalize addTo p (p - q) i bs ts (n1 + 1) = ts' at *
  have hneg : ∀ x : Int, Cong p ((p - q) * x) (-(q * x)) := fun x => by
    have h1 : Cong p (p - q) (-q) := by
      have := (Cong.self p).sub (Cong.refl p q)
      exact this.trans (Cong.of_eq (by omega))
    exact (h1.mul (Cong.refl p x)).trans (Cong.of_eq (by rw [Int.neg_mul]))
  have hmain : ∀ k, Cong p (cf ts' k) (cf ts k - (if i ≤ k then q * cf bs (k - i) else 0)) := by
    intro k
    rcases Nat.lt_or_ge k ts.length with hk | hk
    · rw [hcf k hk]
      refine (Cong.mod _ _).trans ?_
      by_cases h2 : i ≤ k
      · simp only [h2, if_true]; rw [Int.sub_eq_add_neg]
        exact (Cong.refl _ _).add (hneg _)
      · simp only [h2, if_false]; rw [Int.mul_zero, Int.add_zero, Int.sub_zero]; exact Cong.refl _ _
    · rw [cf_out (l := ts') (by omega), cf_out (l := ts) hk]
      have : (if i ≤ k then q * cf bs (k - i) else 0) = 0 := by
        split
        · rw [cf_out (l := bs) (by omega), Int.mul_zero]
        · rfl
      rw [this]; exact Cong.refl _ _
  refine ⟨hat, set_allP h.aq _ hqin, fun j hj => ?_, fun k hk => ?_, fun k => ?_⟩
  · rw [cf_set, if_neg (by omega)]
    exact h.z j (by omega)
  · have h1 := hmain k
    have h2 : Cong p (cf ts' k) 0 := by
      refine h1.trans ?_
      by_cases hk2 : k = i + n1
      · subst hk2
        rw [if_pos (by omega), show i + n1 - i = n1 by omega]
        have h3 : Cong p (q * cf bs n1) (cf ts (i + n1)) := by
          rw [hq]
          refine ((Cong.mod p _).mul (Cong.refl _ _)).trans ?_
          have e2 : ts.getD (i + n1) 0 * inv * cf bs n1 = ts.getD (i + n1) 0 * (bs.getD n1 0 * inv) := by rw [Int.mul_assoc, Int.mul_comm inv]; rfl
          rw [e2]
          have := (Cong.refl p (ts.getD (i + n1) 0)).mul hinv
          rwa [Int.mul_one] at this
        have h4 := (Cong.refl p (cf ts (i + n1))).sub h3
        rwa [Int.sub_self] at h4
      · rw [h.hi k (by omega)]
        have : (if i ≤ k then q * cf bs (k - i) else 0) = 0 := by
          split
          · rw [cf_out (l := bs) (by omega), Int.mul_zero]
          · rfl
        rw [this]; exact Cong.refl _ _
    exact (Cong.elt_zero (cf_in hp hat k)).1 h2
  · rw [conv_set hiq hz0]
    have h5 := ((Cong.refl p (conv qs bs k + (if i ≤ k then q * cf bs (k - i) else 0))).add (hmain k))
    refine h5.trans ((Cong.of_eq ?_).trans (h.eq k))
    omega

theorem tn_lt {l : List Int} {n : Nat} : ∀ {m : Nat}, (∀ k, n ≤ k → cf l k = 0) → tn l m ≤ n
  | 0, _ => Nat.zero_le _
  | m + 1, h => by
    rcases Nat.lt_or_ge n (tn l (m + 1)) with h1 | h1
    · obtain ⟨j, hj⟩ : ∃ j, tn l (m + 1) = j + 1 := ⟨tn l (m + 1) - 1, by omega⟩
      exact absurd (h j (by omega)) (tn_last hj)
    · exact h1

theorem Dvr.done {p : Int} {xs ys ts qs : List Int} {n1 L : Nat} (h : Dvr p xs (trimL ys) ts qs L) (hb : (trimL ys).length = n1 + 1) (hL : L ≤ n1) : DivOf p xs ys (trimL qs) (trimL ts) := by
  refine ⟨trimL_trimd _, trimL_trimd _, trimL_allP h.aq, trimL_allP h.at_, ?_, fun k => ?_⟩
  · rw [trimL_len, ← trimL_len ys, hb]
    have := tn_lt (l := ts) (n := L) (m := ts.length) (fun k hk => h.hi k hk)
    omega
  · have e : conv (trimL qs) ys k = conv qs (trimL ys) k := Sg_congr fun i _ => by rw [cf_trimL, cf_trimL]
    rw [e, cf_trimL]; exact h.eq k
end Go.Proofs.Ytgboojmoplcpdaa

/-! RootA -/
namespace Go.Proofs.Ytgboojmoplcpdaa
set_option linter.unusedVariables false

/-- The quotient by x - a. -/
def sd (a : Int) : List Int → List Int
  | [] => []
  | [_] => []
  | _ :: d :: l => polyZ a (d :: l) :: sd a (d :: l)
theorem sd_len (a : Int) : ∀ l, (sd a l).length = l.length - 1
  | [] => rfl
  | [_] => rfl
  | _ :: d :: l => by
    have := sd_len a (d :: l)
    simp only [sd, List.length_cons] at *
    omega
theorem sd_eq (x a : Int) : ∀ l, polyZ x l - polyZ a l = (x - a) * polyZ x (sd a l)
  | [] => by simp [polyZ, sd]
  | [c] => by simp [polyZ, sd]
  | c :: d :: l => by
    have ih := sd_eq x a (d :: l)
    simp only [sd]
    rw [polyZ_cons x c, polyZ_cons a c, polyZ_cons x (polyZ a (d :: l))]
    generalize polyZ x (d :: l) = X at *
    generalize polyZ a (d :: l) = Y at *
    generalize polyZ x (sd a (d :: l)) = Q at *
    have e : (x - a) * (Q * x + Y) = ((x - a) * Q) * x + (x - a) * Y := by rw [Int.mul_add, Int.mul_assoc]
    rw [e, ← ih, Int.sub_mul, Int.sub_mul, Int.mul_comm x Y, Int.mul_comm a Y]
    omega
theorem sd_zero {p a : Int} : ∀ l, Cong p (polyZ a l) 0 → (∀ k, Cong p (cf (sd a l) k) 0) → ∀ k, Cong p (cf l k) 0
  | [], _, _, k => by rw [cf_nil]; exact Cong.refl _ _
  | [c], h, _, k => by
    cases k with
    | zero => rw [cf_zero]; simpa [polyZ] using h
    | succ k => rw [cf_succ, cf_nil]; exact Cong.refl _ _
  | c :: d :: l, h, hq, k => by
    have h0 := hq 0
    simp only [sd] at hq h0
    rw [cf_zero] at h0
    have ih := sd_zero (d :: l) h0 (fun k => by have := hq (k + 1); rwa [cf_succ] at this)
    cases k with
    | succ k => rw [cf_succ]; exact ih k
    | zero =>
      rw [cf_zero]
      rw [polyZ_cons] at h
      have h1 := h0.mul (Cong.refl p a)
      rw [Int.zero_mul] at h1
      have h2 := h.sub h1
      rwa [Int.add_comm, Int.add_sub_cancel, Int.sub_zero] at h2

theorem roots_zero {p : Int} (hok : okP p = true) : ∀ (us l : List Int), l.length ≤ us.length → us.Pairwise (fun x y => ¬ Cong p (y - x) 0) → (∀ a ∈ us, Cong p (polyZ a l) 0) → ∀ k, Cong p (cf l k) 0 := by
  intro us
  induction us with
  | nil =>
    intro l hl _ _ k
    have : l = [] := List.eq_nil_of_length_eq_zero (by simpa using hl)
    rw [this, cf_nil]; exact Cong.refl _ _
  | cons a us ih =>
    intro l hl hd hz
    have ha := hz a (by simp)
    rw [List.pairwise_cons] at hd
    refine sd_zero l ha (ih (sd a l) (by rw [sd_len]; simp at hl; omega) hd.2 fun b hb => ?_)
    have h1 := hz b (by simp [hb])
    have h2 := (h1.sub ha)
    rw [sd_eq, Int.sub_self] at h2
    rcases Cong.mul_zero hok h2 with h3 | h3
    · exact absurd h3 (hd.1 b hb)
    · exact h3

theorem pairwise_of {p : Int} {us : List Int} (ha : allP p us = true) (hd : ∀ j k, j < k → k < us.length → us.getD j 0 ≠ us.getD k 0) : us.Pairwise (fun x y => ¬ Cong p (y - x) 0) := by
  rw [List.pairwise_iff_getElem]
  intro i j hi hj hij
  have h1 := hd i j hij hj
  have h2 := allP_getD ha hi
  have h3 := allP_getD ha hj
  rw [List.getD_eq_getElem?_getD, List.getElem?_eq_getElem hi, List.getD_eq_getElem?_getD, List.getElem?_eq_getElem hj] at h1
  rw [List.getD_eq_getElem?_getD, List.getElem?_eq_getElem hi] at h2
  rw [List.getD_eq_getElem?_getD, List.getElem?_eq_getElem hj] at h3
  exact elt_ne h3 h2 (fun e => h1 e.symm)

/-- Two polynomials with no more coefficients than points, of the same values there, are the same. -/
theorem same_cfs {p : Int} (hok : okP p = true) {us a b : List Int} (hu : us.Pairwise (fun x y => ¬ Cong p (y - x) 0)) (ha : allP p a = true) (hb : allP p b = true) (hla : a.length ≤ us.length) (hlb : b.length ≤ us.length)
    (hv : ∀ x ∈ us, valueP p x a = valueP p x b) : ∀ k, cf a k = cf b k := by
  have hp := okP_pos hok
  intro k
  have hcf : ∀ k, cf ((List.range us.length).map fun k => cf a k - cf b k) k = cf a k + (-1) * cf b k := fun k => by
    rw [cf_map_range]
    split
    · omega
    · rw [cf_out (l := a) (by omega), cf_out (l := b) (by omega)]; rfl
  have h1 := roots_zero hok us ((List.range us.length).map fun k => cf a k - cf b k) (by simp) hu (fun x hx => by
    refine (polyZ_scaled (a := a) (b := b) (c := -1) fun k => Cong.of_eq (hcf k)).trans ?_
    have h2 := ((valueP_cong p x a).symm.trans (Cong.of_eq (hv x hx))).trans (valueP_cong p x b)
    have h3 := h2.zero_sub
    refine Cong.trans (Cong.of_eq ?_) h3
    omega) k
  rw [hcf] at h1
  have h2 : Cong p (cf a k - cf b k) 0 := by refine Cong.trans (Cong.of_eq ?_) h1; omega
  exact h2.sub_zero.eq (cf_in hp.1 ha k) (cf_in hp.1 hb k)
theorem Through.unique {p : Int} (hok : okP p = true) {us ys R a : List Int} (h : Through p us ys R) (hu : us.Pairwise (fun x y => ¬ Cong p (y - x) 0)) (ha : allP p a = true) (hla : a.length ≤ us.length) (hv : ∀ j, j < us.length → valueP p (us.getD j 0) a = ys.getD j 0) : R = trimL a := by
  refine h.tr.ext (trimL_trimd a) fun k => ?_
  rw [cf_trimL]
  refine same_cfs hok hu h.al ha h.ln hla (fun x hx => ?_) k
  obtain ⟨j, hj, rfl⟩ := List.mem_iff_getElem.1 hx
  have h1 := h.va j hj
  have h2 := hv j hj
  rw [List.getD_eq_getElem?_getD, List.getElem?_eq_getElem hj, Option.getD_some] at h1 h2
  rw [h1, h2]
end Go.Proofs.Ytgboojmoplcpdaa

/-! LinesA -/
namespace Go.Proofs.Ytgboojmoplcpdaa
set_option linter.unusedVariables false

theorem polyZ_lin (p pt x : Int) (a b : List Int) (h : a.length = b.length) : Cong p (polyZ pt (zipI (addP p) (scaleP p x a) b)) (polyZ pt a * x + polyZ pt b) := by
  induction a generalizing b with
  | nil => cases b with
    | nil => exact Cong.of_eq (by simp [polyZ, zipI, scaleP])
    | cons _ _ => simp at h
  | cons c a ih =>
    cases b with
    | nil => simp at h
    | cons d b =>
      have e : zipI (addP p) (scaleP p x (c :: a)) (d :: b) = addP p (mulP p c x) d :: zipI (addP p) (scaleP p x a) b := rfl
      rw [e, polyZ_cons, polyZ_cons, polyZ_cons]
      have h1 := ((ih b (by simpa using h)).mul (Cong.refl p pt)).add ((Cong.addP p (mulP p c x) d).trans ((Cong.mulP p c x).add (Cong.refl p d)))
      exact h1.trans (Cong.of_eq (by grind))

theorem lines_lin (p pt x : Int) (hp : 2 ≤ p) (a b : List Int) (h : a.length = b.length) : valueP p pt (zipI (addP p) (scaleP p x a) b) = (valueP p pt a * x + valueP p pt b) % p := by
  refine Cong.eq ?_ (valueP_in hp _ _) ⟨Int.emod_nonneg _ (by omega), Int.emod_lt_of_pos _ (by omega)⟩
  refine (valueP_cong _ _ _).trans ((polyZ_lin p pt x a b h).trans ?_)
  exact (((valueP_cong p pt a).symm.mul (Cong.refl _ _)).add (valueP_cong p pt b).symm).trans (Cong.mod _ _).symm

theorem lines_zero (p : Int) (hp : 2 ≤ p) (a : List Int) (h : 0 < a.length) (ha : allP p a = true) : valueP p 0 a = a.getD 0 0 := by
  cases a with
  | nil => simp at h
  | cons c a =>
    rw [valueP_cons]
    have hc := allP_getD ha (k := 0) (by simp)
    simp at hc
    simp only [mulP, addP, Int.mul_zero, Int.zero_emod, Int.zero_add]
    rw [Int.emod_eq_of_lt hc.1 hc.2]; rfl
end Go.Proofs.Ytgboojmoplcpdaa

/-! ShareA -/
namespace Go.Proofs.Ytgboojmoplcpdaa
set_option linter.unusedVariables false

/-- The values of a polynomial at some points. -/
def valsP (p : Int) (cs us : List Int) : List Int := us.map fun x => valueP p x cs
theorem valsP_len (p : Int) (cs us : List Int) : (valsP p cs us).length = us.length := by simp [valsP]
theorem valsP_at (p : Int) (cs us : List Int) {j : Nat} (hj : j < us.length) : (valsP p cs us).getD j 0 = valueP p (us.getD j 0) cs := by
  unfold valsP
  rw [List.getD_eq_getElem?_getD, List.getElem?_map, List.getD_eq_getElem?_getD, List.getElem?_eq_getElem hj]; rfl
theorem valsP_allP {p : Int} (hp : 2 ≤ p) (cs us : List Int) : allP p (valsP p cs us) = true := allP_iff.2 fun y hy => by
  obtain ⟨x, _, rfl⟩ := List.mem_map.1 hy
  exact valueP_in hp x cs
theorem valsP_take (p : Int) (cs us : List Int) (k : Nat) : (valsP p cs us).take k = valsP p cs (us.take k) := by simp [valsP, List.map_take]
theorem valsP_snoc (p : Int) (cs us : List Int) (x : Int) : valsP p cs (us ++ [x]) = valsP p cs us ++ [valueP p x cs] := by simp [valsP]

theorem take_getD (l : List Int) {k j : Nat} (hj : j < k) : (l.take k).getD j 0 = l.getD j 0 := by
  rw [List.getD_eq_getElem?_getD, List.getElem?_take_of_lt hj, List.getD_eq_getElem?_getD]
theorem take_allP {p : Int} {l : List Int} (h : allP p l = true) (k : Nat) : allP p (l.take k) = true := allP_iff.2 fun x hx => allP_iff.1 h x (List.mem_of_mem_take hx)
theorem value_zero {p : Int} (hp : 2 ≤ p) {cs : List Int} (ha : allP p cs = true) (h : 0 < cs.length) : valueP p 0 cs = cs.getD 0 0 := lines_zero p hp cs h ha
theorem value_trim (p x : Int) (hp : 2 ≤ p) (cs : List Int) : valueP p x (trimL cs) = valueP p x cs := by
  refine Cong.eq (p := p) ?_ (valueP_in hp _ _) (valueP_in hp _ _)
  exact (valueP_cong _ _ _).trans ((polyZ_cfs fun k => by rw [cf_trimL]; exact Cong.refl _ _).trans (valueP_cong _ _ _).symm)

/-- Points are apart. -/
def Apart2 (us : List Int) : Prop := ∀ j k, j < k → k < us.length → us.getD j 0 ≠ us.getD k 0
theorem Apart2.take {us : List Int} (h : Apart2 us) (k : Nat) : Apart2 (us.take k) := fun i j h1 h2 => by
  have hl : (us.take k).length ≤ us.length ∧ (us.take k).length ≤ k := by rw [List.length_take]; omega
  rw [take_getD us (by omega), take_getD us (by omega)]
  exact h i j h1 (by omega)

/-- Shares of a polynomial lead to it. -/
theorem share_join {p : Int} (hok : okP p = true) {cs us R : List Int} {m : Nat} (hc : allP p cs = true) (hl : cs.length ≤ m) (hu : allP p us = true) (hd : Apart2 us) (hm : m ≤ us.length) (h : Through p (us.take m) ((valsP p cs us).take m) R) : R = trimL cs := by
  have hlen : (us.take m).length = m := by rw [List.length_take]; omega
  refine h.unique hok (pairwise_of (take_allP hu m) (hd.take m)) hc (by omega) fun j hj => ?_
  rw [valsP_take, valsP_at p cs _ hj]

/-- Whether all shares are values of a polynomial. -/
def agreeB (p : Int) (us ys R : List Int) : Bool := (List.range us.length).all fun i => valueP p (us.getD i 0) R == ys.getD i 0
theorem agreeB_iff {p : Int} {us ys R : List Int} : agreeB p us ys R = true ↔ ∀ i, i < us.length → valueP p (us.getD i 0) R = ys.getD i 0 := by
  unfold agreeB
  rw [List.all_eq_true]
  constructor
  · intro h i hi
    have := h i (List.mem_range.2 hi)
    simpa using this
  · intro h i hi
    have := h i (List.mem_range.1 hi)
    simpa using this
theorem share_agree {p : Int} (hp : 2 ≤ p) (cs us : List Int) : agreeB p us (valsP p cs us) (trimL cs) = true := agreeB_iff.2 fun i hi => by
  rw [valsP_at p cs us hi, value_trim p _ hp]

/-- One changed share is noticed. -/
theorem share_changed {p : Int} (hok : okP p = true) {cs us R : List Int} {m k : Nat} {v : Int} (hc : allP p cs = true) (hl : cs.length ≤ m) (hu : allP p us = true) (hd : Apart2 us) (hm : us.length = m + 1) (hk : k < us.length)
    (h : Through p (us.take m) (((valsP p cs us).set k v).take m) R) : agreeB p us ((valsP p cs us).set k v) R = ((valsP p cs us).getD k 0 == v) := by
  have hp := (okP_pos hok).1
  have hlen : (us.take m).length = m := by rw [List.length_take]; omega
  by_cases hv : (valsP p cs us).getD k 0 = v
  · have hs : (valsP p cs us).set k v = valsP p cs us := by
      refine cf_ext (by rw [List.length_set]) fun i => ?_
      rw [cf_set]
      split
      · rename_i h1; rw [← h1.1, ← hv]; rfl
      · rfl
    rw [hs] at h ⊢
    rw [share_join hok hc hl hu hd (by omega) h, share_agree hp, hv]; simp
  · have hf : ((valsP p cs us).getD k 0 == v) = false := by simpa using hv
    rw [hf, ← Bool.not_eq_true, agreeB_iff]
    intro hall
    -- the points but the k-th one
    have hlr : R.length ≤ m := by have := h.ln; rw [hlen] at this; exact this
    have hel : (us.eraseIdx k).length = m := by rw [List.length_eraseIdx_of_lt hk]; omega
    have hpw := (pairwise_of hu hd).sublist (List.eraseIdx_sublist us k)
    have hcf := same_cfs hok hpw h.al hc (by omega) (by omega) (fun x hx => by
      obtain ⟨i, hi, hik, rfl⟩ : ∃ i, i < us.length ∧ i ≠ k ∧ us.getD i 0 = x := by
        obtain ⟨i, hi, hne, e⟩ := List.mem_eraseIdx_iff_getElem.1 hx
        exact ⟨i, hi, hne, by rw [List.getD_eq_getElem?_getD, List.getElem?_eq_getElem hi]; exact e⟩
      rw [hall i hi]
      have h1 : ((valsP p cs us).set k v).getD i 0 = (valsP p cs us).getD i 0 := by
        show cf _ i = cf _ i
        rw [cf_set, if_neg (by omega)]
      rw [h1, valsP_at p cs us hi])
    have h2 := hall k hk
    have h3 : ((valsP p cs us).set k v).getD k 0 = v := by
      show cf _ k = v
      rw [cf_set, if_pos ⟨rfl, by rw [valsP_len]; exact hk⟩]
    rw [h3] at h2
    apply hv
    rw [valsP_at p cs us hk, ← h2]
    refine Cong.eq (p := p) ?_ (valueP_in hp _ _) (valueP_in hp _ _)
    exact (valueP_cong _ _ _).trans ((polyZ_cfs fun k => Cong.of_eq (hcf k).symm).trans (valueP_cong _ _ _).symm)
end Go.Proofs.Ytgboojmoplcpdaa
