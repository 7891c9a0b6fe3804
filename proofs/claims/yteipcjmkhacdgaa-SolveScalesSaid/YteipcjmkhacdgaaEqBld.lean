/-
  Equations that a statement builds up row by row: their memory, and the rows that they are made of. No conditions.
-/
import Derived.Test.YteipcjmkhacdgaaEqu
import Derived.Test.YteipcjmkhacdgaaEqB
namespace Go.Proofs.Yteipcjmkhacdgaa
open Go.RowKit
set_option linter.unusedVariables false

theorem OwnI.cap_ {w : World} {base n c : Nat} {e : TypeId} {A : Option Addr} {xs : List Int} (h : OwnI w base e A n c xs) : n ≤ c := by
  rcases h.2 with ⟨hv, _⟩ | ⟨_, _, _, hv, _, _, hnc, _⟩
  · injection hv with _ h1 h2
    omega
  · injection hv with _ h1 h2
    omega
theorem OwnI.box {w : World} {base n c B : Nat} {A : Option Addr} {xs : List Int} {cs : Array Value} (h : OwnI w base 3 A n c xs) (hB : Blk w B 30 cs) (j : Nat) (u : Value) : OwnI (w.setCell ⟨B, j, none⟩ u) base 3 A n c xs :=
  OwnI.kept h ((Step.refl B w).set j u) (.inr (own_blk_ne h hB (fun e => eq_int_types e.symm)))

/-- An append of some numbers to a row of the call's own, in a region that draws its order. -/
theorem step_append_ints {P : Program} {ops : Array Oper} {o : Oper} {a : Act} {w : World} {K : Act → World → Prop} {Q : Exit → Act → World → Prop} {E : Prop}
    (hg : o.guard = none) (s x : Operand) (t : TypeId) (hop : o.op = Op.call { callee := Callee.builtin Builtin.append, args := #[s, x], argTypes := #[t, t] })
    (base : Nat) (e : TypeId) (i : TypeInfo) (z : Value) (ht : P.underlying t = some (.slice e)) (hi : P.info? e = some i) (hz : i.zero = some z) (hsize : i.size = 1) (hby : i.bytes = 8) (hzs : z.cells.size = 1)
    (A1 : Option Addr) (n1 c1 : Nat) (xs : List Int) (hs : a.eval s = .slice A1 n1 c1) (hT : OwnI w base e A1 n1 c1 xs)
    (A2 : Option Addr) (m c2 : Nat) (ys : List Int) (hx : a.eval x = .slice A2 m c2) (hI : Ints w w.heap.size A2 m ys) (N : Nat) (hN : n1 + m = N) (hcap : N ≤ 17592186044416) (hbase : base ≤ w.heap.size)
    (hK : ∀ A' c' w', OwnI w' base e A' N c' (xs ++ ys) → w.grownBy w' (Value.slice A1 n1 c1).ownBlock → Below base w w' →
      ((Value.slice A' N c').ownBlock = (Value.slice A1 n1 c1).ownBlock ∨ (Value.slice A' N c').ownBlock = some w.heap.size) → K (a.put o.dst (.slice A' N c')) w') :
    if Region.wanted o (yielded ops a.tmps) = true then Oper.wp P o a w K Q else E := by
  subst hN
  refine step_append_any (P := P) w hg s x t hop base e i z 1 8 ht hi hz hsize hby hzs (by omega) (.slice A1 n1 c1) n1 (vals xs) hs hT w.heap.size A2 m c2 (vals ys) hx hI.reads (vals_one _) (by unfold maxLen; omega) (by omega) hbase ?_
  intro v' w' hown' hgr hat
  rw [show vals xs ++ vals ys = vals (xs ++ ys) by simp [vals]] at hown'
  have hb : Below base w w' := (Below.refl base w).grown hgr hbase hT.row
  rcases hown'.2 with ⟨hv, hn⟩ | ⟨g, cap, cur, hv, _⟩
  · rw [hv] at hown' hat ⊢
    rw [hn] at hown' hK
    exact hK none 0 w' hown' hgr hb hat
  · rw [hv] at hown' hat ⊢
    exact hK _ cap w' hown' hgr hb hat

/-- Equations that are given in one box, and ones that are built up in another. -/
structure St (w : World) (g : Nat) (A : Option Addr) (n c : Nat) (xs : List Int) (q B4 B5 : Nat) (p : Int) (r k nc : Nat) (C : Option Addr) (cc : Nat) (D : Option Addr) (cd : Nat) (cells right : List Int)
    (r2 : Nat) (C2 : Option Addr) (n2 c2 : Nat) (cells2 : List Int) (D2 : Option Addr) (m2 d2 : Nat) (right2 : List Int) : Prop where
  b4 : Blk w B4 30 #[.int .i64 p, .int .i64 r, .int .i64 k, .slice C nc cc, .slice D r cd]
  b5 : Blk w B5 30 #[.int .i64 p, .int .i64 r2, .int .i64 k, .slice C2 n2 c2, .slice D2 m2 d2]
  hC : OwnI w (g + 1) 3 C nc cc cells
  hD : OwnI w (g + 1) 3 D r cd right
  hCl : ∀ b, (Value.slice C nc cc).ownBlock = some b → b < B4
  hDl : ∀ b, (Value.slice D r cd).ownBlock = some b → b < B4
  two : Two w (B5 + 1) 3 C2 n2 c2 cells2 D2 m2 d2 right2
  dk : Deck w g A n c xs q
  lt : B4 < B5
  glt : g < B4

section
variable {w w' : World} {g : Nat} {A : Option Addr} {n c : Nat} {xs : List Int} {q q' B4 B5 : Nat} {p : Int} {r k nc : Nat} {C : Option Addr} {cc : Nat} {D : Option Addr} {cd : Nat} {cells right : List Int}
    {r2 : Nat} {C2 : Option Addr} {n2 c2 : Nat} {cells2 : List Int} {D2 : Option Addr} {m2 d2 : Nat} {right2 : List Int}
theorem St.step (h : St w g A n c xs q B4 B5 p r k nc C cc D cd cells right r2 C2 n2 c2 cells2 D2 m2 d2 right2) (hs : Step g w w') (hd : Deck w' g A n c xs q') : St w' g A n c xs q' B4 B5 p r k nc C cc D cd cells right r2 C2 n2 c2 cells2 D2 m2 d2 right2 := by
  have h1 := h.lt
  have h2 := h.glt
  exact ⟨Step.block hs h.b4 (by omega), Step.block hs h.b5 (by omega), h.hC.step hs (Nat.lt_succ_self _), h.hD.step hs (Nat.lt_succ_self _), h.hCl, h.hDl, h.two.step hs (by omega), hd, h1, h2⟩
theorem St.belowAll (h : St w g A n c xs q B4 B5 p r k nc C cc D cd cells right r2 C2 n2 c2 cells2 D2 m2 d2 right2) (hb : Below w.heap.size w w') : St w' g A n c xs q B4 B5 p r k nc C cc D cd cells right r2 C2 n2 c2 cells2 D2 m2 d2 right2 :=
  ⟨h.b4.below hb h.b4.lt, h.b5.below hb h.b5.lt, h.hC.belowAll hb, h.hD.belowAll hb, h.hCl, h.hDl, ⟨h.two.1.belowAll hb, h.two.2.1.belowAll hb, h.two.2.2⟩, h.dk.belowAll hb, h.lt, h.glt⟩
theorem St.drew (h : St w g A n c xs q B4 B5 p r k nc C cc D cd cells right r2 C2 n2 c2 cells2 D2 m2 d2 right2) : St w.drew g A n c xs q B4 B5 p r k nc C cc D cd cells right r2 C2 n2 c2 cells2 D2 m2 d2 right2 := h.belowAll (Below.refl _ _).drew
theorem St.alloc (h : St w g A n c xs q B4 B5 p r k nc C cc D cd cells right r2 C2 n2 c2 cells2 D2 m2 d2 right2) (o : Obj) : St (w.alloc o) g A n c xs q B4 B5 p r k nc C cc D cd cells right r2 C2 n2 c2 cells2 D2 m2 d2 right2 := h.belowAll (bbox o)
theorem St.pushC {C3 : Option Addr} {n3 c3 : Nat} {cells3 : List Int} (h : St w g A n c xs q B4 B5 p r k nc C cc D cd cells right r2 C2 n2 c2 cells2 D2 m2 d2 right2)
    (hown : OwnI w' (B5 + 1) 3 C3 n3 c3 cells3) (hg : w.grownBy w' (Value.slice C2 n2 c2).ownBlock) (hb : Below (B5 + 1) w w')
    (hab : (Value.slice C3 n3 c3).ownBlock = (Value.slice C2 n2 c2).ownBlock ∨ (Value.slice C3 n3 c3).ownBlock = some w.heap.size) :
    Blk w' B5 30 #[.int .i64 p, .int .i64 r2, .int .i64 k, .slice C2 n2 c2, .slice D2 m2 d2] ∧ St (w'.setCell ⟨B5, 3, none⟩ (.slice C3 n3 c3)) g A n c xs q B4 B5 p r k nc C cc D cd cells right r2 C3 n3 c3 cells3 D2 m2 d2 right2 := by
  have h1 := h.lt
  have h2 := h.glt
  have hB5 := h.b5.below hb (Nat.lt_succ_self _)
  exact ⟨hB5, (h.b4.below hb (by omega)).far (p := ⟨B5, 3, none⟩) (by show B4 ≠ B5; omega) _, hB5.set_ 3 (.slice C3 n3 c3), (h.hC.below hb (fun b hk => by have := h.hCl b hk; omega)).box hB5 3 _, (h.hD.below hb (fun b hk => by have := h.hDl b hk; omega)).box hB5 3 _, h.hCl, h.hDl,
    (h.two.first hown hg hab).step ((Step.refl B5 w').set 3 _) (Nat.lt_succ_self _), (h.dk.below hb (by omega)).setCell (p := ⟨B5, 3, none⟩) (by show g < B5; omega) _, h1, h2⟩
theorem St.pushD {D3 : Option Addr} {m3 d3 : Nat} {right3 : List Int} (h : St w g A n c xs q B4 B5 p r k nc C cc D cd cells right r2 C2 n2 c2 cells2 D2 m2 d2 right2)
    (hown : OwnI w' (B5 + 1) 3 D3 m3 d3 right3) (hg : w.grownBy w' (Value.slice D2 m2 d2).ownBlock) (hb : Below (B5 + 1) w w')
    (hab : (Value.slice D3 m3 d3).ownBlock = (Value.slice D2 m2 d2).ownBlock ∨ (Value.slice D3 m3 d3).ownBlock = some w.heap.size) :
    Blk w' B5 30 #[.int .i64 p, .int .i64 r2, .int .i64 k, .slice C2 n2 c2, .slice D2 m2 d2] ∧ St (w'.setCell ⟨B5, 4, none⟩ (.slice D3 m3 d3)) g A n c xs q B4 B5 p r k nc C cc D cd cells right r2 C2 n2 c2 cells2 D3 m3 d3 right3 := by
  have h1 := h.lt
  have h2 := h.glt
  have hB5 := h.b5.below hb (Nat.lt_succ_self _)
  exact ⟨hB5, (h.b4.below hb (by omega)).far (p := ⟨B5, 4, none⟩) (by show B4 ≠ B5; omega) _, hB5.set_ 4 (.slice D3 m3 d3), (h.hC.below hb (fun b hk => by have := h.hCl b hk; omega)).box hB5 4 _, (h.hD.below hb (fun b hk => by have := h.hDl b hk; omega)).box hB5 4 _, h.hCl, h.hDl,
    ((h.two.swap.first hown hg hab).swap).step ((Step.refl B5 w').set 4 _) (Nat.lt_succ_self _), (h.dk.below hb (by omega)).setCell (p := ⟨B5, 4, none⟩) (by show g < B5; omega) _, h1, h2⟩
end

/-- The rows with these numbers, one behind the other. -/
def rowsOf (k : Nat) (cells : List Int) (is : List Nat) : List Int := (is.map fun i => (cells.drop (i * k)).take k).flatten
theorem rowsOf_snoc (k : Nat) (cells : List Int) (is : List Nat) (i : Nat) : rowsOf k cells (is ++ [i]) = rowsOf k cells is ++ (cells.drop (i * k)).take k := by simp [rowsOf]
theorem rowsOf_len {r k : Nat} {cells : List Int} (hl : cells.length = r * k) : ∀ {is : List Nat}, (∀ i ∈ is, i < r) → (rowsOf k cells is).length = is.length * k
  | [], _ => by simp [rowsOf]
  | i :: is, h => by
    have h1 : rowsOf k cells (i :: is) = (cells.drop (i * k)).take k ++ rowsOf k cells is := by simp [rowsOf]
    rw [h1, List.length_append, rowL_len hl (h i (List.mem_cons_self ..)), rowsOf_len hl (fun j hj => h j (List.mem_cons_of_mem _ hj)), List.length_cons, Nat.succ_mul, Nat.add_comm]
theorem cf_rowsOf {r k : Nat} {cells : List Int} (hl : cells.length = r * k) : ∀ {is : List Nat}, (∀ i ∈ is, i < r) → ∀ t, t < is.length → ∀ j, j < k → cf (rowsOf k cells is) (t * k + j) = cf cells (is.getD t 0 * k + j)
  | [], _, t, ht, _, _ => absurd ht (by simp)
  | i :: is, h, t, ht, j, hj => by
    have h1 : rowsOf k cells (i :: is) = (cells.drop (i * k)).take k ++ rowsOf k cells is := by simp [rowsOf]
    rw [h1, cf_append, rowL_len hl (h i (List.mem_cons_self ..))]
    match t with
    | 0 =>
      rw [Nat.zero_mul, Nat.zero_add, if_pos hj, cf_take, if_pos hj, cf_drop]; rfl
    | t + 1 =>
      rw [if_neg (by rw [Nat.succ_mul]; omega), show (t + 1) * k + j - k = t * k + j by rw [Nat.succ_mul]; omega]
      exact cf_rowsOf hl (fun j hj => h j (List.mem_cons_of_mem _ hj)) t (by simpa using ht) j hj
theorem rowsOf_all {p : Int} {k : Nat} {cells : List Int} (h : allP p cells = true) (is : List Nat) : allP p (rowsOf k cells is) = true := allP_iff.2 fun x hx => by
  unfold rowsOf at hx
  obtain ⟨l, hl, hx⟩ := List.mem_flatten.1 hx
  obtain ⟨i, _, rfl⟩ := List.mem_map.1 hl
  exact allP_iff.1 h x (List.mem_of_mem_drop (List.mem_of_mem_take hx))
/-- Rows that are all there have the same left sides. -/
theorem ker_rows {p : Int} {r k : Nat} {cells right right2 : List Int} {is : List Nat} {r2 : Nat} (hl : cells.length = r * k) (hi : ∀ i ∈ is, i < r) (hall : ∀ i, i < r → i ∈ is) (hr2 : is.length = r2) (z : Nat → Int) (hz : ∀ j, k ≤ j → z j = 0) :
    Ker p (k + 1) (augM r k cells right) z ↔ Ker p (k + 1) (augM r2 k (rowsOf k cells is) right2) z := by
  subst hr2
  refine ker_order hl (rowsOf_len hl hi) (fun t ht => ⟨is.getD t 0, hi _ ?_, fun j hj => cf_rowsOf hl hi t ht j hj⟩) (fun i hir => ?_) z hz
  · rw [List.getD_eq_getElem?_getD, List.getElem?_eq_getElem ht]; exact List.getElem_mem ht
  · obtain ⟨t, ht, e⟩ := List.getElem_of_mem (hall i hir)
    refine ⟨t, ht, fun j hj => ?_⟩
    rw [cf_rowsOf hl hi t ht j hj, List.getD_eq_getElem?_getD, List.getElem?_eq_getElem ht]
    rw [Option.getD_some, e]
end Go.Proofs.Yteipcjmkhacdgaa
