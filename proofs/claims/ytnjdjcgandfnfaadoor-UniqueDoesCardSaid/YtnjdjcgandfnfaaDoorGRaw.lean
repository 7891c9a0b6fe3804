/-
  Words for memory and contracts of small functions of the second form. Conditions: those of each lemma.
-/
import Derived.Test.YtnjdjcgandfnfaaDoorMat
import Derived.Deep.Matrix
import Derived.Lib.SmallJoins
import Derived.SizedLaws
import Derived.Test.YtnjdjcgandfnfaaDoorKnown
import Derived.Deep.SlicePairs
/-! Raw -/
namespace Go.Proofs.YtnjdjcgandfnfaaDoor
open Go.RowKit Go.ChangeShapes Go.WideShapes Go.Deep
set_option linter.unusedVariables false

section
variable {H : Type} {enc : TypeId × Value → H} {P : Program} {w : World}

theorem sized_all {ts : List TypeId} {ds : List (DataW H)} (h : (DataW.weightsEach P ts ds).all (· ≤ reachBytes) = true) {j : Nat} {t : TypeId} {d : DataW H} (ht : ts[j]? = some t) (hd : ds[j]? = some d) : ∀ n ∈ d.weights P t, n ≤ reachBytes := by
  intro n hn
  have := List.all_eq_true.1 h _ (DataW.weights_mem_each ht hd n hn)
  simpa using this

theorem weightsAll_mem {e : TypeId} {ds : List (DataW H)} {d : DataW H} (hd : d ∈ ds) : ∀ n ∈ d.weights P e, n ∈ DataW.weightsAll P e ds := by
  intro n hn
  induction ds with
  | nil => cases hd
  | cons d0 r ih =>
    rw [DataW.weightsAll]
    rcases List.mem_cons.1 hd with rfl | hd
    · exact List.mem_append.2 (.inl hn)
    · exact List.mem_append.2 (.inr (ih hd))

/-- A slice of numbers, at its cells. -/
theorem raw_ints_c {t e : TypeId} {fuel : Nat} {a : Option Addr} {len cap : Nat} {x : DataW H × List MemPlace} (ht : P.underlying t = some (.slice e)) (he : P.underlying e = some (.int .i64)) (ce : P.cellsOf e = 1) (be : P.bytesOf e = 8)
    (h : DataW.trod enc P w 0 (fun _ => true) true fuel t [.slice a len cap] = some x) (hz : ∀ n ∈ x.1.weights P t, n ≤ reachBytes) : ∃ xs, Ints w w.heap.size a len xs ∧ Wf64 xs ∧ len ≤ 17592186043904 ∧ len ≤ cap := by
  rcases open_ints ht he ce h with ⟨hcs, _⟩ | ⟨x', l, c, zs, hcs, _, hl, hm, hzl, hx, hcell, hwz⟩
  · simp at hcs
    obtain ⟨rfl, rfl, rfl⟩ := hcs
    exact ⟨[], Ints.nil_, (fun x hx => by cases hx), by omega, by omega⟩
  · simp at hcs
    obtain ⟨rfl, rfl, rfl⟩ := hcs
    have hr : IsRow .i64 w (some x') len cap zs := .inr ⟨_, rfl, hl, hm, by simpa using hzl, hcell, hwz⟩
    obtain ⟨h1, h2⟩ := hr.ints
    refine ⟨_, h1, h2, ?_, hl⟩
    have h3 := hz ((lits (H := H) .i64 (zs.take len)).length * P.bytesOf e + (lits (H := H) .i64 (zs.drop len)).length * P.bytesOf e) (by
      rw [hx]; simp only [DataW.weights, ht]; rw [← Nat.add_mul]; exact List.mem_cons_self)
    rw [be] at h3
    simp only [lits, List.length_map, List.length_take, List.length_drop, reachBytes] at h3
    simp at hzl
    omega

theorem raw_ints {t e : TypeId} {a : Option Addr} {len cap : Nat} {d : DataW H} {ps : List MemPlace} (ht : P.underlying t = some (.slice e)) (he : P.underlying e = some (.int .i64)) (ce : P.cellsOf e = 1) (be : P.bytesOf e = 8)
    (h : DataW.Trod enc P w 0 (fun _ => true) true t (.slice a len cap) d ps) (hz : ∀ n ∈ d.weights P t, n ≤ reachBytes) : ∃ xs, Ints w w.heap.size a len xs ∧ Wf64 xs ∧ len ≤ 17592186043904 ∧ len ≤ cap := by
  obtain ⟨fuel, hf⟩ := h
  exact raw_ints_c (fuel := fuel) (x := (d, ps)) ht he ce be (by simpa [Value.cells] using hf) hz

/-- Rows that came in. -/
theorem raw_rows {t e q : TypeId} {a : Option Addr} {len cap : Nat} {d : DataW H} {ps : List MemPlace} (ht : P.underlying t = some (.slice e)) (he : P.underlying e = some (.slice q)) (hq : P.underlying q = some (.int .i64)) (ce : P.cellsOf e = 1) (cq : P.cellsOf q = 1) (be : P.bytesOf e = 24) (bq : P.bytesOf q = 8)
    (h : DataW.Trod enc P w 0 (fun _ => true) true t (.slice a len cap) d ps) (hz : ∀ n ∈ d.weights P t, n ≤ reachBytes) : ∃ rows, Mat w 0 w.heap.size a len rows ∧ (∀ r ∈ rows, Wf64 r) ∧ len ≤ 17592186043904 := by
  obtain ⟨fuel, hf⟩ := h
  rcases open_int_rows ht he hq ce cq (by simpa [Value.cells] using hf) with ⟨hcs, _⟩ | ⟨x', l, c, A, L, C, Z, hcs, _, hl, hm, hx, hr⟩
  · simp at hcs
    obtain ⟨rfl, rfl, rfl⟩ := hcs
    exact ⟨[], Mat.nil_, (fun x hx => by cases hx), by omega⟩
  · simp at hcs
    obtain ⟨rfl, rfl, rfl⟩ := hcs
    injection hx with hx1 hx2
    subst hx1
    have hrow : ∀ r, r < len → Ints w w.heap.size (A r) (L r) ((Z r).take (L r)) ∧ Wf64 ((Z r).take (L r)) ∧ L r ≤ 17592186043904 := by
      intro r hrl
      obtain ⟨h1, h2, h3, h4, h5, h6, h7⟩ := hr r (by omega)
      have hi : IsRow .i64 w (A r) (L r) (C r) (Z r) := by
        cases hA : A r with
        | none => have := h6 hA; exact .inl ⟨rfl, by omega, this, List.eq_nil_of_length_eq_zero (by omega)⟩
        | some x1 => exact .inr ⟨x1, rfl, h2, h3, h4, fun i hi => ((h7 x1 hA).2 i (by omega)), h5⟩
      refine ⟨hi.ints.1, hi.ints.2, ?_⟩
      cases hA : A r with
      | none => have := h6 hA; omega
      | some x1 =>
        have h8 := hz ((lits (H := H) .i64 ((Z r).take (L r))).length * P.bytesOf q + (lits (H := H) .i64 ((Z r).drop (L r))).length * P.bytesOf q) (by
          simp only [DataW.weights, ht]
          refine List.mem_cons_of_mem _ (List.mem_append.2 (.inl (weightsAll_mem (d := intRow .i64 (A r) (L r) (Z r)) (List.mem_map.2 ⟨r, List.mem_range.2 hrl, rfl⟩) _ ?_)))
          rw [hA]; simp only [intRow, DataW.weights, he]; rw [← Nat.add_mul]; exact List.mem_cons_self)
        rw [bq] at h8
        simp only [lits, List.length_map, List.length_take, List.length_drop, reachBytes] at h8
        omega
    have hlen : len ≤ 17592186043904 := by
      have h8 := hz (((List.range len).map fun r => intRow (H := H) .i64 (A r) (L r) (Z r)).length * P.bytesOf e + ((List.range (cap - len)).map fun j => intRow (H := H) .i64 (A (len + j)) (L (len + j)) (Z (len + j))).length * P.bytesOf e) (by
        simp only [DataW.weights, ht]; rw [← Nat.add_mul]; exact List.mem_cons_self)
      rw [be] at h8
      simp only [List.length_map, List.length_range, reachBytes] at h8
      omega
    refine ⟨(List.range len).map fun r => (Z r).take (L r), ⟨by simp, fun hn => ?_⟩, ?_, hlen⟩
    · obtain ⟨b, off, spot⟩ := x'
      have h0 := (hr 0 (by omega)).1
      have hs : spot = none := by simpa [Addr.add] using World.cell?_spot h0
      subst hs
      refine ⟨b, off, rfl, Nat.zero_le _, by simpa [Addr.add] using block_lt_of_cell h0, fun j hj => ?_⟩
      obtain ⟨k1, k2, k3⟩ := hrow j hj
      refine ⟨A j, L j, C j, ?_, by omega, ?_, fun _ _ _ _ _ => Nat.zero_le _⟩
      · have := (hr j (by omega)).1
        rw [← this]
        by_cases hj0 : j = 0
        · subst hj0; simp [Addr.add]
        · simp [Addr.add, hj0]
      · rw [List.getD_eq_getElem?_getD, List.getElem?_map, List.getElem?_range hj]
        exact k1
    · intro r hr'
      obtain ⟨j, hj, rfl⟩ := List.mem_map.1 hr'
      exact (hrow j (List.mem_range.1 hj)).2.1

/-- A field (a struct of one number) by value. -/
theorem raw_field {r : Reach} {b0 : Nat} {t e : TypeId} {f0 : Field} {v : Value} {d : DataW H} {ps : List MemPlace} (ht : P.underlying t = some (.struct #[f0])) (hf0 : f0.type = e) (ho : f0.offset = 0) (he : P.underlying e = some (.int .i64)) (ce : P.cellsOf e = 1) (ct : P.cellsOf t = 1)
    (hv : Value.okWide P w r b0 t v) (h : DataW.Trod enc P w 0 (fun _ => true) true t v d ps) : ∃ p : Int, v = .agg #[.int .i64 p] ∧ -9223372036854775808 ≤ p ∧ p ≤ 9223372036854775807 := by
  obtain ⟨cs, rfl, hsz⟩ := okWide_struct ht hv
  obtain ⟨fuel, hf⟩ := h
  obtain ⟨y0, n, _, _, h0⟩ := trod_struct1 ht hf
  rw [hf0, ho, ce] at h0
  obtain ⟨l⟩ := cs
  match l, hsz.trans ct with
  | [c0], _ =>
    obtain ⟨m, hm, _, hw⟩ := DataW.trod_int he h0
    simp [Value.cells] at hm
    subst hm
    exact ⟨m, rfl, wf64_of hw⟩
end
end Go.Proofs.YtnjdjcgandfnfaaDoor

/-! RawC -/
namespace Go.Proofs.YtnjdjcgandfnfaaDoor
open Go.RowKit Go.ChangeShapes Go.WideShapes Go.Deep
set_option linter.unusedVariables false

section
variable {H : Type} {enc : TypeId × Value → H} {P : Program} {w : World}
/-- The truth in a value. -/
def boolOf : Value → Bool
  | .bool b => b
  | _ => false
/-- Cells that came in. -/
theorem raw_cells {t e : TypeId} {f0 f1 : Field} {a : Option Addr} {len cap : Nat} {d : DataW H} {ps : List MemPlace} (ht : P.underlying t = some (.slice e)) (he : P.underlying e = some (.struct #[f0, f1])) (o0 : f0.offset = 0) (o1 : f1.offset = 1)
    (u0 : P.underlying f0.type = some (.int .i64)) (u1 : P.underlying f1.type = some .bool) (ce : P.cellsOf e = 2) (c0 : P.cellsOf f0.type = 1) (c1 : P.cellsOf f1.type = 1)
    (h : DataW.Trod enc P w 0 (fun _ => true) true t (.slice a len cap) d ps) : ∃ us ys, Cel w w.heap.size a len us ys ∧ len ≤ cap := by
  obtain ⟨fuel, hf⟩ := h
  rcases open_slice_pairs ht he ce o0 o1 c0 c1 (by simpa [Value.cells] using hf) with ⟨hcs, _⟩ | ⟨x', l, c, m, n, V0, V1, D0, D1, P0, P1, hcs, _, hl, hm, hmm, hx, hr⟩
  · simp at hcs
    obtain ⟨rfl, rfl, rfl⟩ := hcs
    exact ⟨[], [], ⟨rfl, rfl, fun h => absurd h (by omega)⟩, by omega⟩
  · simp at hcs
    obtain ⟨rfl, rfl, rfl⟩ := hcs
    have hmc : m = cap := by simpa using hmm
    subst hmc
    have each : ∀ i, i < m → ∃ (z : Int) (b : Bool), V0 i = .int .i64 z ∧ V1 i = .bool b := by
      intro i hi
      obtain ⟨_, _, h2, h3⟩ := hr i hi
      obtain ⟨z0, e0, _, _⟩ := DataW.trod_int u0 h2
      obtain ⟨b1, e1, _⟩ := DataW.trod_bool u1 h3
      simp at e0 e1
      exact ⟨z0, b1, e0, e1⟩
    have each2 : ∀ i, i < m → V0 i = .int .i64 (intOf (V0 i)) ∧ V1 i = .bool (boolOf (V1 i)) := by
      intro i hi
      obtain ⟨z, b, e0, e1⟩ := each i hi
      rw [e0, e1]
      exact ⟨rfl, rfl⟩
    refine ⟨(List.range len).map fun i => intOf (V0 i), (List.range len).map fun i => boolOf (V1 i), ⟨by simp, by simp, fun hn => ?_⟩, hl⟩
    obtain ⟨b, off, spot⟩ := x'
    have h0 := (hr 0 (by omega)).1
    have hs : spot = none := by simpa [Addr.add] using World.cell?_spot h0
    subst hs
    refine ⟨b, off, rfl, by simpa [Addr.add] using block_lt_of_cell h0, fun j hj => ?_⟩
    obtain ⟨h1, h2, _⟩ := hr j (by omega)
    obtain ⟨e0, e1⟩ := each2 j (by omega)
    rw [add_plain] at h1 h2
    rw [List.getD_eq_getElem?_getD, List.getElem?_map, List.getElem?_range hj, List.getD_eq_getElem?_getD, List.getElem?_map, List.getElem?_range hj]
    simp only [Option.map_some, Option.getD_some]
    rw [← e0, ← e1]
    exact ⟨h1, h2⟩
end
end Go.Proofs.YtnjdjcgandfnfaaDoor

/-! RawE -/
namespace Go.Proofs.YtnjdjcgandfnfaaDoor
open Go.RowKit Go.ChangeShapes Go.WideShapes Go.Deep
set_option linter.unusedVariables false

section
variable {H : Type} {enc : TypeId × Value → H} {P : Program} {w : World} {base : Nat} {spare : Nat → Bool} {held : Bool}
theorem array5 {α : Type} {cs : Array α} (h : cs.size = 5) : ∃ c0 c1 c2 c3 c4, cs = #[c0, c1, c2, c3, c4] := by
  obtain ⟨l⟩ := cs
  match l, h with
  | [c0, c1, c2, c3, c4], _ => exact ⟨c0, c1, c2, c3, c4, rfl⟩
theorem trod_struct5 {t : TypeId} {f0 f1 f2 f3 f4 : Field} {fuel : Nat} {cs : List Value} {x : DataW H × List MemPlace} (ht : P.underlying t = some (.struct #[f0, f1, f2, f3, f4])) (h : DataW.trod enc P w base spare held fuel t cs = some x) :
    ∃ y0 y1 y2 y3 y4 n, x.1 = .agg [y0.1, y1.1, y2.1, y3.1, y4.1] ∧ DataW.trod enc P w base spare held n f0.type ((cs.drop f0.offset).take (P.cellsOf f0.type)) = some y0 ∧
      DataW.trod enc P w base spare held n f1.type ((cs.drop f1.offset).take (P.cellsOf f1.type)) = some y1 ∧ DataW.trod enc P w base spare held n f2.type ((cs.drop f2.offset).take (P.cellsOf f2.type)) = some y2 ∧
      DataW.trod enc P w base spare held n f3.type ((cs.drop f3.offset).take (P.cellsOf f3.type)) = some y3 ∧ DataW.trod enc P w base spare held n f4.type ((cs.drop f4.offset).take (P.cellsOf f4.type)) = some y4 := by
  obtain ⟨xs, n, _, rfl, hl, hlen, hf⟩ := DataW.trod_struct ht h
  match xs, hlen with
  | [y0, y1, y2, y3, y4], _ => exact ⟨y0, y1, y2, y3, y4, n, by simp, by simpa using hf 0 f0 rfl, by simpa using hf 1 f1 rfl, by simpa using hf 2 f2 rfl, by simpa using hf 3 f3 rfl, by simpa using hf 4 f4 rfl⟩

/-- Equations by value. -/
theorem raw_eqs {r : Reach} {b0 : Nat} {t tF ti tl : TypeId} {f0 f1 f2 f3 f4 g0 : Field} {v : Value} {d : DataW H} {ps : List MemPlace} (ht : P.underlying t = some (.struct #[f0, f1, f2, f3, f4]))
    (e0 : f0.type = tF) (e1 : f1.type = ti) (e2 : f2.type = ti) (e3 : f3.type = tl) (e4 : f4.type = tl) (o0 : f0.offset = 0) (o1 : f1.offset = 1) (o2 : f2.offset = 2) (o3 : f3.offset = 3) (o4 : f4.offset = 4)
    (hF : P.underlying tF = some (.struct #[g0])) (eg : g0.type = ti) (og : g0.offset = 0) (hi : P.underlying ti = some (.int .i64)) (hl : P.underlying tl = some (.slice ti))
    (cF : P.cellsOf tF = 1) (ci : P.cellsOf ti = 1) (cl : P.cellsOf tl = 1) (ct : P.cellsOf t = 5) (bi : P.bytesOf ti = 8)
    (hv : Value.okWide P w r b0 t v) (h : DataW.Trod enc P w 0 (fun _ => true) true t v d ps) (hz : ∀ n ∈ d.weights P t, n ≤ reachBytes) :
    ∃ (p R K : Int) (C : Option Addr) (nc cc : Nat) (D : Option Addr) (nd cd : Nat) (zc zr : List Int), v = .agg #[.int .i64 p, .int .i64 R, .int .i64 K, .slice C nc cc, .slice D nd cd] ∧
      (-9223372036854775808 ≤ p ∧ p ≤ 9223372036854775807) ∧ (-9223372036854775808 ≤ R ∧ R ≤ 9223372036854775807) ∧ (-9223372036854775808 ≤ K ∧ K ≤ 9223372036854775807) ∧
      Ints w w.heap.size C nc zc ∧ Ints w w.heap.size D nd zr ∧ nc ≤ 17592186043904 ∧ nd ≤ 17592186043904 ∧ nc ≤ cc := by
  obtain ⟨cs, rfl, hsz⟩ := okWide_struct ht hv
  obtain ⟨c0, c1, c2, c3, c4, rfl⟩ := array5 (hsz.trans ct)
  obtain ⟨fuel, hf⟩ := h
  obtain ⟨y0, y1, y2, y3, y4, n, hx, h0, h1, h2, h3, h4⟩ := trod_struct5 ht hf
  rw [e0, o0, cF] at h0
  rw [e1, o1, ci] at h1
  rw [e2, o2, ci] at h2
  rw [e3, o3, cl] at h3
  rw [e4, o4, cl] at h4
  obtain ⟨y5, n5, _, _, h5⟩ := trod_struct1 hF h0
  rw [eg, og, ci] at h5
  obtain ⟨p, hp, _, wp⟩ := DataW.trod_int hi h5
  obtain ⟨R, hR, _, wR⟩ := DataW.trod_int hi h1
  obtain ⟨K, hK, _, wK⟩ := DataW.trod_int hi h2
  obtain ⟨C, nc, cc, hC⟩ := Go.Joins.slice_form hl h3
  obtain ⟨D, nd, cd, hD⟩ := Go.Joins.slice_form hl h4
  simp [Value.cells] at hp hR hK hC hD
  subst hp hR hK hC hD
  have hx' : d = .agg [y0.1, y1.1, y2.1, y3.1, y4.1] := hx
  subst hx'
  have hz3 : ∀ m ∈ y3.1.weights P tl, m ≤ reachBytes := fun m hm => hz m (by
    simp only [DataW.weights, ht]
    exact DataW.weights_mem_each (j := 3) rfl rfl m (by simpa [e3] using hm))
  have hz4 : ∀ m ∈ y4.1.weights P tl, m ≤ reachBytes := fun m hm => hz m (by
    simp only [DataW.weights, ht]
    exact DataW.weights_mem_each (j := 4) rfl rfl m (by simpa [e4] using hm))
  obtain ⟨zc, i3, _, b3, k3⟩ := raw_ints_c (x := y3) hl hi ci bi (by simpa [Value.cells] using h3) hz3
  obtain ⟨zr, i4, _, b4, _⟩ := raw_ints_c (x := y4) hl hi ci bi (by simpa [Value.cells] using h4) hz4
  exact ⟨p, R, K, C, nc, cc, D, nd, cd, zc, zr, rfl, wf64_of wp, wf64_of wR, wf64_of wK, i3, i4, b3, b4, k3⟩
/-- A tape by value. -/
theorem raw_tape {r : Reach} {b0 : Nat} {t ti tl : TypeId} {f0 f1 : Field} {v : Value} {d : DataW H} {ps : List MemPlace} (ht : P.underlying t = some (.struct #[f0, f1])) (e0 : f0.type = tl) (e1 : f1.type = ti) (hone : oneCellFields P #[f0, f1] = true)
    (ct : P.cellsOf t = 2) (hi : P.underlying ti = some (.int .i64)) (hl : P.underlying tl = some (.slice ti)) (ci : P.cellsOf ti = 1) (bi : P.bytesOf ti = 8)
    (hv : Value.okWide P w r b0 t v) (h : DataW.Trod enc P w 0 (fun _ => true) true t v d ps) (hz : ∀ n ∈ d.weights P t, n ≤ reachBytes) :
    ∃ (A : Option Addr) (n c : Nat) (x : Int) (zs : List Int), v = .agg #[.slice A n c, .int .i64 x] ∧ Ints w w.heap.size A n zs ∧ Wf64 zs ∧ n ≤ 17592186043904 ∧ n ≤ c ∧ (-9223372036854775808 ≤ x ∧ x ≤ 9223372036854775807) := by
  obtain ⟨v0, v1, y0, y1, n, rfl, rfl, _, h0, h1⟩ := Go.Joins.open_agg2 ht hone ct hv h
  rw [e0] at h0
  rw [e1] at h1
  obtain ⟨x, hx, _, wx⟩ := DataW.trod_int hi h1
  obtain ⟨A, na, ca, hA⟩ := Go.Joins.slice_form hl h0
  simp at hx hA
  subst hx hA
  have hz0 : ∀ m ∈ y0.1.weights P tl, m ≤ reachBytes := fun m hm => hz m (by
    simp only [DataW.weights, ht]
    exact DataW.weights_mem_each (j := 0) rfl rfl m (by simpa [e0] using hm))
  obtain ⟨zs, i0, w0, b0, k0⟩ := raw_ints_c (x := y0) hl hi ci bi h0 hz0
  exact ⟨A, na, ca, x, zs, rfl, i0, w0, b0, k0, wf64_of wx⟩
end
end Go.Proofs.YtnjdjcgandfnfaaDoor

/-! RawD -/
namespace Go.Proofs.YtnjdjcgandfnfaaDoor
open Go.RowKit Go.ChangeShapes Go.WideShapes Go.Deep
set_option linter.unusedVariables false

section
variable {H : Type} {enc : TypeId × Value → H} {P : Program} {w : World} {base : Nat} {spare : Nat → Bool} {held : Bool}
/-- A decoded word by value. -/
theorem raw_decoded {r : Reach} {b0 : Nat} {t ti tl : TypeId} {f0 f1 : Field} {v : Value} {d : DataW H} {ps : List MemPlace} (ht : P.underlying t = some (.struct #[f0, f1])) (e0 : f0.type = tl) (e1 : f1.type = tl) (hone : oneCellFields P #[f0, f1] = true)
    (ct : P.cellsOf t = 2) (hi : P.underlying ti = some (.int .i64)) (hl : P.underlying tl = some (.slice ti)) (ci : P.cellsOf ti = 1) (bi : P.bytesOf ti = 8)
    (hv : Value.okWide P w r b0 t v) (h : DataW.Trod enc P w 0 (fun _ => true) true t v d ps) (hz : ∀ n ∈ d.weights P t, n ≤ reachBytes) :
    ∃ (A : Option Addr) (n c : Nat) (A2 : Option Addr) (n2 c2 : Nat) (zs zs2 : List Int), v = .agg #[.slice A n c, .slice A2 n2 c2] ∧ Ints w w.heap.size A n zs ∧ n ≤ 17592186043904 ∧ n ≤ c ∧ Ints w w.heap.size A2 n2 zs2 ∧ n2 ≤ 17592186043904 ∧ n2 ≤ c2 := by
  obtain ⟨v0, v1, y0, y1, n, rfl, rfl, _, h0, h1⟩ := Go.Joins.open_agg2 ht hone ct hv h
  rw [e0] at h0
  rw [e1] at h1
  obtain ⟨A, na, ca, hA⟩ := Go.Joins.slice_form hl h0
  obtain ⟨B, nb, cb, hB⟩ := Go.Joins.slice_form hl h1
  simp at hA hB
  subst hA hB
  have hz0 : ∀ m ∈ y0.1.weights P tl, m ≤ reachBytes := fun m hm => hz m (by
    simp only [DataW.weights, ht]
    exact DataW.weights_mem_each (j := 0) rfl rfl m (by simpa [e0] using hm))
  have hz1 : ∀ m ∈ y1.1.weights P tl, m ≤ reachBytes := fun m hm => hz m (by
    simp only [DataW.weights, ht]
    exact DataW.weights_mem_each (j := 1) rfl rfl m (by simpa [e1] using hm))
  obtain ⟨zs, i0, _, b0, k0⟩ := raw_ints_c (x := y0) hl hi ci bi h0 hz0
  obtain ⟨zs2, i1, _, b1, k1⟩ := raw_ints_c (x := y1) hl hi ci bi h1 hz1
  exact ⟨A, na, ca, B, nb, cb, zs, zs2, rfl, i0, b0, k0, i1, b1, k1⟩
end
end Go.Proofs.YtnjdjcgandfnfaaDoor
