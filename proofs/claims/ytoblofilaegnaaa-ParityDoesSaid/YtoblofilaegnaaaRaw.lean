/-
  What came in reads as plain data: lists of numbers, rows, fields; how long it may be. No program in sight. No conditions.
-/
import Derived.Test.YtoblofilaegnaaaMat
import Derived.Deep.Matrix
import Derived.Lib.SmallJoins
import Derived.SizedLaws
namespace Go.Proofs.Ytoblofilaegnaaa
open Go.RowKit Go.ChangeShapes Go.WideShapes Go.Deep
set_option linter.unusedVariables false

section
variable {H : Type} {enc : TypeId × Value → H} {P : Program} {w : World}

theorem sized_all {ts : List TypeId} {ds : List (DataW H)} (h : (DataW.weightsEach P ts ds).all (· ≤ reachBytes) = true) {j : Nat} {t : TypeId} {d : DataW H} (ht : ts[j]? = some t) (hd : ds[j]? = some d) : ∀ n ∈ d.weights P t, n ≤ reachBytes := by
  intro n hn
  have := List.all_eq_true.1 h _ (DataW.weights_mem_each ht hd n hn)
  simpa using this

theorem weightsAll_mem {e : TypeId} {ds : List (DataW H)} {d : DataW H} (hd : d ∈ ds) : ∀ n ∈ d.weights P e, n ∈ DataW.weightsAll P e ds := by
  intro n hn
  induction ds with
  | nil => cases hd
  | cons d0 r ih =>
    rw [DataW.weightsAll]
    rcases List.mem_cons.1 hd with rfl | hd
    · exact List.mem_append.2 (.inl hn)
    · exact List.mem_append.2 (.inr (ih hd))

/-- A slice of numbers, at its cells. -/
theorem raw_ints_c {t e : TypeId} {fuel : Nat} {a : Option Addr} {len cap : Nat} {x : DataW H × List MemPlace} (ht : P.underlying t = some (.slice e)) (he : P.underlying e = some (.int .i64)) (ce : P.cellsOf e = 1) (be : P.bytesOf e = 8)
    (h : DataW.trod enc P w 0 (fun _ => true) true fuel t [.slice a len cap] = some x) (hz : ∀ n ∈ x.1.weights P t, n ≤ reachBytes) : ∃ xs, Ints w w.heap.size a len xs ∧ Wf64 xs ∧ len ≤ 17592186043904 ∧ len ≤ cap := by
  rcases open_ints ht he ce h with ⟨hcs, _⟩ | ⟨x', l, c, zs, hcs, _, hl, hm, hzl, hx, hcell, hwz⟩
  · simp at hcs
    obtain ⟨rfl, rfl, rfl⟩ := hcs
    exact ⟨[], Ints.nil_, (fun x hx => by cases hx), by omega, by omega⟩
  · simp at hcs
    obtain ⟨rfl, rfl, rfl⟩ := hcs
    have hr : IsRow .i64 w (some x') len cap zs := .inr ⟨_, rfl, hl, hm, by simpa using hzl, hcell, hwz⟩
    obtain ⟨h1, h2⟩ := hr.ints
    refine ⟨_, h1, h2, ?_, hl⟩
    have h3 := hz ((lits (H := H) .i64 (zs.take len)).length * P.bytesOf e + (lits (H := H) .i64 (zs.drop len)).length * P.bytesOf e) (by
      rw [hx]; simp only [DataW.weights, ht]; rw [← Nat.add_mul]; exact List.mem_cons_self)
    rw [be] at h3
    simp only [lits, List.length_map, List.length_take, List.length_drop, reachBytes] at h3
    simp at hzl
    omega

theorem raw_ints {t e : TypeId} {a : Option Addr} {len cap : Nat} {d : DataW H} {ps : List MemPlace} (ht : P.underlying t = some (.slice e)) (he : P.underlying e = some (.int .i64)) (ce : P.cellsOf e = 1) (be : P.bytesOf e = 8)
    (h : DataW.Trod enc P w 0 (fun _ => true) true t (.slice a len cap) d ps) (hz : ∀ n ∈ d.weights P t, n ≤ reachBytes) : ∃ xs, Ints w w.heap.size a len xs ∧ Wf64 xs ∧ len ≤ 17592186043904 ∧ len ≤ cap := by
  obtain ⟨fuel, hf⟩ := h
  exact raw_ints_c (fuel := fuel) (x := (d, ps)) ht he ce be (by simpa [Value.cells] using hf) hz

/-- Rows that came in. -/
theorem raw_rows {t e q : TypeId} {a : Option Addr} {len cap : Nat} {d : DataW H} {ps : List MemPlace} (ht : P.underlying t = some (.slice e)) (he : P.underlying e = some (.slice q)) (hq : P.underlying q = some (.int .i64)) (ce : P.cellsOf e = 1) (cq : P.cellsOf q = 1) (be : P.bytesOf e = 24) (bq : P.bytesOf q = 8)
    (h : DataW.Trod enc P w 0 (fun _ => true) true t (.slice a len cap) d ps) (hz : ∀ n ∈ d.weights P t, n ≤ reachBytes) : ∃ rows, Mat w 0 w.heap.size a len rows ∧ (∀ r ∈ rows, Wf64 r) ∧ len ≤ 17592186043904 := by
  obtain ⟨fuel, hf⟩ := h
  rcases open_int_rows ht he hq ce cq (by simpa [Value.cells] using hf) with ⟨hcs, _⟩ | ⟨x', l, c, A, L, C, Z, hcs, _, hl, hm, hx, hr⟩
  · simp at hcs
    obtain ⟨rfl, rfl, rfl⟩ := hcs
    exact ⟨[], Mat.nil_, (fun x hx => by cases hx), by omega⟩
  · simp at hcs
    obtain ⟨rfl, rfl, rfl⟩ := hcs
    injection hx with hx1 hx2
    subst hx1
    have hrow : ∀ r, r < len → Ints w w.heap.size (A r) (L r) ((Z r).take (L r)) ∧ Wf64 ((Z r).take (L r)) ∧ L r ≤ 17592186043904 := by
      intro r hrl
      obtain ⟨h1, h2, h3, h4, h5, h6, h7⟩ := hr r (by omega)
      have hi : IsRow .i64 w (A r) (L r) (C r) (Z r) := by
        cases hA : A r with
        | none => have := h6 hA; exact .inl ⟨rfl, by omega, this, List.eq_nil_of_length_eq_zero (by omega)⟩
        | some x1 => exact .inr ⟨x1, rfl, h2, h3, h4, fun i hi => ((h7 x1 hA).2 i (by omega)), h5⟩
      refine ⟨hi.ints.1, hi.ints.2, ?_⟩
      cases hA : A r with
      | none => have := h6 hA; omega
      | some x1 =>
        have h8 := hz ((lits (H := H) .i64 ((Z r).take (L r))).length * P.bytesOf q + (lits (H := H) .i64 ((Z r).drop (L r))).length * P.bytesOf q) (by
          simp only [DataW.weights, ht]
          refine List.mem_cons_of_mem _ (List.mem_append.2 (.inl (weightsAll_mem (d := intRow .i64 (A r) (L r) (Z r)) (List.mem_map.2 ⟨r, List.mem_range.2 hrl, rfl⟩) _ ?_)))
          rw [hA]; simp only [intRow, DataW.weights, he]; rw [← Nat.add_mul]; exact List.mem_cons_self)
        rw [bq] at h8
        simp only [lits, List.length_map, List.length_take, List.length_drop, reachBytes] at h8
        omega
    have hlen : len ≤ 17592186043904 := by
      have h8 := hz (((List.range len).map fun r => intRow (H := H) .i64 (A r) (L r) (Z r)).length * P.bytesOf e + ((List.range (cap - len)).map fun j => intRow (H := H) .i64 (A (len + j)) (L (len + j)) (Z (len + j))).length * P.bytesOf e) (by
        simp only [DataW.weights, ht]; rw [← Nat.add_mul]; exact List.mem_cons_self)
      rw [be] at h8
      simp only [List.length_map, List.length_range, reachBytes] at h8
      omega
    refine ⟨(List.range len).map fun r => (Z r).take (L r), ⟨by simp, fun hn => ?_⟩, ?_, hlen⟩
    · obtain ⟨b, off, spot⟩ := x'
      have h0 := (hr 0 (by omega)).1
      have hs : spot = none := by simpa [Addr.add] using World.cell?_spot h0
      subst hs
      refine ⟨b, off, rfl, Nat.zero_le _, by simpa [Addr.add] using block_lt_of_cell h0, fun j hj => ?_⟩
      obtain ⟨k1, k2, k3⟩ := hrow j hj
      refine ⟨A j, L j, C j, ?_, by omega, ?_, fun _ _ _ _ _ => Nat.zero_le _⟩
      · have := (hr j (by omega)).1
        rw [← this]
        by_cases hj0 : j = 0
        · subst hj0; simp [Addr.add]
        · simp [Addr.add, hj0]
      · rw [List.getD_eq_getElem?_getD, List.getElem?_map, List.getElem?_range hj]
        exact k1
    · intro r hr'
      obtain ⟨j, hj, rfl⟩ := List.mem_map.1 hr'
      exact (hrow j (List.mem_range.1 hj)).2.1

/-- A field (a struct of one number) by value. -/
theorem raw_field {r : Reach} {b0 : Nat} {t e : TypeId} {f0 : Field} {v : Value} {d : DataW H} {ps : List MemPlace} (ht : P.underlying t = some (.struct #[f0])) (hf0 : f0.type = e) (ho : f0.offset = 0) (he : P.underlying e = some (.int .i64)) (ce : P.cellsOf e = 1) (ct : P.cellsOf t = 1)
    (hv : Value.okWide P w r b0 t v) (h : DataW.Trod enc P w 0 (fun _ => true) true t v d ps) : ∃ p : Int, v = .agg #[.int .i64 p] ∧ -9223372036854775808 ≤ p ∧ p ≤ 9223372036854775807 := by
  obtain ⟨cs, rfl, hsz⟩ := okWide_struct ht hv
  obtain ⟨fuel, hf⟩ := h
  obtain ⟨y0, n, _, _, h0⟩ := trod_struct1 ht hf
  rw [hf0, ho, ce] at h0
  obtain ⟨l⟩ := cs
  match l, hsz.trans ct with
  | [c0], _ =>
    obtain ⟨m, hm, _, hw⟩ := DataW.trod_int he h0
    simp [Value.cells] at hm
    subst hm
    exact ⟨m, rfl, wf64_of hw⟩
end
end Go.Proofs.Ytoblofilaegnaaa
