/-
  Answers that came in read as their marks and rows. No conditions.
-/
import Derived.Test.YtoblofilaegnaaaRaw
import Derived.Test.YtoblofilaegnaaaRawE
import Derived.Test.YtoblofilaegnaaaAns
import Derived.Deep.SlicePairs
namespace Go.Proofs.Ytoblofilaegnaaa
open Go.RowKit Go.ChangeShapes Go.WideShapes Go.Deep
set_option linter.unusedVariables false

section
variable {H : Type} {enc : TypeId × Value → H} {P : Program} {w : World}
/-- Answers that came in. -/
theorem raw_answers {t e tb tl ti : TypeId} {f0 f1 : Field} {a : Option Addr} {len cap : Nat} {d : DataW H} {ps : List MemPlace} (ht : P.underlying t = some (.slice e)) (he : P.underlying e = some (.struct #[f0, f1])) (o0 : f0.offset = 0) (o1 : f1.offset = 1)
    (e0 : f0.type = tb) (e1 : f1.type = tl) (ub : P.underlying tb = some .bool) (ul : P.underlying tl = some (.slice ti)) (ui : P.underlying ti = some (.int .i64)) (ce : P.cellsOf e = 2) (cb : P.cellsOf tb = 1) (cl : P.cellsOf tl = 1) (ci : P.cellsOf ti = 1) (bi : P.bytesOf ti = 8) (be : P.bytesOf e = 32)
    (h : DataW.Trod enc P w 0 (fun _ => true) true t (.slice a len cap) d ps) (hz : ∀ n ∈ d.weights P t, n ≤ reachBytes) : ∃ ks rows, Ans w w.heap.size a len ks rows ∧ len ≤ 17592186043904 := by
  obtain ⟨fuel, hf⟩ := h
  rcases open_slice_pairs ht he ce o0 o1 (by rw [e0]; exact cb) (by rw [e1]; exact cl) (by simpa [Value.cells] using hf) with ⟨hcs, _⟩ | ⟨x', l, c, m, n, V0, V1, D0, D1, P0, P1, hcs, _, hl, hm, hmm, hx, hr⟩
  · simp at hcs
    obtain ⟨rfl, rfl, rfl⟩ := hcs
    exact ⟨[], [], ⟨rfl, rfl, fun h => absurd h (by omega)⟩, by omega⟩
  · simp at hcs
    obtain ⟨rfl, rfl, rfl⟩ := hcs
    have hmc : m = cap := by simpa using hmm
    subst hmc
    injection hx with hx1 hx2
    subst hx1
    have each : ∀ i, ∃ q : Bool × (Option Addr × Nat × Nat) × List Int, i < len → V0 i = .bool q.1 ∧ V1 i = .slice q.2.1.1 q.2.1.2.1 q.2.1.2.2 ∧ Ints w w.heap.size q.2.1.1 q.2.1.2.1 q.2.2 ∧ q.2.1.2.1 ≤ 17592186043904 := by
      intro i
      by_cases hi : i < len
      · obtain ⟨_, _, h2, h3⟩ := hr i (by omega)
        rw [e0] at h2
        rw [e1] at h3
        obtain ⟨b1, k1, _⟩ := DataW.trod_bool ub h2
        have hw1 : ∀ m ∈ (D1 i).weights P tl, m ≤ reachBytes := fun m hm => hz m (by
          simp only [DataW.weights, ht]
          refine List.mem_cons_of_mem _ (List.mem_append.2 (.inl (weightsAll_mem (d := .agg [D0 i, D1 i]) (List.mem_map.2 ⟨i, List.mem_range.2 hi, rfl⟩) _ ?_)))
          simp only [DataW.weights, he]
          exact DataW.weights_mem_each (j := 1) rfl rfl m (by simpa [e1] using hm))
        obtain ⟨A, na, ca, hA⟩ := Go.Joins.slice_form (y := (D1 i, P1 i)) ul h3
        rw [hA] at h3
        obtain ⟨zs, i0, _, b0, _⟩ := raw_ints_c (x := (D1 i, P1 i)) ul ui ci bi h3 hw1
        simp at k1 hA
        exact ⟨(b1, (A, na, ca), zs), fun _ => ⟨k1, hA, i0, b0⟩⟩
      · exact ⟨(false, (none, 0, 0), []), fun h => absurd h hi⟩
    obtain ⟨q, hq⟩ := Classical.axiomOfChoice each
    have hlen : len ≤ 17592186043904 := by
      have h8 := hz (((List.range len).map fun i => DataW.agg [D0 i, D1 i]).length * P.bytesOf e + ((List.range (m - len)).map fun j => DataW.agg [D0 (len + j), D1 (len + j)]).length * P.bytesOf e) (by
        simp only [DataW.weights, ht]; rw [← Nat.add_mul]; exact List.mem_cons_self)
      rw [be] at h8
      simp only [List.length_map, List.length_range, reachBytes] at h8
      omega
    refine ⟨(List.range len).map fun i => (q i).1, (List.range len).map fun i => (q i).2.2, ⟨by simp, by simp, fun hn => ?_⟩, hlen⟩
    obtain ⟨b, off, spot⟩ := x'
    have h0 := (hr 0 (by omega)).1
    have hs : spot = none := by simpa [Addr.add] using World.cell?_spot h0
    subst hs
    refine ⟨b, off, rfl, by simpa [Addr.add] using block_lt_of_cell h0, fun j hj => ?_⟩
    obtain ⟨h1, h2, _⟩ := hr j (by omega)
    obtain ⟨k0, k1, k2, k3⟩ := hq j hj
    rw [add_plain] at h1 h2
    rw [List.getD_eq_getElem?_getD, List.getElem?_map, List.getElem?_range hj]
    refine ⟨by rw [h1, k0]; rfl, (q j).2.1.1, (q j).2.1.2.1, (q j).2.1.2.2, ?_, by omega, ?_⟩
    · rw [← k1]; exact h2
    · rw [List.getD_eq_getElem?_getD, List.getElem?_map, List.getElem?_range hj]
      exact k2
end
end Go.Proofs.Ytoblofilaegnaaa
