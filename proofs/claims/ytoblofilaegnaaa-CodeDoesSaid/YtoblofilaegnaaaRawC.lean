/-
  Cells that came in read as their values and marks. No program in sight. No conditions.
-/
import Derived.Test.YtoblofilaegnaaaRaw
import Derived.Test.YtoblofilaegnaaaKnown
import Derived.Deep.SlicePairs
namespace Go.Proofs.Ytoblofilaegnaaa
open Go.RowKit Go.ChangeShapes Go.WideShapes Go.Deep
set_option linter.unusedVariables false

section
variable {H : Type} {enc : TypeId × Value → H} {P : Program} {w : World}
/-- The truth in a value. -/
def boolOf : Value → Bool
  | .bool b => b
  | _ => false
/-- Cells that came in. -/
theorem raw_cells {t e : TypeId} {f0 f1 : Field} {a : Option Addr} {len cap : Nat} {d : DataW H} {ps : List MemPlace} (ht : P.underlying t = some (.slice e)) (he : P.underlying e = some (.struct #[f0, f1])) (o0 : f0.offset = 0) (o1 : f1.offset = 1)
    (u0 : P.underlying f0.type = some (.int .i64)) (u1 : P.underlying f1.type = some .bool) (ce : P.cellsOf e = 2) (c0 : P.cellsOf f0.type = 1) (c1 : P.cellsOf f1.type = 1)
    (h : DataW.Trod enc P w 0 (fun _ => true) true t (.slice a len cap) d ps) : ∃ us ys, Cel w w.heap.size a len us ys ∧ len ≤ cap := by
  obtain ⟨fuel, hf⟩ := h
  rcases open_slice_pairs ht he ce o0 o1 c0 c1 (by simpa [Value.cells] using hf) with ⟨hcs, _⟩ | ⟨x', l, c, m, n, V0, V1, D0, D1, P0, P1, hcs, _, hl, hm, hmm, hx, hr⟩
  · simp at hcs
    obtain ⟨rfl, rfl, rfl⟩ := hcs
    exact ⟨[], [], ⟨rfl, rfl, fun h => absurd h (by omega)⟩, by omega⟩
  · simp at hcs
    obtain ⟨rfl, rfl, rfl⟩ := hcs
    have hmc : m = cap := by simpa using hmm
    subst hmc
    have each : ∀ i, i < m → ∃ (z : Int) (b : Bool), V0 i = .int .i64 z ∧ V1 i = .bool b := by
      intro i hi
      obtain ⟨_, _, h2, h3⟩ := hr i hi
      obtain ⟨z0, e0, _, _⟩ := DataW.trod_int u0 h2
      obtain ⟨b1, e1, _⟩ := DataW.trod_bool u1 h3
      simp at e0 e1
      exact ⟨z0, b1, e0, e1⟩
    have each2 : ∀ i, i < m → V0 i = .int .i64 (intOf (V0 i)) ∧ V1 i = .bool (boolOf (V1 i)) := by
      intro i hi
      obtain ⟨z, b, e0, e1⟩ := each i hi
      rw [e0, e1]
      exact ⟨rfl, rfl⟩
    refine ⟨(List.range len).map fun i => intOf (V0 i), (List.range len).map fun i => boolOf (V1 i), ⟨by simp, by simp, fun hn => ?_⟩, hl⟩
    obtain ⟨b, off, spot⟩ := x'
    have h0 := (hr 0 (by omega)).1
    have hs : spot = none := by simpa [Addr.add] using World.cell?_spot h0
    subst hs
    refine ⟨b, off, rfl, by simpa [Addr.add] using block_lt_of_cell h0, fun j hj => ?_⟩
    obtain ⟨h1, h2, _⟩ := hr j (by omega)
    obtain ⟨e0, e1⟩ := each2 j (by omega)
    rw [add_plain] at h1 h2
    rw [List.getD_eq_getElem?_getD, List.getElem?_map, List.getElem?_range hj, List.getD_eq_getElem?_getD, List.getElem?_map, List.getElem?_range hj]
    simp only [Option.map_some, Option.getD_some]
    rw [← e0, ← e1]
    exact ⟨h1, h2⟩
end
end Go.Proofs.Ytoblofilaegnaaa
