/-
  Equations by value, and tapes by value, that came in read as plain data. No program in sight. No conditions.
-/
import Derived.Test.YtoblofilaegnaaaRaw
namespace Go.Proofs.Ytoblofilaegnaaa
open Go.RowKit Go.ChangeShapes Go.WideShapes Go.Deep
set_option linter.unusedVariables false

section
variable {H : Type} {enc : TypeId × Value → H} {P : Program} {w : World} {base : Nat} {spare : Nat → Bool} {held : Bool}
theorem array5 {α : Type} {cs : Array α} (h : cs.size = 5) : ∃ c0 c1 c2 c3 c4, cs = #[c0, c1, c2, c3, c4] := by
  obtain ⟨l⟩ := cs
  match l, h with
  | [c0, c1, c2, c3, c4], _ => exact ⟨c0, c1, c2, c3, c4, rfl⟩
theorem trod_struct5 {t : TypeId} {f0 f1 f2 f3 f4 : Field} {fuel : Nat} {cs : List Value} {x : DataW H × List MemPlace} (ht : P.underlying t = some (.struct #[f0, f1, f2, f3, f4])) (h : DataW.trod enc P w base spare held fuel t cs = some x) :
    ∃ y0 y1 y2 y3 y4 n, x.1 = .agg [y0.1, y1.1, y2.1, y3.1, y4.1] ∧ DataW.trod enc P w base spare held n f0.type ((cs.drop f0.offset).take (P.cellsOf f0.type)) = some y0 ∧
      DataW.trod enc P w base spare held n f1.type ((cs.drop f1.offset).take (P.cellsOf f1.type)) = some y1 ∧ DataW.trod enc P w base spare held n f2.type ((cs.drop f2.offset).take (P.cellsOf f2.type)) = some y2 ∧
      DataW.trod enc P w base spare held n f3.type ((cs.drop f3.offset).take (P.cellsOf f3.type)) = some y3 ∧ DataW.trod enc P w base spare held n f4.type ((cs.drop f4.offset).take (P.cellsOf f4.type)) = some y4 := by
  obtain ⟨xs, n, _, rfl, hl, hlen, hf⟩ := DataW.trod_struct ht h
  match xs, hlen with
  | [y0, y1, y2, y3, y4], _ => exact ⟨y0, y1, y2, y3, y4, n, by simp, by simpa using hf 0 f0 rfl, by simpa using hf 1 f1 rfl, by simpa using hf 2 f2 rfl, by simpa using hf 3 f3 rfl, by simpa using hf 4 f4 rfl⟩

/-- Equations by value. -/
theorem raw_eqs {r : Reach} {b0 : Nat} {t tF ti tl : TypeId} {f0 f1 f2 f3 f4 g0 : Field} {v : Value} {d : DataW H} {ps : List MemPlace} (ht : P.underlying t = some (.struct #[f0, f1, f2, f3, f4]))
    (e0 : f0.type = tF) (e1 : f1.type = ti) (e2 : f2.type = ti) (e3 : f3.type = tl) (e4 : f4.type = tl) (o0 : f0.offset = 0) (o1 : f1.offset = 1) (o2 : f2.offset = 2) (o3 : f3.offset = 3) (o4 : f4.offset = 4)
    (hF : P.underlying tF = some (.struct #[g0])) (eg : g0.type = ti) (og : g0.offset = 0) (hi : P.underlying ti = some (.int .i64)) (hl : P.underlying tl = some (.slice ti))
    (cF : P.cellsOf tF = 1) (ci : P.cellsOf ti = 1) (cl : P.cellsOf tl = 1) (ct : P.cellsOf t = 5) (bi : P.bytesOf ti = 8)
    (hv : Value.okWide P w r b0 t v) (h : DataW.Trod enc P w 0 (fun _ => true) true t v d ps) (hz : ∀ n ∈ d.weights P t, n ≤ reachBytes) :
    ∃ (p R K : Int) (C : Option Addr) (nc cc : Nat) (D : Option Addr) (nd cd : Nat) (zc zr : List Int), v = .agg #[.int .i64 p, .int .i64 R, .int .i64 K, .slice C nc cc, .slice D nd cd] ∧
      (-9223372036854775808 ≤ p ∧ p ≤ 9223372036854775807) ∧ (-9223372036854775808 ≤ R ∧ R ≤ 9223372036854775807) ∧ (-9223372036854775808 ≤ K ∧ K ≤ 9223372036854775807) ∧
      Ints w w.heap.size C nc zc ∧ Ints w w.heap.size D nd zr ∧ nc ≤ 17592186043904 ∧ nd ≤ 17592186043904 ∧ nc ≤ cc := by
  obtain ⟨cs, rfl, hsz⟩ := okWide_struct ht hv
  obtain ⟨c0, c1, c2, c3, c4, rfl⟩ := array5 (hsz.trans ct)
  obtain ⟨fuel, hf⟩ := h
  obtain ⟨y0, y1, y2, y3, y4, n, hx, h0, h1, h2, h3, h4⟩ := trod_struct5 ht hf
  rw [e0, o0, cF] at h0
  rw [e1, o1, ci] at h1
  rw [e2, o2, ci] at h2
  rw [e3, o3, cl] at h3
  rw [e4, o4, cl] at h4
  obtain ⟨y5, n5, _, _, h5⟩ := trod_struct1 hF h0
  rw [eg, og, ci] at h5
  obtain ⟨p, hp, _, wp⟩ := DataW.trod_int hi h5
  obtain ⟨R, hR, _, wR⟩ := DataW.trod_int hi h1
  obtain ⟨K, hK, _, wK⟩ := DataW.trod_int hi h2
  obtain ⟨C, nc, cc, hC⟩ := Go.Joins.slice_form hl h3
  obtain ⟨D, nd, cd, hD⟩ := Go.Joins.slice_form hl h4
  simp [Value.cells] at hp hR hK hC hD
  subst hp hR hK hC hD
  have hx' : d = .agg [y0.1, y1.1, y2.1, y3.1, y4.1] := hx
  subst hx'
  have hz3 : ∀ m ∈ y3.1.weights P tl, m ≤ reachBytes := fun m hm => hz m (by
    simp only [DataW.weights, ht]
    exact DataW.weights_mem_each (j := 3) rfl rfl m (by simpa [e3] using hm))
  have hz4 : ∀ m ∈ y4.1.weights P tl, m ≤ reachBytes := fun m hm => hz m (by
    simp only [DataW.weights, ht]
    exact DataW.weights_mem_each (j := 4) rfl rfl m (by simpa [e4] using hm))
  obtain ⟨zc, i3, _, b3, k3⟩ := raw_ints_c (x := y3) hl hi ci bi (by simpa [Value.cells] using h3) hz3
  obtain ⟨zr, i4, _, b4, _⟩ := raw_ints_c (x := y4) hl hi ci bi (by simpa [Value.cells] using h4) hz4
  exact ⟨p, R, K, C, nc, cc, D, nd, cd, zc, zr, rfl, wf64_of wp, wf64_of wR, wf64_of wK, i3, i4, b3, b4, k3⟩
/-- A tape by value. -/
theorem raw_tape {r : Reach} {b0 : Nat} {t ti tl : TypeId} {f0 f1 : Field} {v : Value} {d : DataW H} {ps : List MemPlace} (ht : P.underlying t = some (.struct #[f0, f1])) (e0 : f0.type = tl) (e1 : f1.type = ti) (hone : oneCellFields P #[f0, f1] = true)
    (ct : P.cellsOf t = 2) (hi : P.underlying ti = some (.int .i64)) (hl : P.underlying tl = some (.slice ti)) (ci : P.cellsOf ti = 1) (bi : P.bytesOf ti = 8)
    (hv : Value.okWide P w r b0 t v) (h : DataW.Trod enc P w 0 (fun _ => true) true t v d ps) (hz : ∀ n ∈ d.weights P t, n ≤ reachBytes) :
    ∃ (A : Option Addr) (n c : Nat) (x : Int) (zs : List Int), v = .agg #[.slice A n c, .int .i64 x] ∧ Ints w w.heap.size A n zs ∧ Wf64 zs ∧ n ≤ 17592186043904 ∧ n ≤ c ∧ (-9223372036854775808 ≤ x ∧ x ≤ 9223372036854775807) := by
  obtain ⟨v0, v1, y0, y1, n, rfl, rfl, _, h0, h1⟩ := Go.Joins.open_agg2 ht hone ct hv h
  rw [e0] at h0
  rw [e1] at h1
  obtain ⟨x, hx, _, wx⟩ := DataW.trod_int hi h1
  obtain ⟨A, na, ca, hA⟩ := Go.Joins.slice_form hl h0
  simp at hx hA
  subst hx hA
  have hz0 : ∀ m ∈ y0.1.weights P tl, m ≤ reachBytes := fun m hm => hz m (by
    simp only [DataW.weights, ht]
    exact DataW.weights_mem_each (j := 0) rfl rfl m (by simpa [e0] using hm))
  obtain ⟨zs, i0, w0, b0, k0⟩ := raw_ints_c (x := y0) hl hi ci bi h0 hz0
  exact ⟨A, na, ca, x, zs, rfl, i0, w0, b0, k0, wf64_of wx⟩
end
end Go.Proofs.Ytoblofilaegnaaa
