/-
  Words for memory and contracts of small functions of the second form. Conditions: those of each lemma.
-/
import Derived.Test.YtmcgnpdfpfgfpaaGreatDoorGBas
import Derived.Deep.Matrix
import Derived.Lib.SmallJoins
import Derived.SizedLaws
import Derived.Test.YtmcgnpdfpfgfpaaGreatDoorGSha
import Derived.Test.YtmcgnpdfpfgfpaaGreatDoorGSpl
import Derived.Deep.SlicePairs
import Derived.Deep.AppendSrc
import Derived.ArgAppend
import Derived.Test.YtmcgnpdfpfgfpaaGreatDoorLst1
/-! Raw -/
namespace Go.Proofs.YtmcgnpdfpfgfpaaGreatDoor
open Go.RowKit Go.ChangeShapes Go.WideShapes Go.Deep
set_option linter.unusedVariables false

section
variable {H : Type} {enc : TypeId × Value → H} {P : Program} {w : World}

theorem sized_all {ts : List TypeId} {ds : List (DataW H)} (h : (DataW.weightsEach P ts ds).all (· ≤ reachBytes) = true) {j : Nat} {t : TypeId} {d : DataW H} (ht : ts[j]? = some t) (hd : ds[j]? = some d) : ∀ n ∈ d.weights P t, n ≤ reachBytes := by
  intro n hn
  have := List.all_eq_true.1 h _ (DataW.weights_mem_each ht hd n hn)
  simpa using this

theorem weightsAll_mem {e : TypeId} {ds : List (DataW H)} {d : DataW H} (hd : d ∈ ds) : ∀ n ∈ d.weights P e, n ∈ DataW.weightsAll P e ds := by
  intro n hn
  induction ds with
  | nil => cases hd
  | cons d0 r ih =>
    rw [DataW.weightsAll]
    rcases List.mem_cons.1 hd with rfl | hd
    · exact List.mem_append.2 (.inl hn)
    · exact List.mem_append.2 (.inr (ih hd))

/-- A slice of numbers, at its cells. -/
theorem raw_ints_c {t e : TypeId} {fuel : Nat} {a : Option Addr} {len cap : Nat} {x : DataW H × List MemPlace} (ht : P.underlying t = some (.slice e)) (he : P.underlying e = some (.int .i64)) (ce : P.cellsOf e = 1) (be : P.bytesOf e = 8)
    (h : DataW.trod enc P w 0 (fun _ => true) true fuel t [.slice a len cap] = some x) (hz : ∀ n ∈ x.1.weights P t, n ≤ reachBytes) : ∃ xs, Ints w w.heap.size a len xs ∧ Wf64 xs ∧ len ≤ 17592186043904 ∧ len ≤ cap := by
  rcases open_ints ht he ce h with ⟨hcs, _⟩ | ⟨x', l, c, zs, hcs, _, hl, hm, hzl, hx, hcell, hwz⟩
  · simp at hcs
    obtain ⟨rfl, rfl, rfl⟩ := hcs
    exact ⟨[], Ints.nil_, (fun x hx => by cases hx), by omega, by omega⟩
  · simp at hcs
    obtain ⟨rfl, rfl, rfl⟩ := hcs
    have hr : IsRow .i64 w (some x') len cap zs := .inr ⟨_, rfl, hl, hm, by simpa using hzl, hcell, hwz⟩
    obtain ⟨h1, h2⟩ := hr.ints
    refine ⟨_, h1, h2, ?_, hl⟩
    have h3 := hz ((lits (H := H) .i64 (zs.take len)).length * P.bytesOf e + (lits (H := H) .i64 (zs.drop len)).length * P.bytesOf e) (by
      rw [hx]; simp only [DataW.weights, ht]; rw [← Nat.add_mul]; exact List.mem_cons_self)
    rw [be] at h3
    simp only [lits, List.length_map, List.length_take, List.length_drop, reachBytes] at h3
    simp at hzl
    omega

theorem raw_ints {t e : TypeId} {a : Option Addr} {len cap : Nat} {d : DataW H} {ps : List MemPlace} (ht : P.underlying t = some (.slice e)) (he : P.underlying e = some (.int .i64)) (ce : P.cellsOf e = 1) (be : P.bytesOf e = 8)
    (h : DataW.Trod enc P w 0 (fun _ => true) true t (.slice a len cap) d ps) (hz : ∀ n ∈ d.weights P t, n ≤ reachBytes) : ∃ xs, Ints w w.heap.size a len xs ∧ Wf64 xs ∧ len ≤ 17592186043904 ∧ len ≤ cap := by
  obtain ⟨fuel, hf⟩ := h
  exact raw_ints_c (fuel := fuel) (x := (d, ps)) ht he ce be (by simpa [Value.cells] using hf) hz

/-- Rows that came in. -/
theorem raw_rows {t e q : TypeId} {a : Option Addr} {len cap : Nat} {d : DataW H} {ps : List MemPlace} (ht : P.underlying t = some (.slice e)) (he : P.underlying e = some (.slice q)) (hq : P.underlying q = some (.int .i64)) (ce : P.cellsOf e = 1) (cq : P.cellsOf q = 1) (be : P.bytesOf e = 24) (bq : P.bytesOf q = 8)
    (h : DataW.Trod enc P w 0 (fun _ => true) true t (.slice a len cap) d ps) (hz : ∀ n ∈ d.weights P t, n ≤ reachBytes) : ∃ rows, Mat w 0 w.heap.size a len rows ∧ (∀ r ∈ rows, Wf64 r) ∧ len ≤ 17592186043904 := by
  obtain ⟨fuel, hf⟩ := h
  rcases open_int_rows ht he hq ce cq (by simpa [Value.cells] using hf) with ⟨hcs, _⟩ | ⟨x', l, c, A, L, C, Z, hcs, _, hl, hm, hx, hr⟩
  · simp at hcs
    obtain ⟨rfl, rfl, rfl⟩ := hcs
    exact ⟨[], Mat.nil_, (fun x hx => by cases hx), by omega⟩
  · simp at hcs
    obtain ⟨rfl, rfl, rfl⟩ := hcs
    injection hx with hx1 hx2
    subst hx1
    have hrow : ∀ r, r < len → Ints w w.heap.size (A r) (L r) ((Z r).take (L r)) ∧ Wf64 ((Z r).take (L r)) ∧ L r ≤ 17592186043904 := by
      intro r hrl
      obtain ⟨h1, h2, h3, h4, h5, h6, h7⟩ := hr r (by omega)
      have hi : IsRow .i64 w (A r) (L r) (C r) (Z r) := by
        cases hA : A r with
        | none => have := h6 hA; exact .inl ⟨rfl, by omega, this, List.eq_nil_of_length_eq_zero (by omega)⟩
        | some x1 => exact .inr ⟨x1, rfl, h2, h3, h4, fun i hi => ((h7 x1 hA).2 i (by omega)), h5⟩
      refine ⟨hi.ints.1, hi.ints.2, ?_⟩
      cases hA : A r with
      | none => have := h6 hA; omega
      | some x1 =>
        have h8 := hz ((lits (H := H) .i64 ((Z r).take (L r))).length * P.bytesOf q + (lits (H := H) .i64 ((Z r).drop (L r))).length * P.bytesOf q) (by
          simp only [DataW.weights, ht]
          refine List.mem_cons_of_mem _ (List.mem_append.2 (.inl (weightsAll_mem (d := intRow .i64 (A r) (L r) (Z r)) (List.mem_map.2 ⟨r, List.mem_range.2 hrl, rfl⟩) _ ?_)))
          rw [hA]; simp only [intRow, DataW.weights, he]; rw [← Nat.add_mul]; exact List.mem_cons_self)
        rw [bq] at h8
        simp only [lits, List.length_map, List.length_take, List.length_drop, reachBytes] at h8
        omega
    have hlen : len ≤ 17592186043904 := by
      have h8 := hz (((List.range len).map fun r => intRow (H := H) .i64 (A r) (L r) (Z r)).length * P.bytesOf e + ((List.range (cap - len)).map fun j => intRow (H := H) .i64 (A (len + j)) (L (len + j)) (Z (len + j))).length * P.bytesOf e) (by
        simp only [DataW.weights, ht]; rw [← Nat.add_mul]; exact List.mem_cons_self)
      rw [be] at h8
      simp only [List.length_map, List.length_range, reachBytes] at h8
      omega
    refine ⟨(List.range len).map fun r => (Z r).take (L r), ⟨by simp, fun hn => ?_⟩, ?_, hlen⟩
    · obtain ⟨b, off, spot⟩ := x'
      have h0 := (hr 0 (by omega)).1
      have hs : spot = none := by simpa [Addr.add] using World.cell?_spot h0
      subst hs
      refine ⟨b, off, rfl, Nat.zero_le _, by simpa [Addr.add] using block_lt_of_cell h0, fun j hj => ?_⟩
      obtain ⟨k1, k2, k3⟩ := hrow j hj
      refine ⟨A j, L j, C j, ?_, by omega, ?_, fun _ _ _ _ _ => Nat.zero_le _⟩
      · have := (hr j (by omega)).1
        rw [← this]
        by_cases hj0 : j = 0
        · subst hj0; simp [Addr.add]
        · simp [Addr.add, hj0]
      · rw [List.getD_eq_getElem?_getD, List.getElem?_map, List.getElem?_range hj]
        exact k1
    · intro r hr'
      obtain ⟨j, hj, rfl⟩ := List.mem_map.1 hr'
      exact (hrow j (List.mem_range.1 hj)).2.1

/-- A field (a struct of one number) by value. -/
theorem raw_field {r : Reach} {b0 : Nat} {t e : TypeId} {f0 : Field} {v : Value} {d : DataW H} {ps : List MemPlace} (ht : P.underlying t = some (.struct #[f0])) (hf0 : f0.type = e) (ho : f0.offset = 0) (he : P.underlying e = some (.int .i64)) (ce : P.cellsOf e = 1) (ct : P.cellsOf t = 1)
    (hv : Value.okWide P w r b0 t v) (h : DataW.Trod enc P w 0 (fun _ => true) true t v d ps) : ∃ p : Int, v = .agg #[.int .i64 p] ∧ -9223372036854775808 ≤ p ∧ p ≤ 9223372036854775807 := by
  obtain ⟨cs, rfl, hsz⟩ := okWide_struct ht hv
  obtain ⟨fuel, hf⟩ := h
  obtain ⟨y0, n, _, _, h0⟩ := trod_struct1 ht hf
  rw [hf0, ho, ce] at h0
  obtain ⟨l⟩ := cs
  match l, hsz.trans ct with
  | [c0], _ =>
    obtain ⟨m, hm, _, hw⟩ := DataW.trod_int he h0
    simp [Value.cells] at hm
    subst hm
    exact ⟨m, rfl, wf64_of hw⟩
end
end Go.Proofs.YtmcgnpdfpfgfpaaGreatDoor

/-! ShRaw -/
namespace Go.Proofs.YtmcgnpdfpfgfpaaGreatDoor
open Go.RowKit Go.ChangeShapes Go.WideShapes Go.Deep
set_option linter.unusedVariables false

section
variable {H : Type} {enc : TypeId × Value → H} {P : Program} {w : World}
/-- Shares that came in. -/
theorem raw_shares {t e : TypeId} {f0 f1 : Field} {a : Option Addr} {len cap : Nat} {d : DataW H} {ps : List MemPlace} (ht : P.underlying t = some (.slice e)) (he : P.underlying e = some (.struct #[f0, f1])) (o0 : f0.offset = 0) (o1 : f1.offset = 1)
    (u0 : P.underlying f0.type = some (.int .i64)) (u1 : P.underlying f1.type = some (.int .i64)) (ce : P.cellsOf e = 2) (c0 : P.cellsOf f0.type = 1) (c1 : P.cellsOf f1.type = 1)
    (h : DataW.Trod enc P w 0 (fun _ => true) true t (.slice a len cap) d ps) : ∃ us ys, Sh w w.heap.size a len us ys ∧ len ≤ cap := by
  obtain ⟨fuel, hf⟩ := h
  rcases open_slice_pairs ht he ce o0 o1 c0 c1 (by simpa [Value.cells] using hf) with ⟨hcs, _⟩ | ⟨x', l, c, m, n, V0, V1, D0, D1, P0, P1, hcs, _, hl, hm, hmm, hx, hr⟩
  · simp at hcs
    obtain ⟨rfl, rfl, rfl⟩ := hcs
    exact ⟨[], [], ⟨rfl, rfl, fun h => absurd h (by omega)⟩, by omega⟩
  · simp at hcs
    obtain ⟨rfl, rfl, rfl⟩ := hcs
    have hmc : m = cap := by simpa using hmm
    subst hmc
    have each : ∀ i, i < m → V0 i = .int .i64 (intOf (V0 i)) ∧ V1 i = .int .i64 (intOf (V1 i)) := by
      intro i hi
      obtain ⟨_, _, h2, h3⟩ := hr i hi
      obtain ⟨z0, e0, _, _⟩ := DataW.trod_int u0 h2
      obtain ⟨z1, e1, _, _⟩ := DataW.trod_int u1 h3
      simp at e0 e1
      rw [e0, e1]
      exact ⟨rfl, rfl⟩
    refine ⟨(List.range len).map fun i => intOf (V0 i), (List.range len).map fun i => intOf (V1 i), ⟨by simp, by simp, fun hn => ?_⟩, hl⟩
    obtain ⟨b, off, spot⟩ := x'
    have h0 := (hr 0 (by omega)).1
    have hs : spot = none := by simpa [Addr.add] using World.cell?_spot h0
    subst hs
    refine ⟨b, off, rfl, by simpa [Addr.add] using block_lt_of_cell h0, fun j hj => ?_⟩
    obtain ⟨h1, h2, _⟩ := hr j (by omega)
    obtain ⟨e0, e1⟩ := each j (by omega)
    rw [add_plain] at h1 h2
    rw [List.getD_eq_getElem?_getD, List.getElem?_map, List.getElem?_range hj, List.getD_eq_getElem?_getD, List.getElem?_map, List.getElem?_range hj]
    simp only [Option.map_some, Option.getD_some]
    rw [← e0, ← e1]
    exact ⟨h1, h2⟩
end

theorem shV_append : ∀ us ys us2 ys2 : List Int, us.length = ys.length → shV (us ++ us2) (ys ++ ys2) = shV us ys ++ shV us2 ys2
  | [], [], _, _, _ => rfl
  | _ :: us, _ :: ys, us2, ys2, h => by
    have := shV_append us ys us2 ys2 (by simpa using h)
    simp only [List.cons_append, shV, this]

theorem OwnS.formC {w : World} {base n c : Nat} {A : Option Addr} {us ys : List Int} (h : OwnS w base A n c us ys) : (A = none ∧ n = 0 ∧ c = 0) ∨ ∃ g, A = some ⟨g, 0, none⟩ ∧ n ≤ c := by
  rcases h.2.2.2 with ⟨hv, hn⟩ | ⟨g, cap, cur, hv, hg, hh, r⟩
  · injection hv with h1 h2 h3
    exact .inl ⟨h1, h2, h3⟩
  · injection hv with h1 h2 h3
    exact .inr ⟨g, h1, by subst h3; exact r.1⟩

/-- append(s[:n:n], l...). -/
theorem wpList_append_cut {w : World} {ops : Array Oper} {rest : List Oper} {o : Oper} {a : Act} {Q : Exit → Act → World → Prop} (hgd : o.guard = none) (s x : Operand) (t : TypeId)
    (ho : o.op = .call { callee := .builtin .append, args := #[s, x], argTypes := #[t, t] })
    (ht : Tryz.prog.underlying t = some (.slice 135)) (A : Option Addr) (n : Nat) (us ys : List Int) (hs : a.eval s = .slice A n n) (hA : (A = none ∧ n = 0) ∨ ∃ g, A = some ⟨g, 0, none⟩) (h1 : Sh w w.heap.size A n us ys)
    (A2 : Option Addr) (m c2 : Nat) (us2 ys2 : List Int) (hx : a.eval x = .slice A2 m c2) (h2 : Sh w w.heap.size A2 m us2 ys2) (hn : n ≤ 1000000) (hm : m ≤ 1000000)
    (h : ∀ A' c' w', Sh w' w'.heap.size A' (n + m) (us ++ us2) (ys ++ ys2) → Below w.heap.size w w' → n + m ≤ c' → wpList Tryz.prog ops Q rest (a.put o.dst (.slice A' (n + m) c')) w') : wpList Tryz.prog ops Q (o :: rest) a w := by
  obtain ⟨i, hi, hz, hsize, hby⟩ := info_parts info_share
  have hl : us.length = ys.length := by rw [h1.1, h1.2.1]
  have hl2 : us2.length = ys2.length := by rw [h2.1, h2.2.1]
  have fin : ∀ v' w', w'.ownsRow w.heap.size 135 2 v' (n + m) (shV us ys ++ shV us2 ys2) → w.grownBy w' none → wpList Tryz.prog ops Q rest (a.put o.dst v') w' := by
    intro v' w' hown hg
    rw [← shV_append us ys us2 ys2 hl] at hown
    have hb : Below w.heap.size w w' := (Below.refl _ w).grown hg (Nat.le_refl _) (fun k hk => by cases hk)
    rcases hown.2 with ⟨hv, hn0⟩ | ⟨g, cap, cur, hv, _, _, r⟩
    · rw [hv] at hown ⊢
      have h3 : OwnS w' w.heap.size none 0 0 (us ++ us2) (ys ++ ys2) := by
        rw [hn0] at hown
        exact ⟨by rw [List.length_append, h1.1, h2.1, hn0], by rw [List.length_append, h1.2.1, h2.2.1, hn0], hown⟩
      have h4 := h none 0 w' (by have := h3.sh; rwa [← hn0] at this) hb (by omega)
      rwa [hn0] at h4
    · rw [hv] at hown ⊢
      have h3 : OwnS w' w.heap.size (some ⟨g, 0, none⟩) (n + m) cap (us ++ us2) (ys ++ ys2) := ⟨by rw [List.length_append, h1.1, h2.1], by rw [List.length_append, h1.2.1, h2.2.1], hown⟩
      exact h _ cap w' h3.sh hb r.1
  rcases hA with ⟨rfl, rfl⟩ | ⟨g, rfl⟩
  · have hnil : us = [] := List.eq_nil_of_length_eq_zero h1.1
    have hnil2 : ys = [] := List.eq_nil_of_length_eq_zero h1.2.1
    subst hnil hnil2
    refine wpList_append_any w hgd s x t ho w.heap.size 135 i _ 2 16 ht hi hz hsize hby rfl (by omega) (.slice none 0 0) 0 [] hs (World.ownsRow_nil _ _ _ _) w.heap.size A2 m c2 (shV us2 ys2) hx h2.reads (shV_one _ _) (by unfold maxLen; omega) (by omega) (Nat.le_refl _) ?_
    intro v' w' hown hg _
    exact fin v' w' hown hg
  · by_cases hm0 : m = 0
    · subst hm0
      have hnil : us2 = [] := List.eq_nil_of_length_eq_zero h2.1
      have hnil2 : ys2 = [] := List.eq_nil_of_length_eq_zero h2.2.1
      subst hnil hnil2
      have hsrc : Go.Src Tryz.prog i.size t (.slice A2 0 c2) 0 [] w := by
        cases A2 with
        | none => exact Go.Src.ofNil w ht c2
        | some ad => exact Go.Src.ofSlice w ht ad 0 c2 [] (by simp) (fun j u hu => by simp at hu) (fun u hu => by cases hu)
      refine wpList_plain hgd fun K hK' => ?_
      have hrun := run_append_room_src (P := Tryz.prog) w t t o.type 135 i ht hi g 0 n n (.slice A2 0 c2) 0 [] hsrc (by omega) (fun j hj => by simp at hj) (fun j hj => by simp at hj)
      unfold Oper.wp
      simp [execOp, ho, resolve, invoke, builtin, hs, hx, hrun, Result.andThen]
      have h5 := h (some ⟨g, 0, none⟩) n w (by simpa using h1) (Below.refl _ _) (by omega)
      have h6 : w.setCells g (n * i.size) [] = w := rfl
      rw [h6]
      exact hK' _ _ (by simpa using h5)
    · obtain ⟨b2, off2, rfl, hb2, hc2⟩ := h2.2.2 (by omega)
      have hr1 := h1.reads
      have hr2 := h2.reads
      refine wpList_append_grows w hgd s x t ho 135 i _ 2 16 ht hi hz hsize hby rfl (by omega) (some ⟨g, 0, none⟩) n n (shV us ys) hs (fun e => by cases e) hr1.1 (fun b e j u hu => ?_) ⟨b2, off2, none⟩ m c2 (shV us2 ys2) hx hr2.1 (fun j u hu => ?_) (shV_one _ _) (by omega) (by unfold maxLen; omega) (by omega) fin
      · obtain rfl := Option.some.inj e
        have hn0 : 0 < n := by
          rcases Nat.eq_zero_or_pos n with h0 | h0
          · have := (List.getElem?_eq_some_iff.1 hu).1
            rw [hr1.1, h0] at this; omega
          · exact h0
        obtain ⟨ad, e2, _, hc⟩ := hr1.2 hn0
        obtain rfl := Option.some.inj e2
        exact hc j u hu
      · obtain ⟨ad, e2, _, hc⟩ := hr2.2 (by omega)
        obtain rfl := Option.some.inj e2
        exact hc j u hu
end Go.Proofs.YtmcgnpdfpfgfpaaGreatDoor

/-! Lst2 -/
namespace Go.Proofs.YtmcgnpdfpfgfpaaGreatDoor
open Go.RowKit
set_option linter.unusedVariables false

/-- append(s[:n:n], x), in a region that draws its order. -/
theorem step_append_chosen {ops : Array Oper} {o : Oper} {a : Act} {w : World} {K : Act → World → Prop} {Q : Exit → Act → World → Prop} {E : Prop}
    (hg : o.guard = none) (s x : Operand) (hop : o.op = Op.call { callee := Callee.builtin Builtin.append, args := #[s, x], argTypes := #[27, 27] })
    {bC cC : Nat} (C : Option Addr) (m : Nat) (us ys : List Int) (h : OwnS w bC C m cC us ys) (hs : a.eval s = .slice C m m) (b : Nat) (u y : Int) (hx : a.eval x = .slice (some ⟨b, 0, none⟩) 1 1) (hc0 : w.cell? ⟨b, 0, none⟩ = some (.int .i64 u)) (hc1 : w.cell? ⟨b, 1, none⟩ = some (.int .i64 y)) (hm : m ≤ 1000)
    (hK : ∀ C' c' w', OwnS w' w.heap.size C' (m + 1) c' (us ++ [u]) (ys ++ [y]) → Below w.heap.size w w' → K (a.put o.dst (.slice C' (m + 1) c')) w') :
    if Region.wanted o (yielded ops a.tmps) = true then Oper.wp Tryz.prog o a w K Q else E := by
  obtain ⟨i, hi, hz, hsize, hby⟩ := info_parts info_share
  have hl : us.length = ys.length := by rw [h.1, h.2.1]
  have hr1 := h.sh.reads
  refine step_append_grows hg s x 27 hop 135 i _ 2 16 Tryz.underlying27 hi hz hsize hby rfl (by omega) C m m (shV us ys) hs ?_ hr1.1 (fun b e j u hu => ?_) ⟨b, 0, none⟩ 1 1 [.int .i64 u, .int .i64 y] hx rfl (fun j v hv => ?_) (fun v hv => ?_) (by omega) (by unfold maxLen; omega) (by omega) ?_
  · intro e
    rcases h.formC with ⟨_, h1, _⟩ | ⟨g2, h1, _⟩
    · exact ⟨h1, h1⟩
    · rw [e] at h1; cases h1
  · have hn0 : 0 < m := by
      rcases Nat.eq_zero_or_pos m with h0 | h0
      · have := (List.getElem?_eq_some_iff.1 hu).1
        rw [hr1.1, h0] at this; omega
      · exact h0
    obtain ⟨ad, e2, _, hc⟩ := hr1.2 hn0
    rw [e] at e2
    obtain rfl := Option.some.inj e2
    exact hc j u hu
  · match j, hv with
    | 0, hv => simp at hv; subst hv; simpa [Addr.add] using hc0
    | 1, hv => simp at hv; subst hv; simpa [Addr.add] using hc1
  · simp only [List.mem_cons, List.not_mem_nil, or_false] at hv
    rcases hv with rfl | rfl <;> rfl
  · intro v' w' hown hgr
    have hb : Below w.heap.size w w' := (Below.refl _ w).grown hgr (Nat.le_refl _) (fun k hk => by cases hk)
    rw [← shV_snoc u y us ys hl] at hown
    rcases hown.2 with ⟨hv, hn0⟩ | ⟨g2, cap, cur, hv, _, _, r⟩
    · omega
    · rw [hv] at hown ⊢
      exact hK _ cap w' ⟨by rw [List.length_append, h.1]; rfl, by rw [List.length_append, h.2.1]; rfl, hown⟩ hb

theorem types_srch : (135 : TypeId) ≠ 179 ∧ (135 : TypeId) ≠ 22 := by decide +kernel
/-- The chosen cells stay where the search's block and what it has found turn. -/
theorem OwnS.keep2 {w w' : World} {b m cC g b2 lo fn fc : Nat} {C F : Option Addr} {us ys : List Int} {cs : Array Value} {rows : List (List Int)} (h : OwnS w b C m cC us ys) (hB : Blk w g 179 cs) (hF : OwnM w b2 lo 22 F fn fc rows) (hk : Keep2 g (.slice F fn fc) w w') : OwnS w' b C m cC us ys := by
  refine ⟨h.1, h.2.1, h.2.2.1, ?_⟩
  rcases h.2.2.2 with h0 | ⟨g3, cap, cur, hv, hg, hh, r⟩
  · exact .inl h0
  · refine .inr ⟨g3, cap, cur, hv, hg, ?_, r⟩
    rw [hk.block g3 (Blk.lt (t := 135) hh) (fun e => Blk.ne_ (t := 135) (t' := 179) hh (by rw [← e] at hB; exact hB) types_srch.1 rfl) (fun e => ?_)]
    · exact hh
    · obtain ⟨_, vs, hown, _⟩ := hF
      rcases hown.2 with ⟨hv2, _⟩ | ⟨g4, cap4, cur4, hv2, _, hh4, _⟩
      · rw [hv2] at e; cases e
      · rw [hv2] at e
        have e2 : some g4 = some g3 := e
        injection e2 with e2
        exact Blk.ne_ (t := 135) (t' := 22) hh hh4 types_srch.2 e2.symm

theorem Apart2.snoc_ {us : List Int} {x : Int} (h : Apart2 us) (hx : ∀ i, i < us.length → us.getD i 0 ≠ x) : Apart2 (us ++ [x]) := fun j k h1 h2 => by
  rw [List.length_append, List.length_singleton] at h2
  rw [List.getD_eq_getElem?_getD, List.getElem?_append_left (by omega), ← List.getD_eq_getElem?_getD, List.getD_eq_getElem?_getD (l := us ++ [x])]
  rcases Nat.lt_or_ge k us.length with h3 | h3
  · rw [List.getElem?_append_left h3, ← List.getD_eq_getElem?_getD]; exact h j k h1 h3
  · obtain rfl : k = us.length := by omega
    rw [List.getElem?_append_right (Nat.le_refl _), Nat.sub_self]
    exact hx j h1

/-- How many choices of d cells out of r there are. -/
def chB : Nat → Nat → Nat
  | 0, _ => 1
  | _ + 1, 0 => 0
  | d + 1, r + 1 => chB d r + chB (d + 1) r
theorem chB_zero (r : Nat) : chB 0 r = 1 := by cases r <;> rfl

set_option maxRecDepth 100000 in
set_option maxHeartbeats 16000000 in
theorem choose_ok (g : Nat) (p : Int) (k agree : Nat) (L : Option Addr) (N lc : Nat) (vs : List Int) (bs : List Bool) (base : Nat) (hok : okP p = true) (hN : N ≤ 10) (hNp : (N : Int) < p) (hkn : knOk p vs bs) (hvy : allP p vs = true) (hk : k ≤ 10) (hNc : N ≤ lc) (hbg : base ≤ g) (d : Nat) :
    ∀ (m : Nat) (F : Option Addr) (fn fc : Nat) (most : Int) (rows : List (List Int)) (C : Option Addr) (cC bC : Nat) (us ys : List Int) (j : Nat) (w : World), m + d = k → SrchW w g p k agree L N lc F fn fc most rows → Cel w base L N vs bs → OwnS w bC C m cC us ys →
      allP p us = true → allP p ys = true → Apart2 us → (∀ i, i < us.length → us.getD i 0 ≤ (j : Int)) → j ≤ N → rows.length + chB d (N - j) ≤ 1000000000000 →
      Calls Tryz.prog 96 #[.pointer (some ⟨g, 0, none⟩), .int .i64 j, .slice C m cC] w (LsPost g p k agree L N lc F fn fc rows vs bs us ys j (chB d (N - j)) w) := by
  have HO := Lib.hid hok
  have HKN := Lib.hid hkn
  have HVY := Lib.hid hvy
  clear hok hkn hvy
  induction d with
  | zero =>
    intro m F fn fc most rows C cC bC us ys j w hmk hW hL hC hu hy hd hus hj hfn
    have hmk2 : m = k := by omega
    subst hmk2
    have HU := Lib.hid hu
    have HY := Lib.hid hy
    have HD := Lib.hid hd
    have hc2 : w.cell? ⟨g, 2, none⟩ = some (.int .i64 m) := (hW.blk.cell 2).trans rfl
    have hfn2 : rows.length ≤ 1000000000000 := Nat.le_trans (Nat.le_add_right _ _) hfn
    clear hu hy hus hd hfn
    go_enter Tryz.func96, Tryz.ntmps96
    go_wp2_with (go_at_call 126; refine (look_ok g p m agree L N lc F fn fc most rows vs bs C cC us ys j _ HO.out hW (hL.more (by have := hW.blk.lt; omega)) hN hNp HKN.out hC.sh hk HU.out HY.out HD.out hfn2).mono ?_; rintro e w1 ⟨rfl, hrest⟩)
    go_end0
    rw [chB_zero]
    exact ⟨rfl, hrest⟩
  | succ d ih =>
    intro m F fn fc most rows C cC bC us ys j w hmk hW hL hC hu hy hd hus hj hfn
    have HU := Lib.hid hu
    have HY := Lib.hid hy
    have HD := Lib.hid hd
    have HIH := Lib.hid ih
    have HUS := Lib.hid hus
    have hc2 : w.cell? ⟨g, 2, none⟩ = some (.int .i64 k) := (hW.blk.cell 2).trans rfl
    have hmk1 : ((m : Int) == (k : Int)) = false := by simp; omega
    have hmk2 : (m == k) = false := by simp; omega
    have hmk3 : decide ((m : Int) = (k : Int)) = false := decide_eq_false (by omega)
    have hmk4 : decide (m = k) = false := decide_eq_false (by omega)
    have HPW : Hid (rows.length + chB (d + 1) (N - j) ≤ 1000000000000) := Lib.hid hfn
    clear hu hy hus hd hfn ih
    go_enter Tryz.func96, Tryz.ntmps96
    go_wp2_with fail
    have hgl := hW.blk.lt
    have hFr := hW.own.row
    go_loopw [6] (fun v6 wz => ∃ (i : Nat) (F' : Option Addr) (fn' fc' : Nat) (mo : Int) (new : List (List Int)), j ≤ i ∧ i ≤ N ∧ v6 = .int .i64 i ∧ SrchW wz g p k agree L N lc F' fn' fc' mo (rows ++ new) ∧ Hid (LsPart p vs bs k agree us ys j i new) ∧ Hid (new.length + chB (d + 1) (N - i) ≤ chB (d + 1) (N - j)) ∧
        Keep2 g (.slice F fn fc) w wz ∧ ((Value.slice F' fn' fc').ownBlock = (Value.slice F fn fc).ownBlock ∨ ∃ b, (Value.slice F' fn' fc').ownBlock = some b ∧ w.heap.size ≤ b)) (fun v6 _ => N - (intOf v6).toNat)
    case atStart => exact ⟨j, F, fn, fc, most, [], Nat.le_refl _, hj, rfl, by rw [List.append_nil]; exact hW, Lib.hid (LsPart.start j), Lib.hid (by simp), Keep2.refl w, .inl rfl⟩
    case round =>
    obtain ⟨i, F1, fn1, fc1, mo, new, hji, hiN, rfl, hWr, HP, HNL, hK, hab⟩ := hrel
    have hc1 : wr.cell? ⟨g, 1, none⟩ = some (.slice L N lc) := (hWr.blk.cell 1).trans rfl
    have hLr : Cel wr base L N vs bs := hL.below (hK.below (by omega) hbg (fun b hb => by have := (hFr b hb).1; omega))
    have hCr : OwnS wr bC C m cC us ys := hC.keep2 hW.blk hW.own hK
    by_cases hlt : i < N
    · have hlti : (i : Int) < (N : Int) := by omega
      have hi0 : (0 : Int) ≤ (i : Int) := by omega
      obtain ⟨bL, oL, hLe, hbL, hcL⟩ := hLr.2.2 (by omega)
      subst hLe
      obtain ⟨hv, hk1⟩ := hcL i hlt
      have HVI : Hid (0 ≤ vs.getD i 0 ∧ vs.getD i 0 < p) := Lib.hid (allP_getD HVY.out (by rw [hLr.1]; exact hlt))
      obtain ⟨x, hx⟩ : ∃ x, vs.getD i 0 = x := ⟨_, rfl⟩
      rw [hx] at hv HVI
      have HX := Lib.hid hx
      obtain ⟨kb, hkb⟩ : ∃ kb, bs.getD i false = kb := ⟨_, rfl⟩
      rw [hkb] at hk1
      have HKB := Lib.hid hkb
      clear hcL hx hkb
      have HCB : Hid (chB (d + 1) (N - i) = chB d (N - (i + 1)) + chB (d + 1) (N - (i + 1))) := Lib.hid (by rw [show N - i = (N - (i + 1)) + 1 by omega, chB])
      have HN0 : Hid (new.length + chB (d + 1) (N - (i + 1)) ≤ chB (d + 1) (N - j)) := Lib.hid (by have h1 := HNL.out; rw [HCB.out] at h1; omega)
      cases kb
      · have HP2 := Lib.hid (HP.out.skip (by rw [hLr.1, hLr.2.1]) (by rw [hLr.1]; exact hlt) HKB.out)
        go_wp2
        go_roundw
        case rel => exact ⟨i + 1, F1, fn1, fc1, mo, new, by omega, by omega, by go_num, hWr, HP2, HN0, hK, hab⟩
        case measure => simp [intOf]; omega
      · obtain ⟨i1, hi1⟩ : ∃ i1, i + 1 = i1 := ⟨_, rfl⟩
        have hi1i : (i : Int) + 1 = (i1 : Int) := by omega
        have hi1w : IntKind.i64.wrap (i1 : Int) = (i1 : Int) := IntWalk.i64_in _ (by omega)
        have HTK : Hid (∀ new2, LsNew p vs bs k agree (us ++ [(i1 : Int)]) (ys ++ [x]) i1 new2 → LsPart p vs bs k agree us ys j i1 (new ++ new2)) := Lib.hid fun new2 h2 => by
          have h3 : LsNew p vs bs k agree (us ++ [(i : Int) + 1]) (ys ++ [vs.getD i 0]) (i + 1) new2 := by rw [hi1i, HX.out, hi1]; exact h2
          have := HP.out.take (by rw [hLr.1, hLr.2.1]) (by rw [hLr.1]; exact hlt) (by rw [hC.1, hC.2.1]) h3
          rwa [hi1] at this
        have HU1 : Hid (allP p (us ++ [(i1 : Int)]) = true) := Lib.hid (allP_append.2 ⟨HU.out, allP_iff.2 fun y hy => by rw [List.mem_singleton.1 hy]; omega⟩)
        have HY1 : Hid (allP p (ys ++ [x]) = true) := Lib.hid (allP_append.2 ⟨HY.out, allP_iff.2 fun y hy => by rw [List.mem_singleton.1 hy]; exact HVI.out⟩)
        have HD1 : Hid (Apart2 (us ++ [(i1 : Int)])) := Lib.hid (HD.out.snoc_ fun t ht => by have := HUS.out t ht; omega)
        have HUS1 : Hid (∀ t, t < (us ++ [(i1 : Int)]).length → (us ++ [(i1 : Int)]).getD t 0 ≤ (i1 : Int)) := Lib.hid fun t ht => by
          rw [List.length_append, List.length_singleton] at ht
          rw [List.getD_eq_getElem?_getD]
          rcases Nat.lt_or_ge t us.length with h3 | h3
          · rw [List.getElem?_append_left h3, ← List.getD_eq_getElem?_getD]; have := HUS.out t h3; omega
          · obtain rfl : t = us.length := by omega
            rw [List.getElem?_append_right (Nat.le_refl _), Nat.sub_self]; exact Int.le_refl _
        have HPB : Hid ((rows ++ new).length + chB d (N - i1) ≤ 1000000000000) := Lib.hid (by
          have h1 := HPW.out
          have h2 := HNL.out
          rw [HCB.out] at h2
          rw [List.length_append, ← hi1]; omega)
        have HNL1 : Hid (∀ new2 : List (List Int), new2.length ≤ chB d (N - i1) → (new ++ new2).length + chB (d + 1) (N - i1) ≤ chB (d + 1) (N - j)) := Lib.hid fun new2 h => by
          have h2 := HNL.out
          rw [HCB.out] at h2
          rw [← hi1] at h ⊢
          rw [List.length_append]; omega
        clear HP HUS HKB HNL HPW HCB HN0
        have hcap := hCr.cap
        have hcapi : (m : Int) ≤ (cC : Int) := by omega
        go_upto_region 6 with fail
        have hbl : Below wr.heap.size wr (wr.drew.alloc (.cells #[.int .i64 (i1 : Int), .int .i64 x] 135)) := (Below.refl wr.heap.size wr).drew.alloc (Nat.le_refl _) _
        have HK6 : Hid (∀ W, Below wr.heap.size wr W → W.cell? ⟨g, 1, none⟩ = some (.slice (some ⟨bL, oL, none⟩) N lc) ∧ W.cell? ⟨bL, oL + i * 2, none⟩ = some (.int .i64 x)) := Lib.hid fun W hW2 => ⟨(hW2.cell hWr.blk.lt).trans hc1, (hW2.cell (p := ⟨bL, oL + i * 2, none⟩) (by have := hK.size; show bL < _; omega)).trans hv⟩
        have hBL := Sh.oneAt wr.drew (i1 : Int) x
        have hq0 : (wr.drew.alloc (.cells #[.int .i64 (i1 : Int), .int .i64 x] 135)).cell? ⟨wr.heap.size, 0, none⟩ = some (.int .i64 i1) := ((Blk.new wr.drew 135 #[.int .i64 (i1 : Int), .int .i64 x]).cell 0).trans rfl
        have hq1 : (wr.drew.alloc (.cells #[.int .i64 (i1 : Int), .int .i64 x] 135)).cell? ⟨wr.heap.size, 1, none⟩ = some (.int .i64 x) := ((Blk.new wr.drew 135 #[.int .i64 (i1 : Int), .int .i64 x]).cell 1).trans rfl
        have hCa : OwnS (wr.drew.alloc (.cells #[.int .i64 (i1 : Int), .int .i64 x] 135)) bC C m cC us ys := hCr.belowAll hbl
        have hbd : Below wr.heap.size wr wr.drew := (Below.refl wr.heap.size wr).drew
        have hbda : Below wr.heap.size wr (wr.alloc (.cells #[.int .i64 (i1 : Int), .int .i64 x] 135)).drew := (bbox _).drew
        clear hBL
        have hF1r := hWr.own.row
        go_region_held3 (fun w' => w'.cell? ⟨g, 1, none⟩ = some (.slice (some ⟨bL, oL, none⟩) N lc) ∧ w'.cell? ⟨bL, oL + i * 2, none⟩ = some (.int .i64 x)) (first | exact HK6.out _ hbd | exact HK6.out _ hbl | exact HK6.out _ hbda | exact HK6.out _ hbl7 | exact hS8)
          (first
            | ((refine step_append_chosen (w := wr.drew.alloc (.cells #[.int .i64 (i1 : Int), .int .i64 x] 135)) rfl (.tmp 43) (.tmp 55) rfl C m us ys hCa (by simp [Act.eval]) wr.heap.size (i1 : Int) x (by simp [Act.eval]) hq0 hq1 (by omega) ?_); intro C7 c7 w7 hC7 hb7
               have hbl7 : Below wr.heap.size wr w7 := hbl.trans (hb7.mono hbl.size)
               have hW7 := hWr.below hbl7
               have hL7 : Cel w7 base (some ⟨bL, oL, none⟩) N vs bs := hLr.below (hbl7.mono (by have := hK.size; omega)))
            | (go_at_call 96; (refine (HIH.out (m + 1) F1 fn1 fc1 mo (rows ++ new) C7 c7 _ (us ++ [(i1 : Int)]) (ys ++ [x]) i1 _ (by omega) hW7 hL7 hC7 HU1.out HY1.out HD1.out HUS1.out (by omega) HPB.out).mono ?_); rintro e w8 ⟨rfl, F8, fn8, fc8, mo8, new2, hW8, hN8, hl8, hK8, hab8⟩
               have hS8 : w8.cell? ⟨g, 1, none⟩ = some (.slice (some ⟨bL, oL, none⟩) N lc) ∧ w8.cell? ⟨bL, oL + i * 2, none⟩ = some (.int .i64 x) := ⟨(hW8.blk.cell 1).trans rfl, ((hK8.below (base := base) (by have h1 := hK.size; have h2 := hbl7.size; omega) hbg (fun b hb => by have := (hF1r b hb).1; omega)).cell (p := ⟨bL, oL + i * 2, none⟩) hbL).trans (HK6.out _ hbl7).2⟩))
        all_goals rw [List.append_assoc] at hW8
        all_goals have hKE := (hK.trans (Keep2.ofBelow (v := .slice F1 fn1 fc1) hbl7) hab).trans hK8 hab
        all_goals have habE : (Value.slice F8 fn8 fc8).ownBlock = (Value.slice F fn fc).ownBlock ∨ ∃ b, (Value.slice F8 fn8 fc8).ownBlock = some b ∧ w.heap.size ≤ b := hab8.elim (fun h1 => by rw [h1]; exact hab) (fun ⟨b, h1, h2⟩ => .inr ⟨b, h1, by have h3 := hK.size; have h4 := hbl7.size; omega⟩)
        all_goals have HTE := Lib.hid (HTK.out new2 hN8)
        all_goals have HNE := Lib.hid (HNL1.out new2 hl8)
        all_goals clear hS8 hK8 hab8 hW7 hL7 hC7 hN8 hl8 hbl7 hb7
        all_goals go_wp2
        all_goals go_roundw
        all_goals first
          | exact ⟨i1, F8, fn8, fc8, mo8, new ++ new2, by omega, by omega, by go_num, hW8, HTE, HNE, hKE, habE⟩
          | (simp [intOf]; omega)
    · obtain rfl : i = N := by omega
      go_wp2
      go_end0
      exact ⟨rfl, F1, fn1, fc1, mo, new, hWr, (by have := HP.out; rw [← hLr.1] at this; exact this.done (by rw [hC.1]; omega)), Nat.le_trans (Nat.le_add_right _ _) HNL.out, hK, hab⟩
end Go.Proofs.YtmcgnpdfpfgfpaaGreatDoor
