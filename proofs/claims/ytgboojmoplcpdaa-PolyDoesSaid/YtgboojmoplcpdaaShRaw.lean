/-
  Shares that came in read as two lists; shares appended to a cut row. No conditions.
-/
import Derived.Test.YtgboojmoplcpdaaRaw
import Derived.Test.YtgboojmoplcpdaaShares2
import Derived.Test.YtgboojmoplcpdaaShare1
import Derived.Deep.SlicePairs
import Derived.Deep.AppendSrc
import Derived.ArgAppend
namespace Go.Proofs.Ytgboojmoplcpdaa
open Go.RowKit Go.ChangeShapes Go.WideShapes Go.Deep
set_option linter.unusedVariables false

section
variable {H : Type} {enc : TypeId × Value → H} {P : Program} {w : World}
/-- Shares that came in. -/
theorem raw_shares {t e : TypeId} {f0 f1 : Field} {a : Option Addr} {len cap : Nat} {d : DataW H} {ps : List MemPlace} (ht : P.underlying t = some (.slice e)) (he : P.underlying e = some (.struct #[f0, f1])) (o0 : f0.offset = 0) (o1 : f1.offset = 1)
    (u0 : P.underlying f0.type = some (.int .i64)) (u1 : P.underlying f1.type = some (.int .i64)) (ce : P.cellsOf e = 2) (c0 : P.cellsOf f0.type = 1) (c1 : P.cellsOf f1.type = 1)
    (h : DataW.Trod enc P w 0 (fun _ => true) true t (.slice a len cap) d ps) : ∃ us ys, Sh w w.heap.size a len us ys ∧ len ≤ cap := by
  obtain ⟨fuel, hf⟩ := h
  rcases open_slice_pairs ht he ce o0 o1 c0 c1 (by simpa [Value.cells] using hf) with ⟨hcs, _⟩ | ⟨x', l, c, m, n, V0, V1, D0, D1, P0, P1, hcs, _, hl, hm, hmm, hx, hr⟩
  · simp at hcs
    obtain ⟨rfl, rfl, rfl⟩ := hcs
    exact ⟨[], [], ⟨rfl, rfl, fun h => absurd h (by omega)⟩, by omega⟩
  · simp at hcs
    obtain ⟨rfl, rfl, rfl⟩ := hcs
    have hmc : m = cap := by simpa using hmm
    subst hmc
    have each : ∀ i, i < m → V0 i = .int .i64 (intOf (V0 i)) ∧ V1 i = .int .i64 (intOf (V1 i)) := by
      intro i hi
      obtain ⟨_, _, h2, h3⟩ := hr i hi
      obtain ⟨z0, e0, _, _⟩ := DataW.trod_int u0 h2
      obtain ⟨z1, e1, _, _⟩ := DataW.trod_int u1 h3
      simp at e0 e1
      rw [e0, e1]
      exact ⟨rfl, rfl⟩
    refine ⟨(List.range len).map fun i => intOf (V0 i), (List.range len).map fun i => intOf (V1 i), ⟨by simp, by simp, fun hn => ?_⟩, hl⟩
    obtain ⟨b, off, spot⟩ := x'
    have h0 := (hr 0 (by omega)).1
    have hs : spot = none := by simpa [Addr.add] using World.cell?_spot h0
    subst hs
    refine ⟨b, off, rfl, by simpa [Addr.add] using block_lt_of_cell h0, fun j hj => ?_⟩
    obtain ⟨h1, h2, _⟩ := hr j (by omega)
    obtain ⟨e0, e1⟩ := each j (by omega)
    rw [add_plain] at h1 h2
    rw [List.getD_eq_getElem?_getD, List.getElem?_map, List.getElem?_range hj, List.getD_eq_getElem?_getD, List.getElem?_map, List.getElem?_range hj]
    simp only [Option.map_some, Option.getD_some]
    rw [← e0, ← e1]
    exact ⟨h1, h2⟩
end

theorem shV_append : ∀ us ys us2 ys2 : List Int, us.length = ys.length → shV (us ++ us2) (ys ++ ys2) = shV us ys ++ shV us2 ys2
  | [], [], _, _, _ => rfl
  | _ :: us, _ :: ys, us2, ys2, h => by
    have := shV_append us ys us2 ys2 (by simpa using h)
    simp only [List.cons_append, shV, this]

theorem OwnS.formC {w : World} {base n c : Nat} {A : Option Addr} {us ys : List Int} (h : OwnS w base A n c us ys) : (A = none ∧ n = 0 ∧ c = 0) ∨ ∃ g, A = some ⟨g, 0, none⟩ ∧ n ≤ c := by
  rcases h.2.2.2 with ⟨hv, hn⟩ | ⟨g, cap, cur, hv, hg, hh, r⟩
  · injection hv with h1 h2 h3
    exact .inl ⟨h1, h2, h3⟩
  · injection hv with h1 h2 h3
    exact .inr ⟨g, h1, by subst h3; exact r.1⟩

/-- append(s[:n:n], l...). -/
theorem wpList_append_cut {w : World} {ops : Array Oper} {rest : List Oper} {o : Oper} {a : Act} {Q : Exit → Act → World → Prop} (hgd : o.guard = none) (s x : Operand) (t : TypeId)
    (ho : o.op = .call { callee := .builtin .append, args := #[s, x], argTypes := #[t, t] })
    (ht : Try.prog.underlying t = some (.slice 52)) (A : Option Addr) (n : Nat) (us ys : List Int) (hs : a.eval s = .slice A n n) (hA : (A = none ∧ n = 0) ∨ ∃ g, A = some ⟨g, 0, none⟩) (h1 : Sh w w.heap.size A n us ys)
    (A2 : Option Addr) (m c2 : Nat) (us2 ys2 : List Int) (hx : a.eval x = .slice A2 m c2) (h2 : Sh w w.heap.size A2 m us2 ys2) (hn : n ≤ 1000000) (hm : m ≤ 1000000)
    (h : ∀ A' c' w', Sh w' w'.heap.size A' (n + m) (us ++ us2) (ys ++ ys2) → Below w.heap.size w w' → n + m ≤ c' → wpList Try.prog ops Q rest (a.put o.dst (.slice A' (n + m) c')) w') : wpList Try.prog ops Q (o :: rest) a w := by
  obtain ⟨i, hi, hz, hsize, hby⟩ := info_parts info_share
  have hl : us.length = ys.length := by rw [h1.1, h1.2.1]
  have hl2 : us2.length = ys2.length := by rw [h2.1, h2.2.1]
  have fin : ∀ v' w', w'.ownsRow w.heap.size 52 2 v' (n + m) (shV us ys ++ shV us2 ys2) → w.grownBy w' none → wpList Try.prog ops Q rest (a.put o.dst v') w' := by
    intro v' w' hown hg
    rw [← shV_append us ys us2 ys2 hl] at hown
    have hb : Below w.heap.size w w' := (Below.refl _ w).grown hg (Nat.le_refl _) (fun k hk => by cases hk)
    rcases hown.2 with ⟨hv, hn0⟩ | ⟨g, cap, cur, hv, _, _, r⟩
    · rw [hv] at hown ⊢
      have h3 : OwnS w' w.heap.size none 0 0 (us ++ us2) (ys ++ ys2) := by
        rw [hn0] at hown
        exact ⟨by rw [List.length_append, h1.1, h2.1, hn0], by rw [List.length_append, h1.2.1, h2.2.1, hn0], hown⟩
      have h4 := h none 0 w' (by have := h3.sh; rwa [← hn0] at this) hb (by omega)
      rwa [hn0] at h4
    · rw [hv] at hown ⊢
      have h3 : OwnS w' w.heap.size (some ⟨g, 0, none⟩) (n + m) cap (us ++ us2) (ys ++ ys2) := ⟨by rw [List.length_append, h1.1, h2.1], by rw [List.length_append, h1.2.1, h2.2.1], hown⟩
      exact h _ cap w' h3.sh hb r.1
  rcases hA with ⟨rfl, rfl⟩ | ⟨g, rfl⟩
  · have hnil : us = [] := List.eq_nil_of_length_eq_zero h1.1
    have hnil2 : ys = [] := List.eq_nil_of_length_eq_zero h1.2.1
    subst hnil hnil2
    refine wpList_append_any w hgd s x t ho w.heap.size 52 i _ 2 16 ht hi hz hsize hby rfl (by omega) (.slice none 0 0) 0 [] hs (World.ownsRow_nil _ _ _ _) w.heap.size A2 m c2 (shV us2 ys2) hx h2.reads (shV_one _ _) (by unfold maxLen; omega) (by omega) (Nat.le_refl _) ?_
    intro v' w' hown hg _
    exact fin v' w' hown hg
  · by_cases hm0 : m = 0
    · subst hm0
      have hnil : us2 = [] := List.eq_nil_of_length_eq_zero h2.1
      have hnil2 : ys2 = [] := List.eq_nil_of_length_eq_zero h2.2.1
      subst hnil hnil2
      have hsrc : Go.Src Try.prog i.size t (.slice A2 0 c2) 0 [] w := by
        cases A2 with
        | none => exact Go.Src.ofNil w ht c2
        | some ad => exact Go.Src.ofSlice w ht ad 0 c2 [] (by simp) (fun j u hu => by simp at hu) (fun u hu => by cases hu)
      refine wpList_plain hgd fun K hK' => ?_
      have hrun := run_append_room_src (P := Try.prog) w t t o.type 52 i ht hi g 0 n n (.slice A2 0 c2) 0 [] hsrc (by omega) (fun j hj => by simp at hj) (fun j hj => by simp at hj)
      unfold Oper.wp
      simp [execOp, ho, resolve, invoke, builtin, hs, hx, hrun, Result.andThen]
      have h5 := h (some ⟨g, 0, none⟩) n w (by simpa using h1) (Below.refl _ _) (by omega)
      have h6 : w.setCells g (n * i.size) [] = w := rfl
      rw [h6]
      exact hK' _ _ (by simpa using h5)
    · obtain ⟨b2, off2, rfl, hb2, hc2⟩ := h2.2.2 (by omega)
      have hr1 := h1.reads
      have hr2 := h2.reads
      refine wpList_append_grows w hgd s x t ho 52 i _ 2 16 ht hi hz hsize hby rfl (by omega) (some ⟨g, 0, none⟩) n n (shV us ys) hs (fun e => by cases e) hr1.1 (fun b e j u hu => ?_) ⟨b2, off2, none⟩ m c2 (shV us2 ys2) hx hr2.1 (fun j u hu => ?_) (shV_one _ _) (by omega) (by unfold maxLen; omega) (by omega) fin
      · obtain rfl := Option.some.inj e
        have hn0 : 0 < n := by
          rcases Nat.eq_zero_or_pos n with h0 | h0
          · have := (List.getElem?_eq_some_iff.1 hu).1
            rw [hr1.1, h0] at this; omega
          · exact h0
        obtain ⟨ad, e2, _, hc⟩ := hr1.2 hn0
        obtain rfl := Option.some.inj e2
        exact hc j u hu
      · obtain ⟨ad, e2, _, hc⟩ := hr2.2 (by omega)
        obtain rfl := Option.some.inj e2
        exact hc j u hu
end Go.Proofs.Ytgboojmoplcpdaa
