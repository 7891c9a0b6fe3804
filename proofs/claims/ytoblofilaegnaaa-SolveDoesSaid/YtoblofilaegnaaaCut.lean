/-
  An append onto a slice without spare room, from any source, as a step of a region that draws its order; no program in sight. No conditions.
-/
import Derived.Test.YtoblofilaegnaaaMem
import Derived.ArgAppend
import Derived.Deep.RegionLaw
namespace Go.Proofs.Ytoblofilaegnaaa
open Go.RowKit
set_option linter.unusedVariables false

theorem run_append_zero {P : Program} (w : World) (t ty e : TypeId) (i : TypeInfo) (ht : P.underlying t = some (.slice e)) (hi : P.info? e = some i) (A A2 : Option Addr) (j c2 : Nat) (hA : A = none → j = 0) :
    (Builtin.append_ #[t, t] ty #[.slice A j j, .slice A2 0 c2]).run P w = .ok (.slice A j j) w := by
  rcases A with _ | a
  · obtain rfl := hA rfl
    rcases A2 with _ | a2 <;> simp [Builtin.append_, run_underlying ht, sizeOf, typeInfo, hi, Builtin.lenOf, Builtin.firstCells, loadCells, loadCellsFrom]
  · rcases A2 with _ | a2 <;> simp [Builtin.append_, run_underlying ht, sizeOf, typeInfo, hi, Builtin.lenOf, Builtin.firstCells, storeCells, loadCells, loadCellsFrom]

theorem run_append_cut {P : Program} (w : World) (t ty e : TypeId) (i : TypeInfo) (z : Value) (ht : P.underlying t = some (.slice e)) (hi : P.info? e = some i) (hz : i.zero = some z)
    (hsize : i.size = 1) (hby : i.bytes = 8) (hzs : z.cells.size = 1)
    (A : Option Addr) (j : Nat) (xs : List Int) (hA : A = none → j = 0) (B : Nat) (hxs : Ints w B A j xs) (A2 : Option Addr) (m c2 : Nat) (ys : List Int) (B2 : Nat) (hys : Ints w B2 A2 m ys) (hcap : j + m ≤ 17592186044416) :
    ∃ A' c' w', (Builtin.append_ #[t, t] ty #[.slice A j j, .slice A2 m c2]).run P w = .ok (.slice A' (j + m) c') w' ∧ j + m ≤ c' ∧ (A' = none → j + m = 0) ∧ Below w.heap.size w w' ∧
      ((m = 0 ∧ A' = A ∧ w' = w) ∨ OwnI w' w.heap.size e A' (j + m) c' (xs ++ ys)) := by
  rcases Nat.eq_zero_or_pos m with h0 | h0
  · subst h0
    exact ⟨A, j, w, run_append_zero w t ty e i ht hi A A2 j c2 hA, Nat.le_refl _, hA, Below.refl _ _, .inl ⟨rfl, rfl, rfl⟩⟩
  · have hry := hys.reads
    obtain ⟨ad, hA2, _, hc2⟩ := hry.2 h0
    subst hA2
    have hl2 : (vals ys).length = m * 1 := hry.1
    rcases A with _ | a
    · obtain rfl := hA rfl
      have hx0 : xs = [] := List.eq_nil_of_length_eq_zero hxs.1
      subst hx0
      obtain ⟨v', w', hrun, r1, r2, _⟩ := run_append_own (P := P) w w.heap.size t ty e i z 1 8 ht hi hz hsize hby hzs (by omega) (.slice none 0 0) 0 [] (World.ownsRow_nil w _ e 1) ad m c2 (vals ys) hl2 hc2 (vals_one ys) (by unfold maxLen; omega) (by omega) (Nat.le_refl _)
      rcases r1.2 with ⟨_, hn⟩ | ⟨g, cap, cur, rfl, hg, hh, hnc, r⟩
      · omega
      · refine ⟨some ⟨g, 0, none⟩, cap, w', hrun, hnc, (fun h => by cases h), (Below.refl _ _).grown r2 (Nat.le_refl _) (fun k hk => by cases hk), .inr ?_⟩
        exact r1
    · obtain ⟨v', w', hrun, r1, r2⟩ := run_append_arg_grows (P := P) w t ty e i z 1 8 ht hi hz hsize hby hzs (by omega) a j j (vals xs) (by simpa using hxs.reads.1)
        (fun q u hu => by
          rcases Nat.eq_zero_or_pos j with h | h
          · subst h
            have hx0 : xs = [] := List.eq_nil_of_length_eq_zero hxs.1
            subst hx0; simp [vals] at hu
          · obtain ⟨ad', e', _, hc⟩ := hxs.reads.2 h
            injection e' with e'
            subst e'
            exact hc q u hu) ad m c2 (vals ys) hl2 hc2 (by omega) (by unfold maxLen; omega) (by omega)
      rcases r1.2 with ⟨_, hn⟩ | ⟨g, cap, cur, rfl, hg, hh, hnc, r⟩
      · omega
      · refine ⟨some ⟨g, 0, none⟩, cap, w', hrun, hnc, (fun h => by cases h), (Below.refl _ _).grown r2 (Nat.le_refl _) (fun k hk => by cases hk), .inr ?_⟩
        have e1 : vals xs ++ vals ys = vals (xs ++ ys) := by simp [vals]
        rw [e1] at r1
        exact r1

theorem step_append_cut {P : Program} {ops : Array Oper} {o : Oper} {a : Act} {w : World} {K : Act → World → Prop} {Q : Exit → Act → World → Prop} {E : Prop}
    (hg : o.guard = none) (s x : Operand) (t : TypeId) (hop : o.op = Op.call { callee := Callee.builtin Builtin.append, args := #[s, x], argTypes := #[t, t] })
    (e : TypeId) (i : TypeInfo) (z : Value) (ht : P.underlying t = some (.slice e)) (hi : P.info? e = some i) (hz : i.zero = some z) (hsize : i.size = 1) (hby : i.bytes = 8) (hzs : z.cells.size = 1)
    (A : Option Addr) (j : Nat) (xs : List Int) (hA : A = none → j = 0) (hs : a.eval s = .slice A j j) (B : Nat) (hxs : Ints w B A j xs) (A2 : Option Addr) (m c2 : Nat) (ys : List Int) (hx : a.eval x = .slice A2 m c2) (B2 : Nat) (hys : Ints w B2 A2 m ys) (hcap : j + m ≤ 17592186044416)
    (N : Nat) (hN : j + m = N) (zs : List Int) (hzz : xs ++ ys = zs)
    (hK : ∀ A' c' w', N ≤ c' → (A' = none → N = 0) → Below w.heap.size w w' → ((m = 0 ∧ A' = A ∧ w' = w) ∨ OwnI w' w.heap.size e A' N c' zs) → K (a.put o.dst (.slice A' N c')) w') :
    if Region.wanted o (yielded ops a.tmps) = true then Oper.wp P o a w K Q else E := by
  subst hN hzz
  have hw : Region.wanted o (yielded ops a.tmps) = true := by simp [Region.wanted, hg]
  rw [if_pos hw]
  obtain ⟨A', c', w', hrun, h1, h2, h3, h4⟩ := run_append_cut (P := P) w t o.type e i z ht hi hz hsize hby hzs A j xs hA B hxs A2 m c2 ys B2 hys hcap
  unfold Oper.wp
  simp [execOp, hop, resolve, invoke, builtin, hs, hx, hrun, Result.andThen]
  exact hK A' c' w' h1 h2 h3 h4
end Go.Proofs.Ytoblofilaegnaaa
