/-
  An append to a row of the call's own, in a region that draws its order. Conditions: none.
-/
import Derived.Test.YtoblofilaegnaaaReduce
namespace Go.Proofs.Ytoblofilaegnaaa
open Go.RowKit
set_option linter.unusedVariables false

/-- An append of some numbers to a row of the call's own, in a region that draws its order. -/
theorem step_append_intsR {P : Program} {ops : Array Oper} {o : Oper} {a : Act} {w : World} {K : Act → World → Prop} {Q : Exit → Act → World → Prop} {E : Prop}
    (hg : o.guard = none) (s x : Operand) (t : TypeId) (hop : o.op = Op.call { callee := Callee.builtin Builtin.append, args := #[s, x], argTypes := #[t, t] })
    (base : Nat) (e : TypeId) (i : TypeInfo) (z : Value) (ht : P.underlying t = some (.slice e)) (hi : P.info? e = some i) (hz : i.zero = some z) (hsize : i.size = 1) (hby : i.bytes = 8) (hzs : z.cells.size = 1)
    (A1 : Option Addr) (n1 c1 : Nat) (xs : List Int) (hs : a.eval s = .slice A1 n1 c1) (hT : OwnI w base e A1 n1 c1 xs)
    (A2 : Option Addr) (m c2 : Nat) (ys : List Int) (hx : a.eval x = .slice A2 m c2) (hI : Ints w w.heap.size A2 m ys) (N : Nat) (hN : n1 + m = N) (hcap : N ≤ 17592186044416) (hbase : base ≤ w.heap.size)
    (hK : ∀ A' c' w', OwnI w' base e A' N c' (xs ++ ys) → w.grownBy w' (Value.slice A1 n1 c1).ownBlock → Below base w w' →
      ((Value.slice A' N c').ownBlock = (Value.slice A1 n1 c1).ownBlock ∨ (Value.slice A' N c').ownBlock = some w.heap.size) → K (a.put o.dst (.slice A' N c')) w') :
    if Region.wanted o (yielded ops a.tmps) = true then Oper.wp P o a w K Q else E := by
  subst hN
  refine step_append_any (P := P) w hg s x t hop base e i z 1 8 ht hi hz hsize hby hzs (by omega) (.slice A1 n1 c1) n1 (vals xs) hs hT w.heap.size A2 m c2 (vals ys) hx hI.reads (vals_one _) (by unfold maxLen; omega) (by omega) hbase ?_
  intro v' w' hown' hgr hat
  rw [show vals xs ++ vals ys = vals (xs ++ ys) by simp [vals]] at hown'
  have hb : Below base w w' := (Below.refl base w).grown hgr hbase hT.row
  rcases hown'.2 with ⟨hv, hn⟩ | ⟨g, cap, cur, hv, _⟩
  · rw [hv] at hown' hat ⊢
    rw [hn] at hown' hK
    exact hK none 0 w' hown' hgr hb hat
  · rw [hv] at hown' hat ⊢
    exact hK _ cap w' hown' hgr hb hat

end Go.Proofs.Ytoblofilaegnaaa
