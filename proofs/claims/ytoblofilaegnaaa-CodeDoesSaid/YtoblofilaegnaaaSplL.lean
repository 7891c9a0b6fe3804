/-
  Rows of shares through steps of a deck, and the points 1, 2, ..: plain words. No conditions.
-/
import Derived.Test.YtoblofilaegnaaaShares
import Derived.Test.YtoblofilaegnaaaPlain
import Derived.Test.YtoblofilaegnaaaDeck
namespace Go.Proofs.Ytoblofilaegnaaa
open Go.RowKit
set_option linter.unusedVariables false

theorem step_append_ints {P : Program} {ops : Array Oper} {o : Oper} {a : Act} {w : World} {K : Act → World → Prop} {Q : Exit → Act → World → Prop} {E : Prop}
    (hg : o.guard = none) (s x : Operand) (t : TypeId) (hop : o.op = Op.call { callee := Callee.builtin Builtin.append, args := #[s, x], argTypes := #[t, t] })
    (base : Nat) (e : TypeId) (i : TypeInfo) (z : Value) (ht : P.underlying t = some (.slice e)) (hi : P.info? e = some i) (hz : i.zero = some z) (hsize : i.size = 1) (hby : i.bytes = 8) (hzs : z.cells.size = 1)
    (A : Option Addr) (n c : Nat) (xs : List Int) (hs : a.eval s = .slice A n c) (hown : OwnI w base e A n c xs)
    (B : Nat) (A2 : Option Addr) (m c2 : Nat) (ys : List Int) (hx : a.eval x = .slice A2 m c2) (hr : Ints w B A2 m ys)
    (N : Nat) (hN : n + m = N) (zs : List Int) (hzz : xs ++ ys = zs) (hcap : N ≤ 17592186044416) (hbase : base ≤ w.heap.size)
    (hK : ∀ A' c' w', OwnI w' base e A' N c' zs → w.grownBy w' (Value.slice A n c).ownBlock → Below base w w' → K (a.put o.dst (.slice A' N c')) w') :
    if Region.wanted o (yielded ops a.tmps) = true then Oper.wp P o a w K Q else E := by
  have hw : Region.wanted o (yielded ops a.tmps) = true := by simp [Region.wanted, hg]
  rw [if_pos hw]
  exact wp_append_ints s x t hop base e i z ht hi hz hsize hby hzs A n c xs hs hown B A2 m c2 ys hx hr N hN zs hzz hcap hbase fun A' c' w' h1 h2 h3 _ => hK A' c' w' h1 h2 h3

theorem OwnS.step {g base n c : Nat} {A : Option Addr} {us ys : List Int} {w w' : World} (h : OwnS w base A n c us ys) (hs : Step g w w') (hg : g < base) : OwnS w' base A n c us ys := by
  refine ⟨h.1, h.2.1, World.ownsRow.kept h.2.2 hs ?_⟩
  right
  intro e
  have := (World.ownsRow.lt h.2.2 g e).1
  omega
theorem OwnS.base {base base' n c : Nat} {A : Option Addr} {us ys : List Int} {w : World} (h : OwnS w base A n c us ys) (hb : base' ≤ base) : OwnS w base' A n c us ys := by
  refine ⟨h.1, h.2.1, h.2.2.1, ?_⟩
  rcases h.2.2.2 with h0 | ⟨g, cap, cur, hv, hg, r⟩
  · exact .inl h0
  · exact .inr ⟨g, cap, cur, hv, by omega, r⟩
theorem OwnS.cap {base n c : Nat} {A : Option Addr} {us ys : List Int} {w : World} (h : OwnS w base A n c us ys) : n ≤ c := by
  rcases h.2.2.2 with ⟨hv, hn⟩ | ⟨g, cap, cur, hv, _, _, hc, _⟩
  · injection hv; omega
  · injection hv with _ _ h3; omega

/-- 1, 2, .. -/
def ptsL (n : Nat) : List Int := (List.range n).map fun i : Nat => (i : Int) + 1
theorem ptsL_succ (n : Nat) : ptsL (n + 1) = ptsL n ++ [(n : Int) + 1] := by simp [ptsL, List.range_succ]
theorem ptsL_len (n : Nat) : (ptsL n).length = n := by simp [ptsL]
theorem ptsL_at {n j : Nat} (hj : j < n) : (ptsL n).getD j 0 = (j : Int) + 1 := by
  unfold ptsL
  rw [List.getD_eq_getElem?_getD, List.getElem?_map, List.getElem?_range hj]; rfl
theorem ptsL_allP {p : Int} {n : Nat} (h : (n : Int) < p) : allP p (ptsL n) = true := allP_iff.2 fun x hx => by
  obtain ⟨i, hi, rfl⟩ := List.mem_map.1 hx
  have := List.mem_range.1 hi
  omega
theorem ptsL_apart (n : Nat) : Apart2 (ptsL n) := fun j k h1 h2 => by
  rw [ptsL_len] at h2
  rw [ptsL_at (by omega), ptsL_at h2]; omega

end Go.Proofs.Ytoblofilaegnaaa
