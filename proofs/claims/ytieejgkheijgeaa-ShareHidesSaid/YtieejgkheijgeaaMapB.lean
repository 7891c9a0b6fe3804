/-
  A look-up in a map[K]bool that the call itself made. No conditions.
-/
import Derived.Test.YtieejgkheijgeaaMem
import Derived.Maps.OwnSet
import Derived.Maps.OwnOps
import Derived.Maps.Views
namespace Go.Proofs.Ytieejgkheijgeaa
open Go.RowKit
open Go.Maps
set_option linter.unusedVariables false

theorem plainElem_bool_inv {H : Type} {P : Program} {e : TypeId} (he : P.underlying e = some .bool) {v : Value} {z : DataW H × List MemPlace} (h : plainElem P e v = some z) : ∃ x, v = .bool x ∧ z = (.lit (.bool x), []) := by
  unfold plainElem at h
  rw [he] at h
  cases v <;> simp at h
  exact ⟨_, rfl, h.symm⟩

theorem wpList_lookup_own_bool {H : Type} {P : Program} (w : World) {ops : Array Oper} {rest : List Oper} {o : Oper} {a : Act} {Q : Exit → Act → World → Prop}
    (hg : o.guard = none) (m x : Operand) (t : TypeId) (hop : o.op = Op.lookup t m x false)
    (k e : TypeId) (K : Keyed P k) (ht : P.underlying t = some (.map k e)) (he : P.underlying e = some .bool) (hz : (zeroValue e).run P w = .ok (.bool false) w) (b n : Nat) (D : DataW H)
    (hm : a.eval m = .map (some b)) (hown : w.ownsMap P k (plainElem P e) b n D) (key : Value) (kl : Lit) (hx : a.eval x = key) (hkey : keyOf P k key = some kl)
    (hK : ∀ c : Bool, D.atKey kl (.lit (.bool false)) = .lit (.bool c) → wpList P ops Q rest (a.put o.dst (.bool c)) w) :
    wpList P ops Q (o :: rest) a w := by
  refine wpList_plain hg fun K' hK' => ?_
  obtain ⟨v, ps, hrun, hv⟩ := hown.lookup K ht hz (plainElem_bool he false) hkey
  obtain ⟨c, rfl, hc⟩ := plainElem_bool_inv he hv
  simp only [Prod.mk.injEq] at hc
  unfold Oper.wp
  simp [execOp, hop, hm, hx, hrun, Result.andThen]
  exact hK' _ _ (hK c hc.1)

/-- None of some keys is in a set. -/
def Unseen (D : DataW Unit) (seen : List Int) : Prop := ∀ x : Int, x ∉ seen → D.atKey (.int .i64 x) (.lit (.bool false)) = .lit (.bool false)
theorem Unseen.start : Unseen (.map []) [] := fun x _ => rfl
theorem Unseen.step {D : DataW Unit} {seen : List Int} (h : Unseen D seen) (a : Int) : Unseen (D.put (.int .i64 a) (.lit (.bool true))) (seen ++ [a]) := fun x hx => by
  have h1 : x ∉ seen ∧ x ≠ a := by simpa using hx
  rw [atKey_put_other (fun e => h1.2 (by injection e))]
  exact h x h1.1
end Go.Proofs.Ytieejgkheijgeaa
