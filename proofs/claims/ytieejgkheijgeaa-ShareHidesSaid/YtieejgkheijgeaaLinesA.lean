/-
  The plain law of DigestLines, no program in sight: linear digests are linear, and at 0 the first element. No conditions.
-/
import Derived.Test.YtieejgkheijgeaaCong
namespace Go.Proofs.Ytieejgkheijgeaa
set_option linter.unusedVariables false

theorem polyZ_lin (p pt x : Int) (a b : List Int) (h : a.length = b.length) : Cong p (polyZ pt (zipI (addP p) (scaleP p x a) b)) (polyZ pt a * x + polyZ pt b) := by
  induction a generalizing b with
  | nil => cases b with
    | nil => exact Cong.of_eq (by simp [polyZ, zipI, scaleP])
    | cons _ _ => simp at h
  | cons c a ih =>
    cases b with
    | nil => simp at h
    | cons d b =>
      have e : zipI (addP p) (scaleP p x (c :: a)) (d :: b) = addP p (mulP p c x) d :: zipI (addP p) (scaleP p x a) b := rfl
      rw [e, polyZ_cons, polyZ_cons, polyZ_cons]
      have h1 := ((ih b (by simpa using h)).mul (Cong.refl p pt)).add ((Cong.addP p (mulP p c x) d).trans ((Cong.mulP p c x).add (Cong.refl p d)))
      exact h1.trans (Cong.of_eq (by grind))

theorem lines_lin (p pt x : Int) (hp : 2 ≤ p) (a b : List Int) (h : a.length = b.length) : valueP p pt (zipI (addP p) (scaleP p x a) b) = (valueP p pt a * x + valueP p pt b) % p := by
  refine Cong.eq ?_ (valueP_in hp _ _) ⟨Int.emod_nonneg _ (by omega), Int.emod_lt_of_pos _ (by omega)⟩
  refine (valueP_cong _ _ _).trans ((polyZ_lin p pt x a b h).trans ?_)
  exact (((valueP_cong p pt a).symm.mul (Cong.refl _ _)).add (valueP_cong p pt b).symm).trans (Cong.mod _ _).symm

theorem lines_zero (p : Int) (hp : 2 ≤ p) (a : List Int) (h : 0 < a.length) (ha : allP p a = true) : valueP p 0 a = a.getD 0 0 := by
  cases a with
  | nil => simp at h
  | cons c a =>
    rw [valueP_cons]
    have hc := allP_getD ha (k := 0) (by simp)
    simp at hc
    simp only [mulP, addP, Int.mul_zero, Int.zero_emod, Int.zero_add]
    rw [Int.emod_eq_of_lt hc.1 hc.2]; rfl
end Go.Proofs.Ytieejgkheijgeaa
