/-
  The plain law of VectorLinear, no program in sight: combining is linear in the coefficients, and a unit list picks its row. No conditions.
-/
import Derived.Test.YtefgjkkgddeemaaUnitsA
import Derived.Test.YtefgjkkgddeemaaCong
namespace Go.Proofs.Ytefgjkkgddeemaa
set_option linter.unusedVariables false

/-- A sum over the integers. -/
def sumZ (l : List Int) : Int := l.foldr (· + ·) 0
theorem sumZ_cons (c : Int) (l : List Int) : sumZ (c :: l) = c + sumZ l := rfl

theorem foldl_cong (p : Int) (l : List Int) : ∀ s : Int, Cong p (l.foldl (addP p) s) (s + sumZ l) := by
  induction l with
  | nil => intro s; exact Cong.of_eq (by simp [sumZ])
  | cons c l ih =>
    intro s
    rw [List.foldl_cons, sumZ_cons, ← Int.add_assoc]
    exact (ih _).trans ((Cong.addP p s c).add (Cong.refl _ _))
theorem sumP_cong (p : Int) (l : List Int) : Cong p (sumP p l) (sumZ l) := by
  have := foldl_cong p l 0
  rwa [Int.zero_add] at this

/-- An inner product over the integers. -/
def dotZ (a b : List Int) : Int := sumZ (zipI (· * ·) a b)
theorem dotZ_cons (x y : Int) (a b : List Int) : dotZ (x :: a) (y :: b) = x * y + dotZ a b := rfl
theorem dotZ_nil (b : List Int) : dotZ [] b = 0 := rfl
theorem dotZ_nil2 (a : List Int) : dotZ a [] = 0 := by cases a <;> rfl

theorem dotP_cong (p : Int) (a : List Int) : ∀ b, Cong p (dotP p a b) (dotZ a b) := by
  intro b
  refine (sumP_cong p _).trans ?_
  induction a generalizing b with
  | nil => exact Cong.refl _ _
  | cons x a ih => cases b with
    | nil => exact Cong.refl _ _
    | cons y b => exact (Cong.mulP p x y).add (ih b)

theorem dotZ_lin (p x : Int) (a : List Int) : ∀ b c : List Int, a.length = b.length → Cong p (dotZ (zipI (addP p) (scaleP p x a) b) c) (dotZ a c * x + dotZ b c) := by
  induction a with
  | nil => intro b c h; cases b with
    | nil => exact Cong.of_eq (by simp [dotZ, zipI, sumZ, scaleP])
    | cons _ _ => simp at h
  | cons u a ih =>
    intro b c h
    cases b with
    | nil => simp at h
    | cons v b =>
      cases c with
      | nil => simp only [dotZ_nil2]; exact Cong.of_eq (by simp)
      | cons y c =>
        have e : zipI (addP p) (scaleP p x (u :: a)) (v :: b) = addP p (mulP p u x) v :: zipI (addP p) (scaleP p x a) b := rfl
        rw [e, dotZ_cons, dotZ_cons, dotZ_cons]
        have h1 := (((Cong.addP p (mulP p u x) v).trans ((Cong.mulP p u x).add (Cong.refl p v))).mul (Cong.refl p y)).add (ih b c (by simpa using h))
        exact h1.trans (Cong.of_eq (by grind))

theorem comb_lin (p x : Int) (hp : 2 ≤ p) (a b : List Int) (rows : List (List Int)) (w : Nat) (h : a.length = b.length) (hr : ∀ r ∈ rows, r.length = w) :
    combP p (zipI (addP p) (scaleP p x a) b) rows w = zipI (addP p) (scaleP p x (combP p a rows w)) (combP p b rows w) := by
  have l1 := combP_len p (zipI (addP p) (scaleP p x a) b) rows w hr
  have l2 := combP_len p a rows w hr
  have l3 := combP_len p b rows w hr
  have l4 : (scaleP p x (combP p a rows w)).length = w := by rw [scaleP_len, l2]
  apply ext_getD (by rw [l1, zipI_len2 _ _ _ l4 l3])
  intro k hk
  rw [l1] at hk
  have e1 : (scaleP p x (combP p a rows w)).getD k 0 = mulP p ((combP p a rows w).getD k 0) x := by
    simp only [scaleP, List.getD_eq_getElem?_getD, List.getElem?_map]
    rw [List.getElem?_eq_getElem (by omega)]; rfl
  rw [zipI_getD _ _ _ _ (by omega) (by omega), e1, comb_col p _ rows w k hr hk, comb_col p a rows w k hr hk, comb_col p b rows w k hr hk]
  refine Cong.eq ?_ (dotP_in hp _ _) (addP_in _ _ hp)
  refine (dotP_cong p _ _).trans ((dotZ_lin p x a b _ h).trans ?_)
  refine Cong.symm ((Cong.addP p _ _).trans ?_)
  exact ((Cong.mulP p _ x).trans ((dotP_cong p a _).mul (Cong.refl p x))).add (dotP_cong p b _)

theorem comb_pick (p : Int) (hp : 2 ≤ p) (rows : List (List Int)) (n w i : Nat) (hn : rows.length = n) (hi : i < n) (hr : ∀ r ∈ rows, allP p r = true ∧ r.length = w) : combP p (spikeL n i 1) rows w = rows.getD i [] := by
  have l1 := combP_len p (spikeL n i 1) rows w (fun r h => (hr r h).2)
  have hri := hr _ (getD_mem2 (d := []) (show i < rows.length by omega))
  apply ext_getD (by rw [l1, hri.2])
  intro k hk
  rw [l1] at hk
  rw [comb_col p _ rows w k (fun r h => (hr r h).2) hk, dot_unit_left p hp n i _ (by rw [colP_len, hn]) hi (colP_all rows k w hr hk)]
  simp only [colP, List.getD_eq_getElem?_getD, List.getElem?_map]
  rw [List.getElem?_eq_getElem (by omega)]; rfl
end Go.Proofs.Ytefgjkkgddeemaa
