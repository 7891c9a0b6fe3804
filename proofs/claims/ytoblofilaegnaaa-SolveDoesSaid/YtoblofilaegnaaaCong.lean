/-
  Reckoning modulo a number, no program in sight: congruence, sums and products, the value of a polynomial over the integers. No conditions.
-/
import Derived.Test.YtoblofilaegnaaaValueA
import Derived.Test.YtoblofilaegnaaaVecA
namespace Go.Proofs.Ytoblofilaegnaaa

/-- Congruence. -/
def Cong (p a b : Int) : Prop := a % p = b % p

section
variable {p a b c d : Int}
theorem Cong.refl (p a : Int) : Cong p a a := rfl
theorem Cong.symm (h : Cong p a b) : Cong p b a := Eq.symm h
theorem Cong.trans (h : Cong p a b) (k : Cong p b c) : Cong p a c := Eq.trans h k
theorem Cong.of_eq (h : a = b) : Cong p a b := by rw [h]; rfl
theorem Cong.add (h : Cong p a b) (k : Cong p c d) : Cong p (a + c) (b + d) := by
  unfold Cong at *; rw [Int.add_emod, h, k, ← Int.add_emod]
theorem Cong.mul (h : Cong p a b) (k : Cong p c d) : Cong p (a * c) (b * d) := by
  unfold Cong at *; rw [Int.mul_emod, h, k, ← Int.mul_emod]
theorem Cong.neg (h : Cong p a b) : Cong p (-a) (-b) := by
  have := (Cong.refl p (-1)).mul h
  rwa [Int.neg_one_mul, Int.neg_one_mul] at this
theorem Cong.sub (h : Cong p a b) (k : Cong p c d) : Cong p (a - c) (b - d) := by
  rw [Int.sub_eq_add_neg, Int.sub_eq_add_neg]; exact h.add k.neg
theorem Cong.mod (p a : Int) : Cong p (a % p) a := Int.emod_emod_of_dvd a (Int.dvd_refl p)
theorem Cong.self (p : Int) : Cong p p 0 := by unfold Cong; simp
theorem Cong.eq (h : Cong p a b) (ha : 0 ≤ a ∧ a < p) (hb : 0 ≤ b ∧ b < p) : a = b := by
  unfold Cong at h; rwa [Int.emod_eq_of_lt ha.1 ha.2, Int.emod_eq_of_lt hb.1 hb.2] at h
theorem Cong.mulP (p a b : Int) : Cong p (mulP p a b) (a * b) := Cong.mod p _
theorem Cong.addP (p a b : Int) : Cong p (addP p a b) (a + b) := Cong.mod p _
theorem Cong.subP (p a b : Int) : Cong p (subP p a b) (a - b) := by
  have := (Cong.mod p (a - b + p)).trans ((Cong.refl p (a - b)).add (Cong.self p))
  rwa [Int.add_zero] at this
theorem Cong.dvd (h : Cong p a 0) : p ∣ a := by
  unfold Cong at h; rw [Int.zero_emod] at h; exact Int.dvd_of_emod_eq_zero h
theorem Cong.of_dvd (h : p ∣ a) : Cong p a 0 := by
  unfold Cong; rw [Int.zero_emod]; exact Int.emod_eq_zero_of_dvd h
end

/-- A polynomial's value over the integers. -/
def polyZ (x : Int) (l : List Int) : Int := l.foldr (fun c s => s * x + c) 0
theorem polyZ_cons (x c : Int) (l : List Int) : polyZ x (c :: l) = polyZ x l * x + c := rfl
theorem valueP_cons (p x c : Int) (l : List Int) : valueP p x (c :: l) = addP p (mulP p (valueP p x l) x) c := rfl

theorem valueP_cong (p x : Int) (l : List Int) : Cong p (valueP p x l) (polyZ x l) := by
  induction l with
  | nil => exact Cong.refl _ _
  | cons c l ih => rw [valueP_cons, polyZ_cons]; exact (Cong.addP _ _ _).trans (((Cong.mulP _ _ _).trans (ih.mul (Cong.refl _ _))).add (Cong.refl _ _))

/-- Congruent coefficients, congruent values. -/
theorem polyZ_cong {p x : Int} {l m : List Int} (h : l.length = m.length) (hc : ∀ i, i < l.length → Cong p (l.getD i 0) (m.getD i 0)) : Cong p (polyZ x l) (polyZ x m) := by
  induction l generalizing m with
  | nil => cases m with
    | nil => exact Cong.refl _ _
    | cons _ _ => simp at h
  | cons c l ih =>
    cases m with
    | nil => simp at h
    | cons d m =>
      rw [polyZ_cons, polyZ_cons]
      have h0 := hc 0 (by simp)
      simp at h0
      exact ((ih (by simpa using h) (fun i hi => by have := hc (i + 1) (by simp; omega); simpa using this)).mul (Cong.refl _ _)).add h0
end Go.Proofs.Ytoblofilaegnaaa
