/-
  Euclid's steps to the inverse of an element, in plain numbers, no program in sight. No conditions.
-/
import Derived.Test.YtoblofilaegnaaaPrimeA
namespace Go.Proofs.Ytoblofilaegnaaa
set_option linter.unusedVariables false

theorem le_mul_one {x y : Int} (hx : 0 ≤ x) (hy : 1 ≤ y) : x ≤ x * y := by
  have := Int.mul_le_mul_of_nonneg_left hy hx
  rwa [Int.mul_one] at this

/-- What holds between the rounds of Inverse. -/
structure Euc (p a r s x y : Int) : Prop where
  s0 : 0 ≤ s
  sr : s < r
  rp : r ≤ p
  c1 : Cong p (x * a) r
  c2 : Cong p (y * a) s
  sg : (x ≤ 0 ∧ 0 ≤ y ∧ y * r - x * s = p) ∨ (0 ≤ x ∧ y ≤ 0 ∧ x * s - y * r = p)
  bx : -p ≤ x ∧ x ≤ p
  gd : ∀ d : Int, d ∣ r → d ∣ s → d ∣ 1

theorem Euc.start {p a : Int} (h : okP p = true) (ha : 0 < a ∧ a < p) : Euc p a p a 0 1 := by
  have hp := okP_pos h
  refine ⟨by omega, ha.2, Int.le_refl _, by rw [Int.zero_mul]; exact (Cong.self p).symm, by rw [Int.one_mul]; exact Cong.refl _ _, .inl ⟨Int.le_refl _, by omega, by rw [Int.one_mul, Int.zero_mul]; omega⟩, by omega, fun d h1 h2 => ?_⟩
  rcases Nat.lt_or_ge d.natAbs 2 with h3 | h3
  · rcases (by omega : d.natAbs = 0 ∨ d.natAbs = 1) with h4 | h4
    · rw [Int.natAbs_eq_zero.1 h4] at h1
      have := Int.zero_dvd.1 h1
      omega
    · exact Int.natAbs_dvd_natAbs.1 (by rw [h4]; exact Nat.one_dvd _)
  · exfalso
    have h4 := okP_prime h h3 (Int.natAbs_dvd.2 h1)
    have h5 : p ∣ a := by rw [← h4]; exact Int.natAbs_dvd.2 h2
    have := Int.le_of_dvd ha.1 h5
    omega

theorem Euc.by_ {p a r s x y : Int} (h : Euc p a r s x y) : -p ≤ y ∧ y ≤ p := by
  have hr : 1 ≤ r := by have := h.s0; have := h.sr; omega
  rcases h.sg with ⟨h1, h2, h3⟩ | ⟨h1, h2, h3⟩
  · have h4 : x * s ≤ 0 := Int.mul_nonpos_of_nonpos_of_nonneg h1 h.s0
    have := le_mul_one h2 hr
    omega
  · have h4 : 0 ≤ x * s := Int.mul_nonneg h1 h.s0
    have := le_mul_one (x := -y) (by omega) hr
    rw [Int.neg_mul] at this
    omega

theorem Euc.step {p a r s x y : Int} (h : Euc p a r s x y) (hs : 0 < s) : Euc p a s (r - r / s * s) y (x - r / s * y) := by
  have hm : r - r / s * s = r % s := by have := Int.emod_add_mul_ediv r s; rw [Int.mul_comm s] at this; omega
  have hm0 : 0 ≤ r % s := Int.emod_nonneg _ (by omega)
  have hm1 : r % s < s := Int.emod_lt_of_pos _ hs
  have hq : 0 ≤ r / s := Int.ediv_nonneg (by have := h.sr; omega) h.s0
  refine ⟨by omega, by omega, by have := h.sr; have := h.rp; omega, h.c2, ?_, ?_, h.by_, fun d h1 h2 => h.gd d ?_ h1⟩
  · rw [Int.sub_mul, Int.mul_assoc]
    exact h.c1.sub ((Cong.refl p (r / s)).mul h.c2)
  · have e : y * (r - r / s * s) - (x - r / s * y) * s = y * r - x * s := by
      rw [Int.mul_sub, Int.sub_mul, ← Int.mul_assoc, Int.mul_comm y (r / s)]; omega
    rcases h.sg with ⟨h1, h2, h3⟩ | ⟨h1, h2, h3⟩
    · right
      have := Int.mul_nonneg hq h2
      exact ⟨h2, by omega, by rw [e]; exact h3⟩
    · left
      have := Int.mul_nonneg hq (show 0 ≤ -y by omega)
      rw [Int.mul_neg] at this
      refine ⟨h2, by omega, ?_⟩
      have : (x - r / s * y) * s - y * (r - r / s * s) = -(y * (r - r / s * s) - (x - r / s * y) * s) := by omega
      rw [this, e]; omega
  · have : r = (r - r / s * s) + r / s * s := by omega
    rw [this]
    exact Int.dvd_add h2 (Int.dvd_mul_of_dvd_right h1)

theorem Euc.bounds {p a r s x y : Int} (h : Euc p a r s x y) (hs : 0 < s) : (0 ≤ r / s ∧ r / s ≤ p) ∧ (0 ≤ r / s * s ∧ r / s * s ≤ p) ∧ (-(2 * p) ≤ r / s * y ∧ r / s * y ≤ 2 * p) := by
  have hst := h.step hs
  have h1 := hst.by_
  have h2 := h.bx
  have h3 := hst.s0
  have h4 := h.rp
  have h5 : 0 ≤ r / s := Int.ediv_nonneg (by have := h.sr; omega) h.s0
  have h6 := le_mul_one h5 (show 1 ≤ s by omega)
  exact ⟨⟨h5, by omega⟩, ⟨by omega, by omega⟩, by omega, by omega⟩

theorem Euc.done {p a r x y : Int} (h : Euc p a r 0 x y) : Cong p (a * (x % p)) 1 := by
  have hr : r = 1 := by
    have h1 := h.gd r (Int.dvd_refl r) (Int.dvd_zero r)
    have h2 := h.sr
    have := Int.le_of_dvd (by omega) h1
    omega
  have h1 := h.c1
  rw [hr, Int.mul_comm] at h1
  exact ((Cong.refl p a).mul (Cong.mod p x)).trans h1
end Go.Proofs.Ytoblofilaegnaaa
