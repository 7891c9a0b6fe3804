/-
  The numbers that the program takes for primes are primes, no program in sight: a product that is 0 has a factor that is 0. No conditions.
-/
import Derived.Test.YtoblofilaegnaaaCong
namespace Go.Proofs.Ytoblofilaegnaaa
set_option linter.unusedVariables false

theorem okP_prime {p : Int} (h : okP p = true) {d : Nat} (hd : 2 ≤ d) (hdv : (d : Int) ∣ p) : (d : Int) = p := by
  obtain ⟨h1, h2, h3⟩ := (okP_iff p).1 h
  obtain ⟨k, hk⟩ := hdv
  have hd0 : (0 : Int) < (d : Int) := by omega
  have hk0 : 0 < k := by
    rcases Int.lt_or_le 0 k with h | h
    · exact h
    · have := Int.mul_le_mul_of_nonneg_left h (Int.le_of_lt hd0)
      omega
  obtain ⟨e, rfl⟩ : ∃ e : Nat, k = e := ⟨k.toNat, by omega⟩
  rcases Nat.lt_or_ge e 2 with he | he
  · have : e = 1 := by omega
    subst this; omega
  · exfalso
    rcases Nat.le_total d e with hde | hde
    · have : d * d ≤ d * e := Nat.mul_le_mul_left d hde
      have h5 : ((d * d : Nat) : Int) ≤ p := by rw [hk, ← Int.natCast_mul]; omega
      exact h3 d hd h5 (by rw [hk]; exact Int.mul_emod_right _ _)
    · have : e * e ≤ d * e := Nat.mul_le_mul_right e hde
      have h5 : ((e * e : Nat) : Int) ≤ p := by rw [hk, ← Int.natCast_mul]; omega
      exact h3 e he h5 (by rw [hk]; exact Int.mul_emod_left _ _)

theorem okP_dvd_mul {p : Int} (h : okP p = true) {x y : Int} (hd : p ∣ x * y) : p ∣ x ∨ p ∣ y := by
  have hp := okP_pos h
  by_cases hx : p ∣ x
  · exact .inl hx
  · right
    have hc : Nat.Coprime p.natAbs x.natAbs := by
      have hg1 : Nat.gcd p.natAbs x.natAbs ∣ p.natAbs := Nat.gcd_dvd_left _ _
      have hg2 : Nat.gcd p.natAbs x.natAbs ∣ x.natAbs := Nat.gcd_dvd_right _ _
      have hpos : 0 < Nat.gcd p.natAbs x.natAbs := Nat.gcd_pos_of_pos_left _ (by omega)
      rcases Nat.lt_or_ge (Nat.gcd p.natAbs x.natAbs) 2 with hlt | hge
      · show Nat.gcd p.natAbs x.natAbs = 1
        omega
      · exfalso
        have h5 : ((Nat.gcd p.natAbs x.natAbs : Nat) : Int) ∣ p := Int.natAbs_dvd_natAbs.1 (by simpa using hg1)
        have h6 := okP_prime h hge h5
        apply hx
        rw [← h6]
        exact Int.natAbs_dvd_natAbs.1 (by simpa using hg2)
    have hd2 := Int.natAbs_dvd_natAbs.2 hd
    rw [Int.natAbs_mul] at hd2
    exact Int.natAbs_dvd_natAbs.1 (Nat.Coprime.dvd_of_dvd_mul_left hc hd2)

/-- A product is 0 just where a factor is. -/
theorem Cong.mul_zero {p : Int} (h : okP p = true) {x y : Int} (hc : Cong p (x * y) 0) : Cong p x 0 ∨ Cong p y 0 := by
  rcases okP_dvd_mul h hc.dvd with h1 | h1
  · exact .inl (Cong.of_dvd h1)
  · exact .inr (Cong.of_dvd h1)
theorem Cong.sub_zero {p a b : Int} (h : Cong p (a - b) 0) : Cong p a b := by
  have := h.add (Cong.refl p b)
  rwa [Int.sub_add_cancel, Int.zero_add] at this
theorem Cong.zero_sub {p a b : Int} (h : Cong p a b) : Cong p (a - b) 0 := by
  have := h.sub (Cong.refl p b)
  rwa [Int.sub_self] at this
theorem Cong.cancel {p : Int} (h : okP p = true) {x y z : Int} (hz : ¬ Cong p z 0) (hc : Cong p (x * z) (y * z)) : Cong p x y := by
  have h1 := hc.zero_sub
  rw [← Int.sub_mul] at h1
  rcases Cong.mul_zero h h1 with h2 | h2
  · exact h2.sub_zero
  · exact absurd h2 hz
theorem Cong.elt_zero {p x : Int} (hx : 0 ≤ x ∧ x < p) : Cong p x 0 ↔ x = 0 := by
  constructor
  · intro h; exact h.eq hx (by omega)
  · rintro rfl; exact Cong.refl _ _
end Go.Proofs.Ytoblofilaegnaaa
