/-
  Go's remainder in plain numbers, no program in sight. No conditions.
-/
namespace Go.Proofs.Ytoblofilaegnaaa

theorem tmod_facts (x k : Int) (hk : 0 < k) : -k < x.tmod k ∧ x.tmod k < k ∧ (x.tmod k < 0 → x.tmod k + k = x % k) ∧ (0 ≤ x.tmod k → x.tmod k = x % k) := by
  have h1 := Int.emod_nonneg x (by omega : k ≠ 0)
  have h2 := Int.emod_lt_of_pos x hk
  rw [Int.tmod_eq_emod]
  have hn : (k.natAbs : Int) = k := by omega
  split <;> rename_i h
  · omega
  · rw [hn]
    have : x % k ≠ 0 := fun h0 => h (Or.inr (Int.dvd_of_emod_eq_zero h0))
    omega

/-- '(n%k + k) % k'. -/
theorem mod_of_go (x k : Int) (hk : 0 < k) : (x.tmod k + k) % k = x % k := by
  have h := tmod_facts x k hk
  rcases Int.lt_or_le (x.tmod k) 0 with h0 | h0
  · rw [h.2.2.1 h0]; exact Int.emod_emod_of_dvd x (Int.dvd_refl k)
  · rw [h.2.2.2 h0, Int.add_emod_right]; exact Int.emod_emod_of_dvd x (Int.dvd_refl k)

end Go.Proofs.Ytoblofilaegnaaa
