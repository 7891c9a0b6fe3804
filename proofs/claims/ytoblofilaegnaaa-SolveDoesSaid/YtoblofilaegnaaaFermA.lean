/-
  Powers modulo a prime, no program in sight: a^(p-1) is 1 (Fermat), so a^(p-2) is the inverse; inverses are unique. No conditions.
-/
import Derived.Test.YtoblofilaegnaaaPrimeA
namespace Go.Proofs.Ytoblofilaegnaaa
set_option linter.unusedVariables false

def prodN (l : List Nat) : Int := l.foldr (fun (x : Nat) (s : Int) => (x : Int) * s) 1
theorem prodN_cons (x : Nat) (l : List Nat) : prodN (x :: l) = (x : Int) * prodN l := rfl
theorem prodN_erase {a : Nat} : ∀ {l : List Nat}, a ∈ l → prodN l = (a : Int) * prodN (l.erase a)
  | x :: l, h => by
    by_cases hx : x = a
    · subst hx; rw [List.erase_cons_head]; rfl
    · have hm : a ∈ l := by
        rcases List.mem_cons.1 h with h1 | h1
        · exact absurd h1.symm hx
        · exact h1
      rw [List.erase_cons_tail (by simpa using hx), prodN_cons, prodN_cons, prodN_erase hm, Int.mul_left_comm]
theorem erase_nodup {l : List Nat} (h : l.Nodup) (a : Nat) : (l.erase a).Nodup := h.erase a
theorem len_le_of_range : ∀ (n : Nat) {l : List Nat}, l.Nodup → (∀ x ∈ l, 1 ≤ x ∧ x ≤ n) → l.length ≤ n := by
  intro n
  induction n with
  | zero =>
    intro l _ h
    cases l with
    | nil => exact Nat.le_refl _
    | cons x l => have := h x List.mem_cons_self; omega
  | succ n ih =>
    intro l hn h
    by_cases hm : n + 1 ∈ l
    · have h1 := ih (erase_nodup hn (n + 1)) (fun x hx => by
        have h2 := h x (List.mem_of_mem_erase hx)
        have h3 : x ≠ n + 1 := fun e => by subst e; exact (hn.not_mem_erase) hx
        omega)
      rw [List.length_erase_of_mem hm] at h1
      omega
    · have := ih hn (fun x hx => by
        have h2 := h x hx
        have h3 : x ≠ n + 1 := fun e => by subst e; exact hm hx
        omega)
      omega
def factZ : Nat → Int
  | 0 => 1
  | n + 1 => ((n + 1 : Nat) : Int) * factZ n
theorem prod_range : ∀ (n : Nat) {l : List Nat}, l.Nodup → (∀ x ∈ l, 1 ≤ x ∧ x ≤ n) → l.length = n → prodN l = factZ n := by
  intro n
  induction n with
  | zero =>
    intro l _ _ hl
    rw [List.eq_nil_of_length_eq_zero hl]; rfl
  | succ n ih =>
    intro l hn h hl
    by_cases hm : n + 1 ∈ l
    · rw [prodN_erase hm, ih (erase_nodup hn (n + 1)) (fun x hx => by
        have h2 := h x (List.mem_of_mem_erase hx)
        have h3 : x ≠ n + 1 := fun e => by subst e; exact (hn.not_mem_erase) hx
        omega) (by rw [List.length_erase_of_mem hm]; omega)]
      rfl
    · exfalso
      have := len_le_of_range n hn (fun x hx => by
        have h2 := h x hx
        have h3 : x ≠ n + 1 := fun e => by subst e; exact hm hx
        omega)
      omega

/-- Each element times a. -/
def timesN (p a : Int) (n : Nat) : List Nat := (List.range n).map fun i : Nat => (a * ((i : Int) + 1) % p).toNat
theorem timesN_prod {p : Int} (hp : 2 ≤ p) (a : Int) : ∀ n, Cong p (prodN ((List.range n).reverse.map fun i : Nat => (a * ((i : Int) + 1) % p).toNat)) (a ^ n * factZ n)
  | 0 => by rw [Int.pow_zero]; exact Cong.refl _ _
  | n + 1 => by
    rw [List.range_succ, List.reverse_append, List.reverse_cons, List.reverse_nil, List.nil_append, List.map_append]
    show Cong p (((a * ((n : Int) + 1) % p).toNat : Int) * prodN ((List.range n).reverse.map fun i : Nat => (a * ((i : Int) + 1) % p).toNat)) _
    have h1 : ((a * ((n : Int) + 1) % p).toNat : Int) = a * ((n : Int) + 1) % p := Int.toNat_of_nonneg (Int.emod_nonneg _ (by omega))
    rw [h1]
    refine ((Cong.mod p _).mul (timesN_prod hp a n)).trans (Cong.of_eq ?_)
    show _ = a ^ (n + 1) * (((n + 1 : Nat) : Int) * factZ n)
    rw [Int.pow_succ]
    have : ((n + 1 : Nat) : Int) = (n : Int) + 1 := by omega
    rw [this]
    simp only [Int.mul_assoc, Int.mul_comm, Int.mul_left_comm]

theorem pow_zero_not {p a : Int} (h : okP p = true) (ha : ¬ Cong p a 0) (k : Nat) : ¬ Cong p (a ^ k) 0 := by
  induction k with
  | zero =>
    intro h1
    have hp := okP_pos h
    rw [Int.pow_zero] at h1
    have := Int.le_of_dvd (by decide) h1.dvd
    omega
  | succ k ih =>
    intro h1
    rw [Int.pow_succ] at h1
    rcases Cong.mul_zero h h1 with h2 | h2
    · exact ih h2
    · exact ha h2
theorem fact_not {p : Int} (h : okP p = true) : ∀ n : Nat, (n : Int) < p → ¬ Cong p (factZ n) 0
  | 0, _, h1 => by
    have hp := okP_pos h
    have h2 : Cong p 1 0 := h1
    have := Int.le_of_dvd (by decide) h2.dvd
    omega
  | n + 1, hn, h1 => by
    rcases Cong.mul_zero h h1 with h2 | h2
    · rw [Cong.elt_zero (by omega)] at h2; omega
    · exact fact_not h n (by omega) h2

theorem nodup_rev (n : Nat) : (List.range n).reverse.Pairwise fun x y => x ≠ y := by
  rw [List.pairwise_reverse]
  exact (List.nodup_range (n := n)).imp fun h e => h e.symm
theorem fermat {p a : Int} (h : okP p = true) (ha : ¬ Cong p a 0) : Cong p (a ^ (p - 1).toNat) 1 := by
  have hp := okP_pos h
  obtain ⟨n, hn⟩ : ∃ n : Nat, p - 1 = n := ⟨(p - 1).toNat, by omega⟩
  have h1 := timesN_prod (show 2 ≤ p by omega) a n
  have hinj : ∀ i j : Nat, i < n → j < n → (a * ((i : Int) + 1) % p).toNat = (a * ((j : Int) + 1) % p).toNat → i = j := by
    intro i j hi hj e
    have e1 : a * ((i : Int) + 1) % p = a * ((j : Int) + 1) % p := by
      have h2 := Int.emod_nonneg (a * ((i : Int) + 1)) (show p ≠ 0 by omega)
      have h3 := Int.emod_nonneg (a * ((j : Int) + 1)) (show p ≠ 0 by omega)
      omega
    have e2 : Cong p (((i : Int) + 1) * a) (((j : Int) + 1) * a) := by rw [Int.mul_comm _ a, Int.mul_comm _ a]; exact e1
    have e3 := (Cong.cancel h ha e2).eq (by omega) (by omega)
    omega
  have h2 : prodN ((List.range n).reverse.map fun i : Nat => (a * ((i : Int) + 1) % p).toNat) = factZ n := by
    refine prod_range n ?_ ?_ (by simp)
    · rw [List.Nodup, List.pairwise_map]
      refine List.Pairwise.imp_of_mem (R := fun x y => x ≠ y) ?_ (nodup_rev n)
      intro x y hx hy hne e
      rw [List.mem_reverse, List.mem_range] at hx hy
      exact hne (hinj x y hx hy e)
    · intro x hx
      obtain ⟨i, hi, rfl⟩ := List.mem_map.1 hx
      rw [List.mem_reverse, List.mem_range] at hi
      have h3 := Int.emod_nonneg (a * ((i : Int) + 1)) (show p ≠ 0 by omega)
      have h4 := Int.emod_lt_of_pos (a * ((i : Int) + 1)) (show 0 < p by omega)
      have h5 : a * ((i : Int) + 1) % p ≠ 0 := by
        intro e
        have e2 : Cong p (a * ((i : Int) + 1)) 0 := by unfold Cong; rw [e]; simp
        rcases Cong.mul_zero h e2 with e3 | e3
        · exact ha e3
        · rw [Cong.elt_zero (by omega)] at e3; omega
      omega
  rw [h2] at h1
  rw [hn, Int.toNat_natCast]
  have h6 : Cong p (a ^ n * factZ n) (1 * factZ n) := by rw [Int.one_mul]; exact h1.symm
  exact Cong.cancel h (fact_not h n (by omega)) h6

theorem inv_pow {p a : Int} (h : okP p = true) (ha : 0 < a ∧ a < p) : Cong p (a * a ^ (p - 2).toNat) 1 := by
  have hp := okP_pos h
  have h1 := fermat h (a := a) (by rw [Cong.elt_zero (by omega)]; omega)
  have h2 : (p - 1).toNat = (p - 2).toNat + 1 := by omega
  rw [h2, Int.pow_succ, Int.mul_comm] at h1
  exact h1

theorem inv_unique {p a u v : Int} (h : okP p = true) (hu : 0 ≤ u ∧ u < p) (hv : 0 ≤ v ∧ v < p) (h1 : Cong p (a * u) 1) (h2 : Cong p (a * v) 1) : u = v := by
  have ha : ¬ Cong p a 0 := by
    intro h3
    have h4 := (h3.mul (Cong.refl p u)).symm.trans h1
    rw [Int.zero_mul] at h4
    have hp := okP_pos h
    have := (Int.le_of_dvd (by decide) h4.symm.dvd)
    omega
  refine (Cong.cancel h ha (x := u) (y := v) ?_).eq hu hv
  rw [Int.mul_comm u, Int.mul_comm v]
  exact h1.trans h2.symm

/-- Half of an exponent. -/
theorem pow_half (a : Int) (n : Nat) : a ^ n = (a * a) ^ (n / 2) * (if n % 2 = 1 then a else 1) := by
  have h2 : ∀ k : Nat, (a * a) ^ k = a ^ (2 * k) := by
    intro k
    induction k with
    | zero => simp
    | succ k ih => rw [Int.pow_succ, ih, show 2 * (k + 1) = 2 * k + 1 + 1 by omega, Int.pow_succ, Int.pow_succ, Int.mul_assoc]
  rw [h2]
  by_cases h : n % 2 = 1
  · rw [if_pos h, ← Int.pow_succ]; congr 1; omega
  · rw [if_neg h, Int.mul_one]; congr 1; omega
theorem Cong.pow {p a b : Int} (h : Cong p a b) : ∀ n : Nat, Cong p (a ^ n) (b ^ n)
  | 0 => by rw [Int.pow_zero, Int.pow_zero]; exact Cong.refl _ _
  | n + 1 => by rw [Int.pow_succ, Int.pow_succ]; exact (Cong.pow h n).mul h
/-- One step of the power's loop: what is made, times the base to the rest, stays. -/
theorem pow_step {p x a : Int} {n : Nat} {g : Int} (h : Cong p (x * a ^ n) g) : Cong p ((if n % 2 = 1 then x * a % p else x) * (a * a % p) ^ (n / 2)) g := by
  refine Cong.trans ?_ h
  rw [pow_half a n]
  have h1 : Cong p ((a * a % p) ^ (n / 2)) ((a * a) ^ (n / 2)) := Cong.pow (Cong.mod p (a * a)) _
  by_cases hn : n % 2 = 1
  · rw [if_pos hn, if_pos hn]
    refine ((Cong.mod p _).mul h1).trans (Cong.of_eq ?_)
    simp only [Int.mul_assoc, Int.mul_comm]
  · rw [if_neg hn, if_neg hn, Int.mul_one]
    exact (Cong.refl p x).mul h1
end Go.Proofs.Ytoblofilaegnaaa
