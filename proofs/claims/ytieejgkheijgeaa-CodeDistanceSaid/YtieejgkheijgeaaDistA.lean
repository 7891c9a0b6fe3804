/-
  How many places two words differ at, no program in sight. No conditions.
-/
import Derived.Test.YtieejgkheijgeaaZerosA
import Derived.Test.YtieejgkheijgeaaShareA
import Derived.Test.YtieejgkheijgeaaSplit
namespace Go.Proofs.Ytieejgkheijgeaa
set_option linter.unusedVariables false

/-- At how many of the first places two lists differ. -/
def dif (a b : List Int) : Nat → Nat
  | 0 => 0
  | k + 1 => dif a b k + if a.getD k 0 = b.getD k 0 then 0 else 1
theorem dif_le (a b : List Int) : ∀ k, dif a b k ≤ k
  | 0 => Nat.le_refl _
  | k + 1 => by
    have := dif_le a b k
    unfold dif
    split <;> omega

/-- Where the two agree. -/
def sameAt (p : Int) (P Q : List Int) (N : Nat) : List Int := (ptsL N).filter fun u => decide (valueP p u P = valueP p u Q)
theorem dif_same (p : Int) (P Q : List Int) (N : Nat) : ∀ k, k ≤ N → dif (valsP p P (ptsL N)) (valsP p Q (ptsL N)) k + (sameAt p P Q k).length = k
  | 0, _ => rfl
  | k + 1, h => by
    have ih := dif_same p P Q N k (by omega)
    have hk : k < (ptsL N).length := by rw [ptsL_len]; omega
    unfold dif sameAt
    rw [ptsL_succ, List.filter_append, List.length_append, valsP_at p P _ hk, valsP_at p Q _ hk, ptsL_at (by omega)]
    unfold sameAt at ih
    by_cases e : valueP p ((k : Int) + 1) P = valueP p ((k : Int) + 1) Q
    · simp only [e, if_true, List.filter_cons, decide_true, List.filter_nil, List.length_cons, List.length_nil]; omega
    · simp only [e, if_false, List.filter_cons, decide_false, List.filter_nil]
      simp; omega

/-- Words of two polynomials differ at least at as many places as the distance. -/
theorem dif_least {p : Int} (hok : okP p = true) {P Q : List Int} {N k : Nat} (hP : allP p P = true) (hQ : allP p Q = true) (hlP : P.length = k) (hlQ : Q.length = k) (hN : (N : Int) < p) (hne : P ≠ Q) :
    N + 1 ≤ dif (valsP p P (ptsL N)) (valsP p Q (ptsL N)) N + k := by
  have h1 := dif_same p P Q N N (Nat.le_refl _)
  apply Nat.le_of_not_lt
  intro hlt
  have hk : k ≤ (sameAt p P Q N).length := by omega
  have hsub : (sameAt p P Q N).Sublist (ptsL N) := List.filter_sublist
  have hpw := (pairwise_of (ptsL_allP hN) (ptsL_apart N)).sublist hsub
  refine hne (cf_ext (by rw [hlP, hlQ]) (same_cfs hok hpw hP hQ (by omega) (by omega) fun x hx => ?_))
  have := (List.mem_filter.1 hx).2
  simpa using this

/-- And some differ at no more. -/
theorem dif_most {p : Int} (hok : okP p = true) {P Z : List Int} {N k : Nat} (hZ : Zer p (ptsL k) Z) (hkN : k ≤ N) (hN : (N : Int) < p) : ∀ j, j ≤ N → dif (valsP p P (ptsL N)) (valsP p (addL p P Z) (ptsL N)) j + min j k = j
  | 0, _ => by simp [dif]
  | j + 1, h => by
    have ih := dif_most hok (P := P) hZ hkN hN j (by omega)
    have hp := (okP_pos hok).1
    have hj : j < (ptsL N).length := by rw [ptsL_len]; omega
    have hz := hZ.zero hok (ptsL_allP (by omega)) (x := (j : Int) + 1) (by omega)
    have hm : (j : Int) + 1 ∈ ptsL k ↔ j < k := by
      constructor
      · intro hm
        obtain ⟨i, hi, e⟩ := List.mem_map.1 hm
        have := List.mem_range.1 hi
        omega
      · intro hm
        exact List.mem_map.2 ⟨j, List.mem_range.2 hm, rfl⟩
    have hv := valueP_in hp ((j : Int) + 1) Z
    have hu := valueP_in hp ((j : Int) + 1) P
    unfold dif
    rw [valsP_at p P _ hj, valsP_at p (addL p P Z) _ hj, ptsL_at (by omega), value_addL hp]
    by_cases hjk : j < k
    · rw [decide_eq_true (hm.2 hjk)] at hz
      have h0 : valueP p ((j : Int) + 1) Z = 0 := by simpa using hz
      rw [h0, Int.add_zero, Int.emod_eq_of_lt hu.1 hu.2, if_pos rfl]
      omega
    · rw [decide_eq_false (fun hh => hjk (hm.1 hh))] at hz
      have h0 : valueP p ((j : Int) + 1) Z ≠ 0 := by simpa using hz
      rw [if_neg]
      · omega
      · intro e
        by_cases hs : valueP p ((j : Int) + 1) P + valueP p ((j : Int) + 1) Z < p
        · rw [Int.emod_eq_of_lt (by omega) hs] at e; omega
        · have h2 : (valueP p ((j : Int) + 1) P + valueP p ((j : Int) + 1) Z) % p = valueP p ((j : Int) + 1) P + valueP p ((j : Int) + 1) Z - p := by
            rw [← Int.sub_emod_right, Int.emod_eq_of_lt (by omega) (by omega)]
          rw [h2] at e; omega
end Go.Proofs.Ytieejgkheijgeaa
