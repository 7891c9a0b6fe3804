/-
  The plain law of VectorUnits, no program in sight: a unit list picks an element, and every list is the combination of the unit lists with its own elements. No conditions.
-/
import Derived.Test.YtefgjkkgddeemaaColsA
namespace Go.Proofs.Ytefgjkkgddeemaa
set_option linter.unusedVariables false

/-- A list with a single number. -/
def spikeL (n i : Nat) (v : Int) : List Int := (List.replicate n 0).set i v

theorem spikeL_len (n i : Nat) (v : Int) : (spikeL n i v).length = n := by simp [spikeL]
theorem spikeL_at (n i : Nat) (v : Int) (k : Nat) (hk : k < n) : (spikeL n i v).getD k 0 = if i = k then v else 0 := by
  unfold spikeL
  rw [List.getD_eq_getElem?_getD, List.getElem?_set]
  by_cases h : i = k
  · rw [if_pos h, if_pos h]; simp [h, hk]
  · rw [if_neg h, if_neg h]; simp [hk]

theorem ext_getD {a b : List Int} (h : a.length = b.length) (hk : ∀ k, k < a.length → a.getD k 0 = b.getD k 0) : a = b := by
  apply List.ext_getElem h
  intro i h1 h2
  have := hk i h1
  rwa [List.getD_eq_getElem?_getD, List.getElem?_eq_getElem h1, List.getD_eq_getElem?_getD, List.getElem?_eq_getElem h2] at this

theorem foldl_zeros (p : Int) (hp : 2 ≤ p) (n : Nat) (s : Int) (h0 : 0 ≤ s) (h1 : s < p) : (List.replicate n 0).foldl (addP p) s = s := by
  induction n with
  | zero => rfl
  | succ n ih =>
    rw [List.replicate_succ, List.foldl_cons]
    have : addP p s 0 = s := by unfold addP; rw [Int.add_zero]; exact Int.emod_eq_of_lt h0 h1
    rw [this]; exact ih

theorem sum_spike (p : Int) (hp : 2 ≤ p) (n i : Nat) (v : Int) (hi : i < n) (h0 : 0 ≤ v) (h1 : v < p) : sumP p (spikeL n i v) = v := by
  unfold sumP spikeL
  rw [List.set_eq_take_append_cons_drop, if_pos (by simpa using hi), List.foldl_append, List.foldl_cons, List.take_replicate, List.drop_replicate, foldl_zeros p hp _ 0 (by omega) (by omega)]
  have : addP p 0 v = v := by unfold addP; rw [Int.zero_add]; exact Int.emod_eq_of_lt h0 h1
  rw [this, foldl_zeros p hp _ v h0 h1]

theorem dot_unit_left (p : Int) (hp : 2 ≤ p) (n i : Nat) (l : List Int) (hl : l.length = n) (hi : i < n) (ha : allP p l = true) : dotP p (spikeL n i 1) l = l.getD i 0 := by
  have h := allP_getD ha (k := i) (by omega)
  unfold dotP
  have e : zipI (mulP p) (spikeL n i 1) l = spikeL n i (l.getD i 0) := by
    apply ext_getD
    · rw [zipI_len2 _ _ _ (spikeL_len n i 1) hl, spikeL_len]
    · intro k hk
      rw [zipI_len2 _ _ _ (spikeL_len n i 1) hl] at hk
      rw [zipI_getD _ _ _ _ (by rw [spikeL_len]; exact hk) (by omega), spikeL_at _ _ _ _ hk, spikeL_at _ _ _ _ hk]
      by_cases he : i = k
      · subst he
        rw [if_pos rfl, if_pos rfl]
        unfold mulP; rw [Int.one_mul]; exact Int.emod_eq_of_lt h.1 h.2
      · rw [if_neg he, if_neg he]; unfold mulP; rw [Int.zero_mul]; rfl
  rw [e]; exact sum_spike p hp n i _ hi h.1 h.2

theorem dot_unit_right (p : Int) (hp : 2 ≤ p) (n i : Nat) (l : List Int) (hl : l.length = n) (hi : i < n) (ha : allP p l = true) : dotP p l (spikeL n i 1) = l.getD i 0 := by
  have h := allP_getD ha (k := i) (by omega)
  unfold dotP
  have e : zipI (mulP p) l (spikeL n i 1) = spikeL n i (l.getD i 0) := by
    apply ext_getD
    · rw [zipI_len2 _ _ _ hl (spikeL_len n i 1), spikeL_len]
    · intro k hk
      rw [zipI_len2 _ _ _ hl (spikeL_len n i 1)] at hk
      rw [zipI_getD _ _ _ _ (by omega) (by rw [spikeL_len]; exact hk), spikeL_at _ _ _ _ hk, spikeL_at _ _ _ _ hk]
      by_cases he : i = k
      · subst he
        rw [if_pos rfl, if_pos rfl]
        unfold mulP; rw [Int.mul_one]; exact Int.emod_eq_of_lt h.1 h.2
      · rw [if_neg he, if_neg he]; unfold mulP; rw [Int.mul_zero]; rfl
  rw [e]; exact sum_spike p hp n i _ hi h.1 h.2

/-- The unit lists. -/
def unitsL (n m : Nat) : List (List Int) := (List.range m).map fun i => spikeL n i 1
theorem unitsL_succ (n m : Nat) : unitsL n (m + 1) = unitsL n m ++ [spikeL n m 1] := by simp [unitsL, List.range_succ]
theorem unitsL_len (n m : Nat) : (unitsL n m).length = m := by simp [unitsL]
theorem spikeL_all {p : Int} (hp : 2 ≤ p) (n i : Nat) : allP p (spikeL n i 1) = true := by
  rw [allP_iff]
  intro x hx
  rcases List.mem_or_eq_of_mem_set hx with h | h
  · rw [List.mem_replicate] at h; omega
  · omega
theorem unitsL_ok {p : Int} (hp : 2 ≤ p) (n m : Nat) : ∀ r ∈ unitsL n m, allP p r = true ∧ r.length = n := by
  intro r hr
  obtain ⟨i, _, rfl⟩ := List.mem_map.1 hr
  exact ⟨spikeL_all hp n i, spikeL_len n i 1⟩

theorem col_units (n k : Nat) (hk : k < n) : colP (unitsL n n) k = spikeL n k 1 := by
  apply ext_getD
  · rw [colP_len, unitsL_len, spikeL_len]
  · intro i hi
    rw [colP_len, unitsL_len] at hi
    rw [spikeL_at _ _ _ _ hi]
    have : (colP (unitsL n n) k).getD i 0 = (spikeL n i 1).getD k 0 := by
      simp [colP, unitsL, List.getD_eq_getElem?_getD, hi]
    rw [this, spikeL_at _ _ _ _ hk]
    by_cases h : i = k
    · rw [if_pos h, if_pos h.symm]
    · rw [if_neg h, if_neg (fun e => h e.symm)]

theorem comb_units (p : Int) (hp : 2 ≤ p) (n : Nat) (l : List Int) (hl : l.length = n) (ha : allP p l = true) : combP p l (unitsL n n) n = l := by
  have hlen : (combP p l (unitsL n n) n).length = n := combP_len p l _ n (fun r hr => (unitsL_ok hp n n r hr).2)
  apply ext_getD (by rw [hlen, hl])
  intro k hk
  rw [hlen] at hk
  rw [comb_col p l _ n k (fun r hr => (unitsL_ok hp n n r hr).2) hk, col_units n k hk, dot_unit_right p hp n k l hl hk ha]
end Go.Proofs.Ytefgjkkgddeemaa
