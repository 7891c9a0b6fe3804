/-
  Fields in plain numbers, no program in sight: which numbers are primes of a field, which lists are elements. No conditions.
-/
namespace Go.Proofs.Ytoblofilaegnaaa

/-- The number is a prime from 2 to 65521, as the program looks for divisors. -/
def okP (p : Int) : Bool := decide (2 ≤ p) && decide (p ≤ 65521) && (List.range 256).all fun d => decide (d < 2) || decide (p < ((d * d : Nat) : Int)) || decide (p % (d : Int) ≠ 0)

theorem okP_iff (p : Int) : okP p = true ↔ 2 ≤ p ∧ p ≤ 65521 ∧ ∀ d : Nat, 2 ≤ d → ((d * d : Nat) : Int) ≤ p → p % (d : Int) ≠ 0 := by
  unfold okP
  simp only [Bool.and_eq_true, decide_eq_true_eq, List.all_eq_true, List.mem_range, Bool.or_eq_true]
  constructor
  · rintro ⟨⟨h1, h2⟩, h3⟩
    refine ⟨h1, h2, fun d hd hdd => ?_⟩
    have hlt : d < 256 := by
      rcases Nat.lt_or_ge d 256 with h | h
      · exact h
      · have : 256 * 256 ≤ d * d := Nat.mul_le_mul h h
        omega
    rcases h3 d hlt with (h | h) | h
    · omega
    · omega
    · exact h
  · rintro ⟨h1, h2, h3⟩
    refine ⟨⟨h1, h2⟩, fun d _ => ?_⟩
    by_cases hd : d < 2
    · exact .inl (.inl hd)
    · by_cases hdd : p < ((d * d : Nat) : Int)
      · exact .inl (.inr hdd)
      · exact .inr (h3 d (by omega) (by omega))

/-- The number is an element. -/
def inP (p a : Int) : Bool := decide (0 ≤ a ∧ a < p)
theorem inP_iff {p a : Int} : inP p a = true ↔ 0 ≤ a ∧ a < p := by simp [inP]

/-- All numbers are elements. -/
def allP (p : Int) (xs : List Int) : Bool := xs.all (inP p)
theorem allP_iff {p : Int} {xs : List Int} : allP p xs = true ↔ ∀ x ∈ xs, 0 ≤ x ∧ x < p := by simp [allP, inP_iff]
theorem allP_nil (p : Int) : allP p [] = true := rfl
theorem allP_getD {p : Int} {xs : List Int} (h : allP p xs = true) {k : Nat} (hk : k < xs.length) : 0 ≤ xs.getD k 0 ∧ xs.getD k 0 < p := by
  rw [List.getD_eq_getElem?_getD, List.getElem?_eq_getElem hk]; exact allP_iff.1 h _ (List.getElem_mem hk)
theorem allP_append {p : Int} {xs ys : List Int} : allP p (xs ++ ys) = true ↔ allP p xs = true ∧ allP p ys = true := by simp [allP]

def mulP (p x y : Int) : Int := x * y % p
def addP (p x y : Int) : Int := (x + y) % p
def subP (p x y : Int) : Int := (x - y + p) % p

theorem mulP_in {p : Int} (x y : Int) (hp : 2 ≤ p) : 0 ≤ mulP p x y ∧ mulP p x y < p := ⟨Int.emod_nonneg _ (by omega), Int.emod_lt_of_pos _ (by omega)⟩
theorem addP_in {p : Int} (x y : Int) (hp : 2 ≤ p) : 0 ≤ addP p x y ∧ addP p x y < p := ⟨Int.emod_nonneg _ (by omega), Int.emod_lt_of_pos _ (by omega)⟩
theorem subP_in {p : Int} (x y : Int) (hp : 2 ≤ p) : 0 ≤ subP p x y ∧ subP p x y < p := ⟨Int.emod_nonneg _ (by omega), Int.emod_lt_of_pos _ (by omega)⟩

theorem okP_pos {p : Int} (h : okP p = true) : 2 ≤ p ∧ p ≤ 65521 := ⟨((okP_iff p).1 h).1, ((okP_iff p).1 h).2.1⟩

/-- The primes that the maker of fields knows. -/
def isKnown (p : Int) : Prop := p = 2 ∨ p = 3 ∨ p = 5 ∨ p = 7 ∨ p = 11 ∨ p = 13 ∨ p = 17 ∨ p = 257 ∨ p = 65521
theorem okP_known {p : Int} (h : isKnown p) : okP p = true := by
  rcases h with rfl | rfl | rfl | rfl | rfl | rfl | rfl | rfl | rfl <;> decide +kernel
def knownL : List Int := [2, 3, 5, 7, 11, 13, 17, 257, 65521]
theorem known_of {j : Nat} (hj : j < 9) : isKnown (knownL.getD j 0) := by
  have : j = 0 ∨ j = 1 ∨ j = 2 ∨ j = 3 ∨ j = 4 ∨ j = 5 ∨ j = 6 ∨ j = 7 ∨ j = 8 := by omega
  rcases this with rfl | rfl | rfl | rfl | rfl | rfl | rfl | rfl | rfl <;> simp [knownL, isKnown]
end Go.Proofs.Ytoblofilaegnaaa
