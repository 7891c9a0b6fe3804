/-
  Tapes in plain numbers, no program in sight: what is drawn, or the error. No conditions.
-/
namespace Go.Proofs.Ytdklcgpjdajkmaa
set_option linter.unusedVariables false

def limT (n : Int) : Bool := decide (1 ≤ n ∧ n ≤ 2147483647)
def validT (m : Nat) (a : Int) : Bool := decide (m ≤ 16384 ∧ 0 ≤ a ∧ a ≤ m)
/-- The error of drawing one number below n at place a. -/
def nextE (xs : List Int) (n : Int) (a : Nat) : Int := if a = xs.length then 3 else if xs.getD a 0 < 0 ∨ n ≤ xs.getD a 0 then 8 else 0
def nextV (xs : List Int) (n : Int) (a : Nat) : Int := if nextE xs n a = 0 then xs.getD a 0 else 0
/-- The error of drawing some numbers. -/
def drawE (xs : List Int) (n : Int) : Nat → Nat → Int
  | _, 0 => 0
  | a, k + 1 => if nextE xs n a = 0 then drawE xs n (a + 1) k else nextE xs n a
/-- The error of Draws. -/
def drawsE (xs : List Int) (m : Nat) (a n count : Int) : Int := if validT m a = false then 2 else if limT n = false ∨ count < 0 then 1 else drawE xs n a.toNat count.toNat

theorem drawE_ok {xs : List Int} {n : Int} : ∀ (k a : Nat), a ≤ xs.length → (drawE xs n a k = 0 ↔ a + k ≤ xs.length ∧ ∀ j, a ≤ j → j < a + k → 0 ≤ xs.getD j 0 ∧ xs.getD j 0 < n) := by
  intro k
  induction k with
  | zero => intro a ha; simp only [drawE, true_iff]; exact ⟨by omega, fun j _ _ => by omega⟩
  | succ k ih =>
    intro a ha
    simp only [drawE]
    by_cases hl : a = xs.length
    · have : nextE xs n a = 3 := by unfold nextE; rw [if_pos hl]
      rw [this]; simp; omega
    · by_cases hb : xs.getD a 0 < 0 ∨ n ≤ xs.getD a 0
      · have : nextE xs n a = 8 := by unfold nextE; rw [if_neg hl, if_pos hb]
        rw [this]
        constructor
        · intro h; simp at h
        · intro h; have := h.2 a (Nat.le_refl _) (by omega); omega
      · have : nextE xs n a = 0 := by unfold nextE; rw [if_neg hl, if_neg hb]
        rw [if_pos this, ih (a + 1) (by omega)]
        constructor
        · intro h
          refine ⟨by omega, fun j h1 h2 => ?_⟩
          by_cases hj : j = a
          · rw [hj]; omega
          · exact h.2 j (by omega) (by omega)
        · intro h
          exact ⟨by omega, fun j h1 h2 => h.2 j (by omega) (by omega)⟩

theorem nextE_zero {xs : List Int} {n : Int} {a : Nat} (ha : a < xs.length) (h0 : 0 ≤ xs.getD a 0) (h1 : xs.getD a 0 < n) : nextE xs n a = 0 := by
  unfold nextE; rw [if_neg (by omega), if_neg (by omega)]
theorem nextE_cases (xs : List Int) (n : Int) (a : Nat) : nextE xs n a = 0 ∨ nextE xs n a = 3 ∨ nextE xs n a = 8 := by
  unfold nextE; split <;> (try split) <;> simp
theorem drawE_step (xs : List Int) (n : Int) (a : Nat) {k c : Nat} (hk : k < c) : drawE xs n (a + k) (c - k) = if nextE xs n (a + k) = 0 then drawE xs n (a + (k + 1)) (c - (k + 1)) else nextE xs n (a + k) := by
  obtain ⟨d, hd⟩ : ∃ d, c - k = d + 1 := ⟨c - k - 1, by omega⟩
  rw [hd, show c - (k + 1) = d by omega]; rfl
theorem drop_take_succ (xs : List Int) (a k : Nat) (h : a + k < xs.length) : (xs.drop a).take (k + 1) = (xs.drop a).take k ++ [xs.getD (a + k) 0] := by
  rw [List.take_add_one, List.getElem?_drop, List.getD_eq_getElem?_getD, List.getElem?_eq_getElem h]; rfl
end Go.Proofs.Ytdklcgpjdajkmaa
