/-
  The queries of all tapes, counted, no program in sight: for 2 and 3 elements, two and three servers and few rows. No conditions.
-/
import Derived.Test.YtefgjkkgddeemaaCnt
import Derived.Test.YtefgjkkgddeemaaPQue
namespace Go.Proofs.Ytefgjkkgddeemaa
set_option linter.unusedVariables false

/-- A row's numbers behind a number. -/
def uRow (p : Int) (q : List Int) (u : Int) : Nat → Int
  | 0 => u
  | m + 1 => uRow p q u m * p + q.getD m 0
/-- Some rows, but one, as one number. -/
def uAll (p : Int) (n : Nat) (QS : List (List Int)) (gone : Nat) : Nat → Int
  | 0 => 0
  | j + 1 => if j = gone then uAll p n QS gone j else uRow p (QS.getD j []) (uAll p n QS gone j) n
/-- The queries that the tape with a number leads to. -/
def qsOf (p : Int) (n s1 a k : Nat) : List (List Int) := chunkL (digN p k (s1 * n)) n s1 ++ [lastQ p n a (chunkL (digN p k (s1 * n)) n s1)]
def cF (p : Int) (n s1 gone a k : Nat) : Int := uAll p n (qsOf p n s1 a k) gone (s1 + 1)
/-- How often each number came, behind k tapes. -/
def cL (p : Int) (n s1 gone a T : Nat) : Nat → List Int
  | 0 => List.replicate T 0
  | k + 1 => (cL p n s1 gone a T k).set (cF p n s1 gone a k).toNat ((cL p n s1 gone a T k).getD (cF p n s1 gone a k).toNat 0 + 1)
theorem cL_len (p : Int) (n s1 gone a T : Nat) : ∀ k, (cL p n s1 gone a T k).length = T
  | 0 => by simp [cL]
  | k + 1 => by simp [cL, cL_len p n s1 gone a T k]

def cCheck (p : Int) (n s1 gone a T : Nat) : Bool :=
  ((List.range T).all fun k => decide (0 ≤ cF p n s1 gone a k) && decide (cF p n s1 gone a k < (T : Int)) &&
    (List.range (s1 + 1)).all fun j => (List.range (n + 1)).all fun m => decide (0 ≤ uRow p ((qsOf p n s1 a k).getD j []) (uAll p n (qsOf p n s1 a k) gone j) m) && decide (uRow p ((qsOf p n s1 a k).getD j []) (uAll p n (qsOf p n s1 a k) gone j) m ≤ 1000)) &&
  (cL p n s1 gone a T T == List.replicate T 1)
def cAll (p : Int) (n s1 T : Nat) : Bool := (List.range (s1 + 1)).all fun gone => (List.range n).all fun a => cCheck p n s1 gone a T
set_option maxRecDepth 100000 in
theorem cAll_211 : cAll 2 1 1 2 = true := by decide +kernel
set_option maxRecDepth 100000 in
theorem cAll_221 : cAll 2 2 1 4 = true := by decide +kernel
set_option maxRecDepth 100000 in
theorem cAll_231 : cAll 2 3 1 8 = true := by decide +kernel
set_option maxRecDepth 100000 in
theorem cAll_212 : cAll 2 1 2 4 = true := by decide +kernel
set_option maxRecDepth 100000 in
theorem cAll_222 : cAll 2 2 2 16 = true := by decide +kernel
set_option maxRecDepth 100000 in
theorem cAll_232 : cAll 2 3 2 64 = true := by decide +kernel
set_option maxRecDepth 100000 in
theorem cAll_311 : cAll 3 1 1 3 = true := by decide +kernel
set_option maxRecDepth 100000 in
theorem cAll_321 : cAll 3 2 1 9 = true := by decide +kernel
set_option maxRecDepth 100000 in
theorem cAll_331 : cAll 3 3 1 27 = true := by decide +kernel
set_option maxRecDepth 100000 in
theorem cAll_312 : cAll 3 1 2 9 = true := by decide +kernel
set_option maxRecDepth 100000 in
theorem cAll_322 : cAll 3 2 2 81 = true := by decide +kernel

theorem cAll_use {p : Int} {n s1 T gone a : Nat} (h : cAll p n s1 T = true) (hg : gone ≤ s1) (ha : a < n) :
    (∀ k, k < T → 0 ≤ cF p n s1 gone a k ∧ cF p n s1 gone a k < (T : Int)) ∧
    (∀ k, k < T → ∀ j, j ≤ s1 → ∀ m, m ≤ n → 0 ≤ uRow p ((qsOf p n s1 a k).getD j []) (uAll p n (qsOf p n s1 a k) gone j) m ∧ uRow p ((qsOf p n s1 a k).getD j []) (uAll p n (qsOf p n s1 a k) gone j) m ≤ 1000) ∧
    cL p n s1 gone a T T = List.replicate T 1 := by
  unfold cAll at h
  have e1 := List.all_eq_true.1 h gone (List.mem_range.2 (by omega))
  have e2 := List.all_eq_true.1 e1 a (List.mem_range.2 ha)
  unfold cCheck at e2
  rw [Bool.and_eq_true] at e2
  refine ⟨fun k hk => ?_, fun k hk j hj m hm => ?_, by simpa using e2.2⟩
  · have e3 := List.all_eq_true.1 e2.1 k (List.mem_range.2 hk)
    rw [Bool.and_eq_true, Bool.and_eq_true, decide_eq_true_eq, decide_eq_true_eq] at e3
    exact e3.1
  · have e3 := List.all_eq_true.1 e2.1 k (List.mem_range.2 hk)
    rw [Bool.and_eq_true] at e3
    have e4 := List.all_eq_true.1 e3.2 j (List.mem_range.2 (by omega))
    have e5 := List.all_eq_true.1 e4 m (List.mem_range.2 (by omega))
    rw [Bool.and_eq_true, decide_eq_true_eq, decide_eq_true_eq] at e5
    exact e5

/-- The cases that are counted. -/
def Few16 (p : Int) (n s1 : Nat) : Prop := (s1 = 1 ∨ s1 = 2) ∧ 1 ≤ n ∧ ((p = 2 ∧ n ≤ 3) ∨ (p = 3 ∧ n + s1 ≤ 4))
theorem few_cases {p : Int} {n s1 : Nat} (h : Few16 p n s1) (P : Int → Nat → Nat → Prop) (h1 : P 2 1 1) (h2 : P 2 2 1) (h3 : P 2 3 1) (h4 : P 2 1 2) (h5 : P 2 2 2) (h6 : P 2 3 2) (h7 : P 3 1 1) (h8 : P 3 2 1) (h9 : P 3 3 1) (h10 : P 3 1 2) (h11 : P 3 2 2) : P p n s1 := by
  obtain ⟨hs, hn, hp⟩ := h
  rcases hp with ⟨rfl, hn2⟩ | ⟨rfl, hn2⟩ <;> rcases hs with rfl | rfl
  · rcases (by omega : n = 1 ∨ n = 2 ∨ n = 3) with rfl | rfl | rfl <;> assumption
  · rcases (by omega : n = 1 ∨ n = 2 ∨ n = 3) with rfl | rfl | rfl <;> assumption
  · rcases (by omega : n = 1 ∨ n = 2 ∨ n = 3) with rfl | rfl | rfl <;> assumption
  · rcases (by omega : n = 1 ∨ n = 2) with rfl | rfl <;> assumption
theorem few_pow {p : Int} {n s1 : Nat} (h : Few16 p n s1) : s1 * n ≤ 6 ∧ ∀ k, k ≤ s1 * n → 1 ≤ powN p k ∧ powN p k ≤ 100 := by
  refine few_cases h (fun p n s1 => s1 * n ≤ 6 ∧ ∀ k, k ≤ s1 * n → 1 ≤ powN p k ∧ powN p k ≤ 100) ?_ ?_ ?_ ?_ ?_ ?_ ?_ ?_ ?_ ?_ ?_ <;>
    (refine ⟨by decide, fun k hk => ?_⟩; simp only [Nat.reduceMul] at hk; rcases (by omega : k = 0 ∨ k = 1 ∨ k = 2 ∨ k = 3 ∨ k = 4 ∨ k = 5 ∨ k = 6) with rfl | rfl | rfl | rfl | rfl | rfl | rfl <;> first | omega | decide)
/-- Every list of values comes once, whichever row is wanted. -/
theorem counted {p : Int} {n s1 T gone a : Nat} (h : Few16 p n s1) (hT : (T : Int) = powN p (s1 * n)) (hg : gone ≤ s1) (ha : a < n) :
    (∀ k, k < T → 0 ≤ cF p n s1 gone a k ∧ cF p n s1 gone a k < (T : Int)) ∧
    (∀ k, k < T → ∀ j, j ≤ s1 → ∀ m, m ≤ n → 0 ≤ uRow p ((qsOf p n s1 a k).getD j []) (uAll p n (qsOf p n s1 a k) gone j) m ∧ uRow p ((qsOf p n s1 a k).getD j []) (uAll p n (qsOf p n s1 a k) gone j) m ≤ 1000) ∧
    cL p n s1 gone a T T = List.replicate T 1 := by
  have key : cAll p n s1 T = true := by
    have : T = (powN p (s1 * n)).toNat := by rw [← hT, Int.toNat_natCast]
    rw [this]
    exact few_cases h (fun p n s1 => cAll p n s1 (powN p (s1 * n)).toNat = true) cAll_211 cAll_221 cAll_231 cAll_212 cAll_222 cAll_232 cAll_311 cAll_321 cAll_331 cAll_312 cAll_322
  exact cAll_use key hg ha
end Go.Proofs.Ytefgjkkgddeemaa
