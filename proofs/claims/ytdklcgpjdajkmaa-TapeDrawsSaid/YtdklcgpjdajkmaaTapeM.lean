/-
  Tapes and their numbers in plain numbers, no program in sight. No conditions.
-/
import Derived.Test.YtdklcgpjdajkmaaTapeA
namespace Go.Proofs.Ytdklcgpjdajkmaa
set_option linter.unusedVariables false

/-- Limits as the statements make them. -/
def smallL (l : List Int) : Prop := l.length ≤ 6 ∧ ∀ x ∈ l, 1 ≤ x ∧ x ≤ 6
def boundL (n : Nat) (l : List Int) : Bool := decide (n ≤ 16384) && l.all limT
def prodL : List Int → Int
  | [] => 1
  | n :: l => n * prodL l
/-- The numbers of the tape with a number. -/
def digL : List Int → Int → List Int
  | [], _ => []
  | n :: l, x => x % n :: digL l (x / n)
/-- The number of a tape. -/
def numL : List Int → List Int → Int
  | n :: l, d :: ds => numL l ds * n + d
  | _, _ => 0
/-- The numbers that a seed makes. -/
def seedL : Int → List Int → List Int
  | _, [] => []
  | s, n :: l => (s * 48271 % 2147483647) % n :: seedL (s * 48271 % 2147483647) l

theorem digL_len (l : List Int) : ∀ x, (digL l x).length = l.length := by
  induction l with
  | nil => intro x; rfl
  | cons n l ih => intro x; simp [digL, ih]
theorem seedL_len (l : List Int) : ∀ s, (seedL s l).length = l.length := by
  induction l with
  | nil => intro x; rfl
  | cons n l ih => intro x; simp [seedL, ih]

theorem prodL_pos : ∀ (l : List Int), (∀ x ∈ l, 1 ≤ x ∧ x ≤ 6) → 1 ≤ prodL l ∧ prodL l ≤ 6 ^ l.length := by
  intro l
  induction l with
  | nil => intro _; exact ⟨Int.le_refl _, Int.le_refl _⟩
  | cons n l ih =>
    intro h
    have h1 := ih (fun x hx => h x (by simp [hx]))
    have h2 := h n (by simp)
    have h3 : n * prodL l ≤ 6 * 6 ^ l.length := Int.mul_le_mul h2.2 h1.2 (by omega) (by omega)
    have h4 : 1 * 1 ≤ n * prodL l := Int.mul_le_mul h2.1 h1.1 (by omega) (by omega)
    simp only [prodL, List.length_cons]
    have h5 : (6 : Int) ^ (l.length + 1) = 6 * 6 ^ l.length := by rw [Int.pow_succ, Int.mul_comm]
    rw [h5]
    exact ⟨by omega, h3⟩

theorem smallL_prod {l : List Int} (h : smallL l) : 1 ≤ prodL l ∧ prodL l ≤ 46656 := by
  have h1 := prodL_pos l h.2
  have h2 : (6 : Int) ^ l.length ≤ 46656 := by
    have := h.1
    have : l.length = 0 ∨ l.length = 1 ∨ l.length = 2 ∨ l.length = 3 ∨ l.length = 4 ∨ l.length = 5 ∨ l.length = 6 := by omega
    rcases this with h | h | h | h | h | h | h <;> rw [h] <;> decide
  omega
theorem smallL_take {l : List Int} (h : smallL l) (k : Nat) : smallL (l.take k) := ⟨by rw [List.length_take]; have := h.1; omega, fun x hx => h.2 x (List.mem_of_mem_take hx)⟩
theorem prodL_snoc (l : List Int) (x : Int) : prodL (l ++ [x]) = prodL l * x := by
  induction l with
  | nil => simp [prodL]
  | cons n l ih => simp only [List.cons_append, prodL, ih, Int.mul_assoc]
theorem smallL_bound {l : List Int} (h : smallL l) : boundL l.length l = true := by
  unfold boundL
  rw [Bool.and_eq_true, decide_eq_true_eq, List.all_eq_true]
  refine ⟨by have := h.1; omega, fun x hx => ?_⟩
  have := h.2 x hx
  unfold limT
  rw [decide_eq_true_eq]; omega
theorem smallL_at {l : List Int} (h : smallL l) {k : Nat} (hk : k < l.length) : 1 ≤ l.getD k 0 ∧ l.getD k 0 ≤ 6 := by
  rw [List.getD_eq_getElem?_getD, List.getElem?_eq_getElem hk, Option.getD_some]
  exact h.2 _ (List.getElem_mem hk)

theorem drop_cons (l : List Int) (k : Nat) (hk : k < l.length) : l.drop k = l.getD k 0 :: l.drop (k + 1) := by
  rw [List.drop_eq_getElem_cons hk, List.getD_eq_getElem?_getD, List.getElem?_eq_getElem hk]; rfl

theorem digL_in (l : List Int) : ∀ (x : Int), (∀ n ∈ l, 1 ≤ n) → ∀ k, k < l.length → 0 ≤ (digL l x).getD k 0 ∧ (digL l x).getD k 0 < l.getD k 0 := by
  induction l with
  | nil => intro x _ k hk; simp at hk
  | cons n l ih =>
    intro x h k hk
    have hn := h n (by simp)
    cases k with
    | zero => simp only [digL, List.getD_cons_zero]; exact ⟨Int.emod_nonneg _ (by omega), Int.emod_lt_of_pos _ (by omega)⟩
    | succ k => simp only [digL, List.getD_cons_succ]; exact ih _ (fun m hm => h m (by simp [hm])) k (by simpa using hk)
theorem seedL_in (l : List Int) : ∀ (s : Int), (∀ n ∈ l, 1 ≤ n) → ∀ k, k < l.length → 0 ≤ (seedL s l).getD k 0 ∧ (seedL s l).getD k 0 < l.getD k 0 := by
  induction l with
  | nil => intro x _ k hk; simp at hk
  | cons n l ih =>
    intro x h k hk
    have hn := h n (by simp)
    cases k with
    | zero => simp only [seedL, List.getD_cons_zero]; exact ⟨Int.emod_nonneg _ (by omega), Int.emod_lt_of_pos _ (by omega)⟩
    | succ k => simp only [seedL, List.getD_cons_succ]; exact ih _ (fun m hm => h m (by simp [hm])) k (by simpa using hk)
theorem seedL_take (l : List Int) : ∀ (s : Int) (k : Nat), seedL s (l.take k) = (seedL s l).take k := by
  induction l with
  | nil => intro s k; simp [seedL]
  | cons n l ih =>
    intro s k
    cases k with
    | zero => simp [seedL]
    | succ k => simp [seedL, ih]

theorem numL_digL (l : List Int) : ∀ (x : Int), (∀ n ∈ l, 1 ≤ n) → 0 ≤ x → x < prodL l → numL l (digL l x) = x := by
  induction l with
  | nil => intro x _ h0 h1; simp only [prodL] at h1; simp only [numL]; omega
  | cons n l ih =>
    intro x h h0 h1
    have hn := h n (by simp)
    simp only [digL, numL]
    have h2 : x / n < prodL l := by
      apply Int.ediv_lt_of_lt_mul (by omega)
      simp only [prodL] at h1
      rwa [Int.mul_comm]
    rw [ih (x / n) (fun m hm => h m (by simp [hm])) (Int.ediv_nonneg h0 (by omega)) h2]
    have := Int.emod_add_mul_ediv x n
    rw [Int.mul_comm] at this
    omega
/-- One step of Number from its end. -/
theorem numL_drop (l ds : List Int) (h : l.length = ds.length) (k : Nat) (hk : k < l.length) : numL (l.drop k) (ds.drop k) = numL (l.drop (k + 1)) (ds.drop (k + 1)) * l.getD k 0 + ds.getD k 0 := by
  rw [drop_cons l k hk, drop_cons ds k (by omega)]; rfl
theorem numL_bd : ∀ (l ds : List Int), (∀ x ∈ l, 1 ≤ x ∧ x ≤ 6) → l.length = ds.length → (∀ k, k < l.length → 0 ≤ ds.getD k 0 ∧ ds.getD k 0 < l.getD k 0) → 0 ≤ numL l ds ∧ numL l ds < prodL l := by
  intro l
  induction l with
  | nil => intro ds _ h _; cases ds with
    | nil => decide
    | cons _ _ => simp at h
  | cons n l ih =>
    intro ds hl h hd
    cases ds with
    | nil => simp at h
    | cons d ds =>
      have h1 := ih ds (fun x hx => hl x (by simp [hx])) (by simpa using h) (fun k hk => by have := hd (k + 1) (by simpa using hk); simpa using this)
      have h2 := hd 0 (by simp)
      simp only [List.getD_cons_zero] at h2
      have h3 := hl n (by simp)
      have h4 : (numL l ds + 1) * n ≤ prodL l * n := Int.mul_le_mul_of_nonneg_right (by omega) (by omega)
      have h5 : 0 ≤ numL l ds * n := Int.mul_nonneg h1.1 (by omega)
      simp only [numL, prodL]
      rw [Int.add_mul, Int.one_mul] at h4
      rw [Int.mul_comm n]
      omega
theorem digL_inj (l : List Int) (h : ∀ n ∈ l, 1 ≤ n) (x y : Int) (hx : 0 ≤ x ∧ x < prodL l) (hy : 0 ≤ y ∧ y < prodL l) : digL l x = digL l y ↔ x = y := by
  constructor
  · intro e
    rw [← numL_digL l x h hx.1 hx.2, ← numL_digL l y h hy.1 hy.2, e]
  · intro e; rw [e]
end Go.Proofs.Ytdklcgpjdajkmaa
