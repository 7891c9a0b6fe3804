/-
  The inner product of a row of equations and a list, as a sum, in plain numbers, no program in sight. No conditions.
-/
import Derived.Test.YtoblofilaegnaaaEqA
import Derived.Test.YtoblofilaegnaaaCong
namespace Go.Proofs.Ytoblofilaegnaaa
set_option linter.unusedVariables false

/-- A sum over the integers. -/
def sumZ (l : List Int) : Int := l.foldr (· + ·) 0
theorem sumZ_cons (c : Int) (l : List Int) : sumZ (c :: l) = c + sumZ l := rfl

theorem foldl_cong (p : Int) (l : List Int) : ∀ s : Int, Cong p (l.foldl (addP p) s) (s + sumZ l) := by
  induction l with
  | nil => intro s; exact Cong.of_eq (by simp [sumZ])
  | cons c l ih =>
    intro s
    rw [List.foldl_cons, sumZ_cons, ← Int.add_assoc]
    exact (ih _).trans ((Cong.addP p s c).add (Cong.refl _ _))
theorem sumP_cong (p : Int) (l : List Int) : Cong p (sumP p l) (sumZ l) := by
  have := foldl_cong p l 0
  rwa [Int.zero_add] at this

/-- An inner product over the integers. -/
def dotZ (a b : List Int) : Int := sumZ (zipI (· * ·) a b)
theorem dotZ_cons (x y : Int) (a b : List Int) : dotZ (x :: a) (y :: b) = x * y + dotZ a b := rfl
theorem dotZ_nil (b : List Int) : dotZ [] b = 0 := rfl
theorem dotZ_nil2 (a : List Int) : dotZ a [] = 0 := by cases a <;> rfl

theorem dotP_cong (p : Int) (a : List Int) : ∀ b, Cong p (dotP p a b) (dotZ a b) := by
  intro b
  refine (sumP_cong p _).trans ?_
  induction a generalizing b with
  | nil => exact Cong.refl _ _
  | cons x a ih => cases b with
    | nil => exact Cong.refl _ _
    | cons y b => exact (Cong.mulP p x y).add (ih b)

theorem dotZ_Sg : ∀ (a b : List Int) (n : Nat), a.length = n → b.length = n → dotZ a b = Sg (fun j => cf a j * cf b j) n
  | [], b, n, h, _ => by
    have : n = 0 := by simpa using h.symm
    subst this; rw [dotZ_nil]; rfl
  | x :: a, [], n, h, h2 => by simp at h h2; omega
  | x :: a, y :: b, 0, h, _ => by simp at h
  | x :: a, y :: b, n + 1, h, h2 => by
    rw [dotZ_cons, Sg_head, dotZ_Sg a b n (by simpa using h) (by simpa using h2)]
    rfl
/-- A row of equations holds for a list. -/
theorem row_holds {p : Int} {r c : Nat} {cells right xs : List Int} (h : EqOk p r c cells right) (hx : xs.length = c) {i : Nat} (hi : i < r) :
    dotP p ((cells.drop (i * c)).take c) xs = right.getD i 0 ↔ Cong p (Sg (fun j => cf cells (i * c + j) * cf xs j) c) (cf right i) := by
  have hp := (okP_pos h.ok).1
  have h1 := dotP_cong p ((cells.drop (i * c)).take c) xs
  rw [dotZ_Sg _ _ c (rowL_len h.lc hi) hx] at h1
  have h2 : Sg (fun j => cf ((cells.drop (i * c)).take c) j * cf xs j) c = Sg (fun j => cf cells (i * c + j) * cf xs j) c := Sg_congr fun j hj => by rw [cf_take, if_pos hj, cf_drop]
  rw [h2] at h1
  constructor
  · intro e
    rw [e] at h1
    exact h1.symm
  · intro e
    exact (h1.trans e).eq (dotP_in hp _ _) (cf_in hp h.ar i)
/-- What Solves answers. -/
def solvesB (p : Int) (r c : Nat) (cells right xs : List Int) : Bool := (List.range r).all fun i => dotP p ((cells.drop (i * c)).take c) xs == right.getD i 0
theorem solvesB_iff {p : Int} {r c : Nat} {cells right xs : List Int} (h : EqOk p r c cells right) (hx : xs.length = c) : solvesB p r c cells right xs = true ↔ Solv p c (augM r c cells right) xs := by
  rw [solv_augM h.lc]
  unfold solvesB
  rw [List.all_eq_true]
  constructor
  · intro e i hi
    exact (row_holds h hx hi).1 (by simpa using e i (List.mem_range.2 hi))
  · intro e i hi
    have hi := List.mem_range.1 hi
    simpa using (row_holds h hx hi).2 (e i hi)
end Go.Proofs.Ytoblofilaegnaaa
