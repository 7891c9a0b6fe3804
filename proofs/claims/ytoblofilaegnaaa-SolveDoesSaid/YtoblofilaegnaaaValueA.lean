/-
  The value of a polynomial in plain numbers, no program in sight: by Horner's rule from the highest coefficient on. No conditions.
-/
import Derived.Test.YtoblofilaegnaaaFieldA
namespace Go.Proofs.Ytoblofilaegnaaa

/-- The value of a polynomial, as the program reckons it. -/
def valueP (p x : Int) (poly : List Int) : Int := poly.foldr (fun c s => addP p (mulP p s x) c) 0

theorem valueP_in {p : Int} (hp : 2 ≤ p) (x : Int) (l : List Int) : 0 ≤ valueP p x l ∧ valueP p x l < p := by
  cases l with
  | nil => exact ⟨by simp [valueP], by simp [valueP]; omega⟩
  | cons c l => exact addP_in _ _ hp

/-- A place and an element of the field. -/
abbrev PlaceElt (p : Int) := { x : Nat × Int // 0 ≤ x.2 ∧ x.2 < p }

/-- What comes in round k, from the end. -/
def backElt (p : Int) (hp : 2 ≤ p) (zs : List Int) (hz : allP p zs = true) (k : Nat) : PlaceElt p :=
  if h : k < zs.length then ⟨(zs.length - 1 - k, zs.getD (zs.length - 1 - k) 0), allP_getD hz (by omega)⟩ else ⟨(0, 0), by simp; omega⟩

theorem backElt_at {p : Int} {hp : 2 ≤ p} {zs : List Int} {hz : allP p zs = true} {k : Nat} (h : k < zs.length) : (backElt p hp zs hz k).1 = (zs.length - 1 - k, zs.getD (zs.length - 1 - k) 0) := by
  unfold backElt; rw [dif_pos h]

/-- The first k of them. -/
def uptoElt {α : Type} (f : Nat → α) (k : Nat) : List α := (List.range k).map f
theorem uptoElt_succ {α : Type} (f : Nat → α) (k : Nat) : uptoElt f (k + 1) = uptoElt f k ++ [f k] := by simp [uptoElt, List.range_succ]
theorem uptoElt_length {α : Type} (f : Nat → α) (k : Nat) : (uptoElt f k).length = k := by simp [uptoElt]

/-- The sum so far. -/
def valueSo (p x : Int) (pre : List (PlaceElt p)) : Int := pre.foldl (fun s c => addP p (mulP p s x) c.1.2) 0
theorem valueSo_snoc (p x : Int) (pre : List (PlaceElt p)) (c : PlaceElt p) : valueSo p x (pre ++ [c]) = addP p (mulP p (valueSo p x pre) x) c.1.2 := by simp [valueSo]
theorem valueSo_in {p : Int} (hp : 2 ≤ p) (x : Int) (pre : List (PlaceElt p)) : 0 ≤ valueSo p x pre ∧ valueSo p x pre < p := by
  rcases List.eq_nil_or_concat pre with rfl | ⟨l, c, rfl⟩
  · exact ⟨by simp [valueSo], by simp [valueSo]; omega⟩
  · rw [List.concat_eq_append, valueSo_snoc]; exact addP_in _ _ hp

theorem valueSo_all {p : Int} (hp : 2 ≤ p) (x : Int) (zs : List Int) (hz : allP p zs = true) : ∀ k, k ≤ zs.length → valueSo p x (uptoElt (backElt p hp zs hz) k) = valueP p x (zs.drop (zs.length - k)) := by
  intro k
  induction k with
  | zero => intro _; simp [uptoElt, valueSo, valueP]
  | succ k ih =>
    intro hk
    rw [uptoElt_succ, valueSo_snoc, ih (by omega), backElt_at (by omega)]
    have e : zs.length - k = zs.length - (k + 1) + 1 := by omega
    have e2 : zs.length - 1 - k = zs.length - (k + 1) := by omega
    rw [e2, List.drop_eq_getElem_cons (show zs.length - (k + 1) < zs.length by omega), ← e]
    show _ = addP p (mulP p (valueP p x (zs.drop (zs.length - k))) x) _
    rw [List.getD_eq_getElem?_getD, List.getElem?_eq_getElem (by omega), Option.getD_some]
end Go.Proofs.Ytoblofilaegnaaa
