/-
  Lists over a field in plain numbers, no program in sight: sums, products, inner products. No conditions.
-/
import Derived.Test.YtoblofilaegnaaaFieldA
namespace Go.Proofs.Ytoblofilaegnaaa

/-- Two lists joined element by element. -/
def zipI (f : Int → Int → Int) (a b : List Int) : List Int := List.zipWith f a b

theorem zipI_length (f : Int → Int → Int) (a b : List Int) (h : a.length = b.length) : (zipI f a b).length = a.length := by simp [zipI, h]
theorem zipI_len2 (f : Int → Int → Int) (a b : List Int) {n : Nat} (h : a.length = n) (h' : b.length = n) : (zipI f a b).length = n := by simp [zipI, h, h']

theorem zipI_take_succ (f : Int → Int → Int) (a b : List Int) (k : Nat) (ha : k < a.length) (hb : k < b.length) : zipI f (a.take (k + 1)) (b.take (k + 1)) = zipI f (a.take k) (b.take k) ++ [f (a.getD k 0) (b.getD k 0)] := by
  unfold zipI
  rw [List.take_succ_eq_append_getElem ha, List.take_succ_eq_append_getElem hb, List.zipWith_append (by simp; omega)]
  simp [List.getD_eq_getElem?_getD, ha, hb]

/-- The inner product, as the program sums it up. -/
def sumP (p : Int) (l : List Int) : Int := l.foldl (addP p) 0
def dotP (p : Int) (a b : List Int) : Int := sumP p (zipI (mulP p) a b)

theorem sumP_snoc (p : Int) (l : List Int) (x : Int) : sumP p (l ++ [x]) = addP p (sumP p l) x := by simp [sumP, List.foldl_append]
theorem foldl_in {p : Int} (hp : 2 ≤ p) (l : List Int) : ∀ s : Int, 0 ≤ s → s < p → 0 ≤ l.foldl (addP p) s ∧ l.foldl (addP p) s < p := by
  induction l with
  | nil => intro s h0 h1; exact ⟨h0, h1⟩
  | cons x l ih => intro s _ _; exact ih _ (addP_in s x hp).1 (addP_in s x hp).2
theorem sumP_in {p : Int} (hp : 2 ≤ p) (l : List Int) : 0 ≤ sumP p l ∧ sumP p l < p := foldl_in hp l 0 (by omega) (by omega)
theorem dotP_in {p : Int} (hp : 2 ≤ p) (a b : List Int) : 0 ≤ dotP p a b ∧ dotP p a b < p := sumP_in hp _

theorem zipI_all {p : Int} (f : Int → Int → Int) (hf : ∀ x y, 0 ≤ f x y ∧ f x y < p) (a b : List Int) : allP p (zipI f a b) = true := by
  rw [allP_iff]
  intro x hx
  unfold zipI at hx
  obtain ⟨i, hi, rfl⟩ := List.getElem_of_mem hx
  rw [List.getElem_zipWith]
  exact hf _ _
theorem zipI_mul_all {p : Int} (hp : 2 ≤ p) (a b : List Int) : allP p (zipI (mulP p) a b) = true := zipI_all _ (fun x y => mulP_in x y hp) a b
theorem zipI_add_all {p : Int} (hp : 2 ≤ p) (a b : List Int) : allP p (zipI (addP p) a b) = true := zipI_all _ (fun x y => addP_in x y hp) a b

/-- A list times an element. -/
def scaleP (p x : Int) (a : List Int) : List Int := a.map fun y => mulP p y x
theorem scaleP_len (p x : Int) (a : List Int) : (scaleP p x a).length = a.length := by simp [scaleP]
theorem scaleP_all {p : Int} (hp : 2 ≤ p) (x : Int) (a : List Int) : allP p (scaleP p x a) = true := by
  rw [allP_iff]
  intro y hy
  obtain ⟨z, _, rfl⟩ := List.mem_map.1 hy
  exact mulP_in z x hp
theorem scaleP_take_succ (p x : Int) (a : List Int) (k : Nat) (ha : k < a.length) : scaleP p x (a.take (k + 1)) = scaleP p x (a.take k) ++ [mulP p (a.getD k 0) x] := by
  rw [List.take_succ_eq_append_getElem ha, List.getD_eq_getElem?_getD, List.getElem?_eq_getElem ha, Option.getD_some]
  simp only [scaleP, List.map_append, List.map_cons, List.map_nil]
end Go.Proofs.Ytoblofilaegnaaa
