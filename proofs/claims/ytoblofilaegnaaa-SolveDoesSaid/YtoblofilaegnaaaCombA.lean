/-
  Combinations of rows in plain numbers, no program in sight. No conditions.
-/
import Derived.Test.YtoblofilaegnaaaVecA
namespace Go.Proofs.Ytoblofilaegnaaa
set_option linter.unusedVariables false

/-- One element more of a row, times x. -/
def timesP (p x t a : Int) : Int := addP p t (mulP p x a)
theorem timesP_in {p : Int} (hp : 2 ≤ p) (x t a : Int) : 0 ≤ timesP p x t a ∧ timesP p x t a < p := addP_in _ _ hp

/-- A list to which another one has been added at its first k places. -/
def partly (f : Int → Int → Int) (ts l : List Int) (k : Nat) : List Int := zipI f (ts.take k) (l.take k) ++ ts.drop k

theorem partly_zero (f : Int → Int → Int) (ts l : List Int) : partly f ts l 0 = ts := by simp [partly, zipI]
theorem partly_all (f : Int → Int → Int) (ts l : List Int) (h : ts.length = l.length) : partly f ts l ts.length = zipI f ts l := by
  unfold partly
  rw [List.take_length, List.drop_length, List.append_nil, h, List.take_length]
theorem partly_len (f : Int → Int → Int) (ts l : List Int) (h : ts.length = l.length) (k : Nat) (hk : k ≤ ts.length) : (partly f ts l k).length = ts.length := by
  unfold partly
  rw [List.length_append, zipI_length _ _ _ (by simp [h]), List.length_take, List.length_drop]; omega
theorem partly_at (f : Int → Int → Int) (ts l : List Int) (h : ts.length = l.length) (k : Nat) (hk : k < ts.length) : (partly f ts l k).getD k 0 = ts.getD k 0 := by
  have hl : (zipI f (ts.take k) (l.take k)).length = k := by rw [zipI_length _ _ _ (by simp [h]), List.length_take]; omega
  unfold partly
  rw [List.getD_eq_getElem?_getD, List.getElem?_append_right (by omega), hl, Nat.sub_self, List.getElem?_drop, Nat.add_zero, List.getD_eq_getElem?_getD]
theorem partly_set (f : Int → Int → Int) (ts l : List Int) (h : ts.length = l.length) (k : Nat) (hk : k < ts.length) : (partly f ts l k).set k (f (ts.getD k 0) (l.getD k 0)) = partly f ts l (k + 1) := by
  have hl : (zipI f (ts.take k) (l.take k)).length = k := by rw [zipI_length _ _ _ (by simp [h]), List.length_take]; omega
  unfold partly
  rw [zipI_take_succ f ts l k hk (by omega), List.set_append_right _ _ (by omega), hl, Nat.sub_self, List.append_assoc]
  congr 1
  rw [List.drop_eq_getElem_cons hk]; rfl

/-- The combination of some rows, from a list on. -/
def combFrom (p : Int) (acc : List Int) : List Int → List (List Int) → List Int
  | c :: cs, r :: rs => combFrom p (zipI (timesP p c) acc r) cs rs
  | _, _ => acc
/-- The combination of rows of a width. -/
def combP (p : Int) (cs : List Int) (rows : List (List Int)) (w : Nat) : List Int := combFrom p (List.replicate w 0) cs rows

theorem combFrom_snoc (p : Int) (cs : List Int) (c : Int) (rs : List (List Int)) (r : List Int) : ∀ acc, cs.length = rs.length → combFrom p acc (cs ++ [c]) (rs ++ [r]) = zipI (timesP p c) (combFrom p acc cs rs) r := by
  induction cs generalizing rs with
  | nil => intro acc h; cases rs with
    | nil => rfl
    | cons _ _ => simp at h
  | cons c' cs ih => intro acc h; cases rs with
    | nil => simp at h
    | cons r' rs => exact ih rs _ (by simpa using h)

theorem combFrom_len (p : Int) (cs : List Int) : ∀ (rs : List (List Int)) (acc : List Int), (∀ r ∈ rs, r.length = acc.length) → (combFrom p acc cs rs).length = acc.length := by
  induction cs with
  | nil => intro rs acc _; cases rs <;> rfl
  | cons c cs ih =>
    intro rs acc h
    cases rs with
    | nil => rfl
    | cons r rs =>
      have e : (zipI (timesP p c) acc r).length = acc.length := zipI_length _ _ _ (h r (by simp)).symm
      show (combFrom p (zipI (timesP p c) acc r) cs rs).length = _
      rw [ih rs _ (fun r' hr' => by rw [e]; exact h r' (by simp [hr'])), e]

theorem combFrom_all {p : Int} (hp : 2 ≤ p) (cs : List Int) : ∀ (rs : List (List Int)) (acc : List Int), allP p acc = true → allP p (combFrom p acc cs rs) = true := by
  induction cs with
  | nil => intro rs acc h; cases rs <;> exact h
  | cons c cs ih =>
    intro rs acc h
    cases rs with
    | nil => exact h
    | cons r rs => exact ih rs _ (zipI_all _ (fun x y => timesP_in hp c x y) _ _)

theorem zeros_all {p : Int} (hp : 2 ≤ p) (w : Nat) : allP p (List.replicate w 0) = true := by
  rw [allP_iff]; intro x hx
  rw [List.mem_replicate] at hx
  omega
theorem combP_len (p : Int) (cs : List Int) (rows : List (List Int)) (w : Nat) (h : ∀ r ∈ rows, r.length = w) : (combP p cs rows w).length = w := by
  unfold combP; rw [combFrom_len p cs rows _ (by simpa using h)]; simp
theorem combP_all {p : Int} (hp : 2 ≤ p) (cs : List Int) (rows : List (List Int)) (w : Nat) : allP p (combP p cs rows w) = true := combFrom_all hp cs rows _ (zeros_all hp w)

theorem getD_mem2 {α : Type} {l : List α} {k : Nat} {d : α} (hk : k < l.length) : l.getD k d ∈ l := by
  rw [List.getD_eq_getElem?_getD, List.getElem?_eq_getElem hk, Option.getD_some]; exact List.getElem_mem hk

theorem combP_take_succ (p : Int) (cs : List Int) (rows : List (List Int)) (w j : Nat) (hc : j < cs.length) (hr : j < rows.length) :
    combP p (cs.take (j + 1)) (rows.take (j + 1)) w = zipI (timesP p (cs.getD j 0)) (combP p (cs.take j) (rows.take j) w) (rows.getD j []) := by
  unfold combP
  rw [List.take_succ_eq_append_getElem hc, List.take_succ_eq_append_getElem hr, combFrom_snoc _ _ _ _ _ _ (by simp; omega), List.getD_eq_getElem?_getD, List.getElem?_eq_getElem hc, List.getD_eq_getElem?_getD, List.getElem?_eq_getElem hr]
  rfl
end Go.Proofs.Ytoblofilaegnaaa
