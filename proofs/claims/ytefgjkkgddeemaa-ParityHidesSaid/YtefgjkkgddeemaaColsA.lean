/-
  The plain law of VectorColumns, no program in sight: each element of a combination is the inner product of the coefficients and the column. No conditions.
-/
import Derived.Test.YtefgjkkgddeemaaCombA
namespace Go.Proofs.Ytefgjkkgddeemaa
set_option linter.unusedVariables false

/-- A column of some rows. -/
def colP (rows : List (List Int)) (k : Nat) : List Int := rows.map fun r => r.getD k 0
theorem colP_len (rows : List (List Int)) (k : Nat) : (colP rows k).length = rows.length := by simp [colP]
theorem colP_take_succ (rows : List (List Int)) (k j : Nat) (hj : j < rows.length) : colP (rows.take (j + 1)) k = colP (rows.take j) k ++ [(rows.getD j []).getD k 0] := by
  rw [List.take_succ_eq_append_getElem hj, List.getD_eq_getElem?_getD (l := rows), List.getElem?_eq_getElem hj, Option.getD_some]
  simp only [colP, List.map_append, List.map_cons, List.map_nil]
theorem colP_all {p : Int} (rows : List (List Int)) (k w : Nat) (h : ∀ r ∈ rows, allP p r = true ∧ r.length = w) (hk : k < w) : allP p (colP rows k) = true := by
  rw [allP_iff]
  intro x hx
  obtain ⟨r, hr, rfl⟩ := List.mem_map.1 hx
  exact allP_getD (h r hr).1 (by rw [(h r hr).2]; exact hk)

theorem zipI_getD (f : Int → Int → Int) (a b : List Int) (k : Nat) (ha : k < a.length) (hb : k < b.length) : (zipI f a b).getD k 0 = f (a.getD k 0) (b.getD k 0) := by
  unfold zipI
  rw [List.getD_eq_getElem?_getD, List.getElem?_zipWith, List.getElem?_eq_getElem ha, List.getElem?_eq_getElem hb, List.getD_eq_getElem?_getD, List.getElem?_eq_getElem ha, List.getD_eq_getElem?_getD, List.getElem?_eq_getElem hb]
  rfl

theorem combFrom_at (p : Int) (w k : Nat) (hk : k < w) (cs : List Int) : ∀ (rows : List (List Int)) (acc : List Int), (∀ r ∈ rows, r.length = w) → acc.length = w →
    (combFrom p acc cs rows).getD k 0 = (zipI (mulP p) cs (colP rows k)).foldl (addP p) (acc.getD k 0) := by
  induction cs with
  | nil => intro rows acc _ _; cases rows <;> rfl
  | cons c cs ih =>
    intro rows acc h ha
    cases rows with
    | nil => rfl
    | cons r rows =>
      have hr := h r (by simp)
      show (combFrom p (zipI (timesP p c) acc r) cs rows).getD k 0 = _
      rw [ih rows _ (fun r' hr' => h r' (by simp [hr'])) (by rw [zipI_length _ _ _ (by rw [ha, hr]), ha]), zipI_getD _ _ _ _ (by omega) (by omega)]
      rfl

theorem comb_col (p : Int) (cs : List Int) (rows : List (List Int)) (w k : Nat) (h : ∀ r ∈ rows, r.length = w) (hk : k < w) : (combP p cs rows w).getD k 0 = dotP p cs (colP rows k) := by
  unfold combP dotP sumP
  rw [combFrom_at p w k hk cs rows _ h (by simp)]
  congr 1
  simp [List.getD_eq_getElem?_getD, hk]
end Go.Proofs.Ytefgjkkgddeemaa
