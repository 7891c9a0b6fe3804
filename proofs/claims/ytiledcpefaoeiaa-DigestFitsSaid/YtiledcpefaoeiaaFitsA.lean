/-
  The plain law of DigestFits, no program in sight: the linear digest of a combination is the inner product of the coefficients and the linear digests, and one changed element changes it, at a point that is not 0. No conditions.
-/
import Derived.Test.YtiledcpefaoeiaaPrimeA
import Derived.Test.YtiledcpefaoeiaaLinA
namespace Go.Proofs.Ytiledcpefaoeiaa
set_option linter.unusedVariables false

theorem polyZ_times (p pt c : Int) (l : List Int) : ∀ acc : List Int, acc.length = l.length → Cong p (polyZ pt (zipI (timesP p c) acc l)) (polyZ pt acc + c * polyZ pt l) := by
  induction l with
  | nil => intro acc h; cases acc with
    | nil => exact Cong.of_eq (by simp [polyZ, zipI])
    | cons _ _ => simp at h
  | cons y l ih =>
    intro acc h
    cases acc with
    | nil => simp at h
    | cons a acc =>
      have e : zipI (timesP p c) (a :: acc) (y :: l) = timesP p c a y :: zipI (timesP p c) acc l := rfl
      rw [e, polyZ_cons, polyZ_cons, polyZ_cons]
      have h1 : Cong p (timesP p c a y) (a + c * y) := (Cong.addP p a (mulP p c y)).trans ((Cong.refl p a).add (Cong.mulP p c y))
      exact (((ih acc (by simpa using h)).mul (Cong.refl p pt)).add h1).trans (Cong.of_eq (by grind))

theorem polyZ_comb (p pt : Int) (w : Nat) (cs : List Int) : ∀ (rows : List (List Int)) (acc : List Int), (∀ r ∈ rows, r.length = w) → acc.length = w →
    Cong p (polyZ pt (combFrom p acc cs rows)) (polyZ pt acc + dotZ cs (rows.map (polyZ pt))) := by
  induction cs with
  | nil => intro rows acc _ _; cases rows <;> exact Cong.of_eq (by simp [combFrom, dotZ_nil])
  | cons c cs ih =>
    intro rows acc h ha
    cases rows with
    | nil => exact Cong.of_eq (by simp [combFrom, dotZ_nil2])
    | cons r rows =>
      have hr := h r (by simp)
      show Cong p (polyZ pt (combFrom p (zipI (timesP p c) acc r) cs rows)) _
      rw [List.map_cons, dotZ_cons]
      have h1 := ih rows (zipI (timesP p c) acc r) (fun r' h' => h r' (by simp [h'])) (by rw [zipI_length _ _ _ (by rw [ha, hr]), ha])
      have h2 := (polyZ_times p pt c r acc (by rw [ha, hr])).add (Cong.refl p (dotZ cs (rows.map (polyZ pt))))
      exact (h1.trans h2).trans (Cong.of_eq (by grind))

theorem polyZ_zeros (pt : Int) (w : Nat) : polyZ pt (List.replicate w 0) = 0 := by
  induction w with
  | zero => rfl
  | succ w ih => rw [List.replicate_succ, polyZ_cons, ih]; simp

theorem dotZ_cong {p : Int} (a : List Int) : ∀ b c : List Int, b.length = c.length → (∀ i, i < b.length → Cong p (b.getD i 0) (c.getD i 0)) → Cong p (dotZ a b) (dotZ a c) := by
  induction a with
  | nil => intro b c _ _; exact Cong.refl _ _
  | cons x a ih =>
    intro b c h hc
    cases b with
    | nil => cases c with
      | nil => exact Cong.refl _ _
      | cons _ _ => simp at h
    | cons y b =>
      cases c with
      | nil => simp at h
      | cons z c =>
        rw [dotZ_cons, dotZ_cons]
        have h0 := hc 0 (by simp)
        simp at h0
        exact ((Cong.refl p x).mul h0).add (ih b c (by simpa using h) (fun i hi => by have := hc (i + 1) (by simp; omega); simpa using this))

/-- The right answer fits. -/
theorem fits_right (p pt : Int) (hp : 2 ≤ p) (q : List Int) (rows : List (List Int)) (w : Nat) (h : ∀ r ∈ rows, r.length = w) : valueP p pt (combP p q rows w) = dotP p q (rows.map (valueP p pt)) := by
  refine Cong.eq ?_ (valueP_in hp _ _) (dotP_in hp _ _)
  refine (valueP_cong p pt _).trans ?_
  have h1 := polyZ_comb p pt w q rows (List.replicate w 0) h (by simp)
  rw [polyZ_zeros, Int.zero_add] at h1
  refine h1.trans (Cong.symm ((dotP_cong p q _).trans ?_))
  refine dotZ_cong q _ _ (by simp) (fun i hi => ?_)
  have hi' : i < rows.length := by simpa using hi
  simp only [List.getD_eq_getElem?_getD, List.getElem?_map, List.getElem?_eq_getElem hi', Option.map_some, Option.getD_some]
  exact valueP_cong p pt _

theorem polyZ_set (pt v : Int) (l : List Int) : ∀ k, k < l.length → polyZ pt (l.set k v) - polyZ pt l = (v - l.getD k 0) * pt ^ k := by
  induction l with
  | nil => intro k h; simp at h
  | cons c l ih =>
    intro k hk
    cases k with
    | zero => rw [List.set_cons_zero, polyZ_cons, polyZ_cons]; simp; omega
    | succ k =>
      rw [List.set_cons_succ, polyZ_cons, polyZ_cons]
      have h1 := ih k (by simpa using hk)
      rw [List.getD_cons_succ, Int.pow_succ]
      grind

theorem pow_not_zero {p pt : Int} (h : okP p = true) (hpt : ¬ Cong p pt 0) (k : Nat) : ¬ Cong p (pt ^ k) 0 := by
  induction k with
  | zero =>
    intro h0
    have hp := okP_pos h
    have := h0.eq (p := p) (by simp; omega) (by omega)
    simp at this
  | succ k ih =>
    intro h0
    rw [Int.pow_succ] at h0
    rcases Cong.mul_zero h h0 with h1 | h1
    · exact ih h1
    · exact hpt h1

/-- One element changed. -/
theorem fits_changed {p pt v : Int} (h : okP p = true) (hpt : 0 ≤ pt ∧ pt < p) (hv : 0 ≤ v ∧ v < p) (l : List Int) (ha : allP p l = true) (k : Nat) (hk : k < l.length) (hne : ¬ (pt = 0 ∧ 0 < k)) :
    valueP p pt (l.set k v) = valueP p pt l ↔ l.getD k 0 = v := by
  have hp := okP_pos h
  have hlk := allP_getD ha hk
  constructor
  · intro he
    have h1 : Cong p (polyZ pt (l.set k v)) (polyZ pt l) := (valueP_cong p pt _).symm.trans ((Cong.of_eq he).trans (valueP_cong p pt l))
    have h2 := h1.zero_sub
    rw [polyZ_set pt v l k hk] at h2
    rcases Cong.mul_zero h h2 with h3 | h3
    · exact (h3.sub_zero.eq hv hlk).symm
    · exfalso
      by_cases h0 : pt = 0
      · have hk0 : k = 0 := by omega
        subst hk0
        have := h3.eq (p := p) (by simp; omega) (by omega)
        simp at this
      · exact pow_not_zero h (fun hc => h0 ((Cong.elt_zero hpt).1 hc)) k h3
  · intro he
    congr 1
    apply ext_getD (by simp)
    intro i hi
    rw [List.getD_eq_getElem?_getD, List.getElem?_set]
    by_cases hki : k = i
    · subst hki
      rw [if_pos rfl, if_pos hk, ← he]; rfl
    · rw [if_neg hki, List.getD_eq_getElem?_getD]
end Go.Proofs.Ytiledcpefaoeiaa
