/-
  A polynomial with as many zeros as coefficients is 0, no program in sight; so only one polynomial goes through some points. No conditions.
-/
import Derived.Test.YtieejgkheijgeaaItpA
namespace Go.Proofs.Ytieejgkheijgeaa
set_option linter.unusedVariables false

/-- The quotient by x - a. -/
def sd (a : Int) : List Int → List Int
  | [] => []
  | [_] => []
  | _ :: d :: l => polyZ a (d :: l) :: sd a (d :: l)
theorem sd_len (a : Int) : ∀ l, (sd a l).length = l.length - 1
  | [] => rfl
  | [_] => rfl
  | _ :: d :: l => by
    have := sd_len a (d :: l)
    simp only [sd, List.length_cons] at *
    omega
theorem sd_eq (x a : Int) : ∀ l, polyZ x l - polyZ a l = (x - a) * polyZ x (sd a l)
  | [] => by simp [polyZ, sd]
  | [c] => by simp [polyZ, sd]
  | c :: d :: l => by
    have ih := sd_eq x a (d :: l)
    simp only [sd]
    rw [polyZ_cons x c, polyZ_cons a c, polyZ_cons x (polyZ a (d :: l))]
    generalize polyZ x (d :: l) = X at *
    generalize polyZ a (d :: l) = Y at *
    generalize polyZ x (sd a (d :: l)) = Q at *
    have e : (x - a) * (Q * x + Y) = ((x - a) * Q) * x + (x - a) * Y := by rw [Int.mul_add, Int.mul_assoc]
    rw [e, ← ih, Int.sub_mul, Int.sub_mul, Int.mul_comm x Y, Int.mul_comm a Y]
    omega
theorem sd_zero {p a : Int} : ∀ l, Cong p (polyZ a l) 0 → (∀ k, Cong p (cf (sd a l) k) 0) → ∀ k, Cong p (cf l k) 0
  | [], _, _, k => by rw [cf_nil]; exact Cong.refl _ _
  | [c], h, _, k => by
    cases k with
    | zero => rw [cf_zero]; simpa [polyZ] using h
    | succ k => rw [cf_succ, cf_nil]; exact Cong.refl _ _
  | c :: d :: l, h, hq, k => by
    have h0 := hq 0
    simp only [sd] at hq h0
    rw [cf_zero] at h0
    have ih := sd_zero (d :: l) h0 (fun k => by have := hq (k + 1); rwa [cf_succ] at this)
    cases k with
    | succ k => rw [cf_succ]; exact ih k
    | zero =>
      rw [cf_zero]
      rw [polyZ_cons] at h
      have h1 := h0.mul (Cong.refl p a)
      rw [Int.zero_mul] at h1
      have h2 := h.sub h1
      rwa [Int.add_comm, Int.add_sub_cancel, Int.sub_zero] at h2

theorem roots_zero {p : Int} (hok : okP p = true) : ∀ (us l : List Int), l.length ≤ us.length → us.Pairwise (fun x y => ¬ Cong p (y - x) 0) → (∀ a ∈ us, Cong p (polyZ a l) 0) → ∀ k, Cong p (cf l k) 0 := by
  intro us
  induction us with
  | nil =>
    intro l hl _ _ k
    have : l = [] := List.eq_nil_of_length_eq_zero (by simpa using hl)
    rw [this, cf_nil]; exact Cong.refl _ _
  | cons a us ih =>
    intro l hl hd hz
    have ha := hz a (by simp)
    rw [List.pairwise_cons] at hd
    refine sd_zero l ha (ih (sd a l) (by rw [sd_len]; simp at hl; omega) hd.2 fun b hb => ?_)
    have h1 := hz b (by simp [hb])
    have h2 := (h1.sub ha)
    rw [sd_eq, Int.sub_self] at h2
    rcases Cong.mul_zero hok h2 with h3 | h3
    · exact absurd h3 (hd.1 b hb)
    · exact h3

theorem pairwise_of {p : Int} {us : List Int} (ha : allP p us = true) (hd : ∀ j k, j < k → k < us.length → us.getD j 0 ≠ us.getD k 0) : us.Pairwise (fun x y => ¬ Cong p (y - x) 0) := by
  rw [List.pairwise_iff_getElem]
  intro i j hi hj hij
  have h1 := hd i j hij hj
  have h2 := allP_getD ha hi
  have h3 := allP_getD ha hj
  rw [List.getD_eq_getElem?_getD, List.getElem?_eq_getElem hi, List.getD_eq_getElem?_getD, List.getElem?_eq_getElem hj] at h1
  rw [List.getD_eq_getElem?_getD, List.getElem?_eq_getElem hi] at h2
  rw [List.getD_eq_getElem?_getD, List.getElem?_eq_getElem hj] at h3
  exact elt_ne h3 h2 (fun e => h1 e.symm)

/-- Two polynomials with no more coefficients than points, of the same values there, are the same. -/
theorem same_cfs {p : Int} (hok : okP p = true) {us a b : List Int} (hu : us.Pairwise (fun x y => ¬ Cong p (y - x) 0)) (ha : allP p a = true) (hb : allP p b = true) (hla : a.length ≤ us.length) (hlb : b.length ≤ us.length)
    (hv : ∀ x ∈ us, valueP p x a = valueP p x b) : ∀ k, cf a k = cf b k := by
  have hp := okP_pos hok
  intro k
  have hcf : ∀ k, cf ((List.range us.length).map fun k => cf a k - cf b k) k = cf a k + (-1) * cf b k := fun k => by
    rw [cf_map_range]
    split
    · omega
    · rw [cf_out (l := a) (by omega), cf_out (l := b) (by omega)]; rfl
  have h1 := roots_zero hok us ((List.range us.length).map fun k => cf a k - cf b k) (by simp) hu (fun x hx => by
    refine (polyZ_scaled (a := a) (b := b) (c := -1) fun k => Cong.of_eq (hcf k)).trans ?_
    have h2 := ((valueP_cong p x a).symm.trans (Cong.of_eq (hv x hx))).trans (valueP_cong p x b)
    have h3 := h2.zero_sub
    refine Cong.trans (Cong.of_eq ?_) h3
    omega) k
  rw [hcf] at h1
  have h2 : Cong p (cf a k - cf b k) 0 := by refine Cong.trans (Cong.of_eq ?_) h1; omega
  exact h2.sub_zero.eq (cf_in hp.1 ha k) (cf_in hp.1 hb k)
theorem Through.unique {p : Int} (hok : okP p = true) {us ys R a : List Int} (h : Through p us ys R) (hu : us.Pairwise (fun x y => ¬ Cong p (y - x) 0)) (ha : allP p a = true) (hla : a.length ≤ us.length) (hv : ∀ j, j < us.length → valueP p (us.getD j 0) a = ys.getD j 0) : R = trimL a := by
  refine h.tr.ext (trimL_trimd a) fun k => ?_
  rw [cf_trimL]
  refine same_cfs hok hu h.al ha h.ln hla (fun x hx => ?_) k
  obtain ⟨j, hj, rfl⟩ := List.mem_iff_getElem.1 hx
  have h1 := h.va j hj
  have h2 := hv j hj
  rw [List.getD_eq_getElem?_getD, List.getElem?_eq_getElem hj, Option.getD_some] at h1 h2
  rw [h1, h2]
end Go.Proofs.Ytieejgkheijgeaa
