/-
  Interpolation in plain numbers, no program in sight: the polynomial through some points, point by point. No conditions.
-/
import Derived.Test.YtieejgkheijgeaaPolyB
namespace Go.Proofs.Ytieejgkheijgeaa
set_option linter.unusedVariables false

/-- The product of all x - a. -/
def prodX (x : Int) (as : List Int) : Int := as.foldr (fun a s => (x - a) * s) 1
theorem prodX_snoc (x a : Int) (as : List Int) : prodX x (as ++ [a]) = prodX x as * (x - a) := by
  induction as with
  | nil => simp [prodX]
  | cons b as ih =>
    have h1 : prodX x (b :: as ++ [a]) = (x - b) * prodX x (as ++ [a]) := rfl
    have h2 : prodX x (b :: as) = (x - b) * prodX x as := rfl
    rw [h1, h2, ih, Int.mul_assoc]
theorem prodX_zero {p : Int} (x : Int) (as : List Int) {a : Int} (h : a ∈ as) (hx : Cong p (x - a) 0) : Cong p (prodX x as) 0 := by
  induction as with
  | nil => simp at h
  | cons b as ih =>
    have h2 : prodX x (b :: as) = (x - b) * prodX x as := rfl
    rw [h2]
    rcases List.mem_cons.1 h with rfl | h
    · have := hx.mul (Cong.refl p (prodX x as)); rwa [Int.zero_mul] at this
    · have := (Cong.refl p (x - b)).mul (ih h); rwa [Int.mul_zero] at this
theorem prodX_not {p : Int} (hok : okP p = true) (x : Int) (as : List Int) (h : ∀ a ∈ as, ¬ Cong p (x - a) 0) : ¬ Cong p (prodX x as) 0 := by
  induction as with
  | nil =>
    intro hc
    have hp := okP_pos hok
    have h1 : Cong p 1 0 := hc
    have := (Cong.elt_zero (p := p) (x := 1) (by omega)).1 h1
    omega
  | cons b as ih =>
    have h2 : prodX x (b :: as) = (x - b) * prodX x as := rfl
    rw [h2]
    intro hc
    rcases Cong.mul_zero hok hc with h1 | h1
    · exact h b (by simp) h1
    · exact ih (fun a ha => h a (by simp [ha])) h1
theorem elt_ne {p x a : Int} (hx : 0 ≤ x ∧ x < p) (ha : 0 ≤ a ∧ a < p) (hne : x ≠ a) : ¬ Cong p (x - a) 0 := fun h => hne (h.sub_zero.eq hx ha)
theorem polyZ_scaled {p x c : Int} {s a b : List Int} (h : ∀ k, Cong p (cf s k) (cf a k + c * cf b k)) : Cong p (polyZ x s) (polyZ x a + c * polyZ x b) := by
  have hN : s.length ≤ s.length + a.length + b.length ∧ a.length ≤ s.length + a.length + b.length ∧ b.length ≤ s.length + a.length + b.length := by omega
  generalize s.length + a.length + b.length = N at hN
  rw [polyZ_Sg x s N hN.1, polyZ_Sg x a N hN.2.1, polyZ_Sg x b N hN.2.2, ← Sg_mul, ← Sg_add]
  refine Sg_cong fun i _ => ?_
  have e : cf a i * x ^ i + c * (cf b i * x ^ i) = (cf a i + c * cf b i) * x ^ i := by rw [Int.add_mul, Int.mul_assoc]
  rw [e]
  exact (h i).mul (Cong.refl _ _)
theorem value_of {p x : Int} (hp : 2 ≤ p) {l : List Int} {y : Int} (hy : 0 ≤ y ∧ y < p) (h : Cong p (polyZ x l) y) : valueP p x l = y := ((valueP_cong p x l).trans h).eq (valueP_in hp x l) hy

/-- What holds between the rounds of Interpolate. -/
structure Itp (p : Int) (as ys poly node : List Int) (i : Nat) : Prop where
  lp : poly.length = i
  ln : node.length = i + 1
  ap : allP p poly = true
  an : allP p node = true
  pv : ∀ j, j < i → Cong p (polyZ (as.getD j 0) poly) (ys.getD j 0)
  nv : ∀ x, Cong p (polyZ x node) (prodX x (as.take i))

theorem Itp.start {p : Int} (hp : 2 ≤ p) (as ys : List Int) : Itp p as ys [] [1] 0 :=
  ⟨rfl, rfl, rfl, allP_iff.2 (by simp; omega), fun j hj => absurd hj (by omega), fun x => by simp [polyZ, prodX]; exact Cong.refl _ _⟩

theorem take_mem {l : List Int} {i : Nat} {a : Int} (h : a ∈ l.take i) : ∃ j, j < i ∧ j < l.length ∧ l.getD j 0 = a := by
  obtain ⟨j, hj, e⟩ := List.mem_iff_getElem.1 h
  have hl : (l.take i).length ≤ l.length ∧ (l.take i).length ≤ i := by rw [List.length_take]; omega
  refine ⟨j, by omega, by omega, ?_⟩
  rw [List.getD_eq_getElem?_getD, List.getElem?_eq_getElem (by omega)]
  rw [List.getElem_take] at e
  exact e

/-- The node is not 0 at a new point. -/
theorem Itp.new {p : Int} (hok : okP p = true) {as ys poly node : List Int} {i : Nat} (h : Itp p as ys poly node i) (ha : allP p as = true) (hi : i < as.length) (hd : ∀ j k, j < k → k < as.length → as.getD j 0 ≠ as.getD k 0) :
    0 < valueP p (as.getD i 0) node ∧ valueP p (as.getD i 0) node < p := by
  have hp := okP_pos hok
  have hin := valueP_in hp.1 (as.getD i 0) node
  refine ⟨?_, hin.2⟩
  rcases Int.lt_or_le 0 (valueP p (as.getD i 0) node) with h1 | h1
  · exact h1
  · exfalso
    have h0 : valueP p (as.getD i 0) node = 0 := by omega
    have h2 := (valueP_cong p (as.getD i 0) node).symm
    rw [h0] at h2
    refine prodX_not hok (as.getD i 0) (as.take i) (fun a hm => ?_) ((h.nv _).symm.trans h2)
    obtain ⟨j, hj, hjl, rfl⟩ := take_mem hm
    exact elt_ne (allP_getD ha hi) (allP_getD ha hjl) (fun e => hd j i hj hi e.symm)

theorem take_succ_getD (l : List Int) (k : Nat) (h : k < l.length) : l.take (k + 1) = l.take k ++ [l.getD k 0] := by
  rw [List.take_add_one, List.getElem?_eq_getElem h, List.getD_eq_getElem?_getD, List.getElem?_eq_getElem h]; rfl

theorem Itp.step {p : Int} (hok : okP p = true) {as ys poly node : List Int} {i : Nat} (h : Itp p as ys poly node i) (ha : allP p as = true) (hy : allP p ys = true) (hi : i < as.length) (hi2 : i < ys.length) {inv : Int} (hv : Cong p (valueP p (as.getD i 0) node * inv) 1) :
    Itp p as ys (addTo p (mulP p (subP p (ys.getD i 0) (valueP p (as.getD i 0) poly)) inv) 0 node (poly ++ List.replicate 1 0) (i + 1)) (rawMul p node [subP p 0 (as.getD i 0), 1]) (i + 1) := by
  have hp := okP_pos hok
  have hap : allP p (poly ++ List.replicate 1 0) = true := allP_append.2 ⟨h.ap, allP_iff.2 (by simp; omega)⟩
  have hln : (poly ++ List.replicate 1 0).length = i + 1 := by simp [h.lp]
  have hcf : ∀ k, cf (poly ++ List.replicate 1 0) k = cf poly k := fun k => by
    unfold cf
    rw [List.getD_eq_getElem?_getD, List.getD_eq_getElem?_getD, List.getElem?_append]
    split
    · rfl
    · rw [List.getElem?_replicate, List.getElem?_eq_none (by omega)]
      split <;> rfl
  generalize hby : mulP p (subP p (ys.getD i 0) (valueP p (as.getD i 0) poly)) inv = by_
  have hval : ∀ z, Cong p (polyZ z (addTo p by_ 0 node (poly ++ List.replicate 1 0) (i + 1))) (polyZ z poly + by_ * polyZ z node) := fun z => polyZ_scaled fun k => by
    by_cases hk : k < i + 1
    · rw [cf_addTo h.ln (cf_in hp.1 hap) (by rw [hln]; exact hk), hcf, if_pos (Nat.zero_le _), Nat.sub_zero]
      exact Cong.mod _ _
    · rw [cf_out (by rw [addTo_len, hln]; omega), cf_out (l := poly) (by rw [h.lp]; omega), cf_out (l := node) (by rw [h.ln]; omega), Int.mul_zero]
      exact Cong.refl _ _
  refine ⟨by rw [addTo_len, hln], by simp [rawMul, h.ln], addTo_allP hp.1 _ _ _ _ _ hap, rawMul_allP hp.1 _ _, fun j hj => ?_, fun x => ?_⟩
  · refine (hval _).trans ?_
    by_cases hji : j = i
    · subst hji
      have h1 := valueP_cong p (as.getD j 0) poly
      have h2 := valueP_cong p (as.getD j 0) node
      generalize valueP p (as.getD j 0) poly = u at *
      generalize valueP p (as.getD j 0) node = v at *
      have h3 : Cong p (by_ * polyZ (as.getD j 0) node) (ys.getD j 0 - u) := by
        rw [← hby]
        have h4 : Cong p (mulP p (subP p (ys.getD j 0) u) inv * polyZ (as.getD j 0) node) ((ys.getD j 0 - u) * inv * v) := (((Cong.mulP _ _ _).trans ((Cong.subP _ _ _).mul (Cong.refl _ _)))).mul h2.symm
        refine h4.trans ?_
        rw [Int.mul_assoc, Int.mul_comm inv]
        have := (Cong.refl p (ys.getD j 0 - u)).mul hv
        rwa [Int.mul_one] at this
      have h5 := h1.symm.add h3
      refine h5.trans (Cong.of_eq ?_)
      omega
    · have h1 := h.pv j (by omega)
      have h2 : Cong p (polyZ (as.getD j 0) node) 0 := (h.nv _).trans (prodX_zero _ _ (a := as.getD j 0) (by
        rw [List.getD_eq_getElem?_getD, List.getElem?_eq_getElem (by omega)]
        exact List.mem_take_iff_getElem.2 ⟨j, by omega, rfl⟩) (by rw [Int.sub_self]; exact Cong.refl _ _))
      have h3 := h1.add ((Cong.refl p by_).mul h2)
      rwa [Int.mul_zero, Int.add_zero] at h3
  · have hml : mulL p node [subP p 0 (as.getD i 0), 1] = mulL p node [subP p 0 (as.getD i 0), 1] := rfl
    have h1 : Cong p (polyZ x (rawMul p node [subP p 0 (as.getD i 0), 1])) (polyZ x node * polyZ x [subP p 0 (as.getD i 0), 1]) := polyZ_prod fun k => by
      unfold rawMul
      rw [cf_map_range]
      split
      · exact Cong.mod _ _
      · rename_i hk
        rw [conv_out (by omega)]
        exact Cong.refl _ _
    refine h1.trans ?_
    rw [take_succ_getD as i hi, prodX_snoc]
    refine (h.nv x).mul ?_
    have h2 : polyZ x [subP p 0 (as.getD i 0), 1] = x + subP p 0 (as.getD i 0) := by simp [polyZ]
    rw [h2]
    have h3 := (Cong.refl p x).add (Cong.subP p 0 (as.getD i 0))
    refine h3.trans (Cong.of_eq ?_)
    omega

/-- What Interpolate hands back. -/
structure Through (p : Int) (as ys R : List Int) : Prop where
  tr : Trimd R
  al : allP p R = true
  ln : R.length ≤ as.length
  va : ∀ j, j < as.length → valueP p (as.getD j 0) R = ys.getD j 0
theorem Itp.done {p : Int} (hp : 2 ≤ p) {as ys poly node : List Int} {n : Nat} (h : Itp p as ys poly node n) (hn : as.length = n) (hn2 : ys.length = n) (hy : allP p ys = true) : Through p as ys (trimL poly) :=
  ⟨trimL_trimd _, trimL_allP h.ap, by rw [trimL_len]; have := tn_le poly poly.length; have := h.lp; omega, fun j hj => value_of hp (allP_getD hy (by omega)) ((polyZ_cfs fun k => by rw [cf_trimL]; exact Cong.refl _ _).trans (h.pv j (by omega)))⟩
end Go.Proofs.Ytieejgkheijgeaa
