/-
  What is known of a word, and the polynomial through it, no program in sight. No conditions.
-/
import Derived.Test.YtieejgkheijgeaaCode4
import Derived.Test.YtieejgkheijgeaaCellsO
namespace Go.Proofs.Ytieejgkheijgeaa
set_option linter.unusedVariables false

/-- What is known is right. -/
def KnV (p : Int) (cs : List Int) (l : List (Int × Int)) : Prop := ∀ e ∈ l, e.2 = valueP p e.1 cs
theorem knV_of {p : Int} {cs vs : List Int} {bs : List Bool} {N : Nat} (h : ∀ j, j < N → bs.getD j false = true → vs.getD j 0 = valueP p ((j : Int) + 1) cs) (hl : vs.length = N) : KnV p cs (knL vs bs) := fun e he => by
  obtain ⟨j, h1, h2, h3⟩ := knL_of he
  rw [h3]
  exact h j (by omega) h2
theorem KnV.ok {p : Int} (hp : 2 ≤ p) {cs vs : List Int} {bs : List Bool} (h : KnV p cs (knL vs bs)) : knOk p vs bs := fun e he => by
  rw [h e he]; exact valueP_in hp _ _
theorem KnV.vals {p : Int} {cs : List Int} : ∀ {l : List (Int × Int)}, KnV p cs l → vlK l = valsP p cs (ptK l)
  | [], _ => rfl
  | e :: l, h => by
    have h1 := KnV.vals (l := l) fun x hx => h x (List.mem_cons_of_mem _ hx)
    have h2 := h e (List.mem_cons_self ..)
    unfold vlK valsP ptK at *
    rw [List.map_cons, List.map_cons, List.map_cons, h1, h2]
theorem KnV.agr {p : Int} {cs : List Int} : ∀ {l : List (Int × Int)}, KnV p cs l → Go.Proofs.Ytieejgkheijgeaa.agr p cs l = l.length
  | [], _ => rfl
  | e :: l, h => by
    have h1 := KnV.agr (l := l) fun x hx => h x (List.mem_cons_of_mem _ hx)
    have h2 := h e (List.mem_cons_self ..)
    unfold Go.Proofs.Ytieejgkheijgeaa.agr at *
    rw [List.filter_cons, if_pos (by simp [h2])]
    simp [h1]
theorem KnV.trim {p : Int} (hp : 2 ≤ p) {cs : List Int} {l : List (Int × Int)} (h : KnV p cs l) : KnV p (trimL cs) l := fun e he => by rw [value_trim p _ hp]; exact h e he

/-- The polynomial through k known places is the word's. -/
theorem fills {p : Int} (hok : okP p = true) {cs vs R : List Int} {bs : List Bool} {k : Nat} (hc : allP p cs = true) (hl : cs.length ≤ k) (hv : KnV p cs (knL vs bs)) (hvp : (vs.length : Int) < p) (hk : k ≤ (knL vs bs).length)
    (h : Through p (ptK ((knL vs bs).take k)) (vlK ((knL vs bs).take k)) R) : R = trimL cs := by
  have hlen : (ptK ((knL vs bs).take k)).length = k := by rw [ptK_len, List.length_take]; omega
  have hu : allP p (ptK ((knL vs bs).take k)) = true := by rw [ptK_take]; exact take_allP (ptK_allP vs bs hvp) k
  have hd : Apart2 (ptK ((knL vs bs).take k)) := by rw [ptK_take]; exact (ptK_apart vs bs).take k
  have hv2 : KnV p cs ((knL vs bs).take k) := fun e he => hv e (List.mem_of_mem_take he)
  refine h.unique hok (pairwise_of hu hd) hc (by omega) fun j hj => ?_
  rw [hv2.vals, valsP_at p cs _ hj]

theorem knF_pts (v : Int) : ∀ (vs : List Int) (bs : List Bool) (i : Int) (j : Nat), ptK (knF i (vs.set j v) bs) = ptK (knF i vs bs)
  | [], bs, i, j => by simp
  | u :: vs, [], i, j => by cases j <;> simp [knF]
  | u :: vs, c :: bs, i, 0 => by
    simp only [List.set_cons_zero, knF]
    cases c <;> simp [ptK]
  | u :: vs, c :: bs, i, j + 1 => by
    have := knF_pts v vs bs (i + 1) j
    unfold ptK at *
    simp only [List.set_cons_succ, knF]
    cases c
    · simpa using this
    · simp [this]
theorem knL_pts (v : Int) (vs : List Int) (bs : List Bool) (j : Nat) : ptK (knL (vs.set j v) bs) = ptK (knL vs bs) := knF_pts v vs bs 1 j
theorem knL_setlen (v : Int) (vs : List Int) (bs : List Bool) (j : Nat) : (knL (vs.set j v) bs).length = (knL vs bs).length := by
  rw [← ptK_len, knL_pts, ptK_len]
theorem ptK_nodup (vs : List Int) (bs : List Bool) : (ptK (knL vs bs)).Nodup := by
  unfold ptK
  rw [List.nodup_iff_pairwise_ne, List.pairwise_map]
  exact (knF_sorted vs bs 1).imp fun h => by omega
theorem agr_all {p : Int} {cs : List Int} {l : List (Int × Int)} (h : agr p cs l = l.length) : ∀ e ∈ l, valueP p e.1 cs = e.2 := by
  unfold agr at h
  intro e he
  have := List.length_filter_eq_length_iff.1 h e he
  simpa using this

/-- The places of what is known. -/
def plK (l : List (Int × Int)) : List Int := l.map fun e => e.1 - 1
theorem plK_len (l : List (Int × Int)) : (plK l).length = l.length := by simp [plK]
theorem plK_at {vs : List Int} {bs : List Bool} {r : Nat} (hr : r < (knL vs bs).length) : ∃ i : Nat, i < vs.length ∧ bs.getD i false = true ∧ (plK (knL vs bs)).getD r 0 = i := by
  obtain ⟨i, h1, h2, h3⟩ := knL_of (List.getElem_mem hr)
  refine ⟨i, h1, h2, ?_⟩
  unfold plK
  rw [List.getD_eq_getElem?_getD, List.getElem?_map, List.getElem?_eq_getElem hr]
  show (knL vs bs)[r].1 - 1 = i
  rw [h3]
  show (i : Int) + 1 - 1 = i
  omega

theorem set_same (vs : List Int) {i : Nat} {v : Int} (hi : i < vs.length) (h : vs.getD i 0 = v) : vs.set i v = vs := by
  rw [List.getD_eq_getElem?_getD, List.getElem?_eq_getElem hi, Option.getD_some] at h
  rw [← h]
  exact List.set_getElem_self hi

/-- Whether a change is noticed. -/
theorem right_changed {p : Int} (hok : okP p = true) {P vs R : List Int} {bs : List Bool} {K i : Nat} {v : Int} (hP : allP p P = true) (hlP : P.length ≤ K) (hv : KnV p P (knL vs bs)) (hvl : vs.length = bs.length) (hvp : (vs.length : Int) < p)
    (hi : i < vs.length) (hb : bs.getD i false = true) (hK : K ≤ (knL vs bs).length) (hR : Through p (ptK ((knL (vs.set i v) bs).take K)) (vlK ((knL (vs.set i v) bs).take K)) R) :
    ((agr p R (knL (vs.set i v) bs) : Int) == ((knL (vs.set i v) bs).length : Int)) = ((vs.getD i 0 == v) || decide ((knL vs bs).length ≤ K)) := by
  have hp := (okP_pos hok).1
  have hlen := knL_setlen v vs bs i
  by_cases hy : vs.getD i 0 = v
  · have hs : vs.set i v = vs := set_same vs hi hy
    rw [hs] at hR ⊢
    rw [fills hok hP hlP hv hvp hK hR, (hv.trim hp).agr, hy]
    simp
  · by_cases hk : (knL vs bs).length ≤ K
    · have hkk : (knL vs bs).length = K := by omega
      have htk : (knL (vs.set i v) bs).take K = knL (vs.set i v) bs := List.take_of_length_le (by omega)
      rw [htk] at hR
      have hall : KnV p R (knL (vs.set i v) bs) := fun e he => by
        obtain ⟨j, hj, rfl⟩ := List.getElem_of_mem he
        have := hR.va j (by rw [ptK_len]; exact hj)
        rw [ptK_at hj, vlK_at hj] at this
        exact this.symm
      rw [hall.agr, decide_eq_true hk]
      simp
    · rw [decide_eq_false hk, Bool.or_false, beq_eq_false_iff_ne.2 hy]
      apply beq_eq_false_iff_ne.2
      intro he
      have hall := agr_all (show agr p R (knL (vs.set i v) bs) = (knL (vs.set i v) bs).length by exact_mod_cast he)
      have hmem : ((i : Int) + 1, v) ∈ knL (vs.set i v) bs := by
        have := knL_mem (vs := vs.set i v) (bs := bs) (by rw [List.length_set]; exact hvl) (j := i) (by rw [List.length_set]; exact hi) hb
        rwa [setI_getD, if_pos ⟨rfl, hi⟩] at this
      have hpt : (i : Int) + 1 ∈ ptK (knL vs bs) := by
        rw [← knL_pts v vs bs i]
        exact List.mem_map.2 ⟨_, hmem, rfl⟩
      have hlr : R.length ≤ K := by have := hR.ln; rw [ptK_len, List.length_take] at this; omega
      have hul : ((ptK (knL vs bs)).erase ((i : Int) + 1)).length = (knL vs bs).length - 1 := by rw [List.length_erase_of_mem hpt, ptK_len]
      have hpw := (pairwise_of (ptK_allP vs bs hvp) (ptK_apart vs bs)).sublist (List.erase_sublist (a := (i : Int) + 1))
      have hcf := same_cfs hok hpw hR.al hP (by omega) (by omega) (fun x hx => by
        have hx2 := (ptK_nodup vs bs).mem_erase_iff.1 hx
        rw [← knL_pts v vs bs i] at hx2
        obtain ⟨e, he2, rfl⟩ := List.mem_map.1 hx2.2
        rw [hall e he2]
        obtain ⟨j, hj, hbj, rfl⟩ := knL_of he2
        rw [List.length_set] at hj
        have hji : j ≠ i := fun e => hx2.1 (by show (j : Int) + 1 = (i : Int) + 1; rw [e])
        show (vs.set i v).getD j 0 = valueP p ((j : Int) + 1) P
        rw [setI_getD, if_neg (fun h => hji h.1)]
        exact hv _ (knL_mem hvl hj hbj))
      have h1 : valueP p ((i : Int) + 1) R = v := hall _ hmem
      have h2 : vs.getD i 0 = valueP p ((i : Int) + 1) P := hv _ (knL_mem hvl hi hb)
      apply hy
      rw [h2, ← h1]
      refine Cong.eq (p := p) ?_ (valueP_in hp _ _) (valueP_in hp _ _)
      exact (valueP_cong _ _ _).trans ((polyZ_cfs fun k => Cong.of_eq (hcf k).symm).trans (valueP_cong _ _ _).symm)
theorem KnV.okSet {p : Int} (hp : 2 ≤ p) {cs vs : List Int} {bs : List Bool} {i : Nat} {v : Int} (h : KnV p cs (knL vs bs)) (hvl : vs.length = bs.length) (hv : 0 ≤ v ∧ v < p) : knOk p (vs.set i v) bs := fun e he => by
  obtain ⟨j, hj, hb, rfl⟩ := knL_of he
  rw [List.length_set] at hj
  show 0 ≤ (vs.set i v).getD j 0 ∧ (vs.set i v).getD j 0 < p
  rw [setI_getD]
  split
  · exact hv
  · have := h _ (knL_mem hvl hj hb)
    have h2 : vs.getD j 0 = valueP p ((j : Int) + 1) cs := this
    rw [h2]; exact valueP_in hp _ _
end Go.Proofs.Ytieejgkheijgeaa
