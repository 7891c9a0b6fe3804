/-
  The known ones among the cells of a word, no program in sight. No conditions.
-/
import Derived.Test.YtieejgkheijgeaaShareA
namespace Go.Proofs.Ytieejgkheijgeaa
set_option linter.unusedVariables false

/-- The places, counted from i on, and values of the cells that are known. -/
def knF (i : Int) : List Int → List Bool → List (Int × Int)
  | v :: vs, b :: bs => if b then (i, v) :: knF (i + 1) vs bs else knF (i + 1) vs bs
  | _, _ => []
theorem knF_snoc (v : Int) (b : Bool) : ∀ (vs : List Int) (bs : List Bool) (i : Int), vs.length = bs.length → knF i (vs ++ [v]) (bs ++ [b]) = knF i vs bs ++ (if b then [(i + vs.length, v)] else [])
  | [], [], i, _ => by cases b <;> simp [knF]
  | u :: vs, c :: bs, i, h => by
    have := knF_snoc v b vs bs (i + 1) (by simpa using h)
    simp only [List.cons_append, knF, this, List.length_cons]
    rw [show i + 1 + (vs.length : Int) = i + ((vs.length + 1 : Nat) : Int) by omega]
    cases c <;> rfl
/-- All that is known. -/
def knL (vs : List Int) (bs : List Bool) : List (Int × Int) := knF 1 vs bs
theorem take_succB (l : List Bool) {j : Nat} (hj : j < l.length) : l.take (j + 1) = l.take j ++ [l.getD j false] := by
  rw [List.take_add_one, List.getD_eq_getElem?_getD, List.getElem?_eq_getElem hj]; rfl
theorem take_succI (l : List Int) {j : Nat} (hj : j < l.length) : l.take (j + 1) = l.take j ++ [l.getD j 0] := by
  rw [List.take_add_one, List.getD_eq_getElem?_getD, List.getElem?_eq_getElem hj]; rfl
theorem knL_step {vs : List Int} {bs : List Bool} (h : vs.length = bs.length) {j : Nat} (hj : j < vs.length) :
    knL (vs.take (j + 1)) (bs.take (j + 1)) = knL (vs.take j) (bs.take j) ++ (if bs.getD j false then [((j : Int) + 1, vs.getD j 0)] else []) := by
  rw [take_succI vs hj, take_succB bs (by omega)]
  unfold knL
  rw [knF_snoc _ _ _ _ _ (by rw [List.length_take, List.length_take]; omega), List.length_take, Nat.min_eq_left (by omega), Int.add_comm]
theorem knF_split : ∀ (vs : List Int) (bs : List Bool) (i : Int) (k : Nat), vs.length = bs.length → knF i vs bs = knF i (vs.take k) (bs.take k) ++ knF (i + (vs.take k).length) (vs.drop k) (bs.drop k)
  | [], [], i, k, _ => by simp [knF]
  | u :: vs, c :: bs, i, 0, h => by simp [knF]
  | u :: vs, c :: bs, i, k + 1, h => by
    have := knF_split vs bs (i + 1) k (by simpa using h)
    simp only [List.take_succ_cons, List.drop_succ_cons, knF, List.length_cons]
    rw [this, show i + 1 + ((vs.take k).length : Int) = i + (((vs.take k).length + 1 : Nat) : Int) by omega]
    cases c <;> rfl
theorem knL_prefix {vs : List Int} {bs : List Bool} (h : vs.length = bs.length) (j : Nat) : ∃ t, knL vs bs = knL (vs.take j) (bs.take j) ++ t := ⟨_, knF_split vs bs 1 j h⟩
theorem knL_mem {vs : List Int} {bs : List Bool} (h : vs.length = bs.length) {j : Nat} (hj : j < vs.length) (hb : bs.getD j false = true) : ((j : Int) + 1, vs.getD j 0) ∈ knL vs bs := by
  obtain ⟨t, ht⟩ := knL_prefix h (j + 1)
  rw [ht, knL_step h hj, hb]; simp
theorem knL_lt {vs : List Int} {bs : List Bool} (h : vs.length = bs.length) {j : Nat} (hj : j < vs.length) (hb : bs.getD j false = true) : (knL (vs.take j) (bs.take j)).length < (knL vs bs).length := by
  obtain ⟨t, ht⟩ := knL_prefix h (j + 1)
  rw [ht, knL_step h hj, hb, List.length_append, List.length_append]; simp; omega
theorem knL_takes {vs : List Int} {bs : List Bool} (h : vs.length = bs.length) (j : Nat) : knL (vs.take j) (bs.take j) = (knL vs bs).take (knL (vs.take j) (bs.take j)).length := by
  obtain ⟨t, ht⟩ := knL_prefix h j
  rw [ht, List.take_left']; rfl
theorem knF_len : ∀ (vs : List Int) (bs : List Bool) (i : Int), (knF i vs bs).length ≤ vs.length
  | [], _, i => by simp [knF]
  | u :: vs, [], i => by simp [knF]
  | u :: vs, c :: bs, i => by
    have := knF_len vs bs (i + 1)
    simp only [knF, List.length_cons]
    split
    · simp; omega
    · omega
theorem knL_len (vs : List Int) (bs : List Bool) : (knL vs bs).length ≤ vs.length := knF_len vs bs 1
/-- What is known: where it lies, and that it is the value there. -/
theorem knF_of : ∀ (vs : List Int) (bs : List Bool) (i : Int) (e : Int × Int), e ∈ knF i vs bs → ∃ j : Nat, j < vs.length ∧ bs.getD j false = true ∧ e = (i + j, vs.getD j 0)
  | [], _, i, e, h => by simp [knF] at h
  | u :: vs, [], i, e, h => by simp [knF] at h
  | u :: vs, c :: bs, i, e, h => by
    have ih := knF_of vs bs (i + 1) e
    simp only [knF] at h
    by_cases hc : c = true
    · rw [hc] at h
      simp only [if_true, List.mem_cons] at h
      rcases h with h | h
      · exact ⟨0, by simp, by simp [hc], by rw [h]; simp⟩
      · obtain ⟨j, h1, h2, h3⟩ := ih h
        exact ⟨j + 1, by simpa using h1, by simpa using h2, by rw [h3]; simp; omega⟩
    · rw [if_neg hc] at h
      obtain ⟨j, h1, h2, h3⟩ := ih h
      exact ⟨j + 1, by simpa using h1, by simpa using h2, by rw [h3]; simp; omega⟩
theorem knL_of {vs : List Int} {bs : List Bool} {e : Int × Int} (h : e ∈ knL vs bs) : ∃ j : Nat, j < vs.length ∧ bs.getD j false = true ∧ e = ((j : Int) + 1, vs.getD j 0) := by
  obtain ⟨j, h1, h2, h3⟩ := knF_of vs bs 1 e h
  exact ⟨j, h1, h2, by rw [h3, Int.add_comm]⟩
theorem knF_sorted : ∀ (vs : List Int) (bs : List Bool) (i : Int), (knF i vs bs).Pairwise (fun a b => a.1 < b.1)
  | [], _, i => by simp [knF]
  | u :: vs, [], i => by simp [knF]
  | u :: vs, c :: bs, i => by
    have ih := knF_sorted vs bs (i + 1)
    simp only [knF]
    split
    · refine List.pairwise_cons.2 ⟨fun e he => ?_, ih⟩
      obtain ⟨j, _, _, h3⟩ := knF_of vs bs (i + 1) e he
      rw [h3]; show i < i + 1 + (j : Int); omega
    · exact ih

/-- The points of what is known, and the values. -/
def ptK (l : List (Int × Int)) : List Int := l.map fun e => e.1
def vlK (l : List (Int × Int)) : List Int := l.map fun e => e.2
theorem ptK_len (l : List (Int × Int)) : (ptK l).length = l.length := by simp [ptK]
theorem vlK_len (l : List (Int × Int)) : (vlK l).length = l.length := by simp [vlK]
theorem ptK_take (l : List (Int × Int)) (k : Nat) : ptK (l.take k) = (ptK l).take k := by simp [ptK, List.map_take]
theorem vlK_take (l : List (Int × Int)) (k : Nat) : vlK (l.take k) = (vlK l).take k := by simp [vlK, List.map_take]
theorem ptK_at {l : List (Int × Int)} {j : Nat} (hj : j < l.length) : (ptK l).getD j 0 = l[j].1 := by
  unfold ptK
  rw [List.getD_eq_getElem?_getD, List.getElem?_map, List.getElem?_eq_getElem hj]; rfl
theorem vlK_at {l : List (Int × Int)} {j : Nat} (hj : j < l.length) : (vlK l).getD j 0 = l[j].2 := by
  unfold vlK
  rw [List.getD_eq_getElem?_getD, List.getElem?_map, List.getElem?_eq_getElem hj]; rfl
theorem ptK_apart (vs : List Int) (bs : List Bool) : Apart2 (ptK (knL vs bs)) := fun j k h1 h2 => by
  rw [ptK_len] at h2
  rw [ptK_at (by omega), ptK_at h2]
  have := (List.pairwise_iff_getElem.1 (knF_sorted vs bs 1)) j k (by show j < (knL vs bs).length; omega) h2 h1
  have h3 : (knL vs bs)[j].1 < (knL vs bs)[k].1 := this
  omega
theorem ptK_allP {p : Int} (vs : List Int) (bs : List Bool) (h : (vs.length : Int) < p) : allP p (ptK (knL vs bs)) = true := allP_iff.2 fun x hx => by
  obtain ⟨e, he, rfl⟩ := List.mem_map.1 hx
  obtain ⟨j, h1, _, h3⟩ := knL_of he
  rw [h3]; show 0 ≤ (j : Int) + 1 ∧ (j : Int) + 1 < p; omega
/-- All known values are elements. -/
def knOk (p : Int) (vs : List Int) (bs : List Bool) : Prop := ∀ e ∈ knL vs bs, 0 ≤ e.2 ∧ e.2 < p
theorem vlK_allP {p : Int} {vs : List Int} {bs : List Bool} (h : knOk p vs bs) : allP p (vlK (knL vs bs)) = true := allP_iff.2 fun x hx => by
  obtain ⟨e, he, rfl⟩ := List.mem_map.1 hx
  exact h e he
end Go.Proofs.Ytieejgkheijgeaa
