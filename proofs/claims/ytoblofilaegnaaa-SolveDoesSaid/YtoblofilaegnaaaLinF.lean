/-
  What the reduced form of linear equations tells about their solutions, in plain numbers, no program in sight. No conditions.
-/
import Derived.Test.YtoblofilaegnaaaLinE
namespace Go.Proofs.Ytoblofilaegnaaa
set_option linter.unusedVariables false

section
variable {p : Int} {c k : Nat} {lead : List Nat} {m : List (List Int)}
theorem RInv.idx (h : RInv p k lead m) {j : Nat} (hj : j ∈ lead) : ∃ i, i < lead.length ∧ lead.getD i 0 = j := by
  obtain ⟨i, hi, e⟩ := List.getElem_of_mem hj
  exact ⟨i, hi, by rw [List.getD_eq_getElem?_getD, List.getElem?_eq_getElem hi]; exact e⟩
theorem lead_mem {lead : List Nat} {i : Nat} (hi : i < lead.length) : lead.getD i 0 ∈ lead := by
  rw [List.getD_eq_getElem?_getD, List.getElem?_eq_getElem hi]; exact List.getElem_mem hi
/-- A column leads only once. -/
theorem RInv.inj (h : RInv p k lead m) {i i' : Nat} (hi : i < lead.length) (hi' : i' < lead.length) (e : lead.getD i 0 = lead.getD i' 0) : i = i' := by
  have h1 := h.one i i hi (by have := h.rm; omega)
  have h2 := h.one i' i hi' (by have := h.rm; omega)
  rw [if_pos rfl] at h1
  rw [e, h2] at h1
  by_cases e2 : i = i'
  · exact e2
  · rw [if_neg e2] at h1; omega

/-- A leading row under a list that is 0 at the free columns. -/
theorem RInv.row_free (h : RInv p c lead m) {z : Nat → Int} (hz : ∀ j, j < c → j ∉ lead → z j = 0) {i : Nat} (hi : i < lead.length) : Sg (fun j => mx m i j * z j) c = z (lead.getD i 0) := by
  have hrm := h.rm
  rw [Sg_single (j := lead.getD i 0) (h.lt i hi), h.one i i hi (by omega), if_pos rfl, Int.one_mul]
  intro j hj hne
  by_cases hm : j ∈ lead
  · obtain ⟨i', hi', rfl⟩ := h.idx hm
    rw [h.one i' i hi' (by omega), if_neg (fun e => hne (by rw [e])), Int.zero_mul]
  · rw [hz j hj hm, Int.mul_zero]
/-- A leading row under a list that is 0 at the free columns but one. -/
theorem RInv.row_one (h : RInv p c lead m) {z : Nat → Int} {f : Nat} (hf : f < c) (hfl : f ∉ lead) (hz : ∀ j, j < c → j ∉ lead → j ≠ f → z j = 0) {i : Nat} (hi : i < lead.length) : Sg (fun j => mx m i j * z j) c = mx m i f * z f + z (lead.getD i 0) := by
  have hrm := h.rm
  have hne0 : f ≠ lead.getD i 0 := fun e => hfl (by rw [e]; exact lead_mem hi)
  rw [Sg_two hf (h.lt i hi) hne0, h.one i i hi (by omega), if_pos rfl, Int.one_mul]
  intro j hj h1 h2
  by_cases hm : j ∈ lead
  · obtain ⟨i', hi', rfl⟩ := h.idx hm
    rw [h.one i' i hi' (by omega), if_neg (fun e => h2 (by rw [e])), Int.zero_mul]
  · rw [hz j hj hm h1, Int.mul_zero]
theorem RInv.row_zero (h : RInv p c lead m) (z : Nat → Int) {i : Nat} (hi : lead.length ≤ i) (hm : i < m.length) : Sg (fun j => mx m i j * z j) c = 0 := Sg_zero fun j hj => by rw [h.zero i j hi hm hj, Int.zero_mul]

/-- What the free column f gives rise to. -/
def kerZ (p : Int) (c : Nat) (lead : List Nat) (m : List (List Int)) (f : Nat) (j : Nat) : Int := if j = f then 1 else if c ≤ j then 0 else if j ∈ lead then subP p 0 (mx m (lead.idxOf j) f) else 0
theorem idxOf_lead (h : RInv p c lead m) {i : Nat} (hi : i < lead.length) : lead.idxOf (lead.getD i 0) = i := by
  have h1 : lead.idxOf (lead.getD i 0) < lead.length := List.idxOf_lt_length_of_mem (lead_mem hi)
  refine h.inj h1 hi ?_
  rw [List.getD_eq_getElem?_getD, List.getElem?_eq_getElem h1, Option.getD_some, List.getElem_idxOf]
theorem kerZ_lead (h : RInv p c lead m) {f : Nat} (hfl : f ∉ lead) {i : Nat} (hi : i < lead.length) : kerZ p c lead m f (lead.getD i 0) = subP p 0 (mx m i f) := by
  unfold kerZ
  have := h.lt i hi
  rw [if_neg (fun e => hfl (by rw [← e]; exact lead_mem hi)), if_neg (by omega), if_pos (lead_mem hi), idxOf_lead h hi]
theorem kerZ_free {f j : Nat} (hj : j ∉ lead) (hne : j ≠ f) : kerZ p c lead m f j = 0 := by
  unfold kerZ
  rw [if_neg hne, if_neg hj]; split <;> rfl
theorem kerZ_ker (h : RInv p c lead m) {f : Nat} (hf : f < c) (hfl : f ∉ lead) : Ker p (c + 1) m (kerZ p c lead m f) := by
  intro i hi
  have hc : kerZ p c lead m f c = 0 := by unfold kerZ; rw [if_neg (by omega), if_pos (Nat.le_refl c)]
  show Cong p (Sg (fun j => mx m i j * kerZ p c lead m f j) c + mx m i c * kerZ p c lead m f c) 0
  rw [hc, Int.mul_zero, Int.add_zero]
  by_cases hr : i < lead.length
  · rw [h.row_one hf hfl (fun j hj hm hne => kerZ_free hm hne) hr, kerZ_lead h hfl hr]
    have h1 : kerZ p c lead m f f = 1 := by unfold kerZ; rw [if_pos rfl]
    rw [h1, Int.mul_one]
    have := (Cong.refl p (mx m i f)).add (Cong.subP p 0 (mx m i f))
    rwa [show mx m i f + (0 - mx m i f) = 0 by omega] at this
  · rw [h.row_zero _ (by omega) hi]; exact Cong.refl _ _
/-- Behind a free column its list is 0. -/
theorem kerZ_above (h : RInv p c lead m) {f : Nat} (hp : 2 ≤ p) (hf : f < c) (hfl : f ∉ lead) {j : Nat} (hj : f < j) : kerZ p c lead m f j = 0 := by
  by_cases hm : j ∈ lead
  · obtain ⟨i, hi, rfl⟩ := h.idx hm
    rw [kerZ_lead h hfl hi, h.low i f hi hj]
    unfold subP
    rw [show (0 - 0 + p : Int) = p by omega, Int.emod_self]
  · exact kerZ_free hm (by omega)

/-- A column is free just where a list with right sides 0 ends there. -/
theorem RInv.free_iff (h : RInv p c lead m) (hp : 2 ≤ p) {f : Nat} (hf : f < c) : f ∉ lead ↔ ∃ z : Nat → Int, Ker p (c + 1) m z ∧ z f = 1 ∧ ∀ j, f < j → z j = 0 := by
  constructor
  · intro hfl
    exact ⟨kerZ p c lead m f, kerZ_ker h hf hfl, by unfold kerZ; rw [if_pos rfl], fun j hj => kerZ_above h hp hf hfl hj⟩
  · rintro ⟨z, hk, h1, h2⟩ hm
    obtain ⟨i, hi, rfl⟩ := h.idx hm
    have hrm := h.rm
    have := hk i (by omega)
    rw [Sg_single (j := lead.getD i 0) (by omega), h.one i i hi (by omega), if_pos rfl, h1] at this
    · have := this.eq (by omega) (by omega)
      omega
    · intro j hj hne
      rcases Nat.lt_or_ge j (lead.getD i 0) with h3 | h3
      · rw [h.low i j hi h3, Int.zero_mul]
      · rw [h2 j (by omega), Int.mul_zero]
/-- Two reduced forms under which the same lists are 0, as far as right sides of 0 go, lead in the same columns. -/
theorem RInv.same_lead {lead' : List Nat} {m' : List (List Int)} (hp : 2 ≤ p) (h : RInv p c lead m) (h' : RInv p c lead' m') (hk : ∀ z : Nat → Int, (∀ j, c ≤ j → z j = 0) → (Ker p (c + 1) m z ↔ Ker p (c + 1) m' z)) : lead = lead' := by
  have key : ∀ f, f < c → (f ∈ lead ↔ f ∈ lead') := by
    intro f hf
    have h1 := h.free_iff hp hf
    have h2 := h'.free_iff hp hf
    have h3 : (∃ z : Nat → Int, Ker p (c + 1) m z ∧ z f = 1 ∧ ∀ j, f < j → z j = 0) ↔ ∃ z : Nat → Int, Ker p (c + 1) m' z ∧ z f = 1 ∧ ∀ j, f < j → z j = 0 := by
      constructor
      · rintro ⟨z, a, b, d⟩; exact ⟨z, (hk z (fun j hj => d j (by omega))).1 a, b, d⟩
      · rintro ⟨z, a, b, d⟩; exact ⟨z, (hk z (fun j hj => d j (by omega))).2 a, b, d⟩
    have h4 := h1.trans (h3.trans h2.symm)
    constructor
    · intro a
      by_cases b : f ∈ lead'
      · exact b
      · exact absurd a (h4.2 b)
    · intro a
      by_cases b : f ∈ lead
      · exact b
      · exact absurd a (h4.1 b)
  rw [h.fil, h'.fil]
  apply List.filter_congr
  intro j hj
  have := key j (List.mem_range.1 hj)
  simp only [this]
/-- Fewer lists, more leading columns. -/
theorem RInv.more_lead {lead' : List Nat} {m' : List (List Int)} (hp : 2 ≤ p) (h : RInv p c lead m) (h' : RInv p c lead' m') (hk : ∀ z : Nat → Int, (∀ j, c ≤ j → z j = 0) → (Ker p (c + 1) m' z → Ker p (c + 1) m z)) : lead.length ≤ lead'.length := by
  have key : ∀ f, f ∈ lead → f ∈ lead' := by
    intro f hm
    have hf := h.mem_lt hm
    by_cases hm' : f ∈ lead'
    · exact hm'
    · obtain ⟨z, a, b, d⟩ := (h'.free_iff hp hf).1 hm'
      exact absurd hm ((h.free_iff hp hf).2 ⟨z, hk z (fun j hj => d j (by omega)) a, b, d⟩)
  rw [h.fil, h'.fil]
  rw [← List.countP_eq_length_filter, ← List.countP_eq_length_filter]
  apply List.countP_mono_left
  intro j _ hj
  simpa using key j (by simpa using hj)
theorem RInv.rank_le (h : RInv p c lead m) : lead.length ≤ c := by
  rw [h.fil]
  have := List.length_filter_le (fun j => decide (j ∈ lead)) (List.range c)
  simpa using this

/-- There is a solution as far as the rows tell. -/
def NoClash (c r : Nat) (m : List (List Int)) : Prop := ∀ i, r ≤ i → i < m.length → mx m i c = 0
/-- A list with the right side's place behind it. -/
def aug (c : Nat) (x : List Int) (t : Int) (j : Nat) : Int := if j < c then cf x j else if j = c then t else 0
theorem aug_sum (c : Nat) (x : List Int) (t : Int) (f : Nat → Int) : Sg (fun j => f j * aug c x t j) (c + 1) = Sg (fun j => f j * cf x j) c + f c * t := by
  show Sg (fun j => f j * aug c x t j) c + f c * aug c x t c = _
  congr 1
  · exact Sg_congr fun j hj => by unfold aug; rw [if_pos hj]
  · unfold aug; rw [if_neg (by omega), if_pos rfl]
/-- x solves the rows. -/
def Solv (p : Int) (c : Nat) (m : List (List Int)) (x : List Int) : Prop := ∀ i, i < m.length → Cong p (Sg (fun j => mx m i j * cf x j) c) (mx m i c)
theorem solv_ker {x : List Int} : Solv p c m x ↔ Ker p (c + 1) m (aug c x (-1)) := by
  constructor
  · intro h i hi
    rw [aug_sum]
    have := (h i hi).zero_sub
    rwa [Int.sub_eq_add_neg, ← Int.mul_neg_one] at this
  · intro h i hi
    have := h i hi
    rw [aug_sum, Int.mul_neg_one, ← Int.sub_eq_add_neg] at this
    exact this.sub_zero
/-- x is the solution that is 0 at the free columns. -/
structure SolX (p : Int) (c : Nat) (lead : List Nat) (m : List (List Int)) (x : List Int) : Prop where
  ln : x.length = c
  at_ : ∀ i, i < lead.length → cf x (lead.getD i 0) = mx m i c
  fr : ∀ j, j < c → j ∉ lead → cf x j = 0
theorem SolX.all {x : List Int} (h : SolX p c lead m x) (hR : RInv p c lead m) (hp : 2 ≤ p) (he : Elts p (c + 1) m) : allP p x = true := by
  refine allP_iff.2 fun y hy => ?_
  obtain ⟨j, hj, rfl⟩ := List.getElem_of_mem hy
  have e : x[j] = cf x j := by unfold cf; rw [List.getD_eq_getElem?_getD, List.getElem?_eq_getElem hj]; rfl
  rw [e]
  by_cases hm : j ∈ lead
  · obtain ⟨i, hi, rfl⟩ := hR.idx hm
    rw [h.at_ i hi]; exact he.mx_in hp (by have := hR.rm; omega) c
  · rw [h.fr j (by rw [← h.ln]; exact hj) hm]; omega
theorem SolX.solv {x : List Int} (h : SolX p c lead m x) (hR : RInv p c lead m) (hc : NoClash c lead.length m) : Solv p c m x := by
  intro i hi
  by_cases hr : i < lead.length
  · rw [hR.row_free (fun j hj hm => h.fr j hj hm) hr, h.at_ i hr]; exact Cong.refl _ _
  · rw [hR.row_zero _ (by omega) hi, hc i (by omega) hi]; exact Cong.refl _ _
/-- Whatever solves the rows shows that they do not clash. -/
theorem noClash_of {x : List Int} (hR : RInv p c lead m) (he : Elts p (c + 1) m) (hp : 2 ≤ p) (h : Solv p c m x) : NoClash c lead.length m := by
  intro i hi hm
  have := h i hm
  rw [hR.row_zero _ hi hm] at this
  exact (Cong.elt_zero (he.mx_in hp hm c)).1 this.symm
/-- There is but one solution that is 0 at the free columns. -/
theorem SolX.one {x y : List Int} (h : SolX p c lead m x) (hR : RInv p c lead m) (hp : 2 ≤ p) (he : Elts p (c + 1) m) (hy : Solv p c m y) (hyl : y.length = c) (hya : allP p y = true) (hyf : ∀ j, j < c → j ∉ lead → cf y j = 0) : y = x := by
  refine cf_ext (by rw [hyl, h.ln]) fun j => ?_
  by_cases hj : j < c
  · by_cases hm : j ∈ lead
    · obtain ⟨i, hi, rfl⟩ := hR.idx hm
      have := hy i (by have := hR.rm; omega)
      rw [hR.row_free hyf hi] at this
      rw [h.at_ i hi]
      exact this.eq (cf_in hp hya _) (he.mx_in hp (by have := hR.rm; omega) c)
    · rw [hyf j hj hm, h.fr j hj hm]
  · rw [cf_out (by omega), cf_out (by have := h.ln; omega)]
end

/-- One list for each free column, in order. -/
def freeL (c : Nat) (lead : List Nat) : List Nat := (List.range c).filter fun j => decide (j ∉ lead)
theorem freeL_len {p : Int} {c : Nat} {lead : List Nat} {m : List (List Int)} (h : RInv p c lead m) : lead.length + (freeL c lead).length = c := by
  have h1 : lead.length = ((List.range c).filter fun j => decide (j ∈ lead)).length := by rw [← h.fil]
  have h2 : ∀ l : List Nat, (l.filter fun j => decide (j ∈ lead)).length + (l.filter fun j => decide (j ∉ lead)).length = l.length := by
    intro l
    induction l with
    | nil => rfl
    | cons a l ih =>
      by_cases ha : a ∈ lead
      · simp [ha] at ih ⊢; omega
      · simp [ha] at ih ⊢; omega
  have h3 := h2 (List.range c)
  rw [List.length_range] at h3
  unfold freeL
  omega
theorem kerZ_in {p : Int} {c : Nat} {lead : List Nat} {m : List (List Int)} (hp : 2 ≤ p) (f j : Nat) : 0 ≤ kerZ p c lead m f j ∧ kerZ p c lead m f j < p := by
  unfold kerZ
  split
  · omega
  · split
    · omega
    · split
      · exact subP_in _ _ hp
      · omega
/-- The list of the free column f. -/
def kerX (p : Int) (c : Nat) (lead : List Nat) (m : List (List Int)) (f : Nat) : List Int := (List.range c).map (kerZ p c lead m f)
theorem cf_kerX (p : Int) (c : Nat) (lead : List Nat) (m : List (List Int)) (f j : Nat) : cf (kerX p c lead m f) j = if j < c then kerZ p c lead m f j else 0 := by unfold kerX; rw [cf_map_range]

/-- How many lists there are over n free columns, if they are not too many. -/
def cntP (p : Int) : Nat → Option Int
  | 0 => some 1
  | n + 1 => match cntP p n with
    | some v => if 1099511627776 / p < v then none else some (v * p)
    | none => none
theorem cntP_pow {p : Int} (hp : 2 ≤ p) : ∀ n v, cntP p n = some v → v = p ^ n ∧ 1 ≤ v
  | 0, v, h => by simp [cntP] at h; subst h; simp
  | n + 1, v, h => by
    simp only [cntP] at h
    split at h
    · rename_i u hu
      obtain ⟨h1, h2⟩ := cntP_pow hp n u hu
      split at h
      · cases h
      · injection h with h
        subst h
        refine ⟨by rw [Int.pow_succ, h1], ?_⟩
        have := Int.mul_le_mul h2 (show (1 : Int) ≤ p by omega) (by omega) (by omega)
        omega
    · cases h
theorem cntP_le {p : Int} (hp : 2 ≤ p) (n : Nat) : ∀ d v, cntP p (n + d) = some v → ∃ u, cntP p n = some u ∧ u ≤ v
  | 0, v, h => ⟨v, h, Int.le_refl _⟩
  | d + 1, v, h => by
    rw [← Nat.add_assoc] at h
    simp only [cntP] at h
    split at h
    · rename_i u hu
      obtain ⟨t, h1, h2⟩ := cntP_le hp n d u hu
      have h3 := (cntP_pow hp _ _ hu).2
      split at h
      · cases h
      · injection h with h
        subst h
        refine ⟨t, h1, ?_⟩
        have := Int.mul_le_mul_of_nonneg_left (show (1 : Int) ≤ p by omega) (show 0 ≤ u by omega)
        omega
    · cases h
end Go.Proofs.Ytoblofilaegnaaa
