/-
  Linear equations as lists of coefficients and right sides, in plain numbers, no program in sight. No conditions.
-/
import Derived.Test.YtoblofilaegnaaaLinC
namespace Go.Proofs.Ytoblofilaegnaaa
set_option linter.unusedVariables false

/-- The rows of equations, each with its right side behind it. -/
def augM (r c : Nat) (cells right : List Int) : List (List Int) := (List.range r).map fun i => (cells.drop (i * c)).take c ++ [right.getD i 0]
/-- Valid equations. -/
structure EqOk (p : Int) (r c : Nat) (cells right : List Int) : Prop where
  ok : okP p = true
  r32 : r ≤ 32
  c32 : c ≤ 32
  lc : cells.length = r * c
  lr : right.length = r
  ac : allP p cells = true
  ar : allP p right = true

theorem idx_lt {i r c j : Nat} (hi : i < r) (hj : j < c) : i * c + j < r * c := by
  have h1 : (i + 1) * c ≤ r * c := Nat.mul_le_mul_right c hi
  rw [Nat.succ_mul] at h1; omega
theorem row_le {i r c : Nat} (hi : i < r) : i * c + c ≤ r * c := by
  have h1 : (i + 1) * c ≤ r * c := Nat.mul_le_mul_right c hi
  rwa [Nat.succ_mul] at h1
theorem augM_len (r c : Nat) (cells right : List Int) : (augM r c cells right).length = r := by simp [augM]
theorem augM_at (r c : Nat) (cells right : List Int) {i : Nat} (hi : i < r) : (augM r c cells right).getD i [] = (cells.drop (i * c)).take c ++ [right.getD i 0] := by
  unfold augM
  rw [List.getD_eq_getElem?_getD, List.getElem?_map, List.getElem?_range hi]; rfl
theorem cf_append (a b : List Int) (j : Nat) : cf (a ++ b) j = if j < a.length then cf a j else cf b (j - a.length) := by
  unfold cf
  rw [List.getD_eq_getElem?_getD, List.getElem?_append]
  split
  · rw [List.getD_eq_getElem?_getD]
  · rw [List.getD_eq_getElem?_getD]
theorem cf_drop (l : List Int) (n j : Nat) : cf (l.drop n) j = cf l (n + j) := by
  unfold cf
  rw [List.getD_eq_getElem?_getD, List.getElem?_drop, List.getD_eq_getElem?_getD]
theorem rowL_len {r c : Nat} {cells : List Int} (hl : cells.length = r * c) {i : Nat} (hi : i < r) : ((cells.drop (i * c)).take c).length = c := by
  have := row_le (c := c) hi
  rw [List.length_take, List.length_drop, hl]; omega
theorem mx_augM {r c : Nat} {cells right : List Int} (hl : cells.length = r * c) {i : Nat} (hi : i < r) (j : Nat) : mx (augM r c cells right) i j = if j < c then cf cells (i * c + j) else if j = c then cf right i else 0 := by
  unfold mx
  rw [augM_at _ _ _ _ hi, cf_append, rowL_len hl hi]
  by_cases hj : j < c
  · rw [if_pos hj, if_pos hj, cf_take, if_pos hj, cf_drop]
  · rw [if_neg hj, if_neg hj]
    by_cases h2 : j = c
    · rw [if_pos h2, h2, Nat.sub_self]; rfl
    · rw [if_neg h2, cf_out (by simp; omega)]
theorem EqOk.elts {p : Int} {r c : Nat} {cells right : List Int} (h : EqOk p r c cells right) : Elts p (c + 1) (augM r c cells right) := fun i hi => by
  rw [augM_len] at hi
  rw [augM_at _ _ _ _ hi]
  refine ⟨by rw [List.length_append, rowL_len h.lc hi]; rfl, allP_append.2 ⟨allP_iff.2 fun x hx => allP_iff.1 h.ac x (List.mem_of_mem_drop (List.mem_of_mem_take hx)), allP_iff.2 fun x hx => ?_⟩⟩
  rw [List.mem_singleton.1 hx]
  exact allP_getD h.ar (by rw [h.lr]; exact hi)
/-- The sum of a row. -/
theorem augM_Sg {r c : Nat} {cells right : List Int} (hl : cells.length = r * c) {i : Nat} (hi : i < r) (z : Nat → Int) :
    Sg (fun j => mx (augM r c cells right) i j * z j) (c + 1) = Sg (fun j => cf cells (i * c + j) * z j) c + cf right i * z c := by
  show Sg (fun j => mx (augM r c cells right) i j * z j) c + mx (augM r c cells right) i c * z c = _
  rw [mx_augM hl hi, if_neg (by omega), if_pos rfl]
  congr 1
  exact Sg_congr fun j hj => by rw [mx_augM hl hi, if_pos hj]
/-- Under which lists valid equations are 0. -/
theorem ker_augM {p : Int} {r c : Nat} {cells right : List Int} (hl : cells.length = r * c) (z : Nat → Int) :
    Ker p (c + 1) (augM r c cells right) z ↔ ∀ i, i < r → Cong p (Sg (fun j => cf cells (i * c + j) * z j) c + cf right i * z c) 0 := by
  constructor
  · intro h i hi
    have := h i (by rw [augM_len]; exact hi)
    rwa [augM_Sg hl hi] at this
  · intro h i hi
    rw [augM_len] at hi
    rw [augM_Sg hl hi]; exact h i hi
theorem solv_augM {p : Int} {r c : Nat} {cells right : List Int} (hl : cells.length = r * c) (x : List Int) :
    Solv p c (augM r c cells right) x ↔ ∀ i, i < r → Cong p (Sg (fun j => cf cells (i * c + j) * cf x j) c) (cf right i) := by
  have e : ∀ i, i < r → Sg (fun j => mx (augM r c cells right) i j * cf x j) c = Sg (fun j => cf cells (i * c + j) * cf x j) c := fun i hi => Sg_congr fun j hj => by rw [mx_augM hl hi, if_pos hj]
  constructor
  · intro h i hi
    have := h i (by rw [augM_len]; exact hi)
    rwa [e i hi, mx_augM hl hi, if_neg (by omega), if_pos rfl] at this
  · intro h i hi
    rw [augM_len] at hi
    rw [e i hi, mx_augM hl hi, if_neg (by omega), if_pos rfl]; exact h i hi

/-- What Solve finds: the solution that is 0 at the free columns, or that there is none. -/
def SolveOf (p : Int) (c : Nat) (m0 : List (List Int)) : Option (List Int) → Prop
  | some x => ∃ m lead, Red p c m0 m lead ∧ NoClash c lead.length m ∧ SolX p c lead m x
  | none => ∃ m lead, Red p c m0 m lead ∧ ¬ NoClash c lead.length m
/-- What Count finds: none for a number that is too large. -/
def CountOf (p : Int) (c : Nat) (m0 : List (List Int)) (v : Option Int) : Prop :=
  ∃ m lead, Red p c m0 m lead ∧ ((¬ NoClash c lead.length m ∧ v = some 0) ∨ (NoClash c lead.length m ∧ v = cntP p (c - lead.length)))
def RankOf (p : Int) (c : Nat) (m0 : List (List Int)) (r : Nat) : Prop := ∃ m lead, Red p c m0 m lead ∧ r = lead.length
def KernOf (p : Int) (c : Nat) (m0 : List (List Int)) (rows : List (List Int)) : Prop := ∃ m lead, Red p c m0 m lead ∧ rows = (freeL c lead).map (kerX p c lead m)

section
variable {p : Int} {c : Nat} {m0 m1 : List (List Int)}
/-- Solutions of the given rows and of the reduced ones. -/
theorem Red.solv {m : List (List Int)} {lead : List Nat} (h : Red p c m0 m lead) (x : List Int) : Solv p c m0 x ↔ Solv p c m x := by
  rw [solv_ker, solv_ker]; exact h.ker _
theorem Red.leads {m m' : List (List Int)} {lead lead' : List Nat} (hp : 2 ≤ p) (h : Red p c m0 m lead) (h' : Red p c m1 m' lead') (hk : ∀ z : Nat → Int, (∀ j, c ≤ j → z j = 0) → (Ker p (c + 1) m0 z ↔ Ker p (c + 1) m1 z)) : lead = lead' :=
  h.inv.same_lead hp h'.inv fun z hz => (h.ker z).symm.trans ((hk z hz).trans (h'.ker z))
theorem Red.noClash_iff {m : List (List Int)} {lead : List Nat} (hp : 2 ≤ p) (h : Red p c m0 m lead) : NoClash c lead.length m ↔ ∃ x, Solv p c m0 x := by
  constructor
  · intro hc
    let x : List Int := (List.range c).map fun j => if j ∈ lead then mx m (lead.idxOf j) c else 0
    have hx : SolX p c lead m x := by
      refine ⟨by simp [x], fun i hi => ?_, fun j hj hm => ?_⟩
      · show cf ((List.range c).map _) _ = _
        rw [cf_map_range, if_pos (h.inv.lt i hi), if_pos (lead_mem hi), idxOf_lead h.inv hi]
      · show cf ((List.range c).map _) _ = _
        rw [cf_map_range, if_pos hj, if_neg hm]
    exact ⟨x, (h.solv x).2 (hx.solv h.inv hc)⟩
  · rintro ⟨x, hx⟩
    exact noClash_of h.inv h.el hp ((h.solv x).1 hx)
theorem RankOf.one {r r' : Nat} (hp : 2 ≤ p) (h : RankOf p c m0 r) (h' : RankOf p c m1 r') (hk : ∀ z : Nat → Int, (∀ j, c ≤ j → z j = 0) → (Ker p (c + 1) m0 z ↔ Ker p (c + 1) m1 z)) : r = r' := by
  obtain ⟨m, lead, h1, rfl⟩ := h
  obtain ⟨m', lead', h2, rfl⟩ := h'
  rw [h1.leads hp h2 hk]
theorem SolveOf.one {x y : Option (List Int)} (hp : 2 ≤ p) (h : SolveOf p c m0 x) (h' : SolveOf p c m1 y) (hk : ∀ z : Nat → Int, Ker p (c + 1) m0 z ↔ Ker p (c + 1) m1 z) : x = y := by
  have hs : ∀ x, Solv p c m0 x ↔ Solv p c m1 x := fun x => by rw [solv_ker, solv_ker]; exact hk _
  rcases x with _ | x <;> rcases y with _ | y
  · rfl
  · obtain ⟨m, lead, h1, h2⟩ := h
    obtain ⟨m', lead', h3, h4, h5⟩ := h'
    exact absurd ((h1.noClash_iff hp).2 ⟨y, (hs y).2 ((h3.solv y).2 (h5.solv h3.inv h4))⟩) h2
  · obtain ⟨m, lead, h1, h2, h5⟩ := h
    obtain ⟨m', lead', h3, h4⟩ := h'
    exact absurd ((h3.noClash_iff hp).2 ⟨x, (hs x).1 ((h1.solv x).2 (h5.solv h1.inv h2))⟩) h4
  · obtain ⟨m, lead, h1, h2, h5⟩ := h
    obtain ⟨m', lead', h3, h4, h6⟩ := h'
    have hl : lead = lead' := h1.leads hp h3 (fun z _ => hk z)
    subst hl
    have := h6.one h3.inv hp h3.el ((h3.solv x).1 ((hs x).1 ((h1.solv x).2 (h5.solv h1.inv h2)))) h5.ln (h5.all h1.inv hp h1.el) h5.fr
    rw [this]
theorem CountOf.one {v u : Option Int} (hp : 2 ≤ p) (h : CountOf p c m0 v) (h' : CountOf p c m1 u) (hk : ∀ z : Nat → Int, Ker p (c + 1) m0 z ↔ Ker p (c + 1) m1 z) : v = u := by
  have hs : ∀ x, Solv p c m0 x ↔ Solv p c m1 x := fun x => by rw [solv_ker, solv_ker]; exact hk _
  obtain ⟨m, lead, h1, h2⟩ := h
  obtain ⟨m', lead', h3, h4⟩ := h'
  have hl : lead = lead' := h1.leads hp h3 (fun z _ => hk z)
  have hn : NoClash c lead.length m ↔ NoClash c lead'.length m' := by
    rw [h1.noClash_iff hp, h3.noClash_iff hp]
    exact ⟨fun ⟨x, hx⟩ => ⟨x, (hs x).1 hx⟩, fun ⟨x, hx⟩ => ⟨x, (hs x).2 hx⟩⟩
  rcases h2 with ⟨a, b⟩ | ⟨a, b⟩ <;> rcases h4 with ⟨d, e⟩ | ⟨d, e⟩
  · rw [b, e]
  · exact absurd (hn.2 d) a
  · exact absurd (hn.1 a) d
  · rw [b, e, hl]
/-- Where the same lists are 0, the same kernel. -/
theorem KernOf.one {a b : List (List Int)} (hp : 2 ≤ p) (h : KernOf p c m0 a) (h' : KernOf p c m1 b) (hk : ∀ z : Nat → Int, Ker p (c + 1) m0 z ↔ Ker p (c + 1) m1 z) : a = b := by
  obtain ⟨m, lead, h1, rfl⟩ := h
  obtain ⟨m', lead', h3, rfl⟩ := h'
  have hl : lead = lead' := h1.leads hp h3 (fun z _ => hk z)
  subst hl
  refine List.map_congr_left fun f hf => ?_
  have hf1 := List.mem_filter.1 hf
  have hfc := List.mem_range.1 hf1.1
  have hfl : f ∉ lead := by simpa using hf1.2
  refine cf_ext (by simp [kerX]) fun j => ?_
  rw [cf_kerX, cf_kerX]
  by_cases hj : j < c
  · rw [if_pos hj, if_pos hj]
    by_cases hm : j ∈ lead
    · obtain ⟨i, hi, rfl⟩ := h1.inv.idx hm
      have k1 := (h3.ker _).1 ((hk _).1 ((h1.ker _).2 (kerZ_ker h1.inv hfc hfl)))
      have k2 := k1 i (by have := h3.inv.rm; omega)
      have hc : kerZ p c lead m f c = 0 := by unfold kerZ; rw [if_neg (by omega), if_pos (Nat.le_refl c)]
      have e1 : Sg (fun j => mx m' i j * kerZ p c lead m f j) (c + 1) = mx m' i f + kerZ p c lead m f (lead.getD i 0) := by
        show Sg (fun j => mx m' i j * kerZ p c lead m f j) c + mx m' i c * kerZ p c lead m f c = _
        rw [hc, Int.mul_zero, Int.add_zero, h3.inv.row_one hfc hfl (fun j hj hm hne => kerZ_free hm hne) hi]
        have : kerZ p c lead m f f = 1 := by unfold kerZ; rw [if_pos rfl]
        rw [this, Int.mul_one]
      rw [e1] at k2
      have k3 := k2.sub (Cong.refl p (mx m' i f))
      rw [show ∀ x y : Int, x + y - x = y by intro x y; omega] at k3
      rw [kerZ_lead h3.inv hfl hi]
      exact Cong.eq (k3.trans (Cong.subP p 0 (mx m' i f)).symm) (kerZ_in hp _ _) (subP_in _ _ hp)
    · by_cases e : j = f
      · unfold kerZ; rw [if_pos e, if_pos e]
      · rw [kerZ_free hm e, kerZ_free hm e]
  · rw [if_neg hj, if_neg hj]
/-- One row more never has more solutions. -/
theorem CountOf.more {v : Int} {u : Option Int} (hp : 2 ≤ p) (h : CountOf p c m0 (some v)) (h' : CountOf p c m1 u) (hk : ∀ z : Nat → Int, Ker p (c + 1) m1 z → Ker p (c + 1) m0 z) : ∃ x, u = some x ∧ x ≤ v := by
  have hs : ∀ x, Solv p c m1 x → Solv p c m0 x := fun x => by rw [solv_ker, solv_ker]; exact hk _
  obtain ⟨m, lead, h1, h2⟩ := h
  obtain ⟨m', lead', h3, h4⟩ := h'
  have hl : lead.length ≤ lead'.length := h1.inv.more_lead hp h3.inv fun z _ hz => (h1.ker z).1 (hk z ((h3.ker z).2 hz))
  have hv : 0 ≤ v := by
    rcases h2 with ⟨_, b⟩ | ⟨_, b⟩
    · injection b with b; omega
    · have := (cntP_pow hp _ _ b.symm).2; omega
  rcases h4 with ⟨d, e⟩ | ⟨d, e⟩
  · exact ⟨0, e, hv⟩
  · have hn : NoClash c lead.length m := by
      rw [h1.noClash_iff hp]
      obtain ⟨x, hx⟩ := (h3.noClash_iff hp).1 d
      exact ⟨x, hs x hx⟩
    rcases h2 with ⟨a, _⟩ | ⟨_, b⟩
    · exact absurd hn a
    · have hc := h3.inv.rank_le
      obtain ⟨x, k1, k2⟩ := cntP_le hp (c - lead'.length) (lead'.length - lead.length) v (by rw [show c - lead'.length + (lead'.length - lead.length) = c - lead.length by omega]; exact b.symm)
      exact ⟨x, by rw [e, k1], k2⟩
theorem RankOf.le {r : Nat} (h : RankOf p c m0 r) : r ≤ m0.length ∧ r ≤ c := by
  obtain ⟨m, lead, h1, rfl⟩ := h
  exact ⟨by rw [← h1.ln]; exact h1.inv.rm, h1.inv.rank_le⟩
end
end Go.Proofs.Ytoblofilaegnaaa
