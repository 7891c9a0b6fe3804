/-
  The plain law of the additive scheme, no program in sight: rows added up, and what one changed row changes; the combination by a sum of lists. No conditions.
-/
import Derived.Test.YtefgjkkgddeemaaLinA
namespace Go.Proofs.Ytefgjkkgddeemaa
set_option linter.unusedVariables false

/-- Rows of a length added up. -/
def plusL (p : Int) (n : Nat) (rows : List (List Int)) : List Int := rows.foldl (fun acc r => zipI (timesP p 1) acc r) (List.replicate n 0)
theorem plusL_nil (p : Int) (n : Nat) : plusL p n [] = List.replicate n 0 := rfl
theorem plusL_snoc (p : Int) (n : Nat) (rows : List (List Int)) (r : List Int) : plusL p n (rows ++ [r]) = zipI (timesP p 1) (plusL p n rows) r := by
  unfold plusL; rw [List.foldl_append]; rfl
theorem plusF_len (p : Int) (n : Nat) : ∀ (rows : List (List Int)) (acc : List Int), acc.length = n → (∀ r ∈ rows, r.length = n) → (rows.foldl (fun acc r => zipI (timesP p 1) acc r) acc).length = n
  | [], acc, h, _ => h
  | r :: rs, acc, h, hr => plusF_len p n rs _ (by rw [zipI_length _ _ _ (by rw [h, hr r (by simp)]), h]) (fun x hx => hr x (by simp [hx]))
theorem plusL_len {p : Int} {n : Nat} {rows : List (List Int)} (h : ∀ r ∈ rows, r.length = n) : (plusL p n rows).length = n := plusF_len p n rows _ (by simp) h
theorem plusF_all {p : Int} (hp : 2 ≤ p) : ∀ (rows : List (List Int)) (acc : List Int), allP p acc = true → allP p (rows.foldl (fun acc r => zipI (timesP p 1) acc r) acc) = true
  | [], acc, h => h
  | r :: rs, acc, h => plusF_all hp rs _ (zipI_all _ (fun x y => timesP_in hp 1 x y) _ _)
theorem plusL_all {p : Int} (hp : 2 ≤ p) (n : Nat) (rows : List (List Int)) : allP p (plusL p n rows) = true := plusF_all hp rows _ (zeros_all hp n)

theorem timesP_one (p t a : Int) : Cong p (timesP p 1 t a) (t + a) := by
  unfold timesP
  refine (Cong.addP p _ _).trans ((Cong.refl p t).add ?_)
  have := Cong.mulP p 1 a
  rwa [Int.one_mul] at this
theorem timesP_cong (p x t a : Int) : Cong p (timesP p x t a) (t + x * a) := (Cong.addP p _ _).trans ((Cong.refl p t).add (Cong.mulP p x a))

theorem plusF_at (p : Int) (n k : Nat) (hk : k < n) : ∀ (rows : List (List Int)) (acc : List Int), acc.length = n → (∀ r ∈ rows, r.length = n) →
    Cong p ((rows.foldl (fun acc r => zipI (timesP p 1) acc r) acc).getD k 0) (acc.getD k 0 + sumZ (colP rows k))
  | [], acc, h, _ => Cong.of_eq (by simp [colP, sumZ])
  | r :: rs, acc, h, hr => by
    have hrl := hr r (by simp)
    have h1 := plusF_at p n k hk rs (zipI (timesP p 1) acc r) (by rw [zipI_length _ _ _ (by rw [h, hrl]), h]) (fun x hx => hr x (by simp [hx]))
    rw [zipI_getD _ _ _ _ (by omega) (by omega)] at h1
    refine h1.trans (((timesP_one p _ _).add (Cong.refl p _)).trans (Cong.of_eq ?_))
    show acc.getD k 0 + r.getD k 0 + sumZ (colP rs k) = acc.getD k 0 + sumZ (colP (r :: rs) k)
    have : colP (r :: rs) k = r.getD k 0 :: colP rs k := rfl
    rw [this, sumZ_cons]; omega
theorem plusL_at {p : Int} {n k : Nat} (hk : k < n) {rows : List (List Int)} (h : ∀ r ∈ rows, r.length = n) : Cong p ((plusL p n rows).getD k 0) (sumZ (colP rows k)) := by
  have := plusF_at p n k hk rows (List.replicate n 0) (by simp) h
  unfold plusL
  refine this.trans (Cong.of_eq ?_)
  rw [List.getD_eq_getElem?_getD, List.getElem?_replicate]
  split <;> simp

theorem sumZ_set (v : Int) : ∀ (l : List Int) (k : Nat), k < l.length → sumZ (l.set k v) = sumZ l - l.getD k 0 + v
  | [], k, h => by simp at h
  | c :: l, 0, h => by simp only [List.set_cons_zero, sumZ_cons, List.getD_cons_zero]; omega
  | c :: l, k + 1, h => by
    have := sumZ_set v l k (by simpa using h)
    simp only [List.set_cons_succ, sumZ_cons, List.getD_cons_succ]; omega
theorem colP_set (rows : List (List Int)) (r : List Int) (i k : Nat) : colP (rows.set i r) k = (colP rows k).set i (r.getD k 0) := by
  unfold colP; rw [List.map_set]
theorem colP_at (rows : List (List Int)) (i k : Nat) (hi : i < rows.length) : (colP rows k).getD i 0 = (rows.getD i []).getD k 0 := by
  simp only [colP, List.getD_eq_getElem?_getD, List.getElem?_map]
  rw [List.getElem?_eq_getElem hi]; rfl

/-- What one row is wrong by, the sum is wrong by. -/
theorem plusL_wrong {p : Int} (hp : 2 ≤ p) {n i : Nat} {rows : List (List Int)} {e : List Int} (hr : ∀ r ∈ rows, r.length = n) (he : e.length = n) (hi : i < rows.length) :
    plusL p n (rows.set i (zipI (addP p) (rows.getD i []) e)) = zipI (addP p) (plusL p n rows) e := by
  have hri := hr _ (getD_mem2 (d := []) hi)
  have l1 : (zipI (addP p) (rows.getD i []) e).length = n := zipI_len2 _ _ _ hri he
  have hs : ∀ r ∈ rows.set i (zipI (addP p) (rows.getD i []) e), r.length = n := fun r h => by
    rcases List.mem_or_eq_of_mem_set h with h | h
    · exact hr r h
    · rw [h]; exact l1
  have l2 : (plusL p n rows).length = n := plusL_len hr
  apply ext_getD (by rw [plusL_len hs, zipI_len2 _ _ _ l2 he])
  intro k hk
  rw [plusL_len hs] at hk
  have h1 := plusL_all hp n (rows.set i (zipI (addP p) (rows.getD i []) e))
  refine Cong.eq ?_ (allP_getD h1 (by rw [plusL_len hs]; exact hk)) ?_
  · rw [zipI_getD _ _ _ _ (by omega) (by omega)]
    refine (plusL_at hk hs).trans (Cong.trans ?_ ((Cong.addP p _ _).trans ((plusL_at hk hr).add (Cong.refl p _))).symm)
    rw [colP_set, sumZ_set _ _ _ (by rw [colP_len]; exact hi), colP_at _ _ _ hi, zipI_getD _ _ _ _ (by omega) (by omega)]
    exact ((Cong.refl p _).add (Cong.addP p _ _)).trans (Cong.of_eq (by omega))
  · rw [zipI_getD _ _ _ _ (by omega) (by omega)]
    exact addP_in _ _ hp

/-- The combination by no row's coefficient. -/
theorem combP_zeros (p : Int) (hp : 2 ≤ p) (n w : Nat) (rows : List (List Int)) (hr : ∀ r ∈ rows, r.length = w) : combP p (List.replicate n 0) rows w = List.replicate w 0 := by
  have l1 := combP_len p (List.replicate n 0) rows w hr
  apply ext_getD (by rw [l1]; simp)
  intro k hk
  rw [l1] at hk
  refine Cong.eq ?_ (allP_getD (combP_all hp _ _ _) (by rw [l1]; exact hk)) ?_
  · rw [comb_col p _ rows w k hr hk]
    refine (dotP_cong p _ _).trans (Cong.of_eq ?_)
    have : ∀ (n : Nat) (l : List Int), dotZ (List.replicate n 0) l = 0 := fun n => by
      induction n with
      | zero => intro l; rfl
      | succ n ih => intro l; cases l with
        | nil => rfl
        | cons y l => rw [List.replicate_succ, dotZ_cons, ih]; simp
    rw [this]
    simp [List.getD_eq_getElem?_getD, hk]
  · simp [List.getD_eq_getElem?_getD, hk]; omega

theorem zipT_eq (p : Int) (hp : 2 ≤ p) (a b : List Int) (h : a.length = b.length) (ha : allP p a = true) : zipI (timesP p 1) a b = zipI (addP p) (scaleP p 1 a) b := by
  apply ext_getD (by rw [zipI_length _ _ _ h, zipI_length _ _ _ (by rw [scaleP_len]; exact h), scaleP_len])
  intro k hk
  rw [zipI_length _ _ _ h] at hk
  have e1 : (scaleP p 1 a).getD k 0 = mulP p (a.getD k 0) 1 := by
    simp only [scaleP, List.getD_eq_getElem?_getD, List.getElem?_map]
    rw [List.getElem?_eq_getElem (by omega)]; rfl
  rw [zipI_getD _ _ _ _ hk (by omega), zipI_getD _ _ _ _ (by rw [scaleP_len]; exact hk) (by omega), e1]
  refine Cong.eq ?_ (timesP_in hp _ _ _) (addP_in _ _ hp)
  refine (timesP_one p _ _).trans (Cong.symm ((Cong.addP p _ _).trans ?_))
  have := (Cong.mulP p (a.getD k 0) 1).add (Cong.refl p (b.getD k 0))
  rwa [Int.mul_one] at this

/-- The answers to some lists add up to the combination by the lists' sum. -/
theorem plusF_comb (p : Int) (hp : 2 ≤ p) (n w : Nat) (rows : List (List Int)) (hr : ∀ r ∈ rows, r.length = w) : ∀ (qs : List (List Int)) (acc : List Int), acc.length = n → allP p acc = true → (∀ q ∈ qs, q.length = n) →
    (qs.map fun q => combP p q rows w).foldl (fun acc r => zipI (timesP p 1) acc r) (combP p acc rows w) = combP p (qs.foldl (fun acc r => zipI (timesP p 1) acc r) acc) rows w
  | [], acc, h, _, _ => rfl
  | q :: qs, acc, h, ha, hq => by
    have hql := hq q (by simp)
    rw [List.map_cons, List.foldl_cons, List.foldl_cons]
    have e : zipI (timesP p 1) (combP p acc rows w) (combP p q rows w) = combP p (zipI (timesP p 1) acc q) rows w := by
      rw [zipT_eq p hp acc q (by rw [h, hql]) ha, comb_lin p 1 hp acc q rows w (by rw [h, hql]) hr, zipT_eq p hp _ _ (by rw [combP_len p _ _ _ hr, combP_len p _ _ _ hr]) (combP_all hp _ _ _)]
    rw [e]
    exact plusF_comb p hp n w rows hr qs _ (by rw [zipI_length _ _ _ (by rw [h, hql]), h]) (zipI_all _ (fun x y => timesP_in hp 1 x y) _ _) (fun x hx => hq x (by simp [hx]))
theorem plusL_comb (p : Int) (hp : 2 ≤ p) (n w : Nat) (rows qs : List (List Int)) (hr : ∀ r ∈ rows, r.length = w) (hq : ∀ q ∈ qs, q.length = n) :
    plusL p w (qs.map fun q => combP p q rows w) = combP p (plusL p n qs) rows w := by
  have := plusF_comb p hp n w rows hr qs (List.replicate n 0) (by simp) (zeros_all hp n) hq
  rwa [combP_zeros p hp n w rows hr] at this

/-- The last query: the unit list less the sum of the others. -/
def lastQ (p : Int) (n i : Nat) (qs : List (List Int)) : List Int := zipI (timesP p (p - 1)) (spikeL n i 1) (plusL p n qs)
theorem lastQ_len {p : Int} {n i : Nat} {qs : List (List Int)} (hq : ∀ q ∈ qs, q.length = n) : (lastQ p n i qs).length = n := zipI_len2 _ _ _ (spikeL_len n i 1) (plusL_len hq)
theorem lastQ_all {p : Int} (hp : 2 ≤ p) (n i : Nat) (qs : List (List Int)) : allP p (lastQ p n i qs) = true := zipI_all _ (fun x y => timesP_in hp _ x y) _ _
theorem lastQ_at {p : Int} {n i k : Nat} {qs : List (List Int)} (hq : ∀ q ∈ qs, q.length = n) (hk : k < n) : Cong p ((lastQ p n i qs).getD k 0) ((if i = k then 1 else 0) - (plusL p n qs).getD k 0) := by
  unfold lastQ
  rw [zipI_getD _ _ _ _ (by rw [spikeL_len]; exact hk) (by rw [plusL_len hq]; exact hk), spikeL_at _ _ _ _ hk]
  refine (timesP_cong p _ _ _).trans ?_
  have h := ((Cong.refl p ((if i = k then 1 else 0) - (plusL p n qs).getD k 0)).add ((Cong.self p).mul (Cong.refl p ((plusL p n qs).getD k 0))))
  rw [Int.zero_mul, Int.add_zero] at h
  refine Cong.trans (Cong.of_eq ?_) h
  rw [Int.sub_mul]; omega
/-- All queries add up to the unit list. -/
theorem plusL_queries {p : Int} (hp : 2 ≤ p) {n i : Nat} {qs : List (List Int)} (hq : ∀ q ∈ qs, q.length = n) (hi : i < n) : plusL p n (qs ++ [lastQ p n i qs]) = spikeL n i 1 := by
  have hl : (lastQ p n i qs).length = n := lastQ_len hq
  rw [plusL_snoc]
  have l2 : (plusL p n qs).length = n := plusL_len hq
  apply ext_getD (by rw [zipI_len2 _ _ _ l2 hl, spikeL_len])
  intro k hk
  rw [zipI_len2 _ _ _ l2 hl] at hk
  rw [zipI_getD _ _ _ _ (by omega) (by omega), spikeL_at _ _ _ _ hk]
  refine Cong.eq ?_ (timesP_in hp _ _ _) (by split <;> omega)
  refine (timesP_one p _ _).trans (((Cong.refl p _).add (lastQ_at hq hk)).trans (Cong.of_eq (by omega)))
/-- Two wanted rows: the last queries differ at exactly these places. -/
theorem lastQ_ne {p : Int} (hp : 2 ≤ p) {n i j k : Nat} {qs : List (List Int)} (hq : ∀ q ∈ qs, q.length = n) (hk : k < n) : ((lastQ p n i qs).getD k 0 = (lastQ p n j qs).getD k 0) ↔ ((i = k) ↔ (j = k)) := by
  have h1 := lastQ_at (p := p) (i := i) hq hk
  have h2 := lastQ_at (p := p) (i := j) hq hk
  have a1 := allP_getD (lastQ_all hp n i qs) (k := k) (by rw [lastQ_len hq]; exact hk)
  have a2 := allP_getD (lastQ_all hp n j qs) (k := k) (by rw [lastQ_len hq]; exact hk)
  constructor
  · intro e
    have h3 : Cong p (if i = k then 1 else 0) (if j = k then 1 else 0) := by
      have h := (h1.symm.trans ((Cong.of_eq e).trans h2)).add (Cong.refl p ((plusL p n qs).getD k 0))
      rw [Int.sub_add_cancel, Int.sub_add_cancel] at h
      exact h
    have h4 := h3.eq (by split <;> omega) (by split <;> omega)
    by_cases c1 : i = k <;> by_cases c2 : j = k <;> simp [c1, c2] at h4 ⊢
  · intro e
    refine Cong.eq (h1.trans (Cong.trans (Cong.of_eq ?_) h2.symm)) a1 a2
    by_cases c1 : i = k
    · rw [if_pos c1, if_pos (e.1 c1)]
    · rw [if_neg c1, if_neg (fun c => c1 (e.2 c))]
end Go.Proofs.Ytefgjkkgddeemaa
