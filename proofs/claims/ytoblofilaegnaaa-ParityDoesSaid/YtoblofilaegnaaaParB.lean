/-
  The plain law of ParityDoes, no program in sight: the errors of sizes, draws in pieces, what the last query is, the first wrong answer, the only element that is 1. No conditions.
-/
import Derived.Test.YtoblofilaegnaaaPlain
namespace Go.Proofs.Ytoblofilaegnaaa
set_option linter.unusedVariables false

/-- The error of a field and sizes. -/
def sizeE (p r s : Int) : Int := if okP p = true then (if (2 ≤ s ∧ s ≤ 10) ∧ 1 ≤ r ∧ r ≤ 1024 then 0 else 1) else 9
/-- What Limits finds. -/
def plimR (p r s : Int) : List Int × Int := if sizeE p r s = 0 then (List.replicate (r * (s - 1)).toNat p, 0) else ([], sizeE p r s)
theorem sizeE_zero {p r s : Int} (h : sizeE p r s = 0) : okP p = true ∧ (2 ≤ s ∧ s ≤ 10) ∧ 1 ≤ r ∧ r ≤ 1024 := by
  unfold sizeE at h
  split at h
  · rename_i h0
    split at h
    · rename_i h1; exact ⟨h0, h1⟩
    · exact absurd h (by decide)
  · exact absurd h (by decide)
theorem sizeE_yes {p r s : Int} (h0 : okP p = true) (h1 : (2 ≤ s ∧ s ≤ 10) ∧ 1 ≤ r ∧ r ≤ 1024) : sizeE p r s = 0 := by unfold sizeE; rw [if_pos h0, if_pos h1]
theorem prod_le {r s1 : Nat} (hr : r ≤ 1024) (hs : s1 ≤ 9) : r * s1 ≤ 9216 := by
  have := Nat.mul_le_mul hr hs
  omega
theorem sizes_of {r s : Int} (h : (2 ≤ s ∧ s ≤ 10) ∧ 1 ≤ r ∧ r ≤ 1024) : ∃ r' s1 : Nat, r = r' ∧ s - 1 = s1 ∧ s = ((s1 + 1 : Nat) : Int) ∧ (1 ≤ r' ∧ r' ≤ 1024) ∧ (1 ≤ s1 ∧ s1 ≤ 9) ∧ r * (s - 1) = ((r' * s1 : Nat) : Int) ∧ (r * (s - 1)).toNat = r' * s1 ∧ r' * s1 ≤ 9216 := by
  obtain ⟨r', rfl⟩ : ∃ k : Nat, r = k := ⟨r.toNat, by omega⟩
  obtain ⟨s1, hs1⟩ : ∃ k : Nat, s - 1 = k := ⟨(s - 1).toNat, by omega⟩
  have e : (r' : Int) * (s - 1) = ((r' * s1 : Nat) : Int) := by rw [hs1]; simp
  exact ⟨r', s1, rfl, hs1, by omega, by omega, by omega, e, by rw [e]; omega, prod_le (by omega) (by omega)⟩
theorem plimR_len (p r s : Int) : (plimR p r s).1.length ≤ 17592186044416 := by
  unfold plimR
  split
  · rename_i h
    obtain ⟨r', s1, _, _, _, _, _, _, e, hl⟩ := sizes_of (sizeE_zero h).2
    rw [List.length_replicate, e]; omega
  · simp

/-- Some draws, and then more. -/
theorem drawE_add (xs : List Int) (n : Int) : ∀ (k a c : Nat), drawE xs n a (k + c) = if drawE xs n a k = 0 then drawE xs n (a + k) c else drawE xs n a k
  | 0, a, c => by simp [drawE]
  | k + 1, a, c => by
    rw [show k + 1 + c = (k + c) + 1 by omega]
    by_cases h : nextE xs n a = 0
    · have e1 : drawE xs n a ((k + c) + 1) = drawE xs n (a + 1) (k + c) := by simp only [drawE, if_pos h]
      have e2 : drawE xs n a (k + 1) = drawE xs n (a + 1) k := by simp only [drawE, if_pos h]
      rw [e1, e2, drawE_add xs n k (a + 1) c, show a + 1 + k = a + (k + 1) by omega]
    · have e1 : drawE xs n a ((k + c) + 1) = nextE xs n a := by simp only [drawE, if_neg h]
      have e2 : drawE xs n a (k + 1) = nextE xs n a := by simp only [drawE, if_neg h]
      rw [e1, e2, if_neg h]
theorem drawsE_nat (xs : List Int) (m : Nat) (a n : Int) (k : Nat) : drawsE xs m a n (k : Int) = if validT m a = false then 2 else if limT n = false then 1 else drawE xs n a.toNat k := by
  unfold drawsE
  rw [Int.toNat_natCast]
  by_cases h1 : limT n = false
  · rw [if_pos (Or.inl h1), if_pos h1]
  · rw [if_neg (show ¬ (limT n = false ∨ (k : Int) < 0) by rintro (h | h); exact h1 h; omega), if_neg h1]
theorem drawsE_add {xs : List Int} {m : Nat} (hl : xs.length = m) (a n : Int) (k c : Nat) : drawsE xs m a n ((k + c : Nat) : Int) = if drawsE xs m a n (k : Int) = 0 then drawsE xs m (a + k) n (c : Int) else drawsE xs m a n (k : Int) := by
  rw [drawsE_nat, drawsE_nat, drawsE_nat]
  by_cases hv : validT m a = false
  · rw [if_pos hv, if_pos hv]; rfl
  · by_cases h1 : limT n = false
    · rw [if_neg hv, if_pos h1, if_neg hv, if_pos h1]; rfl
    · rw [if_neg hv, if_neg h1, if_neg hv, if_neg h1, drawE_add]
      have hva : m ≤ 16384 ∧ 0 ≤ a ∧ a ≤ m := by
        have : validT m a = true := by simpa using hv
        simpa [validT] using this
      by_cases h2 : drawE xs n a.toNat k = 0
      · have h3 := ((drawE_ok k a.toNat (by omega)).1 h2).1
        have hv2 : ¬ validT m (a + k) = false := by simp [validT]; omega
        rw [if_pos h2, if_pos h2, if_neg hv2, if_neg h1, show (a + (k : Int)).toNat = a.toNat + k by omega]
      · rw [if_neg h2, if_neg h2]
/-- What was drawn so far. -/
def drewTo (xs : List Int) (m : Nat) (a n : Int) (k : Nat) : Prop := k = 0 ∨ drawsE xs m a n (k : Int) = 0
theorem drewTo.next {xs : List Int} {m : Nat} (hl : xs.length = m) {a n : Int} {k : Nat} (h : drewTo xs m a n k) (c : Nat) : drawsE xs m a n ((k + c : Nat) : Int) = drawsE xs m (a + k) n (c : Int) := by
  rcases h with rfl | h
  · rw [Nat.zero_add]; simp
  · rw [drawsE_add hl, if_pos h]
theorem drewTo.step {xs : List Int} {m : Nat} (hl : xs.length = m) {a n : Int} {k c : Nat} (h : drewTo xs m a n k) (h2 : drawsE xs m (a + k) n (c : Int) = 0) : drewTo xs m a n (k + c) := .inr (by rw [h.next hl]; exact h2)
theorem drewTo.fail {xs : List Int} {m : Nat} (hl : xs.length = m) {a n : Int} {k c N : Nat} (h : drewTo xs m a n k) (h2 : drawsE xs m (a + k) n (c : Int) ≠ 0) (hN : k + c ≤ N) : drawsE xs m a n (N : Int) = drawsE xs m (a + k) n (c : Int) := by
  obtain ⟨d, rfl⟩ : ∃ d, N = k + c + d := ⟨N - (k + c), by omega⟩
  rw [drawsE_add hl, h.next hl, if_neg h2]
theorem drawsE_in {xs : List Int} {m : Nat} (hl : xs.length = m) {a n : Int} {c : Nat} (h : drawsE xs m a n (c : Int) = 0) : (m ≤ 16384 ∧ 0 ≤ a ∧ a.toNat + c ≤ m) ∧ ∀ j, j < c → 0 ≤ (xs.drop a.toNat).getD j 0 ∧ (xs.drop a.toNat).getD j 0 < n := by
  unfold drawsE at h
  split at h
  · exact absurd h (by decide)
  · rename_i hv
    split at h
    · exact absurd h (by decide)
    · have hva : m ≤ 16384 ∧ 0 ≤ a ∧ a ≤ m := by
        have : validT m a = true := by simpa using hv
        simpa [validT] using this
      rw [Int.toNat_natCast] at h
      have h3 := (drawE_ok c a.toNat (by omega)).1 h
      refine ⟨⟨hva.1, hva.2.1, by omega⟩, fun j hj => ?_⟩
      have := h3.2 (a.toNat + j) (by omega) (by omega)
      rw [List.getD_eq_getElem?_getD, List.getElem?_drop, ← List.getD_eq_getElem?_getD]
      exact this

/-- The last query, one query after the other. -/
def lessP (p t x : Int) : Int := (t + p - x) % p
def lessF (p : Int) (l : List Int) (qs : List (List Int)) : List Int := qs.foldl (fun acc q => zipI (lessP p) acc q) l
theorem lessF_snoc (p : Int) (l : List Int) (qs : List (List Int)) (q : List Int) : lessF p l (qs ++ [q]) = zipI (lessP p) (lessF p l qs) q := by unfold lessF; rw [List.foldl_append]; rfl
theorem lessP_in {p : Int} (hp : 2 ≤ p) (t x : Int) : 0 ≤ lessP p t x ∧ lessP p t x < p := ⟨Int.emod_nonneg _ (by omega), Int.emod_lt_of_pos _ (by omega)⟩
theorem lessP_cong (p t x : Int) : Cong p (lessP p t x) (t - x) := by
  unfold lessP
  refine (Cong.mod p _).trans ?_
  have h := (Cong.refl p (t - x)).add (Cong.self p)
  rw [Int.add_zero] at h
  exact (Cong.of_eq (by omega)).trans h
theorem lessF_len (p : Int) (n : Nat) : ∀ (qs : List (List Int)) (l : List Int), l.length = n → (∀ q ∈ qs, q.length = n) → (lessF p l qs).length = n
  | [], l, h, _ => h
  | q :: qs, l, h, hq => lessF_len p n qs _ (zipI_len2 _ _ _ h (hq q (by simp))) (fun x hx => hq x (by simp [hx]))
theorem lessF_all {p : Int} (hp : 2 ≤ p) : ∀ (qs : List (List Int)) (l : List Int), allP p l = true → allP p (lessF p l qs) = true
  | [], l, h => h
  | q :: qs, l, h => lessF_all hp qs _ (zipI_all _ (fun x y => lessP_in hp x y) _ _)
theorem lessF_at (p : Int) (n k : Nat) (hk : k < n) : ∀ (qs : List (List Int)) (l : List Int), l.length = n → (∀ q ∈ qs, q.length = n) → Cong p ((lessF p l qs).getD k 0) (l.getD k 0 - sumZ (colP qs k))
  | [], l, h, _ => Cong.of_eq (by simp [lessF, colP, sumZ])
  | q :: qs, l, h, hq => by
    have hql := hq q (by simp)
    have h1 := lessF_at p n k hk qs (zipI (lessP p) l q) (zipI_len2 _ _ _ h hql) (fun x hx => hq x (by simp [hx]))
    rw [zipI_getD _ _ _ _ (by omega) (by omega)] at h1
    refine h1.trans (((lessP_cong p _ _).sub (Cong.refl p _)).trans (Cong.of_eq ?_))
    have : colP (q :: qs) k = q.getD k 0 :: colP qs k := rfl
    rw [this, sumZ_cons]; omega
theorem lessF_last {p : Int} (hp : 2 ≤ p) {n i : Nat} {qs : List (List Int)} (hq : ∀ q ∈ qs, q.length = n) : lessF p (spikeL n i 1) qs = lastQ p n i qs := by
  have l1 : (lessF p (spikeL n i 1) qs).length = n := lessF_len p n qs _ (spikeL_len n i 1) hq
  have l2 : (lastQ p n i qs).length = n := lastQ_len hq
  apply ext_getD (by rw [l1, l2])
  intro k hk
  rw [l1] at hk
  refine Cong.eq ?_ (allP_getD (lessF_all hp _ _ (spikeL_all hp n i)) (by rw [l1]; exact hk)) (allP_getD (lastQ_all hp _ _ _) (by rw [l2]; exact hk))
  refine (lessF_at p n k hk qs _ (spikeL_len n i 1) hq).trans (Cong.trans ?_ (lastQ_at hq hk).symm)
  rw [spikeL_at _ _ _ _ hk]
  exact (Cong.refl p _).sub (plusL_at hk hq).symm

/-- Elements added up. -/
theorem timesP_add {p t a : Int} (ha : 0 ≤ a ∧ a < p) : timesP p 1 t a = (t + a) % p := by
  unfold timesP addP mulP
  rw [Int.one_mul, Int.emod_eq_of_lt ha.1 ha.2]

/-- The first error. -/
def firstE (f : Nat → Int) : Nat → Int
  | 0 => 0
  | n + 1 => if firstE f n = 0 then f n else firstE f n
theorem firstE_at {f : Nat → Int} {k : Nat} (h0 : firstE f k = 0) (h1 : f k ≠ 0) : ∀ n, k < n → firstE f n = f k
  | 0, h => by omega
  | n + 1, h => by
    by_cases e : k = n
    · subst e; simp only [firstE]; rw [if_pos h0]
    · have := firstE_at h0 h1 n (by omega)
      simp only [firstE]; rw [this, if_neg h1]
theorem firstE_step {f : Nat → Int} {k : Nat} (h0 : firstE f k = 0) (h1 : f k = 0) : firstE f (k + 1) = 0 := by simp only [firstE]; rw [if_pos h0]; exact h1
theorem firstE_all {f : Nat → Int} : ∀ n, firstE f n = 0 → ∀ j, j < n → f j = 0
  | 0, _, j, hj => by omega
  | n + 1, h, j, hj => by
    simp only [firstE] at h
    split at h
    · rename_i h1
      rcases Nat.lt_or_ge j n with h2 | h2
      · exact firstE_all n h1 j h2
      · obtain rfl : j = n := by omega
        exact h
    · rename_i h1; exact absurd h h1
/-- What is wrong with an answer. -/
def ansE (p wd : Int) (ks : List Bool) (rows : List (List Int)) (j : Nat) : Int :=
  if ks.getD j false = false then 11 else if (((rows.getD j []).length : Nat) : Int) ≠ wd then 2 else if allP p (rows.getD j []) = false then 9 else 0
/-- What Decode finds. -/
def decR (p wd : Int) (s : Nat) (ks : List Bool) (rows : List (List Int)) : List Int × Int :=
  if okP p = false then ([], 9) else if wd < 0 ∨ 64 < wd ∨ s < 2 ∨ 10 < s then ([], 4) else if firstE (ansE p wd ks rows) s = 0 then (plusL p wd.toNat rows, 0) else ([], firstE (ansE p wd ks rows) s)
theorem ansE_zero {p wd : Int} {ks : List Bool} {rows : List (List Int)} {j : Nat} : ansE p wd ks rows j = 0 ↔ ks.getD j false = true ∧ (((rows.getD j []).length : Nat) : Int) = wd ∧ allP p (rows.getD j []) = true := by
  unfold ansE
  constructor
  · intro h
    split at h
    · exact absurd h (by decide)
    · rename_i h0
      split at h
      · exact absurd h (by decide)
      · rename_i h1
        split at h
        · exact absurd h (by decide)
        · rename_i h2
          exact ⟨by simpa using h0, by omega, by simpa using h2⟩
  · rintro ⟨h0, h1, h2⟩
    rw [if_neg (by rw [h0]; decide), if_neg (by omega), if_neg (by rw [h2]; decide)]
theorem ansE_cases (p wd : Int) (ks : List Bool) (rows : List (List Int)) (j : Nat) : (ks.getD j false = true ∧ (((rows.getD j []).length : Nat) : Int) = wd ∧ allP p (rows.getD j []) = true ∧ ansE p wd ks rows j = 0) ∨ (ks.getD j false = false ∧ ansE p wd ks rows j = 11) ∨
    (ks.getD j false = true ∧ (((rows.getD j []).length : Nat) : Int) ≠ wd ∧ ansE p wd ks rows j = 2) ∨ (ks.getD j false = true ∧ (((rows.getD j []).length : Nat) : Int) = wd ∧ allP p (rows.getD j []) = false ∧ ansE p wd ks rows j = 9) := by
  unfold ansE
  cases h0 : ks.getD j false
  · right; left; exact ⟨rfl, if_pos rfl⟩
  · have e1 : ¬ (true = false) := by decide
    by_cases h1 : (((rows.getD j []).length : Nat) : Int) = wd
    · cases h2 : allP p (rows.getD j [])
      · right; right; right; exact ⟨rfl, h1, rfl, by rw [if_neg e1, if_neg (fun h => h h1), if_pos rfl]⟩
      · left; exact ⟨rfl, h1, rfl, by rw [if_neg e1, if_neg (fun h => h h1), if_neg e1]⟩
    · right; right; left; exact ⟨rfl, h1, by rw [if_neg e1, if_pos h1]⟩
theorem decR_len (p wd : Int) (s : Nat) (ks : List Bool) (rows : List (List Int)) (hl : rows.length = s) : (decR p wd s ks rows).1.length ≤ 17592186044416 := by
  unfold decR
  split
  · simp
  · split
    · simp
    · rename_i h0
      split
      · rename_i h1
        have : (plusL p wd.toNat rows).length = wd.toNat := plusL_len fun r hr => by
          obtain ⟨j, hj, rfl⟩ := List.getElem_of_mem hr
          have := (ansE_zero.1 (firstE_all _ h1 j (by omega))).2.1
          rw [List.getD_eq_getElem?_getD, List.getElem?_eq_getElem hj, Option.getD_some] at this
          omega
        rw [this]
        show wd.toNat ≤ _
        omega
      · simp

/-- The only element that is 1, as far as it was looked for. -/
def oneT (l : List Int) : Nat → Option (Int × Bool)
  | 0 => some (0, false)
  | k + 1 => (oneT l k).bind fun s => if l.getD k 0 = 0 then some s else if l.getD k 0 = 1 ∧ s.2 = false then some ((k : Int), true) else none
def oneR (l : List Int) : Int × Bool := (oneT l l.length).getD (0, false)
theorem oneT_none {l : List Int} {k : Nat} (h : oneT l k = none) : ∀ n, k ≤ n → oneT l n = none
  | 0, hn => by
    obtain rfl : k = 0 := by omega
    exact h
  | n + 1, hn => by
    by_cases e : k = n + 1
    · subst e; exact h
    · simp only [oneT, oneT_none h n (by omega)]; rfl
theorem oneR_none {l : List Int} {k : Nat} (h : oneT l k = none) (hk : k ≤ l.length) : oneR l = (0, false) := by
  unfold oneR; rw [oneT_none h _ hk]; rfl
theorem oneT_bad {l : List Int} {k : Nat} (h0 : l.getD k 0 ≠ 0) (h1 : l.getD k 0 ≠ 1) : oneT l (k + 1) = none := by
  simp only [oneT]
  cases oneT l k with
  | none => rfl
  | some s => exact (if_neg h0).trans (if_neg (fun h => h1 h.1))
theorem oneT_skip {l : List Int} {k : Nat} (h0 : l.getD k 0 = 0) : oneT l (k + 1) = oneT l k := by
  simp only [oneT]
  cases oneT l k with
  | none => rfl
  | some s => exact if_pos h0
theorem oneT_hit {l : List Int} {k : Nat} {a : Int} (h0 : l.getD k 0 = 1) (h : oneT l k = some (a, false)) : oneT l (k + 1) = some ((k : Int), true) := by
  simp only [oneT, h]
  exact (if_neg (by rw [h0]; decide)).trans (if_pos ⟨h0, rfl⟩)
theorem oneT_two {l : List Int} {k : Nat} {a : Int} (h0 : l.getD k 0 = 1) (h : oneT l k = some (a, true)) : oneT l (k + 1) = none := by
  simp only [oneT, h]
  exact (if_neg (by rw [h0]; decide)).trans (if_neg (fun h => by cases h.2))
theorem oneT_more {l : List Int} {k : Nat} (h : oneT l k = none) : oneT l (k + 1) = none := oneT_none h _ (by omega)

/-- What Wanted finds. -/
def wanR (p : Int) (rows : List (List Int)) : (Int × Bool) × Int :=
  if okP p = false then ((0, false), 9) else if (rows.all (allP p)) = false then ((0, false), 9) else if rows = [] then ((0, false), 2)
  else if (rows.all fun r => r.length == (rows.getD 0 []).length) = false then ((0, false), 2) else (oneR (plusL p (rows.getD 0 []).length rows), 0)
end Go.Proofs.Ytoblofilaegnaaa
