/-
  How many solutions linear equations in reduced form have: all lists over a small field are counted, in plain numbers, no program in sight. No conditions.
-/
import Derived.Test.YtoblofilaegnaaaLinF
namespace Go.Proofs.Ytoblofilaegnaaa
set_option linter.unusedVariables false

/-- The digits of a number, least first. -/
def digL (p : Nat) : Nat → Nat → List Int
  | 0, _ => []
  | c + 1, k => ((k % p : Nat) : Int) :: digL p c (k / p)
theorem digL_len (p : Nat) : ∀ c k, (digL p c k).length = c
  | 0, _ => rfl
  | c + 1, k => by simp [digL, digL_len p c]
theorem digL_all {p : Nat} (hp : 2 ≤ p) : ∀ c k, allP p (digL p c k) = true
  | 0, _ => rfl
  | c + 1, k => by
    refine allP_iff.2 fun x hx => ?_
    simp only [digL, List.mem_cons] at hx
    rcases hx with rfl | hx
    · have := Nat.mod_lt k (show 0 < p by omega); omega
    · exact allP_iff.1 (digL_all hp c (k / p)) x hx
theorem digL_snoc {p : Nat} : ∀ c k, digL p (c + 1) k = digL p c k ++ [((k / p ^ c % p : Nat) : Int)]
  | 0, k => by simp [digL]
  | c + 1, k => by
    show ((k % p : Nat) : Int) :: digL p (c + 1) (k / p) = _
    rw [digL_snoc c (k / p), Nat.div_div_eq_div_mul]
    show _ = ((k % p : Nat) : Int) :: (digL p c (k / p) ++ _)
    rw [Nat.pow_succ, Nat.mul_comm p]

theorem Sg_split (g : Nat → Int) (p : Nat) : ∀ M, Sg g (M * p) = Sg (fun q => Sg (fun a => g (a + p * q)) p) M
  | 0 => by simp [Sg]
  | M + 1 => by
    have h : ∀ n, Sg g (M * p + n) = Sg g (M * p) + Sg (fun a => g (a + p * M)) n := by
      intro n
      induction n with
      | zero => simp [Sg]
      | succ n ih => rw [← Nat.add_assoc]; simp only [Sg]; rw [ih, show M * p + n = n + p * M by rw [Nat.mul_comm]; omega]; omega
    rw [Nat.succ_mul, h p, Sg_split g p M]; rfl

/-- The places from j on, as the digits of k. -/
def sufZ (p c j k : Nat) (i : Nat) : Int := if j ≤ i ∧ i < c then cf (digL p (c - j) k) (i - j) else 0
theorem sufZ_step {p c j : Nat} (hj : j < c) (a q : Nat) (ha : a < p) (i : Nat) : sufZ p c j (a + p * q) i = if i = j then (a : Int) else sufZ p c (j + 1) q i := by
  have h1 : (a + p * q) % p = a := by rw [Nat.add_mul_mod_self_left, Nat.mod_eq_of_lt ha]
  have h2 : (a + p * q) / p = q := by rw [Nat.add_mul_div_left _ _ (by omega), Nat.div_eq_of_lt ha, Nat.zero_add]
  have hd : digL p (c - j) (a + p * q) = (a : Int) :: digL p (c - (j + 1)) q := by
    rw [show c - j = (c - (j + 1)) + 1 by omega]
    show (((a + p * q) % p : Nat) : Int) :: digL p _ ((a + p * q) / p) = _
    rw [h1, h2]
  unfold sufZ
  rw [hd]
  by_cases h3 : i = j
  · subst h3; rw [if_pos ⟨Nat.le_refl _, hj⟩, if_pos rfl, Nat.sub_self]; rfl
  · rw [if_neg h3]
    by_cases h4 : j ≤ i ∧ i < c
    · rw [if_pos h4, if_pos (by omega), show i - j = (i - (j + 1)) + 1 by omega, cf_succ]
    · rw [if_neg h4, if_neg (by omega)]

section
variable {p : Nat} {c : Nat} {lead : List Nat} {m : List (List Int)}
/-- The rows that lead from column j on hold for a list. -/
def sufOk (p : Nat) (c j : Nat) (lead : List Nat) (m : List (List Int)) (z : Nat → Int) : Bool :=
  (List.range lead.length).all fun i => decide (lead.getD i 0 < j) || decide (Sg (fun l => mx m i l * z l) c % (p : Int) = mx m i c % (p : Int))
theorem sufOk_iff {j : Nat} {z : Nat → Int} : sufOk p c j lead m z = true ↔ ∀ i, i < lead.length → j ≤ lead.getD i 0 → Cong p (Sg (fun l => mx m i l * z l) c) (mx m i c) := by
  unfold sufOk Cong
  simp only [List.all_eq_true, List.mem_range, Bool.or_eq_true, decide_eq_true_eq]
  constructor
  · intro h i hi hj
    rcases h i hi with h1 | h1
    · omega
    · exact h1
  · intro h i hi
    by_cases hj : lead.getD i 0 < j
    · exact .inl hj
    · exact .inr (h i hi (by omega))
/-- How many lists from column j on hold. -/
def sufN (p : Nat) (c j : Nat) (lead : List Nat) (m : List (List Int)) : Int := Sg (fun k => if sufOk p c j lead m (sufZ p c j k) = true then 1 else 0) (p ^ (c - j))

theorem row_upto (h : RInv p c lead m) {i j : Nat} (hi : i < lead.length) (hj : j < lead.getD i 0) (a q : Nat) (ha : a < p) (hjc : j < c) :
    Sg (fun l => mx m i l * sufZ p c j (a + p * q) l) c = Sg (fun l => mx m i l * sufZ p c (j + 1) q l) c := Sg_congr fun l hl => by
  rw [sufZ_step hjc a q ha]
  by_cases e : l = j
  · rw [if_pos e, e, h.low i j hi hj, Int.zero_mul, Int.zero_mul]
  · rw [if_neg e]
theorem sufN_free (h : RInv p c lead m) {j : Nat} (hj : j < c) (hf : j ∉ lead) : sufN p c j lead m = (p : Int) * sufN p c (j + 1) lead m := by
  unfold sufN
  rw [show c - j = (c - (j + 1)) + 1 by omega, Nat.pow_succ, Sg_split, ← Sg_mul]
  refine Sg_congr fun q hq => ?_
  have key : ∀ a, a < p → sufOk p c j lead m (sufZ p c j (a + p * q)) = sufOk p c (j + 1) lead m (sufZ p c (j + 1) q) := by
    intro a ha
    rw [Bool.eq_iff_iff, sufOk_iff, sufOk_iff]
    constructor
    · intro h1 i hi hl
      have := h1 i hi (by omega)
      rwa [row_upto h hi (by omega) a q ha hj] at this
    · intro h1 i hi hl
      have hne : lead.getD i 0 ≠ j := fun e => hf (by rw [← e]; exact lead_mem hi)
      rw [row_upto h hi (by omega) a q ha hj]
      exact h1 i hi (by omega)
  have h2 : Sg (fun a => if sufOk p c j lead m (sufZ p c j (a + p * q)) = true then (1 : Int) else 0) p = Sg (fun a => if sufOk p c (j + 1) lead m (sufZ p c (j + 1) q) = true then (1 : Int) else 0) p := Sg_congr fun a ha => by rw [key a ha]
  rw [h2]
  have h3 : ∀ (x : Int) n, Sg (fun _ => x) n = (n : Int) * x := by
    intro x n
    induction n with
    | zero => simp [Sg]
    | succ n ih => simp only [Sg]; rw [ih, Int.natCast_succ, Int.add_mul, Int.one_mul]
  exact h3 _ _
theorem sufN_lead (h : RInv p c lead m) (hp : 2 ≤ p) {j : Nat} (hj : j < c) (hf : j ∈ lead) : sufN p c j lead m = sufN p c (j + 1) lead m := by
  obtain ⟨i0, hi0, he⟩ := h.idx hf
  unfold sufN
  rw [show c - j = (c - (j + 1)) + 1 by omega, Nat.pow_succ, Sg_split]
  refine Sg_congr fun q hq => ?_
  -- the only number that fits at column j
  obtain ⟨t, ht⟩ : ∃ t : Int, t = (mx m i0 c - Sg (fun l => mx m i0 l * sufZ p c (j + 1) q l) c) % (p : Int) := ⟨_, rfl⟩
  have ht0 : 0 ≤ t ∧ t < p := by rw [ht]; exact ⟨Int.emod_nonneg _ (by omega), Int.emod_lt_of_pos _ (by omega)⟩
  have hz0 : sufZ p c (j + 1) q j = 0 := by unfold sufZ; rw [if_neg (by omega)]
  have hrow : ∀ a, a < p → Sg (fun l => mx m i0 l * sufZ p c j (a + p * q) l) c = Sg (fun l => mx m i0 l * sufZ p c (j + 1) q l) c + a := by
    intro a ha
    have h1 : Sg (fun l => mx m i0 l * sufZ p c j (a + p * q) l) c = Sg (fun l => mx m i0 l * sufZ p c (j + 1) q l + (if l = j then (a : Int) else 0)) c := Sg_congr fun l hl => by
      rw [sufZ_step hj a q ha]
      by_cases e : l = j
      · have h2 := h.one i0 i0 hi0 (by have := h.rm; omega)
        rw [if_pos rfl, he] at h2
        rw [if_pos e, if_pos e, e, hz0, h2]; omega
      · rw [if_neg e, if_neg e]; omega
    rw [h1, Sg_add, Sg_single (f := fun l => if l = j then (a : Int) else 0) (j := j) hj (fun l hl hne => by simp [hne]), if_pos rfl]
  have key : ∀ a, a < p → (sufOk p c j lead m (sufZ p c j (a + p * q)) = true ↔ sufOk p c (j + 1) lead m (sufZ p c (j + 1) q) = true ∧ (a : Int) = t) := by
    intro a ha
    rw [sufOk_iff, sufOk_iff]
    constructor
    · intro h1
      refine ⟨fun i hi hl => ?_, ?_⟩
      · have := h1 i hi (by omega)
        rwa [row_upto h hi (by omega) a q ha hj] at this
      · have := h1 i0 hi0 (by omega)
        rw [hrow a ha] at this
        have h2 := this.sub (Cong.refl p (Sg (fun l => mx m i0 l * sufZ p c (j + 1) q l) c))
        rw [show ∀ x y : Int, x + y - x = y by intro x y; omega] at h2
        refine Cong.eq (h2.trans ?_) (by omega) ht0
        rw [ht]; exact (Cong.mod _ _).symm
    · rintro ⟨h1, h2⟩ i hi hl
      by_cases e : lead.getD i 0 = j
      · have : i = i0 := h.inj hi hi0 (by rw [e, he])
        rw [this, hrow a ha, h2, ht]
        have h3 := (Cong.refl (p : Int) (Sg (fun l => mx m i0 l * sufZ p c (j + 1) q l) c)).add (Cong.mod p (mx m i0 c - Sg (fun l => mx m i0 l * sufZ p c (j + 1) q l) c))
        rwa [show ∀ x y : Int, x + (y - x) = y by intro x y; omega] at h3
      · rw [row_upto h hi (by omega) a q ha hj]
        exact h1 i hi (by omega)
  obtain ⟨tn, rfl⟩ : ∃ tn : Nat, t = tn := ⟨t.toNat, by omega⟩
  rw [Sg_single (j := tn) (by omega)]
  · by_cases hg : sufOk p c (j + 1) lead m (sufZ p c (j + 1) q) = true
    · rw [if_pos ((key tn (by omega)).2 ⟨hg, rfl⟩), if_pos hg]
    · rw [if_neg (fun e => hg ((key tn (by omega)).1 e).1), if_neg hg]
  · intro a ha hne
    rw [if_neg (fun e => hne (by have := ((key a ha).1 e).2; omega))]
/-- How many of the first n columns from j on are free. -/
theorem sufN_pow (h : RInv p c lead m) (hp : 2 ≤ p) : ∀ d, d ≤ c → sufN p c (c - d) lead m = (p : Int) ^ (((List.range c).drop (c - d)).filter fun j => decide (j ∉ lead)).length
  | 0, _ => by
    have h1 : sufOk p c c lead m (sufZ p c c 0) = true := sufOk_iff.2 fun i hi hj => by have := h.lt i hi; omega
    have h2 : (List.range c).drop c = [] := List.drop_eq_nil_of_le (by simp)
    simp [sufN, Sg, h1, h2]
  | d + 1, hd => by
    have ih := sufN_pow h hp d (by omega)
    have hdrop : (List.range c).drop (c - (d + 1)) = (c - (d + 1)) :: (List.range c).drop (c - d) := by
      rw [List.drop_eq_getElem_cons (by simp; omega), List.getElem_range, show c - (d + 1) + 1 = c - d by omega]
    rw [hdrop]
    by_cases hm : c - (d + 1) ∈ lead
    · rw [sufN_lead h hp (by omega) hm, show c - (d + 1) + 1 = c - d by omega, ih]
      simp [hm]
    · rw [sufN_free h (by omega) hm, show c - (d + 1) + 1 = c - d by omega, ih]
      simp only [List.filter_cons, hm, not_false_eq_true, decide_true, if_true, List.length_cons, Int.pow_succ]
      rw [Int.mul_comm]
/-- As many lists hold as there are lists over the free columns. -/
theorem count_all (h : RInv p c lead m) (hp : 2 ≤ p) : Sg (fun k => if sufOk p c 0 lead m (fun j => if j < c then cf (digL p c k) j else 0) = true then 1 else 0) (p ^ c) = (p : Int) ^ (freeL c lead).length := by
  have h1 := sufN_pow h hp c (Nat.le_refl c)
  rw [Nat.sub_self, List.drop_zero] at h1
  unfold sufN at h1
  rw [Nat.sub_zero] at h1
  unfold freeL
  rw [← h1]
  refine Sg_congr fun k hk => ?_
  have : (fun j => if j < c then cf (digL p c k) j else 0) = sufZ p c 0 k := by
    funext j
    unfold sufZ
    by_cases hj : j < c
    · rw [if_pos hj, if_pos ⟨Nat.zero_le _, hj⟩]; rfl
    · rw [if_neg hj, if_neg (by omega)]
  rw [this]
/-- Rows that do not clash hold for a list just where the leading ones do. -/
theorem sufOk_solv (h : RInv p c lead m) (hc : NoClash c lead.length m) (x : List Int) : sufOk p c 0 lead m (fun j => if j < c then cf x j else 0) = true ↔ Solv p c m x := by
  have e : ∀ i, Sg (fun l => mx m i l * (if l < c then cf x l else 0)) c = Sg (fun l => mx m i l * cf x l) c := fun i => Sg_congr fun l hl => by rw [if_pos hl]
  rw [sufOk_iff]
  constructor
  · intro h1 i hi
    by_cases hr : i < lead.length
    · have := h1 i hr (Nat.zero_le _)
      rwa [e] at this
    · rw [h.row_zero _ (by omega) hi, hc i (by omega) hi]; exact Cong.refl _ _
  · intro h1 i hi _
    rw [e]; exact h1 i (by have := h.rm; omega)
end
end Go.Proofs.Ytoblofilaegnaaa
