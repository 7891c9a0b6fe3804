/-
  Products of x - a and their zeros in plain numbers, no program in sight. No conditions.
-/
import Derived.Test.YtieejgkheijgeaaItpA
namespace Go.Proofs.Ytieejgkheijgeaa
set_option linter.unusedVariables false

/-- The product of all x - a, as PolyZeros makes it. -/
structure Zer (p : Int) (zs ps : List Int) : Prop where
  al : allP p ps = true
  tr : Trimd ps
  ln : ps.length = zs.length + 1
  ev : ∀ x, Cong p (polyZ x ps) (prodX x zs)
theorem Zer.start {p : Int} (hp : 2 ≤ p) : Zer p [] [1] :=
  ⟨allP_iff.2 (by simp; omega), fun n h => by simp at h; subst h; decide, rfl, fun x => by simp [polyZ, prodX]; exact Cong.refl _ _⟩
theorem Zer.step {p : Int} (hok : okP p = true) {zs ps : List Int} (h : Zer p zs ps) (a : Int) (ha : 0 ≤ a ∧ a < p) : Zer p (zs ++ [a]) (mulL p ps [(p - a) % p, 1]) := by
  have hp := (okP_pos hok).1
  have hs := emod_in hp (p - a)
  have hal : allP p [(p - a) % p, 1] = true := allP_iff.2 fun x hx => by
    rcases List.mem_cons.1 hx with h1 | h1
    · rw [h1]; exact hs
    · rw [List.mem_singleton.1 h1]; omega
  have htr : Trimd [(p - a) % p, 1] := fun n hn => by
    obtain rfl : n = 1 := by simp at hn; omega
    show (1 : Int) ≠ 0
    decide
  have e : mulL p ps [(p - a) % p, 1] = rawMul p ps [(p - a) % p, 1] := by
    unfold mulL
    rw [h.tr.trimL, htr.trimL, if_neg (by rw [h.ln]; simp)]
  refine ⟨mulL_allP hp _ _, mulL_trimd hok h.al hal, by rw [e]; simp [rawMul, h.ln], fun x => ?_⟩
  rw [prodX_snoc]
  refine (polyZ_prod (a := ps) (b := [(p - a) % p, 1]) fun k => by rw [cf_mulL]; exact Cong.mod _ _).trans ((h.ev x).mul ?_)
  have h2 : polyZ x [(p - a) % p, 1] = x + (p - a) % p := by rw [polyZ_cons, polyZ_cons]; show (0 * x + 1) * x + _ = _; rw [Int.zero_mul, Int.zero_add, Int.one_mul]
  rw [h2]
  have h3 := (Cong.refl p x).add ((Cong.mod p (p - a)).trans ((Cong.self p).sub (Cong.refl p a)))
  refine h3.trans (Cong.of_eq ?_)
  omega
theorem Zer.zero {p : Int} (hok : okP p = true) {zs ps : List Int} (h : Zer p zs ps) (hz : allP p zs = true) {x : Int} (hx : 0 ≤ x ∧ x < p) : (valueP p x ps == 0) = decide (x ∈ zs) := by
  have hp := (okP_pos hok).1
  have h1 := (valueP_cong p x ps).trans (h.ev x)
  by_cases hm : x ∈ zs
  · have h2 := h1.trans (prodX_zero x zs hm (by rw [Int.sub_self]; exact Cong.refl _ _))
    rw [(Cong.elt_zero (valueP_in hp x ps)).1 h2, decide_eq_true hm]; rfl
  · rw [decide_eq_false hm]
    have : valueP p x ps ≠ 0 := fun h0 => by
      rw [h0] at h1
      exact prodX_not hok x zs (fun a ha => elt_ne hx (allP_iff.1 hz a ha) (fun e => hm (e ▸ ha))) h1.symm
    simpa using this

/-- How many numbers below n are on a list. -/
def cntZ (zs : List Int) (n : Nat) : Int := Sg (fun i => if (i : Int) ∈ zs then 1 else 0) n
theorem cntZ_succ (zs : List Int) (n : Nat) : cntZ zs (n + 1) = cntZ zs n + if (n : Int) ∈ zs then 1 else 0 := rfl
theorem cntZ_nonneg (zs : List Int) : ∀ n, 0 ≤ cntZ zs n
  | 0 => Int.le_refl _
  | n + 1 => by have := cntZ_nonneg zs n; rw [cntZ_succ]; split <;> omega
theorem cntZ_one (a : Int) : ∀ n, Sg (fun i => if (i : Int) = a then 1 else 0) n ≤ (if a < n then 1 else 0)
  | 0 => by simp only [Sg]; split <;> omega
  | n + 1 => by
    have ih := cntZ_one a n
    simp only [Sg]
    by_cases h : (n : Int) = a
    · rw [if_pos h, if_pos (by omega)]
      rw [if_neg (by omega)] at ih
      omega
    · rw [if_neg h]
      split at ih
      · rw [if_pos (by omega)]; omega
      · split <;> omega
theorem Sg_le {f g : Nat → Int} : ∀ {n : Nat}, (∀ i, f i ≤ g i) → Sg f n ≤ Sg g n
  | 0, _ => Int.le_refl _
  | n + 1, h => by have := Sg_le (n := n) h; have := h n; simp only [Sg]; omega
theorem cntZ_le : ∀ (zs : List Int) (n : Nat), cntZ zs n ≤ zs.length
  | [], n => by
    have : cntZ [] n = 0 := Sg_zero fun i _ => by simp
    rw [this]; simp
  | a :: zs, n => by
    have ih := cntZ_le zs n
    have h1 : cntZ (a :: zs) n ≤ Sg (fun i => (if (i : Int) = a then 1 else 0) + (if (i : Int) ∈ zs then 1 else 0)) n := Sg_le fun i => by
      by_cases h : (i : Int) = a
      · rw [if_pos (by simp [h]), if_pos h]; split <;> omega
      · by_cases h2 : (i : Int) ∈ zs
        · rw [if_pos (by simp [h2]), if_pos h2]; split <;> omega
        · rw [if_neg (by simp [h, h2]), if_neg h2]; split <;> omega
    rw [Sg_add] at h1
    have h2 := cntZ_one a n
    have h3 : (if a < (n : Int) then (1 : Int) else 0) ≤ 1 := by split <;> omega
    unfold cntZ at ih h1 ⊢
    simp only [List.length_cons]
    omega
end Go.Proofs.Ytieejgkheijgeaa
