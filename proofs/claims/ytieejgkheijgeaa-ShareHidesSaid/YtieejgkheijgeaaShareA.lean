/-
  Shares of a secret in plain numbers, no program in sight: what some of them lead to. No conditions.
-/
import Derived.Test.YtieejgkheijgeaaRootA
import Derived.Test.YtieejgkheijgeaaLinesA
namespace Go.Proofs.Ytieejgkheijgeaa
set_option linter.unusedVariables false

/-- The values of a polynomial at some points. -/
def valsP (p : Int) (cs us : List Int) : List Int := us.map fun x => valueP p x cs
theorem valsP_len (p : Int) (cs us : List Int) : (valsP p cs us).length = us.length := by simp [valsP]
theorem valsP_at (p : Int) (cs us : List Int) {j : Nat} (hj : j < us.length) : (valsP p cs us).getD j 0 = valueP p (us.getD j 0) cs := by
  unfold valsP
  rw [List.getD_eq_getElem?_getD, List.getElem?_map, List.getD_eq_getElem?_getD, List.getElem?_eq_getElem hj]; rfl
theorem valsP_allP {p : Int} (hp : 2 ≤ p) (cs us : List Int) : allP p (valsP p cs us) = true := allP_iff.2 fun y hy => by
  obtain ⟨x, _, rfl⟩ := List.mem_map.1 hy
  exact valueP_in hp x cs
theorem valsP_take (p : Int) (cs us : List Int) (k : Nat) : (valsP p cs us).take k = valsP p cs (us.take k) := by simp [valsP, List.map_take]
theorem valsP_snoc (p : Int) (cs us : List Int) (x : Int) : valsP p cs (us ++ [x]) = valsP p cs us ++ [valueP p x cs] := by simp [valsP]

theorem take_getD (l : List Int) {k j : Nat} (hj : j < k) : (l.take k).getD j 0 = l.getD j 0 := by
  rw [List.getD_eq_getElem?_getD, List.getElem?_take_of_lt hj, List.getD_eq_getElem?_getD]
theorem take_allP {p : Int} {l : List Int} (h : allP p l = true) (k : Nat) : allP p (l.take k) = true := allP_iff.2 fun x hx => allP_iff.1 h x (List.mem_of_mem_take hx)
theorem value_zero {p : Int} (hp : 2 ≤ p) {cs : List Int} (ha : allP p cs = true) (h : 0 < cs.length) : valueP p 0 cs = cs.getD 0 0 := lines_zero p hp cs h ha
theorem value_trim (p x : Int) (hp : 2 ≤ p) (cs : List Int) : valueP p x (trimL cs) = valueP p x cs := by
  refine Cong.eq (p := p) ?_ (valueP_in hp _ _) (valueP_in hp _ _)
  exact (valueP_cong _ _ _).trans ((polyZ_cfs fun k => by rw [cf_trimL]; exact Cong.refl _ _).trans (valueP_cong _ _ _).symm)

/-- Points are apart. -/
def Apart2 (us : List Int) : Prop := ∀ j k, j < k → k < us.length → us.getD j 0 ≠ us.getD k 0
theorem Apart2.take {us : List Int} (h : Apart2 us) (k : Nat) : Apart2 (us.take k) := fun i j h1 h2 => by
  have hl : (us.take k).length ≤ us.length ∧ (us.take k).length ≤ k := by rw [List.length_take]; omega
  rw [take_getD us (by omega), take_getD us (by omega)]
  exact h i j h1 (by omega)

/-- Shares of a polynomial lead to it. -/
theorem share_join {p : Int} (hok : okP p = true) {cs us R : List Int} {m : Nat} (hc : allP p cs = true) (hl : cs.length ≤ m) (hu : allP p us = true) (hd : Apart2 us) (hm : m ≤ us.length) (h : Through p (us.take m) ((valsP p cs us).take m) R) : R = trimL cs := by
  have hlen : (us.take m).length = m := by rw [List.length_take]; omega
  refine h.unique hok (pairwise_of (take_allP hu m) (hd.take m)) hc (by omega) fun j hj => ?_
  rw [valsP_take, valsP_at p cs _ hj]

/-- Whether all shares are values of a polynomial. -/
def agreeB (p : Int) (us ys R : List Int) : Bool := (List.range us.length).all fun i => valueP p (us.getD i 0) R == ys.getD i 0
theorem agreeB_iff {p : Int} {us ys R : List Int} : agreeB p us ys R = true ↔ ∀ i, i < us.length → valueP p (us.getD i 0) R = ys.getD i 0 := by
  unfold agreeB
  rw [List.all_eq_true]
  constructor
  · intro h i hi
    have := h i (List.mem_range.2 hi)
    simpa using this
  · intro h i hi
    have := h i (List.mem_range.1 hi)
    simpa using this
theorem share_agree {p : Int} (hp : 2 ≤ p) (cs us : List Int) : agreeB p us (valsP p cs us) (trimL cs) = true := agreeB_iff.2 fun i hi => by
  rw [valsP_at p cs us hi, value_trim p _ hp]

/-- One changed share is noticed. -/
theorem share_changed {p : Int} (hok : okP p = true) {cs us R : List Int} {m k : Nat} {v : Int} (hc : allP p cs = true) (hl : cs.length ≤ m) (hu : allP p us = true) (hd : Apart2 us) (hm : us.length = m + 1) (hk : k < us.length)
    (h : Through p (us.take m) (((valsP p cs us).set k v).take m) R) : agreeB p us ((valsP p cs us).set k v) R = ((valsP p cs us).getD k 0 == v) := by
  have hp := (okP_pos hok).1
  have hlen : (us.take m).length = m := by rw [List.length_take]; omega
  by_cases hv : (valsP p cs us).getD k 0 = v
  · have hs : (valsP p cs us).set k v = valsP p cs us := by
      refine cf_ext (by rw [List.length_set]) fun i => ?_
      rw [cf_set]
      split
      · rename_i h1; rw [← h1.1, ← hv]; rfl
      · rfl
    rw [hs] at h ⊢
    rw [share_join hok hc hl hu hd (by omega) h, share_agree hp, hv]; simp
  · have hf : ((valsP p cs us).getD k 0 == v) = false := by simpa using hv
    rw [hf, ← Bool.not_eq_true, agreeB_iff]
    intro hall
    -- the points but the k-th one
    have hlr : R.length ≤ m := by have := h.ln; rw [hlen] at this; exact this
    have hel : (us.eraseIdx k).length = m := by rw [List.length_eraseIdx_of_lt hk]; omega
    have hpw := (pairwise_of hu hd).sublist (List.eraseIdx_sublist us k)
    have hcf := same_cfs hok hpw h.al hc (by omega) (by omega) (fun x hx => by
      obtain ⟨i, hi, hik, rfl⟩ : ∃ i, i < us.length ∧ i ≠ k ∧ us.getD i 0 = x := by
        obtain ⟨i, hi, hne, e⟩ := List.mem_eraseIdx_iff_getElem.1 hx
        exact ⟨i, hi, hne, by rw [List.getD_eq_getElem?_getD, List.getElem?_eq_getElem hi]; exact e⟩
      rw [hall i hi]
      have h1 : ((valsP p cs us).set k v).getD i 0 = (valsP p cs us).getD i 0 := by
        show cf _ i = cf _ i
        rw [cf_set, if_neg (by omega)]
      rw [h1, valsP_at p cs us hi])
    have h2 := hall k hk
    have h3 : ((valsP p cs us).set k v).getD k 0 = v := by
      show cf _ k = v
      rw [cf_set, if_pos ⟨rfl, by rw [valsP_len]; exact hk⟩]
    rw [h3] at h2
    apply hv
    rw [valsP_at p cs us hk, ← h2]
    refine Cong.eq (p := p) ?_ (valueP_in hp _ _) (valueP_in hp _ _)
    exact (valueP_cong _ _ _).trans ((polyZ_cfs fun k => Cong.of_eq (hcf k).symm).trans (valueP_cong _ _ _).symm)
end Go.Proofs.Ytieejgkheijgeaa
