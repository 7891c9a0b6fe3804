/-
  Division of polynomials in plain numbers, no program in sight: step by step, and what quotient and remainder are. No conditions.
-/
import Derived.Test.YtpkieikiakikmaaPolyB
namespace Go.Proofs.Ytpkieikiakikmaa
set_option linter.unusedVariables false

theorem conv_set {qs : List Int} {j : Nat} (hj : j < qs.length) (h0 : cf qs j = 0) (q : Int) (b : List Int) (k : Nat) : conv (qs.set j q) b k = conv qs b k + (if j ≤ k then q * cf b (k - j) else 0) := by
  have h1 : conv (qs.set j q) b k = Sg (fun i => cf qs i * cf b (k - i) + (if i = j then q * cf b (k - i) else 0)) (k + 1) := Sg_congr fun i _ => by
    rw [cf_set]
    by_cases h : j = i
    · subst h; rw [if_pos ⟨rfl, hj⟩, if_pos rfl, h0]; omega
    · rw [if_neg (by omega), if_neg (by omega), Int.add_zero]
  rw [h1, Sg_add]
  congr 1
  by_cases h : j ≤ k
  · rw [if_pos h, Sg_single (j := j) (by omega) (fun i _ hne => by rw [if_neg hne]), if_pos rfl]
  · rw [if_neg h, Sg_zero fun i hi => by rw [if_neg (by omega)]]

/-- What holds between the rounds of Divide. -/
structure Dvs (p : Int) (xs bs ts qs : List Int) (lr : Nat) : Prop where
  at_ : allP p ts = true
  aq : allP p qs = true
  le : lr ≤ ts.length
  lq : ts.length + 1 ≤ qs.length + bs.length
  tr : ∀ j, lr = j + 1 → cf ts j ≠ 0
  z : ∀ i, i + bs.length ≤ lr → cf qs i = 0
  eq : ∀ k, Cong p (conv qs bs k + cf (ts.take lr) k) (cf xs k)

theorem cf_replicate (n k : Nat) : cf (List.replicate n 0) k = 0 := by
  unfold cf
  rw [List.getD_eq_getElem?_getD, List.getElem?_replicate]
  split <;> rfl
theorem Dvs.start {p : Int} (hp : 2 ≤ p) {xs : List Int} (hx : allP p xs = true) (bs : List Int) (L : Nat) (hL : (trimL xs).length + 1 ≤ L + bs.length) : Dvs p xs bs (trimL xs) (List.replicate L 0) (trimL xs).length :=
  ⟨trimL_allP hx, allP_iff.2 fun x h => by rw [(List.mem_replicate.1 h).2]; omega, Nat.le_refl _, by rw [List.length_replicate]; exact hL, fun j hj => trimL_trimd xs j hj, fun i _ => cf_replicate L i, fun k => by
    have h1 : conv (List.replicate L 0) bs k = 0 := Sg_zero fun i _ => by rw [cf_replicate, Int.zero_mul]
    rw [h1, Int.zero_add, List.take_length, cf_trimL]; exact Cong.refl _ _⟩

theorem set_allP {p : Int} {l : List Int} (h : allP p l = true) (j : Nat) {v : Int} (hv : 0 ≤ v ∧ v < p) : allP p (l.set j v) = true := allP_iff.2 fun x hx => by
  rcases List.mem_or_eq_of_mem_set hx with h1 | h1
  · exact allP_iff.1 h x h1
  · rw [h1]; exact hv

theorem Dvs.step {p : Int} (hp : 2 ≤ p) {xs bs ts qs : List Int} {l1 n1 at0 : Nat} (h : Dvs p xs bs ts qs (l1 + 1)) (hb : bs.length = n1 + 1) (ha : at0 + n1 = l1) {inv q : Int} (hinv : Cong p (bs.getD n1 0 * inv) 1) (hq : q = mulP p (ts.getD l1 0) inv) :
    Dvs p xs bs (addTo p (subP p 0 q) at0 bs ts (n1 + 1)) (qs.set at0 q) (tn (addTo p (subP p 0 q) at0 bs ts (n1 + 1)) l1) := by
  have hle := h.le
  have hlq := h.lq
  have htl : (addTo p (subP p 0 q) at0 bs ts (n1 + 1)).length = ts.length := addTo_len _ _ _ _ _ _
  have htn := tn_le (addTo p (subP p 0 q) at0 bs ts (n1 + 1)) l1
  have hqin : 0 ≤ q ∧ q < p := by rw [hq]; exact mulP_in _ _ hp
  have hz0 : cf qs at0 = 0 := h.z at0 (by omega)
  have hcf : ∀ i, i < ts.length → cf (addTo p (subP p 0 q) at0 bs ts (n1 + 1)) i = (cf ts i + subP p 0 q * (if at0 ≤ i then cf bs (i - at0) else 0)) % p := fun i hi => cf_addTo hb (cf_in hp h.at_) hi
  have hneg : ∀ x : Int, Cong p (subP p 0 q * x) (-(q * x)) := fun x => by
    have := (Cong.subP p 0 q).mul (Cong.refl p x)
    refine this.trans (Cong.of_eq ?_)
    rw [Int.zero_sub, Int.neg_mul]
  generalize hts : addTo p (subP p 0 q) at0 bs ts (n1 + 1) = ts' at *
  refine ⟨by rw [← hts]; exact addTo_allP hp _ _ _ _ _ h.at_, set_allP h.aq _ hqin, by omega, by rw [List.length_set]; omega, fun j hj => tn_last hj, fun i hi => ?_, fun k => ?_⟩
  · rw [cf_set, if_neg (by omega)]
    exact h.z i (by omega)
  · rw [conv_set (by omega) hz0]
    have hmain : Cong p (cf (ts'.take (tn ts' l1)) k) (cf (ts.take (l1 + 1)) k - (if at0 ≤ k then q * cf bs (k - at0) else 0)) := by
      rw [cf_take, cf_take]
      by_cases hk : k < l1
      · have e1 : (if k < tn ts' l1 then cf ts' k else 0) = cf ts' k := by
          split
          · rfl
          · exact (tn_zero (by omega) hk).symm
        rw [e1, hcf k (by omega), if_pos (show k < l1 + 1 by omega)]
        refine (Cong.mod _ _).trans ?_
        by_cases h2 : at0 ≤ k
        · simp only [h2, if_true]; rw [Int.sub_eq_add_neg]
          exact (Cong.refl _ _).add (hneg _)
        · simp only [h2, if_false]; rw [Int.mul_zero, Int.add_zero, Int.sub_zero]; exact Cong.refl _ _
      · rw [if_neg (by omega)]
        by_cases hk1 : k = l1
        · subst hk1
          rw [if_pos (show k < k + 1 by omega), if_pos (show at0 ≤ k by omega), show k - at0 = n1 by omega]
          have h3 : Cong p (q * cf bs n1) (cf ts k) := by
            rw [hq]
            refine ((Cong.mulP _ _ _).mul (Cong.refl _ _)).trans ?_
            have e2 : ts.getD k 0 * inv * cf bs n1 = ts.getD k 0 * (bs.getD n1 0 * inv) := by rw [Int.mul_assoc, Int.mul_comm inv]; rfl
            rw [e2]
            have := (Cong.refl p (ts.getD k 0)).mul hinv
            rwa [Int.mul_one] at this
          have h4 := (Cong.refl p (cf ts k)).sub h3
          rw [Int.sub_self] at h4
          exact h4.symm
        · rw [if_neg (by omega)]
          have : (if at0 ≤ k then q * cf bs (k - at0) else 0) = 0 := by
            split
            · rw [cf_out (l := bs) (by omega), Int.mul_zero]
            · rfl
          rw [this]; exact Cong.refl _ _
    have h5 := ((Cong.refl p (conv qs bs k + (if at0 ≤ k then q * cf bs (k - at0) else 0))).add hmain)
    refine h5.trans ((Cong.of_eq ?_).trans (h.eq k))
    omega

/-- Quotient and remainder. -/
structure DivOf (p : Int) (a b q r : List Int) : Prop where
  tq : Trimd q
  tr : Trimd r
  aq : allP p q = true
  ar : allP p r = true
  ln : r.length < tn b b.length
  eq : ∀ k, Cong p (conv q b k + cf r k) (cf a k)
theorem Dvs.done {p : Int} {xs ys ts qs : List Int} {lr : Nat} (h : Dvs p xs (trimL ys) ts qs lr) (hl : lr < (trimL ys).length) : DivOf p xs ys (trimL qs) (ts.take lr) := by
  have hle := h.le
  have hrl : (ts.take lr).length = lr := by rw [List.length_take]; omega
  refine ⟨trimL_trimd _, fun j hj => ?_, trimL_allP h.aq, allP_iff.2 fun x hx => allP_iff.1 h.at_ x (List.mem_of_mem_take hx), by rw [hrl, ← trimL_len]; exact hl, fun k => ?_⟩
  · rw [hrl] at hj
    rw [cf_take, if_pos (by omega)]
    exact h.tr j hj
  · have e : conv (trimL qs) ys k = conv qs (trimL ys) k := Sg_congr fun i _ => by rw [cf_trimL, cf_trimL]
    rw [e]; exact h.eq k

theorem DivOf.back {p : Int} (hp : 2 ≤ p) {a b q r : List Int} (h : DivOf p a b q r) (ha : allP p a = true) : addL p (mulL p q b) r = trimL a := by
  refine (addL_trimd _ _ _).ext (trimL_trimd _) fun k => ?_
  rw [cf_trimL, cf_addL, cf_mulL]
  have h1 : Cong p ((conv q b k % p + cf r k) % p) (cf a k) := (Cong.mod _ _).trans (((Cong.mod _ _).add (Cong.refl _ _)).trans (h.eq k))
  exact h1.eq (emod_in hp _) (cf_in hp ha k)

theorem conv_scaled {p c : Int} {s a b : List Int} (h : ∀ k, Cong p (cf s k) (cf a k + c * cf b k)) (d : List Int) (k : Nat) : Cong p (conv s d k) (conv a d k + c * conv b d k) := by
  unfold conv
  rw [← Sg_mul, ← Sg_add]
  refine Sg_cong fun i _ => ?_
  have e : cf a i * cf d (k - i) + c * (cf b i * cf d (k - i)) = (cf a i + c * cf b i) * cf d (k - i) := by rw [Int.add_mul, Int.mul_assoc]
  rw [e]
  exact (h i).mul (Cong.refl _ _)

theorem DivOf.exact_ {p : Int} (hok : okP p = true) {a b q r : List Int} (ha : allP p a = true) (hb : allP p b = true) (h : DivOf p (mulL p a b) b q r) : q = trimL a ∧ r = [] := by
  have hp := (okP_pos hok).1
  -- the difference of the quotients, reduced and trimmed
  have hcd : ∀ k, Cong p (cf (trimL ((List.range (q.length + a.length)).map fun k => (cf q k - cf a k) % p)) k) (cf q k + (-1) * cf a k) := fun k => by
    rw [cf_trimL, cf_map_range]
    split
    · exact (Cong.mod _ _).trans (Cong.of_eq (by omega))
    · rw [cf_out (l := q) (by omega), cf_out (l := a) (by omega)]; exact Cong.refl _ _
  have hda : allP p (trimL ((List.range (q.length + a.length)).map fun k => (cf q k - cf a k) % p)) = true := trimL_allP (map_allP hp _ _)
  have hdt := trimL_trimd ((List.range (q.length + a.length)).map fun k => (cf q k - cf a k) % p)
  generalize trimL ((List.range (q.length + a.length)).map fun k => (cf q k - cf a k) % p) = d at *
  have hd : ∀ k, Cong p (conv d b k) (-(cf r k)) := fun k => by
    have h1 := conv_scaled hcd b k
    have h2 := h.eq k
    rw [cf_mulL] at h2
    have h3 := h2.trans (Cong.mod p (conv a b k))
    have h4 := h3.sub (Cong.refl p (conv a b k + cf r k))
    refine h1.trans ((Cong.of_eq ?_).trans (h4.trans (Cong.of_eq ?_)))
    · omega
    · omega
  have hdz : d = [] := by
    cases hdl : d.length with
    | zero => exact List.eq_nil_of_length_eq_zero hdl
    | succ i =>
      exfalso
      have hln := h.ln
      rw [← trimL_len] at hln
      obtain ⟨j, hj⟩ : ∃ j, (trimL b).length = j + 1 := ⟨(trimL b).length - 1, by omega⟩
      have h1 := hd (i + j)
      rw [cf_out (l := r) (by omega)] at h1
      have e : conv d b (i + j) = conv d (trimL b) (i + j) := Sg_congr fun x _ => by rw [cf_trimL]
      rw [e, conv_last hdl hj] at h1
      have h2 : Cong p (cf d i * cf (trimL b) j) 0 := h1
      rcases Cong.mul_zero hok h2 with h3 | h3
      · exact hdt i hdl ((Cong.elt_zero (cf_in hp hda i)).1 h3)
      · exact trimL_trimd b j hj ((Cong.elt_zero (cf_in hp (trimL_allP hb) j)).1 h3)
  subst hdz
  constructor
  · refine h.tq.ext (trimL_trimd _) fun k => ?_
    rw [cf_trimL]
    have h1 := hcd k
    rw [cf_nil] at h1
    have h2 : Cong p (cf q k - cf a k) 0 := by refine Cong.trans (Cong.of_eq ?_) h1.symm; omega
    exact h2.sub_zero.eq (cf_in hp h.aq k) (cf_in hp ha k)
  · cases hrl : r.length with
    | zero => exact List.eq_nil_of_length_eq_zero hrl
    | succ j =>
      exfalso
      have h1 := hd j
      rw [conv_nil] at h1
      have h2 := h1.symm.neg
      rw [Int.neg_neg, Int.neg_zero] at h2
      exact h.tr j hrl ((Cong.elt_zero (cf_in hp h.ar j)).1 h2)
end Go.Proofs.Ytpkieikiakikmaa
