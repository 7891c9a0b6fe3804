/-
  Polynomials in plain numbers, no program in sight: coefficients, sums, products, trimming and values. No conditions.
-/
import Derived.Test.YtoblofilaegnaaaPrimeA
namespace Go.Proofs.Ytoblofilaegnaaa
set_option linter.unusedVariables false

/-- A coefficient. -/
def cf (l : List Int) (k : Nat) : Int := l.getD k 0
theorem cf_nil (k : Nat) : cf [] k = 0 := by simp [cf]
theorem cf_zero (a : Int) (l : List Int) : cf (a :: l) 0 = a := rfl
theorem cf_succ (a : Int) (l : List Int) (k : Nat) : cf (a :: l) (k + 1) = cf l k := rfl
theorem cf_out {l : List Int} {k : Nat} (h : l.length ≤ k) : cf l k = 0 := by
  unfold cf; rw [List.getD_eq_getElem?_getD, List.getElem?_eq_none h]; rfl
theorem cf_take (l : List Int) (n k : Nat) : cf (l.take n) k = if k < n then cf l k else 0 := by
  unfold cf
  rw [List.getD_eq_getElem?_getD, List.getElem?_take]
  split
  · rw [List.getD_eq_getElem?_getD]
  · rfl
theorem cf_map_range (f : Nat → Int) (n k : Nat) : cf ((List.range n).map f) k = if k < n then f k else 0 := by
  unfold cf
  rw [List.getD_eq_getElem?_getD, List.getElem?_map]
  by_cases h : k < n
  · rw [List.getElem?_range h, if_pos h]; rfl
  · rw [List.getElem?_eq_none (by simp; omega), if_neg h]; rfl
theorem cf_in {p : Int} {l : List Int} (hp : 2 ≤ p) (h : allP p l = true) (k : Nat) : 0 ≤ cf l k ∧ cf l k < p := by
  by_cases hk : k < l.length
  · exact allP_getD h hk
  · rw [cf_out (by omega)]; omega
theorem cf_ext {a b : List Int} (h : a.length = b.length) (hk : ∀ k, cf a k = cf b k) : a = b := by
  apply List.ext_getElem h
  intro i h1 h2
  have := hk i
  unfold cf at this
  rw [List.getD_eq_getElem?_getD, List.getD_eq_getElem?_getD, List.getElem?_eq_getElem h1, List.getElem?_eq_getElem h2] at this
  exact this

/-- A sum over the numbers below n. -/
def Sg (f : Nat → Int) : Nat → Int
  | 0 => 0
  | n + 1 => Sg f n + f n
theorem Sg_congr {f g : Nat → Int} : ∀ {n : Nat}, (∀ i, i < n → f i = g i) → Sg f n = Sg g n
  | 0, _ => rfl
  | n + 1, h => by simp only [Sg]; rw [Sg_congr (n := n) (fun i hi => h i (by omega)), h n (by omega)]
theorem Sg_cong {p : Int} {f g : Nat → Int} : ∀ {n : Nat}, (∀ i, i < n → Cong p (f i) (g i)) → Cong p (Sg f n) (Sg g n)
  | 0, _ => Cong.refl _ _
  | n + 1, h => (Sg_cong (n := n) (fun i hi => h i (by omega))).add (h n (by omega))
theorem Sg_add (f g : Nat → Int) : ∀ n, Sg (fun i => f i + g i) n = Sg f n + Sg g n
  | 0 => rfl
  | n + 1 => by simp only [Sg]; rw [Sg_add f g n]; omega
theorem Sg_mul (c : Int) (f : Nat → Int) : ∀ n, Sg (fun i => c * f i) n = c * Sg f n
  | 0 => by simp [Sg]
  | n + 1 => by simp only [Sg]; rw [Sg_mul c f n, Int.mul_add]
theorem Sg_zero {f : Nat → Int} : ∀ {n : Nat}, (∀ i, i < n → f i = 0) → Sg f n = 0
  | 0, _ => rfl
  | n + 1, h => by simp only [Sg]; rw [Sg_zero (n := n) (fun i hi => h i (by omega)), h n (by omega)]; rfl
theorem Sg_head (f : Nat → Int) : ∀ n, Sg f (n + 1) = f 0 + Sg (fun i => f (i + 1)) n
  | 0 => by simp [Sg]
  | n + 1 => by rw [Sg, Sg_head f n]; simp only [Sg]; omega
theorem Sg_more {f : Nat → Int} {n : Nat} : ∀ {m : Nat}, n ≤ m → (∀ i, n ≤ i → f i = 0) → Sg f m = Sg f n
  | 0, h, _ => by rw [show n = 0 by omega]
  | m + 1, h, hz => by
    by_cases he : n = m + 1
    · rw [he]
    · simp only [Sg]; rw [Sg_more (m := m) (by omega) hz, hz m (by omega), Int.add_zero]
theorem Sg_rev (f : Nat → Int) : ∀ n, Sg f n = Sg (fun i => f (n - 1 - i)) n
  | 0 => rfl
  | n + 1 => by
    rw [Sg_head (fun i => f (n + 1 - 1 - i)) n]
    simp only [Sg]
    rw [Sg_rev f n]
    have : Sg (fun i => f (n + 1 - 1 - (i + 1))) n = Sg (fun i => f (n - 1 - i)) n := Sg_congr fun i hi => by rw [show n + 1 - 1 - (i + 1) = n - 1 - i by omega]
    rw [this]
    simp; omega
theorem Sg_single {f : Nat → Int} {j : Nat} : ∀ {n : Nat}, j < n → (∀ i, i < n → i ≠ j → f i = 0) → Sg f n = f j
  | 0, h, _ => by omega
  | n + 1, h, hz => by
    simp only [Sg]
    by_cases he : j = n
    · subst he; rw [Sg_zero (fun i hi => hz i (by omega) (by omega)), Int.zero_add]
    · rw [Sg_single (n := n) (by omega) (fun i hi hn => hz i (by omega) hn), hz n (by omega) (by omega), Int.add_zero]

/-- A coefficient of a product. -/
def conv (a b : List Int) (k : Nat) : Int := Sg (fun i => cf a i * cf b (k - i)) (k + 1)

theorem conv_comm (a b : List Int) (k : Nat) : conv a b k = conv b a k := by
  unfold conv
  rw [Sg_rev]
  refine Sg_congr fun i hi => ?_
  show cf a (k + 1 - 1 - i) * cf b (k - (k + 1 - 1 - i)) = cf b i * cf a (k - i)
  rw [show k - (k + 1 - 1 - i) = i by omega, show k + 1 - 1 - i = k - i by omega, Int.mul_comm]
theorem conv_cong {p : Int} {a b c d : List Int} (h : ∀ k, Cong p (cf a k) (cf c k)) (h2 : ∀ k, Cong p (cf b k) (cf d k)) (k : Nat) : Cong p (conv a b k) (conv c d k) :=
  Sg_cong fun i _ => (h i).mul (h2 _)
theorem conv_add {p : Int} {s a b : List Int} (h : ∀ k, Cong p (cf s k) (cf a k + cf b k)) (c : List Int) (k : Nat) : Cong p (conv s c k) (conv a c k + conv b c k) := by
  unfold conv
  rw [← Sg_add]
  refine Sg_cong fun i _ => ?_
  rw [← Int.add_mul]
  exact (h i).mul (Cong.refl _ _)
theorem conv_cons_zero (x : Int) (a b : List Int) : conv (x :: a) b 0 = x * cf b 0 := by
  simp [conv, Sg, cf_zero]
theorem conv_cons_succ (x : Int) (a b : List Int) (k : Nat) : conv (x :: a) b (k + 1) = x * cf b (k + 1) + conv a b k := by
  unfold conv
  rw [Sg_head]
  show x * cf b (k + 1 - 0) + _ = _
  rw [Nat.sub_zero]
  congr 1
  refine Sg_congr fun i hi => ?_
  rw [cf_succ, show k + 1 - (i + 1) = k - i by omega]
theorem conv_nil (b : List Int) (k : Nat) : conv [] b k = 0 := Sg_zero fun i _ => by rw [cf_nil, Int.zero_mul]
theorem conv_out {a b : List Int} {k : Nat} (h : a.length + b.length ≤ k + 1) : conv a b k = 0 := by
  refine Sg_zero fun i hi => ?_
  by_cases h1 : a.length ≤ i
  · rw [cf_out h1, Int.zero_mul]
  · rw [cf_out (l := b) (by omega), Int.mul_zero]
theorem conv_last {a b : List Int} {n m : Nat} (ha : a.length = n + 1) (hb : b.length = m + 1) : conv a b (n + m) = cf a n * cf b m := by
  unfold conv
  rw [Sg_single (j := n) (by omega)]
  · rw [show n + m - n = m by omega]
  · intro i hi hne
    by_cases h1 : n < i
    · rw [cf_out (l := a) (by omega), Int.zero_mul]
    · rw [cf_out (l := b) (by omega), Int.mul_zero]

theorem polyZ_Sg (x : Int) (l : List Int) : ∀ N, l.length ≤ N → polyZ x l = Sg (fun k => cf l k * x ^ k) N := by
  induction l with
  | nil => intro N _; rw [Sg_zero (fun i _ => by rw [cf_nil, Int.zero_mul])]; rfl
  | cons c l ih =>
    intro N hN
    obtain ⟨M, rfl⟩ : ∃ M, N = M + 1 := ⟨N - 1, by simp at hN; omega⟩
    rw [Sg_head, polyZ_cons, ih M (by simpa using hN)]
    rw [cf_zero, Int.pow_zero, Int.mul_one, Int.add_comm]
    congr 1
    rw [Int.mul_comm, ← Sg_mul]
    exact Sg_congr fun i _ => by rw [cf_succ, Int.pow_succ, ← Int.mul_assoc, Int.mul_comm x, Int.mul_assoc, Int.mul_comm x]

theorem conv_value (x : Int) (b : List Int) (a : List Int) : ∀ N, a.length + b.length ≤ N → Sg (fun k => conv a b k * x ^ k) N = polyZ x a * polyZ x b := by
  induction a with
  | nil => intro N _; rw [Sg_zero (fun i _ => by rw [conv_nil, Int.zero_mul])]; simp [polyZ]
  | cons c a ih =>
    intro N hN
    obtain ⟨M, rfl⟩ : ∃ M, N = M + 1 := ⟨N - 1, by simp at hN; omega⟩
    simp only [List.length_cons] at hN
    have h1 := polyZ_Sg x b (M + 1) (by omega)
    rw [Sg_head] at h1
    have h2 := ih M (by omega)
    rw [Sg_head, conv_cons_zero]
    have h3 : Sg (fun i => conv (c :: a) b (i + 1) * x ^ (i + 1)) M = c * Sg (fun i => cf b (i + 1) * x ^ (i + 1)) M + x * Sg (fun k => conv a b k * x ^ k) M := by
      rw [← Sg_mul, ← Sg_mul, ← Sg_add]
      refine Sg_congr fun i _ => ?_
      rw [conv_cons_succ, Int.add_mul, Int.mul_assoc, Int.pow_succ, ← Int.mul_assoc (conv a b i), Int.mul_comm x]
    rw [h3, h2, polyZ_cons, h1]
    simp only [Int.pow_zero, Int.mul_one]
    rw [Int.add_mul, Int.mul_add c, Int.mul_assoc (polyZ x a) x, Int.mul_comm x (_ + _), ← Int.mul_assoc (polyZ x a)]
    rw [Int.mul_comm x]; omega

theorem polyZ_cfs {p x : Int} {l m : List Int} (h : ∀ k, Cong p (cf l k) (cf m k)) : Cong p (polyZ x l) (polyZ x m) := by
  rw [polyZ_Sg x l (l.length + m.length) (by omega), polyZ_Sg x m (l.length + m.length) (by omega)]
  exact Sg_cong fun i _ => (h i).mul (Cong.refl _ _)
theorem polyZ_sum {p x : Int} {s a b : List Int} (h : ∀ k, Cong p (cf s k) (cf a k + cf b k)) : Cong p (polyZ x s) (polyZ x a + polyZ x b) := by
  have hN : s.length ≤ s.length + a.length + b.length ∧ a.length ≤ s.length + a.length + b.length ∧ b.length ≤ s.length + a.length + b.length := by omega
  generalize s.length + a.length + b.length = N at hN
  rw [polyZ_Sg x s N hN.1, polyZ_Sg x a N hN.2.1, polyZ_Sg x b N hN.2.2, ← Sg_add]
  refine Sg_cong fun i _ => ?_
  rw [← Int.add_mul]
  exact (h i).mul (Cong.refl _ _)
theorem polyZ_prod {p x : Int} {s a b : List Int} (h : ∀ k, Cong p (cf s k) (conv a b k)) : Cong p (polyZ x s) (polyZ x a * polyZ x b) := by
  have hN : s.length ≤ s.length + (a.length + b.length) ∧ a.length + b.length ≤ s.length + (a.length + b.length) := by omega
  generalize s.length + (a.length + b.length) = N at hN
  rw [polyZ_Sg x s N hN.1, ← conv_value x b a N hN.2]
  exact Sg_cong fun i _ => (h i).mul (Cong.refl _ _)

/-- How many of the first n coefficients are left without zeros at the end. -/
def tn (l : List Int) : Nat → Nat
  | 0 => 0
  | n + 1 => if cf l n = 0 then tn l n else n + 1
theorem tn_le (l : List Int) : ∀ n, tn l n ≤ n
  | 0 => Nat.le_refl _
  | n + 1 => by
    simp only [tn]; split
    · have := tn_le l n; omega
    · omega
theorem tn_zero {l : List Int} : ∀ {n k : Nat}, tn l n ≤ k → k < n → cf l k = 0
  | 0, k, _, h => by omega
  | n + 1, k, h1, h2 => by
    simp only [tn] at h1
    split at h1
    · rename_i h
      by_cases hk : k = n
      · rw [hk]; exact h
      · exact tn_zero (n := n) h1 (by omega)
    · omega
theorem tn_last {l : List Int} : ∀ {n m : Nat}, tn l n = m + 1 → cf l m ≠ 0
  | 0, m, h => by simp [tn] at h
  | n + 1, m, h => by
    simp only [tn] at h
    split at h
    · exact tn_last (n := n) h
    · rename_i h0; rw [show m = n by omega]; exact h0
/-- A polynomial without zeros at the end. -/
def trimL (l : List Int) : List Int := l.take (tn l l.length)
theorem trimL_len (l : List Int) : (trimL l).length = tn l l.length := by
  unfold trimL; rw [List.length_take]; have := tn_le l l.length; omega
theorem cf_trimL (l : List Int) (k : Nat) : cf (trimL l) k = cf l k := by
  unfold trimL
  rw [cf_take]
  split
  · rfl
  · by_cases hk : k < l.length
    · exact (tn_zero (n := l.length) (by omega) hk).symm
    · exact (cf_out (by omega)).symm
theorem trimL_allP {p : Int} {l : List Int} (h : allP p l = true) : allP p (trimL l) = true := allP_iff.2 fun x hx => allP_iff.1 h x (List.mem_of_mem_take hx)
/-- It has no zeros at the end. -/
def Trimd (l : List Int) : Prop := ∀ n, l.length = n + 1 → cf l n ≠ 0
theorem Trimd.nil_ : Trimd [] := fun n h => by simp at h
theorem trimL_trimd (l : List Int) : Trimd (trimL l) := fun n h => by
  rw [trimL_len] at h
  rw [cf_trimL]
  exact tn_last h
theorem Trimd.len_le {a b : List Int} (ha : Trimd a) (h : ∀ k, cf a k = cf b k) : a.length ≤ b.length := by
  cases hn : a.length with
  | zero => omega
  | succ n =>
    have h1 := ha n hn
    rw [h n] at h1
    rcases Nat.lt_or_ge n b.length with h2 | h2
    · omega
    · exact absurd (cf_out h2) h1
theorem Trimd.ext {a b : List Int} (ha : Trimd a) (hb : Trimd b) (h : ∀ k, cf a k = cf b k) : a = b := by
  have h1 := ha.len_le h
  have h2 := hb.len_le (fun k => (h k).symm)
  exact cf_ext (by omega) h
theorem Trimd.trimL {a : List Int} (ha : Trimd a) : Go.Proofs.Ytoblofilaegnaaa.trimL a = a := (trimL_trimd a).ext ha (cf_trimL a)

/-- A sum, trimmed. -/
def rawAdd (p : Int) (a b : List Int) : List Int := (List.range (max a.length b.length)).map fun k => (cf a k + cf b k) % p
def addL (p : Int) (a b : List Int) : List Int := trimL (rawAdd p a b)
theorem cf_addL (p : Int) (a b : List Int) (k : Nat) : cf (addL p a b) k = (cf a k + cf b k) % p := by
  unfold addL rawAdd
  rw [cf_trimL, cf_map_range]
  split
  · rfl
  · rw [cf_out (l := a) (by omega), cf_out (l := b) (by omega)]; simp
/-- A product of trimmed polynomials. -/
def rawMul (p : Int) (a b : List Int) : List Int := (List.range (a.length + b.length - 1)).map fun k => conv a b k % p
def mulL (p : Int) (a b : List Int) : List Int := if (trimL a).length = 0 ∨ (trimL b).length = 0 then [] else rawMul p (trimL a) (trimL b)
theorem conv_trim (a b : List Int) (k : Nat) : conv (trimL a) (trimL b) k = conv a b k := Sg_congr fun i _ => by rw [cf_trimL, cf_trimL]
theorem cf_mulL (p : Int) (a b : List Int) (k : Nat) : cf (mulL p a b) k = conv a b k % p := by
  unfold mulL
  rw [← conv_trim]
  split
  · rename_i h
    rw [cf_nil]
    rcases h with h | h
    · rw [List.eq_nil_of_length_eq_zero h, conv_nil]; simp
    · rw [conv_comm, List.eq_nil_of_length_eq_zero h, conv_nil]; simp
  · unfold rawMul
    rw [cf_map_range]
    split
    · rfl
    · rw [conv_out (by omega)]; simp
theorem emod_in {p : Int} (hp : 2 ≤ p) (x : Int) : 0 ≤ x % p ∧ x % p < p := ⟨Int.emod_nonneg _ (by omega), Int.emod_lt_of_pos _ (by omega)⟩
theorem map_allP {p : Int} (hp : 2 ≤ p) (f : Nat → Int) (n : Nat) : allP p ((List.range n).map fun k => f k % p) = true := allP_iff.2 fun x hx => by
  obtain ⟨k, _, rfl⟩ := List.mem_map.1 hx
  exact emod_in hp _
theorem addL_allP {p : Int} (hp : 2 ≤ p) (a b : List Int) : allP p (addL p a b) = true := trimL_allP (map_allP hp _ _)
theorem rawMul_allP {p : Int} (hp : 2 ≤ p) (a b : List Int) : allP p (rawMul p a b) = true := map_allP hp _ _
theorem mulL_allP {p : Int} (hp : 2 ≤ p) (a b : List Int) : allP p (mulL p a b) = true := by
  unfold mulL; split
  · rfl
  · exact rawMul_allP hp _ _
theorem addL_trimd (p : Int) (a b : List Int) : Trimd (addL p a b) := trimL_trimd _
theorem rawMul_trimd {p : Int} (h : okP p = true) {a b : List Int} (ha : allP p a = true) (hb : allP p b = true) (hta : Trimd a) (htb : Trimd b) (h1 : 0 < a.length) (h2 : 0 < b.length) : Trimd (rawMul p a b) := by
  have hp := (okP_pos h).1
  intro n hn
  obtain ⟨i, hi⟩ : ∃ i, a.length = i + 1 := ⟨a.length - 1, by omega⟩
  obtain ⟨j, hj⟩ : ∃ j, b.length = j + 1 := ⟨b.length - 1, by omega⟩
  have hlen : (rawMul p a b).length = i + j + 1 := by simp [rawMul]; omega
  have hnn : n = i + j := by omega
  subst hnn
  unfold rawMul
  rw [cf_map_range, if_pos (by omega), conv_last hi hj]
  intro h0
  have h3 : Cong p (cf a i * cf b j) 0 := by unfold Cong; rw [h0]; simp
  rcases Cong.mul_zero h h3 with h4 | h4
  · exact hta i hi ((Cong.elt_zero (cf_in hp ha i)).1 h4)
  · exact htb j hj ((Cong.elt_zero (cf_in hp hb j)).1 h4)
theorem mulL_trimd {p : Int} (h : okP p = true) {a b : List Int} (ha : allP p a = true) (hb : allP p b = true) : Trimd (mulL p a b) := by
  unfold mulL; split
  · exact Trimd.nil_
  · exact rawMul_trimd h (trimL_allP ha) (trimL_allP hb) (trimL_trimd _) (trimL_trimd _) (by omega) (by omega)
theorem mulL_len_le (p : Int) (a b : List Int) : (mulL p a b).length ≤ a.length + b.length := by
  unfold mulL; split
  · simp
  · simp [rawMul, trimL_len]; have := tn_le a a.length; have := tn_le b b.length; omega
theorem addL_len_le (p : Int) (a b : List Int) : (addL p a b).length ≤ max a.length b.length := by
  unfold addL rawAdd; rw [trimL_len]
  have := tn_le ((List.range (max a.length b.length)).map fun k => (cf a k + cf b k) % p) ((List.range (max a.length b.length)).map fun k => (cf a k + cf b k) % p).length
  simpa using this

/-! The laws. -/
theorem addL_comm (p : Int) (a b : List Int) : addL p a b = addL p b a := (addL_trimd _ _ _).ext (addL_trimd _ _ _) fun k => by rw [cf_addL, cf_addL, Int.add_comm]
theorem mulL_comm {p : Int} (h : okP p = true) {a b : List Int} (ha : allP p a = true) (hb : allP p b = true) : mulL p a b = mulL p b a := (mulL_trimd h ha hb).ext (mulL_trimd h hb ha) fun k => by rw [cf_mulL, cf_mulL, conv_comm]
theorem mulL_add {p : Int} (h : okP p = true) {a b c : List Int} (ha : allP p a = true) (hb : allP p b = true) (hc : allP p c = true) : mulL p (addL p a b) c = addL p (mulL p a c) (mulL p b c) := by
  have hp := (okP_pos h).1
  refine (mulL_trimd h (addL_allP hp _ _) hc).ext (addL_trimd _ _ _) fun k => ?_
  rw [cf_mulL, cf_addL, cf_mulL, cf_mulL]
  have h1 := conv_add (p := p) (s := addL p a b) (a := a) (b := b) (fun k => by rw [cf_addL]; exact Cong.mod _ _) c k
  exact h1.trans ((Cong.mod p _).symm.add (Cong.mod p _).symm)
theorem value_addL {p : Int} (hp : 2 ≤ p) (x : Int) (a b : List Int) : valueP p x (addL p a b) = (valueP p x a + valueP p x b) % p := by
  refine Cong.eq (p := p) ?_ (valueP_in hp _ _) (emod_in hp _)
  refine (valueP_cong _ _ _).trans ((polyZ_sum (a := a) (b := b) fun k => by rw [cf_addL]; exact Cong.mod _ _).trans (Cong.symm ((Cong.mod _ _).trans ((valueP_cong _ _ _).add (valueP_cong _ _ _)))))
theorem value_mulL {p : Int} (hp : 2 ≤ p) (x : Int) (a b : List Int) : valueP p x (mulL p a b) = valueP p x a * valueP p x b % p := by
  refine Cong.eq (p := p) ?_ (valueP_in hp _ _) (emod_in hp _)
  refine (valueP_cong _ _ _).trans ((polyZ_prod (a := a) (b := b) fun k => by rw [cf_mulL]; exact Cong.mod _ _).trans (Cong.symm ((Cong.mod _ _).trans ((valueP_cong _ _ _).mul (valueP_cong _ _ _)))))
end Go.Proofs.Ytoblofilaegnaaa
