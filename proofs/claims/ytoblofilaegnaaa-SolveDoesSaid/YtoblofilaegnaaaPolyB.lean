/-
  Lists to which a multiple of another list is added from a place on, in plain numbers, no program in sight. No conditions.
-/
import Derived.Test.YtoblofilaegnaaaPolyA
import Derived.Test.YtoblofilaegnaaaCombA
namespace Go.Proofs.Ytoblofilaegnaaa
set_option linter.unusedVariables false

theorem cf_set (l : List Int) (j i : Nat) (v : Int) : cf (l.set j v) i = if j = i ∧ j < l.length then v else cf l i := by
  unfold cf
  rw [List.getD_eq_getElem?_getD, List.getElem?_set, List.getD_eq_getElem?_getD]
  by_cases h : j = i
  · subst h
    by_cases h2 : j < l.length
    · rw [if_pos rfl, if_pos h2, if_pos ⟨rfl, h2⟩]; rfl
    · rw [if_pos rfl, if_neg h2, if_neg (by omega), List.getElem?_eq_none (by omega)]
  · rw [if_neg h, if_neg (by omega)]

/-- x times l added to ts from place o on, the first k places of l done. -/
def addTo (p x : Int) (o : Nat) (l ts : List Int) (k : Nat) : List Int := (List.range ts.length).map fun i => if o ≤ i ∧ i < o + k then timesP p x (cf ts i) (cf l (i - o)) else cf ts i
theorem addTo_len (p x : Int) (o : Nat) (l ts : List Int) (k : Nat) : (addTo p x o l ts k).length = ts.length := by simp [addTo]
theorem cf_addTo_raw (p x : Int) (o : Nat) (l ts : List Int) (k i : Nat) : cf (addTo p x o l ts k) i = if i < ts.length then (if o ≤ i ∧ i < o + k then timesP p x (cf ts i) (cf l (i - o)) else cf ts i) else 0 := by
  unfold addTo; rw [cf_map_range]
theorem addTo_zero (p x : Int) (o : Nat) (l ts : List Int) : addTo p x o l ts 0 = ts := by
  refine cf_ext (addTo_len _ _ _ _ _ _) fun i => ?_
  rw [cf_addTo_raw]
  split
  · rw [if_neg (by omega)]
  · rw [cf_out (by omega)]
theorem addTo_at (p x : Int) (o : Nat) (l ts : List Int) (k : Nat) (h : o + k < ts.length) : (addTo p x o l ts k).getD (o + k) 0 = ts.getD (o + k) 0 := by
  show cf (addTo p x o l ts k) (o + k) = cf ts (o + k)
  rw [cf_addTo_raw, if_pos h, if_neg (by omega)]
theorem addTo_set (p x : Int) (o : Nat) (l ts : List Int) (k : Nat) (h : o + k < ts.length) : (addTo p x o l ts k).set (o + k) (timesP p x (ts.getD (o + k) 0) (l.getD k 0)) = addTo p x o l ts (k + 1) := by
  refine cf_ext (by rw [List.length_set, addTo_len, addTo_len]) fun i => ?_
  rw [cf_set, addTo_len, cf_addTo_raw, cf_addTo_raw]
  by_cases hi : o + k = i
  · subst hi
    rw [if_pos ⟨rfl, h⟩, if_pos h, if_pos (by omega)]
    show timesP p x (cf ts (o + k)) (cf l k) = _
    rw [show o + k - o = k by omega]
  · rw [if_neg (by omega)]
    by_cases h2 : i < ts.length
    · rw [if_pos h2, if_pos h2]
      by_cases h3 : o ≤ i ∧ i < o + k
      · rw [if_pos h3, if_pos (by omega)]
      · rw [if_neg h3, if_neg (by omega)]
    · rw [if_neg h2, if_neg h2]
theorem timesP_mod2 (p x t a : Int) : timesP p x t a = (t + x * a) % p := by
  unfold timesP addP mulP; rw [Int.add_emod, Int.emod_emod_of_dvd _ (Int.dvd_refl p), ← Int.add_emod]
/-- All places of l done. -/
theorem cf_addTo {p x : Int} {o : Nat} {l ts : List Int} {m : Nat} (hm : l.length = m) (hta : ∀ i, 0 ≤ cf ts i ∧ cf ts i < p) {i : Nat} (hi : i < ts.length) : cf (addTo p x o l ts m) i = (cf ts i + x * (if o ≤ i then cf l (i - o) else 0)) % p := by
  rw [cf_addTo_raw, if_pos hi]
  have h1 := Int.emod_eq_of_lt (hta i).1 (hta i).2
  by_cases h2 : o ≤ i
  · rw [if_pos h2]
    by_cases h3 : i < o + m
    · rw [if_pos ⟨h2, h3⟩, timesP_mod2]
    · rw [if_neg (by omega), cf_out (l := l) (by omega), Int.mul_zero, Int.add_zero, h1]
  · rw [if_neg (by omega), if_neg h2, Int.mul_zero, Int.add_zero, h1]
theorem addTo_allP {p : Int} (hp : 2 ≤ p) (x : Int) (o : Nat) (l ts : List Int) (k : Nat) (h : allP p ts = true) : allP p (addTo p x o l ts k) = true := allP_iff.2 fun y hy => by
  obtain ⟨i, hi, rfl⟩ := List.mem_map.1 hy
  split
  · exact timesP_in hp _ _ _
  · exact cf_in hp h i

/-! The product, row by row. -/
def mulK (p : Int) (a b : List Int) (k : Nat) : List Int := (List.range (a.length + b.length - 1)).map fun i => Sg (fun j => if j ≤ i then cf a j * cf b (i - j) else 0) k % p
theorem mulK_len (p : Int) (a b : List Int) (k : Nat) : (mulK p a b k).length = a.length + b.length - 1 := by simp [mulK]
theorem mulK_zero (p : Int) (a b : List Int) : mulK p a b 0 = List.replicate (a.length + b.length - 1) 0 := by
  refine cf_ext (by rw [mulK_len, List.length_replicate]) fun i => ?_
  unfold mulK
  rw [cf_map_range]
  unfold cf
  rw [List.getD_eq_getElem?_getD, List.getElem?_replicate]
  simp only [Sg, Int.zero_emod]
  split <;> rfl
theorem mulK_allP {p : Int} (hp : 2 ≤ p) (a b : List Int) (k : Nat) : allP p (mulK p a b k) = true := map_allP hp _ _
theorem mulK_step {p : Int} (hp : 2 ≤ p) (a b : List Int) (k : Nat) {m : Nat} (hm : b.length = m) : addTo p (a.getD k 0) k b (mulK p a b k) m = mulK p a b (k + 1) := by
  refine cf_ext (by rw [addTo_len, mulK_len, mulK_len]) fun i => ?_
  by_cases hi : i < a.length + b.length - 1
  · rw [cf_addTo hm (cf_in hp (mulK_allP hp a b k)) (by rw [mulK_len]; exact hi)]
    unfold mulK
    rw [cf_map_range, if_pos hi, cf_map_range, if_pos hi]
    simp only [Sg]
    rw [Int.emod_add_emod]
    have : a.getD k 0 = cf a k := rfl
    rw [this]
    split
    · rfl
    · rw [Int.mul_zero]
  · rw [cf_out (by rw [addTo_len, mulK_len]; omega), cf_out (by rw [mulK_len]; omega)]
theorem mulK_all (p : Int) (a b : List Int) {n : Nat} (hn : a.length = n) : mulK p a b n = rawMul p a b := by
  refine cf_ext (by rw [mulK_len]; simp [rawMul]) fun i => ?_
  unfold mulK rawMul
  rw [cf_map_range, cf_map_range]
  split
  · have h1 : Sg (fun j => if j ≤ i then cf a j * cf b (i - j) else 0) (n + (i + 1)) = Sg (fun j => if j ≤ i then cf a j * cf b (i - j) else 0) n := Sg_more (by omega) fun j hj => by
      rw [cf_out (l := a) (by omega), Int.zero_mul]; simp
    have h2 : Sg (fun j => if j ≤ i then cf a j * cf b (i - j) else 0) (n + (i + 1)) = Sg (fun j => if j ≤ i then cf a j * cf b (i - j) else 0) (i + 1) := Sg_more (by omega) fun j hj => by
      rw [if_neg (by omega)]
    rw [← h1, h2]
    congr 1
    exact Sg_congr fun j hj => by rw [if_pos (by omega)]
  · rfl
/-! The sum by AddTimes. -/
theorem addL_raw {p : Int} (hp : 2 ≤ p) (a b : List Int) (ha : allP p a = true) {m : Nat} (hm : b.length = m) : addTo p 1 0 b (a ++ List.replicate (max a.length b.length - a.length) 0) m = rawAdd p a b := by
  have hlen : (a ++ List.replicate (max a.length b.length - a.length) 0).length = max a.length b.length := by simp; omega
  have hcf : ∀ i, cf (a ++ List.replicate (max a.length b.length - a.length) 0) i = cf a i := fun i => by
    unfold cf
    rw [List.getD_eq_getElem?_getD, List.getD_eq_getElem?_getD, List.getElem?_append]
    split
    · rfl
    · rw [List.getElem?_replicate, List.getElem?_eq_none (by omega)]
      split <;> rfl
  refine cf_ext (by rw [addTo_len, hlen]; simp [rawAdd]) fun i => ?_
  by_cases hi : i < max a.length b.length
  · rw [cf_addTo hm (fun i => by rw [hcf]; exact cf_in hp ha i) (by rw [hlen]; exact hi), hcf]
    unfold rawAdd
    rw [cf_map_range, if_pos hi, if_pos (Nat.zero_le _), Nat.sub_zero, Int.one_mul]
  · rw [cf_out (by rw [addTo_len, hlen]; omega), cf_out (by simp [rawAdd]; omega)]

theorem times_raw {p : Int} (hp : 2 ≤ p) (x t y : Int) : (t + x * y) % p = timesP p x t y := by
  unfold timesP addP mulP
  rw [Int.add_emod, Int.add_emod t (x * y % p), Int.emod_emod_of_dvd _ (Int.dvd_refl p)]
end Go.Proofs.Ytoblofilaegnaaa
