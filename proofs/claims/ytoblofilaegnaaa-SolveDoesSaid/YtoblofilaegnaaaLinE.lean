/-
  Linear equations that are brought to their reduced form, in plain numbers, no program in sight. No conditions.
-/
import Derived.Test.YtoblofilaegnaaaPolyA
import Derived.Test.YtoblofilaegnaaaCombA
namespace Go.Proofs.Ytoblofilaegnaaa
set_option linter.unusedVariables false

/-- An element of a list of rows. -/
def mx (m : List (List Int)) (i j : Nat) : Int := cf (m.getD i []) j
/-- z is 0 under each row, of n elements. -/
def Ker (p : Int) (n : Nat) (m : List (List Int)) (z : Nat → Int) : Prop := ∀ i, i < m.length → Cong p (Sg (fun j => mx m i j * z j) n) 0
/-- Rows of n elements. -/
def Elts (p : Int) (n : Nat) (m : List (List Int)) : Prop := ∀ i, i < m.length → (m.getD i []).length = n ∧ allP p (m.getD i []) = true
theorem Elts.mx_in {p : Int} {n : Nat} {m : List (List Int)} (h : Elts p n m) (hp : 2 ≤ p) {i : Nat} (hi : i < m.length) (j : Nat) : 0 ≤ mx m i j ∧ mx m i j < p := cf_in hp (h i hi).2 j

theorem getD_set_row (m : List (List Int)) (i j : Nat) (l : List Int) (hi : i < m.length) : (m.set i l).getD j [] = if i = j then l else m.getD j [] := by
  rw [List.getD_eq_getElem?_getD, List.getElem?_set, List.getD_eq_getElem?_getD]
  by_cases h : i = j
  · subst h; rw [if_pos rfl, if_pos rfl, if_pos hi]; rfl
  · rw [if_neg h, if_neg h]

/-- Two rows exchanged. -/
def swapM (m : List (List Int)) (r i : Nat) : List (List Int) := (m.set r (m.getD i [])).set i (m.getD r [])
/-- Where a row of the exchanged ones comes from. -/
def swI (r i j : Nat) : Nat := if j = r then i else if j = i then r else j
theorem swapM_len (m : List (List Int)) (r i : Nat) : (swapM m r i).length = m.length := by simp [swapM]
theorem swapM_at (m : List (List Int)) {r i : Nat} (hr : r < m.length) (hi : i < m.length) (j : Nat) : (swapM m r i).getD j [] = m.getD (swI r i j) [] := by
  unfold swapM swI
  rw [getD_set_row _ _ _ _ (by simpa using hi), getD_set_row _ _ _ _ hr]
  by_cases h1 : i = j
  · subst h1
    rw [if_pos rfl]
    by_cases h2 : i = r
    · rw [if_pos h2, h2]
    · rw [if_neg h2, if_pos rfl]
  · rw [if_neg h1]
    by_cases h2 : r = j
    · rw [if_pos h2, if_pos h2.symm]
    · rw [if_neg h2, if_neg (fun e => h2 e.symm), if_neg (fun e => h1 e.symm)]
theorem swI_lt {r i j N : Nat} (hr : r < N) (hi : i < N) (hj : j < N) : swI r i j < N := by
  unfold swI; split
  · exact hi
  · split <;> omega
theorem swI_swI (r i j : Nat) : swI r i (swI r i j) = j := by
  unfold swI
  by_cases h1 : j = r
  · rw [if_pos h1]
    by_cases h2 : i = r
    · rw [if_pos h2]; omega
    · rw [if_neg h2, if_pos rfl]; omega
  · rw [if_neg h1]
    by_cases h2 : j = i
    · rw [if_pos h2, if_pos rfl]; omega
    · rw [if_neg h2, if_neg h1, if_neg h2]

/-- A row times an element. -/
def scaleM (p v : Int) (m : List (List Int)) (r : Nat) : List (List Int) := m.set r (scaleP p v (m.getD r []))
theorem scaleM_len (p v : Int) (m : List (List Int)) (r : Nat) : (scaleM p v m r).length = m.length := by simp [scaleM]
theorem scaleM_at (p v : Int) (m : List (List Int)) {r : Nat} (hr : r < m.length) (j : Nat) : (scaleM p v m r).getD j [] = if j = r then scaleP p v (m.getD r []) else m.getD j [] := by
  unfold scaleM
  rw [getD_set_row _ _ _ _ hr]
  by_cases h : r = j
  · rw [if_pos h, if_pos h.symm]
  · rw [if_neg h, if_neg (fun e => h e.symm)]
theorem cf_scaleP (p v : Int) (l : List Int) (j : Nat) : cf (scaleP p v l) j = cf l j * v % p := by
  unfold scaleP cf mulP
  rw [List.getD_eq_getElem?_getD, List.getElem?_map, List.getD_eq_getElem?_getD]
  cases l[j]? <;> simp

/-- A row less a multiple of the leading one, if it is not 0 at the column. -/
def elimR (p : Int) (k : Nat) (first row : List Int) : List Int := if cf row k = 0 then row else zipI (timesP p (subP p 0 (cf row k))) row first
theorem elimR_len (p : Int) (k : Nat) (first row : List Int) (h : row.length = first.length) : (elimR p k first row).length = row.length := by
  unfold elimR; split
  · rfl
  · exact zipI_length _ _ _ h
theorem elimR_all {p : Int} (hp : 2 ≤ p) (k : Nat) (first row : List Int) (h : allP p row = true) : allP p (elimR p k first row) = true := by
  unfold elimR; split
  · exact h
  · exact zipI_all _ (fun x y => timesP_in hp _ x y) _ _
theorem cf_zipI (f : Int → Int → Int) (a b : List Int) {j : Nat} (h : a.length = b.length) (hj : j < a.length) : cf (zipI f a b) j = f (cf a j) (cf b j) := by
  unfold cf zipI
  rw [List.getD_eq_getElem?_getD, List.getD_eq_getElem?_getD, List.getD_eq_getElem?_getD, List.getElem?_zipWith, List.getElem?_eq_getElem hj, List.getElem?_eq_getElem (by omega)]
  rfl
theorem timesP_mod3 (p x t a : Int) : timesP p x t a = (t + x * a) % p := by
  unfold timesP addP mulP; rw [Int.add_emod, Int.emod_emod_of_dvd _ (Int.dvd_refl p), ← Int.add_emod]
theorem cf_elimR {p : Int} (k : Nat) (first row : List Int) (h : row.length = first.length) (hin : ∀ j, 0 ≤ cf row j ∧ cf row j < p) (j : Nat) : cf (elimR p k first row) j = (cf row j + subP p 0 (cf row k) * cf first j) % p := by
  unfold elimR
  split
  · rename_i h0
    rw [h0]
    unfold subP
    rw [show (0 - 0 + p : Int) = p by omega, Int.emod_self, Int.zero_mul, Int.add_zero, Int.emod_eq_of_lt (hin j).1 (hin j).2]
  · by_cases hj : j < row.length
    · rw [cf_zipI _ _ _ h hj, timesP_mod3]
    · rw [cf_out (by rw [zipI_length _ _ _ h]; omega), cf_out (l := row) (by omega), cf_out (l := first) (by omega), Int.mul_zero]; simp

/-- The rows below place n that are not the leading one. -/
def elimM (p : Int) (k r n : Nat) (m : List (List Int)) : List (List Int) := (List.range m.length).map fun i => if i < n ∧ i ≠ r then elimR p k (m.getD r []) (m.getD i []) else m.getD i []
theorem elimM_len (p : Int) (k r n : Nat) (m : List (List Int)) : (elimM p k r n m).length = m.length := by simp [elimM]
theorem elimM_at (p : Int) (k r n : Nat) (m : List (List Int)) {i : Nat} (hi : i < m.length) : (elimM p k r n m).getD i [] = if i < n ∧ i ≠ r then elimR p k (m.getD r []) (m.getD i []) else m.getD i [] := by
  unfold elimM
  rw [List.getD_eq_getElem?_getD, List.getElem?_map, List.getElem?_range hi]; rfl
theorem getD_out {m : List (List Int)} {i : Nat} (h : m.length ≤ i) : m.getD i [] = [] := by
  rw [List.getD_eq_getElem?_getD, List.getElem?_eq_none h]; rfl
theorem rows_ext {a b : List (List Int)} (h : a.length = b.length) (hk : ∀ i, i < a.length → a.getD i [] = b.getD i []) : a = b := by
  apply List.ext_getElem h
  intro i h1 h2
  have := hk i h1
  rw [List.getD_eq_getElem?_getD, List.getD_eq_getElem?_getD, List.getElem?_eq_getElem h1, List.getElem?_eq_getElem h2] at this
  exact this
theorem elimM_zero (p : Int) (k r : Nat) (m : List (List Int)) : elimM p k r 0 m = m :=
  rows_ext (elimM_len _ _ _ _ _) fun i hi => by rw [elimM_at _ _ _ _ _ (by rwa [elimM_len] at hi), if_neg (by omega)]
/-- One row more. -/
theorem elimM_step (p : Int) (k r n : Nat) (m : List (List Int)) (hn : n < m.length) (h : n ≠ r) : (elimM p k r n m).set n (elimR p k (m.getD r []) (m.getD n [])) = elimM p k r (n + 1) m := by
  refine rows_ext (by rw [List.length_set, elimM_len, elimM_len]) fun i hi => ?_
  rw [List.length_set, elimM_len] at hi
  rw [getD_set_row _ _ _ _ (by rw [elimM_len]; exact hn), elimM_at _ _ _ _ _ hi, elimM_at _ _ _ _ _ hi]
  by_cases h1 : n = i
  · subst h1; rw [if_pos rfl, if_pos ⟨by omega, h⟩]
  · rw [if_neg h1]
    by_cases h2 : i < n ∧ i ≠ r
    · rw [if_pos h2, if_pos ⟨by omega, h2.2⟩]
    · rw [if_neg h2, if_neg (by omega)]
theorem elimM_skip (p : Int) (k r n : Nat) (m : List (List Int)) (h : n = r ∨ cf (m.getD n []) k = 0) : elimM p k r n m = elimM p k r (n + 1) m := by
  refine rows_ext (by rw [elimM_len, elimM_len]) fun i hi => ?_
  rw [elimM_len] at hi
  rw [elimM_at _ _ _ _ _ hi, elimM_at _ _ _ _ _ hi]
  by_cases h1 : n = i
  · subst h1
    rw [if_neg (by omega)]
    rcases h with h | h
    · rw [if_neg (by omega)]
    · by_cases h2 : n = r
      · rw [if_neg (by omega)]
      · rw [if_pos ⟨by omega, h2⟩]; unfold elimR; rw [if_pos h]
  · by_cases h2 : i < n ∧ i ≠ r
    · rw [if_pos h2, if_pos ⟨by omega, h2.2⟩]
    · rw [if_neg h2, if_neg (by omega)]

/-- What becomes of the rows where row i comes to lead in column k, at place r. -/
def leadM (p v : Int) (k r i : Nat) (m : List (List Int)) : List (List Int) := elimM p k r m.length (scaleM p v (swapM m r i) r)
section
variable {p v : Int} {n k r i : Nat} {m : List (List Int)}
theorem leadM_len : (leadM p v k r i m).length = m.length := by unfold leadM; rw [elimM_len, scaleM_len, swapM_len]
theorem swapM_elts (h : Elts p n m) (hr : r < m.length) (hi : i < m.length) : Elts p n (swapM m r i) := fun j hj => by
  rw [swapM_len] at hj
  rw [swapM_at m hr hi]; exact h _ (swI_lt hr hi hj)
theorem scaleM_elts (hp : 2 ≤ p) (h : Elts p n m) (hr : r < m.length) : Elts p n (scaleM p v m r) := fun j hj => by
  rw [scaleM_len] at hj
  rw [scaleM_at _ _ _ hr]
  split
  · exact ⟨by rw [scaleP_len]; exact (h r hr).1, scaleP_all hp _ _⟩
  · exact h j hj
theorem elimM_elts (hp : 2 ≤ p) (h : Elts p n m) (hr : r < m.length) (c : Nat) : Elts p n (elimM p k r c m) := fun j hj => by
  rw [elimM_len] at hj
  rw [elimM_at _ _ _ _ _ hj]
  split
  · exact ⟨by rw [elimR_len _ _ _ _ (by rw [(h j hj).1, (h r hr).1])]; exact (h j hj).1, elimR_all hp _ _ _ (h j hj).2⟩
  · exact h j hj
theorem leadM_elts (hp : 2 ≤ p) (h : Elts p n m) (hr : r < m.length) (hi : i < m.length) : Elts p n (leadM p v k r i m) :=
  elimM_elts hp (scaleM_elts hp (swapM_elts h hr hi) (by rw [swapM_len]; exact hr)) (by rw [scaleM_len, swapM_len]; exact hr) _
/-- The leading row. -/
theorem leadM_first (hr : r < m.length) (hi : i < m.length) (j : Nat) : mx (leadM p v k r i m) r j = mx m i j * v % p := by
  unfold leadM mx
  rw [elimM_at _ _ _ _ _ (by rw [scaleM_len, swapM_len]; exact hr), if_neg (by omega), scaleM_at _ _ _ (by rw [swapM_len]; exact hr), if_pos rfl, cf_scaleP, swapM_at m hr hi]
  unfold swI; rw [if_pos rfl]
/-- The other rows. -/
theorem leadM_other (hp : 2 ≤ p) (h : Elts p n m) (hr : r < m.length) (hi : i < m.length) {q : Nat} (hq : q < m.length) (hqr : q ≠ r) (j : Nat) :
    mx (leadM p v k r i m) q j = (mx m (swI r i q) j + subP p 0 (mx m (swI r i q) k) * mx (leadM p v k r i m) r j) % p := by
  have h1 : (swapM m r i).length = m.length := swapM_len _ _ _
  have h2 : (scaleM p v (swapM m r i) r).length = m.length := by rw [scaleM_len, h1]
  have e2 := scaleM_elts (v := v) hp (swapM_elts h hr hi) (by rw [h1]; exact hr)
  have hrow : (scaleM p v (swapM m r i) r).getD q [] = m.getD (swI r i q) [] := by rw [scaleM_at _ _ _ (by rw [h1]; exact hr), if_neg hqr, swapM_at m hr hi]
  have hf : (scaleM p v (swapM m r i) r).getD r [] = (leadM p v k r i m).getD r [] := by
    unfold leadM; rw [elimM_at _ _ _ _ _ (by rw [h2]; exact hr), if_neg (by omega)]
  have e3 := e2 q (by rw [h2]; exact hq)
  have e4 := e2 r (by rw [h2]; exact hr)
  rw [hf] at e4
  rw [hrow] at e3
  have : (leadM p v k r i m).getD q [] = elimR p k ((leadM p v k r i m).getD r []) (m.getD (swI r i q) []) := by
    rw [← hf, ← hrow]
    show (elimM p k r m.length (scaleM p v (swapM m r i) r)).getD q [] = _
    rw [elimM_at _ _ _ _ _ (by rw [h2]; exact hq), if_pos ⟨hq, hqr⟩]
  unfold mx
  rw [this, cf_elimR k _ _ (by rw [e3.1, e4.1]) (cf_in hp e3.2)]
end

theorem Sg_two {f : Nat → Int} {a b n : Nat} (ha : a < n) (hb : b < n) (hab : a ≠ b) (h : ∀ i, i < n → i ≠ a → i ≠ b → f i = 0) : Sg f n = f a + f b := by
  have h1 : Sg f n = Sg (fun i => (if i = a then f a else 0) + (if i = a then 0 else f i)) n := Sg_congr fun i hi => by
    by_cases h1 : i = a
    · rw [if_pos h1, if_pos h1, h1]; omega
    · rw [if_neg h1, if_neg h1]; omega
  rw [h1, Sg_add, Sg_single (j := a) ha (fun i hi hne => by rw [if_neg hne]), Sg_single (j := b) hb (fun i hi hne => by
    by_cases h2 : i = a
    · rw [if_pos h2]
    · rw [if_neg h2]; exact h i hi h2 hne), if_pos rfl, if_neg (fun e => hab e.symm)]

/-- The sum of a row and a multiple of another one. -/
theorem Sg_lin (y : Int) (f g z : Nat → Int) (n : Nat) : Sg (fun j => (f j + y * g j) * z j) n = Sg (fun j => f j * z j) n + y * Sg (fun j => g j * z j) n := by
  rw [← Sg_mul, ← Sg_add]
  exact Sg_congr fun j _ => by rw [Int.add_mul, Int.mul_assoc]

section
variable {p v : Int} {n k r i : Nat} {m : List (List Int)}
theorem first_Sg (hr : r < m.length) (hi : i < m.length) (z : Nat → Int) : Cong p (Sg (fun j => mx (leadM p v k r i m) r j * z j) n) (v * Sg (fun j => mx m i j * z j) n) := by
  rw [← Sg_mul]
  refine Sg_cong fun j _ => ?_
  rw [leadM_first hr hi, ← Int.mul_assoc, Int.mul_comm v]
  exact (Cong.mod p _).mul (Cong.refl _ _)
theorem other_Sg (hp : 2 ≤ p) (h : Elts p n m) (hr : r < m.length) (hi : i < m.length) {q : Nat} (hq : q < m.length) (hqr : q ≠ r) (z : Nat → Int) (N : Nat) :
    Cong p (Sg (fun j => mx (leadM p v k r i m) q j * z j) N) (Sg (fun j => mx m (swI r i q) j * z j) N + subP p 0 (mx m (swI r i q) k) * Sg (fun j => mx (leadM p v k r i m) r j * z j) N) := by
  rw [← Sg_lin]
  refine Sg_cong fun j _ => ?_
  rw [leadM_other hp h hr hi hq hqr]
  exact (Cong.mod p _).mul (Cong.refl _ _)
/-- The same lists are 0 under the rows before and after. -/
theorem leadM_ker (hp : 2 ≤ p) (h : Elts p n m) (hr : r < m.length) (hi : i < m.length) (hv : Cong p (mx m i k * v) 1) (z : Nat → Int) : Ker p n m z ↔ Ker p n (leadM p v k r i m) z := by
  constructor
  · intro hz q hq
    rw [leadM_len] at hq
    have h1 : Cong p (Sg (fun j => mx (leadM p v k r i m) r j * z j) n) 0 := (first_Sg hr hi z).trans (by have := (Cong.refl p v).mul (hz i hi); rwa [Int.mul_zero] at this)
    by_cases hqr : q = r
    · rw [hqr]; exact h1
    · have h2 := other_Sg (v := v) (k := k) hp h hr hi hq hqr z n
      have h3 := (hz _ (swI_lt hr hi hq)).add ((Cong.refl p (subP p 0 (mx m (swI r i q) k))).mul h1)
      rw [Int.mul_zero, Int.add_zero] at h3
      exact h2.trans h3
  · intro hz
    have h1 := hz r (by rw [leadM_len]; exact hr)
    have h2 : Cong p (Sg (fun j => mx m i j * z j) n) 0 := by
      have h3 := (Cong.refl p (mx m i k)).mul ((first_Sg (n := n) (k := k) (v := v) hr hi z).symm.trans h1)
      rw [Int.mul_zero, ← Int.mul_assoc] at h3
      have h4 := hv.mul (Cong.refl p (Sg (fun j => mx m i j * z j) n))
      rw [Int.one_mul] at h4
      exact h4.symm.trans h3
    intro s hs
    by_cases hsi : s = i
    · rw [hsi]; exact h2
    · have hqr : swI r i s ≠ r := by
        intro e
        have := swI_swI r i s
        rw [e] at this
        unfold swI at this; rw [if_pos rfl] at this; omega
      have h3 := other_Sg (v := v) (k := k) hp h hr hi (swI_lt hr hi hs) hqr z n
      rw [swI_swI] at h3
      have h4 := h3.symm.trans (hz _ (by rw [leadM_len]; exact swI_lt hr hi hs))
      have h5 := h4.sub ((Cong.refl p (subP p 0 (mx m s k))).mul h1)
      rw [Int.mul_zero, Int.sub_zero, Int.add_sub_cancel] at h5
      exact h5
end

/-- The form of the rows behind k columns: the first ones lead in columns, in order, and are alone there; the others are 0. -/
structure RInv (p : Int) (k : Nat) (lead : List Nat) (m : List (List Int)) : Prop where
  rm : lead.length ≤ m.length
  lt : ∀ i, i < lead.length → lead.getD i 0 < k
  one : ∀ i q, i < lead.length → q < m.length → mx m q (lead.getD i 0) = if q = i then 1 else 0
  low : ∀ i j, i < lead.length → j < lead.getD i 0 → mx m i j = 0
  zero : ∀ i j, lead.length ≤ i → i < m.length → j < k → mx m i j = 0
  fil : lead = (List.range k).filter fun j => decide (j ∈ lead)

theorem RInv.start (p : Int) (m : List (List Int)) : RInv p 0 [] m := ⟨Nat.zero_le _, fun i h => absurd h (by simp), fun i q h => absurd h (by simp), fun i j h => absurd h (by simp), fun i j _ _ h => absurd h (by omega), rfl⟩
theorem RInv.mem_lt {p : Int} {k : Nat} {lead : List Nat} {m : List (List Int)} (h : RInv p k lead m) {j : Nat} (hj : j ∈ lead) : j < k := by
  rw [h.fil] at hj
  exact List.mem_range.1 (List.mem_filter.1 hj).1
theorem RInv.skip {p : Int} {k : Nat} {lead : List Nat} {m : List (List Int)} (h : RInv p k lead m) (hz : ∀ i, lead.length ≤ i → i < m.length → mx m i k = 0) : RInv p (k + 1) lead m := by
  refine ⟨h.rm, fun i hi => by have := h.lt i hi; omega, h.one, h.low, fun i j h1 h2 h3 => ?_, ?_⟩
  · by_cases e : j = k
    · rw [e]; exact hz i h1 h2
    · exact h.zero i j h1 h2 (by omega)
  · have : ¬ k ∈ lead := fun e => by have := h.mem_lt e; omega
    rw [List.range_succ, List.filter_append, ← h.fil]
    simp [this]
theorem getD_snocN (l : List Nat) (k i : Nat) : (l ++ [k]).getD i 0 = if i < l.length then l.getD i 0 else if i = l.length then k else 0 := by
  rw [List.getD_eq_getElem?_getD, List.getElem?_append]
  by_cases h : i < l.length
  · rw [if_pos h, if_pos h, List.getD_eq_getElem?_getD]
  · rw [if_neg h, if_neg h]
    by_cases h2 : i = l.length
    · rw [if_pos h2, h2, Nat.sub_self]; rfl
    · rw [if_neg h2, List.getElem?_eq_none (by simp; omega)]; rfl
theorem RInv.lead_ {p v : Int} {n k i : Nat} {lead : List Nat} {m : List (List Int)} (h : RInv p k lead m) (hp : 2 ≤ p) (he : Elts p n m) (hi0 : lead.length ≤ i) (hi : i < m.length) (hv : Cong p (mx m i k * v) 1) :
    RInv p (k + 1) (lead ++ [k]) (leadM p v k lead.length i m) := by
  have hr : lead.length < m.length := by omega
  have hk1 : mx (leadM p v k lead.length i m) lead.length k = 1 := by
    rw [leadM_first hr hi]
    have := (Cong.mod p (mx m i k * v)).trans hv
    exact this.eq ⟨Int.emod_nonneg _ (by omega), Int.emod_lt_of_pos _ (by omega)⟩ (by omega)
  have hlow : ∀ j, j < k → mx (leadM p v k lead.length i m) lead.length j = 0 := fun j hj => by
    rw [leadM_first hr hi, h.zero i j hi0 hi hj, Int.zero_mul, Int.zero_emod]
  have keep : ∀ q j, q < m.length → q ≠ lead.length → j < k → mx (leadM p v k lead.length i m) q j = mx m (swI lead.length i q) j := fun q j hq hqr hj => by
    have h1 := he.mx_in hp (swI_lt hr hi hq) j
    rw [leadM_other hp he hr hi hq hqr, hlow j hj, Int.mul_zero, Int.add_zero, Int.emod_eq_of_lt h1.1 h1.2]
  have swlt : ∀ q, q < lead.length → swI lead.length i q = q := fun q hq => by unfold swI; rw [if_neg (by omega), if_neg (by omega)]
  have swge : ∀ q, lead.length ≤ q → lead.length ≤ swI lead.length i q := fun q hq => by
    unfold swI; split
    · exact hi0
    · split <;> omega
  refine ⟨by rw [leadM_len]; simp; omega, fun a ha => ?_, fun a q ha hq => ?_, fun a j ha hj => ?_, fun q j hq1 hq2 hj => ?_, ?_⟩
  · rw [getD_snocN]
    by_cases h1 : a < lead.length
    · rw [if_pos h1]; have := h.lt a h1; omega
    · rw [if_neg h1]; split <;> omega
  · rw [leadM_len] at hq
    rw [getD_snocN]
    by_cases h1 : a < lead.length
    · rw [if_pos h1]
      by_cases h2 : q = lead.length
      · rw [h2, hlow _ (h.lt a h1), if_neg (by omega)]
      · rw [keep q _ hq h2 (h.lt a h1), h.one a _ h1 (swI_lt hr hi hq)]
        by_cases h3 : q < lead.length
        · rw [swlt q h3]
        · have := swge q (by omega)
          rw [if_neg (by omega), if_neg (by omega)]
    · have h4 : a = lead.length := by simp at ha; omega
      rw [if_neg h1, if_pos h4]
      by_cases h2 : q = lead.length
      · rw [h2, hk1, if_pos h4.symm]
      · rw [if_neg (by omega), leadM_other hp he hr hi hq h2, hk1, Int.mul_one]
        have h5 := (Cong.refl p (mx m (swI lead.length i q) k)).add (Cong.subP p 0 (mx m (swI lead.length i q) k))
        have h6 := (Cong.mod p _).trans h5
        rw [show mx m (swI lead.length i q) k + (0 - mx m (swI lead.length i q) k) = 0 by omega] at h6
        exact h6.eq ⟨Int.emod_nonneg _ (by omega), Int.emod_lt_of_pos _ (by omega)⟩ (by omega)
  · rw [getD_snocN] at hj
    by_cases h1 : a < lead.length
    · rw [if_pos h1] at hj
      have := h.lt a h1
      rw [keep a j (by omega) (by omega) (by omega), swlt a h1]
      exact h.low a j h1 hj
    · have h4 : a = lead.length := by simp at ha; omega
      rw [if_neg h1, if_pos h4] at hj
      rw [h4]; exact hlow j hj
  · rw [leadM_len] at hq2
    have hq3 : lead.length + 1 ≤ q := by simpa using hq1
    by_cases h1 : j = k
    · rw [h1, leadM_other hp he hr hi hq2 (by omega), hk1, Int.mul_one]
      have h5 := (Cong.refl p (mx m (swI lead.length i q) k)).add (Cong.subP p 0 (mx m (swI lead.length i q) k))
      have h6 := (Cong.mod p _).trans h5
      rw [show mx m (swI lead.length i q) k + (0 - mx m (swI lead.length i q) k) = 0 by omega] at h6
      exact h6.eq ⟨Int.emod_nonneg _ (by omega), Int.emod_lt_of_pos _ (by omega)⟩ (by omega)
    · rw [keep q j hq2 (by omega) (by omega)]
      exact h.zero _ j (swge q (by omega)) (swI_lt hr hi hq2) (by omega)
  · have h1 : (List.range k).filter (fun j => decide (j ∈ lead ++ [k])) = (List.range k).filter fun j => decide (j ∈ lead) := by
      apply List.filter_congr
      intro j hj
      have : j ≠ k := by have := List.mem_range.1 hj; omega
      simp [this]
    rw [List.range_succ, List.filter_append, h1, ← h.fil]
    simp

/-- Rows m and the columns in which they lead are the reduced form of rows m0, of c coefficients and a right side each. -/
structure Red (p : Int) (c : Nat) (m0 m : List (List Int)) (lead : List Nat) : Prop where
  inv : RInv p c lead m
  ln : m.length = m0.length
  el : Elts p (c + 1) m
  ker : ∀ z, Ker p (c + 1) m0 z ↔ Ker p (c + 1) m z
end Go.Proofs.Ytoblofilaegnaaa
