/-
  Adding the word of a polynomial to the known values of a word: what is decoded then; no program in sight. No conditions.
-/
import Derived.Test.YteipcjmkhacdgaaDoorPlain
namespace Go.Proofs.YteipcjmkhacdgaaDoor
set_option linter.unusedVariables false

/-- The known values, the word of q added. -/
def shK (p : Int) (q : List Int) (l : List (Int × Int)) : List (Int × Int) := l.map fun e => (e.1, (e.2 + valueP p e.1 q) % p)
def negL (p : Int) (q : List Int) : List Int := q.map fun y => (p - y) % p
section
variable {p : Int}
theorem neg_poly (p x : Int) : ∀ q : List Int, Cong p (polyZ x (negL p q)) (-(polyZ x q))
  | [] => by simp [negL, polyZ, Cong]
  | y :: q => by
    have ih := neg_poly p x q
    have h1 : Cong p ((p - y) % p) (-y) := (Cong.mod p _).trans (by
      have := (Cong.self p).sub (Cong.refl p y)
      exact this.trans (Cong.of_eq (by omega)))
    have h2 := (ih.mul (Cong.refl p x)).add h1
    rw [Int.neg_mul] at h2
    show Cong p (polyZ x ((p - y) % p :: negL p q)) _
    rw [polyZ_cons, polyZ_cons]
    exact h2.trans (Cong.of_eq (by omega))
theorem negL_allP (hp : 2 ≤ p) (q : List Int) : allP p (negL p q) = true := allP_iff.2 fun y hy => by
  obtain ⟨z, _, rfl⟩ := List.mem_map.1 hy
  exact ⟨Int.emod_nonneg _ (by omega), Int.emod_lt_of_pos _ (by omega)⟩
theorem negL_len (p : Int) (q : List Int) : (negL p q).length = q.length := List.length_map ..
theorem shK_len (p : Int) (q : List Int) (l : List (Int × Int)) : (shK p q l).length = l.length := List.length_map ..
theorem shK_pt (p : Int) (q : List Int) (l : List (Int × Int)) : ptK (shK p q l) = ptK l := by simp [ptK, shK]
theorem shK_in (hp : 2 ≤ p) (q : List Int) (l : List (Int × Int)) : ∀ e ∈ shK p q l, 0 ≤ e.2 ∧ e.2 < p := fun e he => by
  obtain ⟨z, _, rfl⟩ := List.mem_map.1 he
  exact ⟨Int.emod_nonneg _ (by omega), Int.emod_lt_of_pos _ (by omega)⟩
theorem shK_back (hp : 2 ≤ p) (q : List Int) (l : List (Int × Int)) (hl : ∀ e ∈ l, 0 ≤ e.2 ∧ e.2 < p) : shK p (negL p q) (shK p q l) = l := by
  unfold shK
  rw [List.map_map]
  refine (List.map_congr_left (g := id) fun e he => ?_).trans (List.map_id l)
  have h1 := hl e he
  obtain ⟨x, y⟩ := e
  show (x, ((y + valueP p x q) % p + valueP p x (negL p q)) % p) = (x, y)
  congr 1
  have h2 : Cong p (valueP p x (negL p q)) (-(valueP p x q)) := (valueP_cong p x _).trans ((neg_poly p x q).trans (valueP_cong p x q).symm.neg)
  have h3 : Cong p (((y + valueP p x q) % p + valueP p x (negL p q)) % p) y := (Cong.mod p _).trans (((Cong.mod p _).add h2).trans (Cong.of_eq (by omega)))
  exact h3.eq ⟨Int.emod_nonneg _ (by omega), Int.emod_lt_of_pos _ (by omega)⟩ h1
theorem dec_shift (hok : okP p = true) {k v : Nat} {l : List (Int × Int)} {q : List Int} {a b : Option (List Int)} (hq : allP p q = true) (hlq : q.length ≤ k) (hl : ∀ e ∈ l, 0 ≤ e.2 ∧ e.2 < p) (hd : (ptK l).Pairwise (fun x y => ¬ Cong p (y - x) 0)) (hn : k + 2 * v ≤ l.length)
    (ha : DecOf p k v l a) (hb : DecOf p k v (shK p q l) b) : (a = none ∧ b = none) ∨ ∃ P, a = some P ∧ b = some (addL p P q) ∧ wrL p (addL p P q) (shK p q l) = wrL p P l ∧ allP p P = true ∧ P.length ≤ k ∧ (wrL p P l).length ≤ v := by
  have hp := (okP_pos hok).1
  rcases a with _ | P
  · rcases b with _ | Q
    · exact .inl ⟨rfl, rfl⟩
    · exfalso
      obtain ⟨h1, h2, h3, h4⟩ := hb
      have h5 := ha (addL p Q (negL p q)) (addL_allP hp _ _) (Nat.le_trans (addL_len_le p _ _) (by rw [negL_len]; omega))
      have h6 := wrL_add hp Q (negL p q) (shK p q l) (shK_in hp q l)
      have h7 : (shK p q l).map (fun e => (e.1, (e.2 + valueP p e.1 (negL p q)) % p)) = l := shK_back hp q l hl
      rw [h7] at h6
      rw [h6] at h5
      omega
  · obtain ⟨h1, h2, h3, h4⟩ := ha
    have h6 : wrL p (addL p P q) (shK p q l) = wrL p P l := wrL_add hp P q l hl
    have h7 := DecOf.one hok hb (by rw [shK_pt]; exact hd) (by rw [shK_len]; exact hn) (addL_allP hp P q) (Nat.le_trans (addL_len_le p _ _) (by omega)) (by rw [h6]; exact h4)
    rw [(addL_trimd p P q).trimL] at h7
    exact .inr ⟨P, rfl, h7, h6, h2, h3, h4⟩

/-- The cells' values, the word of q added to the known ones. -/
def addF (p : Int) (q : List Int) : Int → List Int → List Bool → List Int
  | i, v :: vs, b :: bs => (if b then (v + valueP p i q) % p else v) :: addF p q (i + 1) vs bs
  | _, _, _ => []
theorem addF_len (p : Int) (q : List Int) : ∀ (vs : List Int) (bs : List Bool) (i : Int), vs.length = bs.length → (addF p q i vs bs).length = vs.length
  | [], [], _, _ => rfl
  | v :: vs, b :: bs, i, h => by simp only [addF, List.length_cons]; rw [addF_len p q vs bs (i + 1) (by simpa using h)]
theorem addF_at (p : Int) (q : List Int) : ∀ (vs : List Int) (bs : List Bool) (i : Int) (j : Nat), vs.length = bs.length → j < vs.length → (addF p q i vs bs).getD j 0 = if bs.getD j false = true then (vs.getD j 0 + valueP p (i + j) q) % p else vs.getD j 0
  | [], [], _, j, _, h => by simp at h
  | v :: vs, b :: bs, i, 0, _, _ => by simp [addF]
  | v :: vs, b :: bs, i, j + 1, h, h2 => by
    have := addF_at p q vs bs (i + 1) j (by simpa using h) (by simpa using h2)
    simp only [addF, List.getD_cons_succ]
    rw [this]
    rw [show i + 1 + (j : Int) = i + ((j + 1 : Nat) : Int) by omega]
theorem knF_addF (p : Int) (q : List Int) : ∀ (vs : List Int) (bs : List Bool) (i : Int), knF i (addF p q i vs bs) bs = shK p q (knF i vs bs)
  | [], bs, i => by cases bs <;> simp [addF, knF, shK]
  | v :: vs, [], i => by simp [addF, knF, shK]
  | v :: vs, b :: bs, i => by
    have := knF_addF p q vs bs (i + 1)
    simp only [addF, knF]
    cases b
    · simpa using this
    · simp only [if_true]
      rw [this]
      simp [shK]
theorem swap_at (us vs : List Int) (j : Nat) (h : us.length = vs.length) (hj : j < vs.length) : (us.take j ++ vs.drop j).set j (us.getD j 0) = us.take (j + 1) ++ vs.drop (j + 1) := by
  have h1 : (us.take j).length = j := by rw [List.length_take]; omega
  rw [List.set_append_right _ _ (by omega), h1, Nat.sub_self]
  have h2 : vs.drop j = vs.getD j 0 :: vs.drop (j + 1) := by rw [List.drop_eq_getElem_cons hj, List.getD_eq_getElem?_getD, List.getElem?_eq_getElem hj]; rfl
  have h3 : us.take (j + 1) = us.take j ++ [us.getD j 0] := by rw [List.take_add_one, List.getD_eq_getElem?_getD, List.getElem?_eq_getElem (by omega)]; rfl
  rw [h2, h3, List.set_cons_zero, List.append_assoc]; rfl
theorem swap_same (us vs : List Int) (j : Nat) (h : us.length = vs.length) (hj : j < vs.length) (he : us.getD j 0 = vs.getD j 0) : us.take j ++ vs.drop j = us.take (j + 1) ++ vs.drop (j + 1) := by
  have h2 : vs.drop j = vs.getD j 0 :: vs.drop (j + 1) := by rw [List.drop_eq_getElem_cons hj, List.getD_eq_getElem?_getD, List.getElem?_eq_getElem hj]; rfl
  have h3 : us.take (j + 1) = us.take j ++ [us.getD j 0] := by rw [List.take_add_one, List.getD_eq_getElem?_getD, List.getElem?_eq_getElem (by omega)]; rfl
  rw [h2, h3, he, List.append_assoc]; rfl
theorem swap_getD (us vs : List Int) (j : Nat) (h : us.length = vs.length) (hj : j < vs.length) : (us.take j ++ vs.drop j).getD j 0 = vs.getD j 0 := by
  have h1 : (us.take j).length = j := by rw [List.length_take]; omega
  rw [List.getD_eq_getElem?_getD, List.getD_eq_getElem?_getD, List.getElem?_append_right (by omega), h1, Nat.sub_self, List.getElem?_drop, Nat.add_zero]
theorem knOk_add (hp : 2 ≤ p) (q vs : List Int) (bs : List Bool) : knOk p (addF p q 1 vs bs) bs := fun e he => by
  unfold knL at he
  rw [knF_addF] at he
  exact shK_in hp q _ e he
theorem knF_at : ∀ (vs : List Int) (bs : List Bool) (i : Int) (j : Nat), vs.length = bs.length → bs.getD j false = true → (i + (j : Int), vs.getD j 0) ∈ knF i vs bs
  | [], [], i, j, _, h => by simp at h
  | v :: vs, b :: bs, i, 0, _, h => by
    have hb : b = true := h
    subst hb
    simp [knF]
  | v :: vs, b :: bs, i, j + 1, hl, h => by
    have ih := knF_at vs bs (i + 1) j (by simpa using hl) (by simpa using h)
    rw [show i + 1 + (j : Int) = i + ((j + 1 : Nat) : Int) by omega] at ih
    simp only [knF, List.getD_cons_succ]
    cases b
    · simpa using ih
    · simp only [if_true]; exact List.mem_cons_of_mem _ ih
theorem knOk_at {vs : List Int} {bs : List Bool} (h : knOk p vs bs) (hl : vs.length = bs.length) {j : Nat} (hj : bs.getD j false = true) : 0 ≤ vs.getD j 0 ∧ vs.getD j 0 < p := h _ (knF_at vs bs 1 j hl hj)
theorem knOk_snoc {vs : List Int} {bs : List Bool} {v : Int} {b : Bool} (h : knOk p vs bs) (hl : vs.length = bs.length) (hv : 0 ≤ v ∧ v < p) : knOk p (vs ++ [v]) (bs ++ [b]) := fun e he => by
  unfold knL at he
  rw [knF_snoc v b vs bs 1 hl] at he
  rcases List.mem_append.1 he with h1 | h1
  · exact h e h1
  · cases b
    · simp at h1
    · simp at h1; rw [h1]; exact hv
end
end Go.Proofs.YteipcjmkhacdgaaDoor
