/-
  The numbers of the digests, no program in sight: Go's remainder, one step of a digest, that it can be undone. No conditions.
-/
import Derived.Test.YtdklcgpjdajkmaaNumA
namespace Go.Proofs.Ytdklcgpjdajkmaa

/-- The prime of the digests, and their base. -/
def dP : Int := 2147483647
def dB : Int := 1000003

/-- One step of a digest. -/
def dStep (d m : Int) : Int := (d * 1000003 + m + 1) % 2147483647

theorem dStep_bd (d m : Int) : 0 ≤ dStep d m ∧ dStep d m < 2147483647 := by unfold dStep; omega

theorem dvd_base (x : Int) (h : (2147483647 : Int) ∣ x * 1000003) : (2147483647 : Int) ∣ x := by
  have h1 := Int.natAbs_dvd_natAbs.2 h
  rw [Int.natAbs_mul] at h1
  have h2 : Nat.Coprime (2147483647 : Int).natAbs (1000003 : Int).natAbs := by show Nat.gcd 2147483647 1000003 = 1; decide
  exact Int.natAbs_dvd_natAbs.1 (Nat.Coprime.dvd_of_dvd_mul_right h2 h1)

/-- The base has an inverse. -/
theorem base_inj (d d' c : Int) (h0 : 0 ≤ d) (h1 : d < 2147483647) (h2 : 0 ≤ d') (h3 : d' < 2147483647) (h : (d * 1000003 + c) % 2147483647 = (d' * 1000003 + c) % 2147483647) : d = d' := by
  have h4 : (2147483647 : Int) ∣ (d - d') * 1000003 := by
    have h5 := (Int.emod_eq_emod_iff_emod_sub_eq_zero).1 h
    have h6 := Int.dvd_of_emod_eq_zero h5
    have e : d * 1000003 + c - (d' * 1000003 + c) = (d - d') * 1000003 := by rw [Int.sub_mul]; omega
    rwa [e] at h6
  have h7 : (2147483647 : Int) ∣ (d - d') := dvd_base _ h4
  clear h h4
  obtain ⟨q, hq⟩ := h7
  have : q = 0 := by omega
  subst this
  omega

theorem dStep_inj (d d' m : Int) (h0 : 0 ≤ d) (h1 : d < 2147483647) (h2 : 0 ≤ d') (h3 : d' < 2147483647) (h : dStep d m = dStep d' m) : d = d' := by
  refine base_inj d d' (m + 1) h0 h1 h2 h3 ?_
  unfold dStep at h
  rwa [Int.add_assoc, Int.add_assoc] at h

theorem dStep_inj2 (d m m' : Int) (h0 : 0 ≤ m) (h1 : m < 2147483647) (h2 : 0 ≤ m') (h3 : m' < 2147483647) (h : dStep d m = dStep d m') : m = m' := by
  unfold dStep at h; omega

/-- A digest that goes on from d over elements that are already reduced. -/
def dFold (d : Int) (l : List Int) : Int := l.foldl dStep d

theorem dFold_nil (d : Int) : dFold d [] = d := rfl
theorem dFold_snoc (d : Int) (l : List Int) (x : Int) : dFold d (l ++ [x]) = dStep (dFold d l) x := by simp [dFold, List.foldl_append]
theorem dFold_cons (d : Int) (l : List Int) (x : Int) : dFold d (x :: l) = dFold (dStep d x) l := rfl
theorem dFold_append (d : Int) (l m : List Int) : dFold d (l ++ m) = dFold (dFold d l) m := by simp [dFold, List.foldl_append]

theorem dFold_bd (l : List Int) : ∀ d : Int, 0 ≤ d → d < 2147483647 → 0 ≤ dFold d l ∧ dFold d l < 2147483647 := by
  induction l with
  | nil => intro d h0 h1; exact ⟨h0, h1⟩
  | cons x l ih => intro d _ _; exact ih _ (dStep_bd d x).1 (dStep_bd d x).2

theorem dFold_inj (l : List Int) : ∀ d d' : Int, 0 ≤ d → d < 2147483647 → 0 ≤ d' → d' < 2147483647 → dFold d l = dFold d' l → d = d' := by
  induction l with
  | nil => intro d d' _ _ _ _ h; exact h
  | cons x l ih =>
    intro d d' h0 h1 h2 h3 h
    have := ih _ _ (dStep_bd d x).1 (dStep_bd d x).2 (dStep_bd d' x).1 (dStep_bd d' x).2 h
    exact dStep_inj d d' x h0 h1 h2 h3 this

/-- One element changed. -/
theorem dFold_one (a b : List Int) (x y d : Int) (hx : 0 ≤ x) (hx1 : x < 2147483647) (hy : 0 ≤ y) (hy1 : y < 2147483647) :
    dFold d (a ++ x :: b) = dFold d (a ++ y :: b) ↔ x = y := by
  constructor
  · intro h
    rw [dFold_append, dFold_append, dFold_cons, dFold_cons] at h
    have := dFold_inj b _ _ (dStep_bd _ _).1 (dStep_bd _ _).2 (dStep_bd _ _).1 (dStep_bd _ _).2 h
    exact dStep_inj2 _ x y hx hx1 hy hy1 this
  · rintro rfl; rfl

/-- The digest of a row. -/
def dRow (l : List Int) : Int := dFold 2 (l.map (· % 2147483647))

theorem dRow_bd (l : List Int) : 0 ≤ dRow l ∧ dRow l < 2147483647 := dFold_bd _ 2 (by omega) (by omega)
theorem dRow_snoc (l : List Int) (x : Int) : dRow (l ++ [x]) = dStep (dRow l) (x % 2147483647) := by simp [dRow, dFold_snoc]

theorem set_split {α : Type} (l : List α) (k : Nat) (hk : k < l.length) (y : α) : l = l.take k ++ l[k] :: l.drop (k + 1) ∧ l.set k y = l.take k ++ y :: l.drop (k + 1) := by
  constructor
  · simp
  · rw [List.set_eq_take_append_cons_drop, if_pos hk]

theorem dRow_set (l : List Int) (k : Nat) (hk : k < l.length) (y : Int) : dRow (l.set k y) = dRow l ↔ y % 2147483647 = l[k] % 2147483647 := by
  obtain ⟨e1, e2⟩ := set_split l k hk y
  have h1 : dRow l = dFold 2 ((l.take k).map (· % 2147483647) ++ (l[k] % 2147483647) :: (l.drop (k + 1)).map (· % 2147483647)) := by
    conv => lhs; rw [e1]
    simp only [dRow, List.map_append, List.map_cons]
  have h2 : dRow (l.set k y) = dFold 2 ((l.take k).map (· % 2147483647) ++ (y % 2147483647) :: (l.drop (k + 1)).map (· % 2147483647)) := by
    rw [e2]; simp [dRow]
  rw [h1, h2]
  exact dFold_one _ _ _ _ 2 (by omega) (by omega) (by omega) (by omega)

/-- The digest of a text. -/
def byteNums (l : List UInt8) : List Int := l.map fun b => (b.toNat : Int)
def dSum (l : List UInt8) : Int := dFold 1 (byteNums l)

theorem dSum_snocFold (d : Int) (l : List UInt8) (b : UInt8) : dFold d (byteNums (l ++ [b])) = dStep (dFold d (byteNums l)) (b.toNat : Int) := by simp [dFold_snoc, byteNums]

theorem dSum_set (l : List UInt8) (k : Nat) (hk : k < l.length) (y : UInt8) : dSum (l.set k y) = dSum l ↔ y = l[k] := by
  obtain ⟨e1, e2⟩ := set_split l k hk y
  have h1 : dSum l = dFold 1 ((l.take k).map (fun b => (b.toNat : Int)) ++ (l[k].toNat : Int) :: (l.drop (k + 1)).map (fun b => (b.toNat : Int))) := by
    conv => lhs; rw [e1]
    simp only [dSum, byteNums, List.map_append, List.map_cons]
  have h2 : dSum (l.set k y) = dFold 1 ((l.take k).map (fun b => (b.toNat : Int)) ++ (y.toNat : Int) :: (l.drop (k + 1)).map (fun b => (b.toNat : Int))) := by
    rw [e2]; simp [dSum, byteNums]
  have hy := y.toNat_lt
  have hl := l[k].toNat_lt
  rw [h1, h2, dFold_one _ _ _ _ 1 (by omega) (by omega) (by omega) (by omega)]
  constructor
  · intro h; exact UInt8.toNat_inj.1 (by omega)
  · rintro rfl; rfl

/-- The digest of two digests. -/
def dNode (a b : Int) : Int := (a % 2147483647 * 1000003 + b % 2147483647 + 3) % 2147483647

theorem dNode_left (x y z : Int) (hx : 0 ≤ x) (hx1 : x < 2147483647) (hy : 0 ≤ y) (hy1 : y < 2147483647) : dNode x z = dNode y z ↔ x = y := by
  constructor
  · intro h
    unfold dNode at h
    rw [Int.emod_eq_of_lt hx hx1, Int.emod_eq_of_lt hy hy1, Int.add_assoc, Int.add_assoc] at h
    exact base_inj x y _ hx hx1 hy hy1 h
  · rintro rfl; rfl
theorem dNode_right (x y z : Int) (hx : 0 ≤ x) (hx1 : x < 2147483647) (hy : 0 ≤ y) (hy1 : y < 2147483647) : dNode z x = dNode z y ↔ x = y := by
  constructor
  · intro h
    unfold dNode at h
    rw [Int.emod_eq_of_lt hx hx1, Int.emod_eq_of_lt hy hy1] at h
    generalize z % 2147483647 * 1000003 = t at h
    omega
  · rintro rfl; rfl
end Go.Proofs.Ytdklcgpjdajkmaa
