/-
  The plain law of VectorMoves, no program in sight: an inner product does not change if both lists are put in another order and exchanged. No conditions.
-/
import Derived.Test.YtiledcpefaoeiaaVecA
namespace Go.Proofs.Ytiledcpefaoeiaa

/-- The elements of a list at some places. -/
def pick (a ks : List Int) : List Int := ks.map fun k => a.getD k.toNat 0

theorem pick_snoc (a ks : List Int) (k : Int) : pick a (ks ++ [k]) = pick a ks ++ [a.getD k.toNat 0] := by simp [pick]
theorem pick_len (a ks : List Int) : (pick a ks).length = ks.length := by simp [pick]

theorem addP_comm3 (p z x y : Int) : addP p (addP p z x) y = addP p (addP p z y) x := by
  unfold addP
  rw [Int.emod_add_emod, Int.emod_add_emod, Int.add_right_comm]

theorem sumP_perm (p : Int) {l m : List Int} (h : l.Perm m) : sumP p l = sumP p m :=
  List.Perm.foldl_eq' h (fun x _ y _ z => addP_comm3 p z x y) 0

theorem zipI_pick (f : Int → Int → Int) (a b ks : List Int) : zipI f (pick a ks) (pick b ks) = ks.map fun k => f (a.getD k.toNat 0) (b.getD k.toNat 0) := by
  induction ks with
  | nil => rfl
  | cons k ks ih => simp only [zipI, pick, List.map_cons, List.zipWith_cons_cons] at ih ⊢; rw [ih]

theorem zipI_range (f : Int → Int → Int) (a b : List Int) (n : Nat) (ha : a.length = n) (hb : b.length = n) : ((List.range n).map Int.ofNat).map (fun k => f (a.getD k.toNat 0) (b.getD k.toNat 0)) = zipI f a b := by
  apply List.ext_getElem
  · simp [zipI, ha, hb]
  · intro i h1 h2
    have hi : i < n := by simpa using h1
    simp [zipI, List.getD_eq_getElem?_getD, ha, hb, hi]

theorem dot_moves (p : Int) (a b ks : List Int) (n : Nat) (ha : a.length = n) (hb : b.length = n) (hk : ks.Perm ((List.range n).map Int.ofNat)) : dotP p (pick b ks) (pick a ks) = dotP p a b := by
  unfold dotP
  rw [zipI_pick, sumP_perm p (hk.map _), zipI_range (mulP p) b a n hb ha]
  congr 1
  unfold zipI
  rw [List.zipWith_comm]
  congr 1
  funext x y
  unfold mulP
  rw [Int.mul_comm]

theorem pick_all {p : Int} {a ks : List Int} {n : Nat} (ha : allP p a = true) (hl : a.length = n) (hk : ∀ k ∈ ks, 0 ≤ k ∧ k < (n : Int)) : allP p (pick a ks) = true := by
  rw [allP_iff]
  intro x hx
  obtain ⟨k, hkm, rfl⟩ := List.mem_map.1 hx
  have := hk k hkm
  exact allP_getD ha (by omega)
end Go.Proofs.Ytiledcpefaoeiaa
