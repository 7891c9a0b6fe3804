/-
  Words for memory: rows of numbers that the call itself made, each with a block of its own, and the block of a reduced form; no program in sight. No conditions.
-/
import Derived.Test.YtnjdjcgandfnfaaDoorMat
import Derived.Test.YtnjdjcgandfnfaaDoorPlain
namespace Go.Proofs.YtnjdjcgandfnfaaDoor
open Go.RowKit
set_option linter.unusedVariables false

/-- The slices of rows with these blocks and capacities. -/
def rowV (wd : Nat) (bs : List (Nat × Nat)) : List Value := bs.map fun b => .slice (some ⟨b.1, 0, none⟩) wd b.2
theorem rowV_len (wd : Nat) (bs : List (Nat × Nat)) : (rowV wd bs).length = bs.length := by simp [rowV]
theorem rowV_at (wd : Nat) (bs : List (Nat × Nat)) {j : Nat} (hj : j < bs.length) : (rowV wd bs)[j]? = some (.slice (some ⟨(bs.getD j (0, 0)).1, 0, none⟩) wd (bs.getD j (0, 0)).2) := by
  unfold rowV
  rw [List.getElem?_map, List.getElem?_eq_getElem hj, List.getD_eq_getElem?_getD, List.getElem?_eq_getElem hj]; rfl
theorem rowV_snoc (wd : Nat) (bs : List (Nat × Nat)) (b c : Nat) : rowV wd (bs ++ [(b, c)]) = rowV wd bs ++ [.slice (some ⟨b, 0, none⟩) wd c] := by simp [rowV]
theorem getD_set_pair (bs : List (Nat × Nat)) (i j : Nat) (l : Nat × Nat) (hi : i < bs.length) : (bs.set i l).getD j (0, 0) = if i = j then l else bs.getD j (0, 0) := by
  rw [List.getD_eq_getElem?_getD, List.getElem?_set, List.getD_eq_getElem?_getD]
  by_cases h : i = j
  · subst h; rw [if_pos rfl, if_pos rfl, if_pos hi]; rfl
  · rw [if_neg h, if_neg h]
def swapB (bs : List (Nat × Nat)) (r i : Nat) : List (Nat × Nat) := (bs.set r (bs.getD i (0, 0))).set i (bs.getD r (0, 0))
theorem swapB_len (bs : List (Nat × Nat)) (r i : Nat) : (swapB bs r i).length = bs.length := by simp [swapB]
theorem swapB_at (bs : List (Nat × Nat)) {r i : Nat} (hr : r < bs.length) (hi : i < bs.length) (j : Nat) : (swapB bs r i).getD j (0, 0) = bs.getD (swI r i j) (0, 0) := by
  unfold swapB swI
  rw [getD_set_pair _ _ _ _ (by simpa using hi), getD_set_pair _ _ _ _ hr]
  by_cases h1 : i = j
  · subst h1
    rw [if_pos rfl]
    by_cases h2 : i = r
    · rw [if_pos h2, h2]
    · rw [if_neg h2, if_pos rfl]
  · rw [if_neg h1]
    by_cases h2 : r = j
    · rw [if_pos h2, if_pos h2.symm]
    · rw [if_neg h2, if_neg (fun e => h2 e.symm), if_neg (fun e => h1 e.symm)]
theorem rowV_swap (wd : Nat) (bs : List (Nat × Nat)) {r i : Nat} (hr : r < bs.length) (hi : i < bs.length) :
    ((rowV wd bs).set r (.slice (some ⟨(bs.getD i (0, 0)).1, 0, none⟩) wd (bs.getD i (0, 0)).2)).set i (.slice (some ⟨(bs.getD r (0, 0)).1, 0, none⟩) wd (bs.getD r (0, 0)).2) = rowV wd (swapB bs r i) := by
  unfold rowV swapB
  rw [List.map_set, List.map_set]

/-- Rows of numbers that the call made: each has a block of its own. -/
structure Rws (w : World) (base : Nat) (e : TypeId) (wd : Nat) (bs : List (Nat × Nat)) (m : List (List Int)) : Prop where
  ln : bs.length = m.length
  apart : ∀ i j, i < m.length → j < m.length → (bs.getD i (0, 0)).1 = (bs.getD j (0, 0)).1 → i = j
  own : ∀ j, j < m.length → OwnI w base e (some ⟨(bs.getD j (0, 0)).1, 0, none⟩) wd (bs.getD j (0, 0)).2 (m.getD j [])

section
variable {w w' : World} {base wd : Nat} {e : TypeId} {bs : List (Nat × Nat)} {m : List (List Int)}
theorem Rws.nil_ : Rws w base e wd [] [] := ⟨rfl, fun i j h => absurd h (by simp), fun j h => absurd h (by simp)⟩
theorem Rws.row (h : Rws w base e wd bs m) {j : Nat} (hj : j < m.length) : base ≤ (bs.getD j (0, 0)).1 ∧ (bs.getD j (0, 0)).1 < w.heap.size := World.ownsRow.lt (h.own j hj) _ rfl
theorem Rws.belowAll (h : Rws w base e wd bs m) (hb : Below w.heap.size w w') : Rws w' base e wd bs m := ⟨h.ln, h.apart, fun j hj => (h.own j hj).belowAll hb⟩
theorem Rws.kept {row : Option Nat} (h : Rws w base e wd bs m) (hg : w.grownBy w' row) (hne : ∀ j, j < m.length → row ≠ some (bs.getD j (0, 0)).1) : Rws w' base e wd bs m :=
  ⟨h.ln, h.apart, fun j hj => (h.own j hj).kept hg (.inr (fun e1 => hne j hj (by rw [← e1]; rfl)))⟩
theorem Rws.drew (h : Rws w base e wd bs m) : Rws w.drew base e wd bs m := ⟨h.ln, h.apart, h.own⟩
theorem Rws.alloc (h : Rws w base e wd bs m) (o : Obj) : Rws (w.alloc o) base e wd bs m := ⟨h.ln, h.apart, fun j hj => (h.own j hj).alloc o⟩
/-- One row written. -/
theorem Rws.set_ (h : Rws w base e wd bs m) {j : Nat} (hj : j < m.length) {l : List Int} (hg : w.grownBy w' (some (bs.getD j (0, 0)).1)) (hl : OwnI w' base e (some ⟨(bs.getD j (0, 0)).1, 0, none⟩) wd (bs.getD j (0, 0)).2 l) : Rws w' base e wd bs (m.set j l) := by
  refine ⟨by rw [List.length_set]; exact h.ln, fun a b ha hb => h.apart a b (by simpa using ha) (by simpa using hb), fun a ha => ?_⟩
  rw [List.length_set] at ha
  rw [getD_set_row _ _ _ _ hj]
  by_cases h1 : j = a
  · subst h1; rw [if_pos rfl]; exact hl
  · rw [if_neg h1]
    exact (h.own a ha).kept hg (.inr (fun e1 => h1 (h.apart j a hj ha (by injection e1 with e1; exact e1.symm))))
theorem Rws.swap_ (h : Rws w base e wd bs m) {r i : Nat} (hr : r < m.length) (hi : i < m.length) : Rws w base e wd (swapB bs r i) (swapM m r i) := by
  have hl := h.ln
  refine ⟨by rw [swapB_len, swapM_len, hl], fun a b ha hb hab => ?_, fun a ha => ?_⟩
  · rw [swapM_len] at ha hb
    rw [swapB_at bs (by omega) (by omega), swapB_at bs (by omega) (by omega)] at hab
    have := h.apart _ _ (swI_lt hr hi ha) (swI_lt hr hi hb) hab
    rw [← swI_swI r i a, this, swI_swI]
  · rw [swapM_len] at ha
    rw [swapB_at bs (by omega) (by omega), swapM_at m hr hi]
    exact h.own _ (swI_lt hr hi ha)
/-- The rows read as a list of lists. -/
theorem Rws.ints (h : Rws w base e wd bs m) {j : Nat} (hj : j < m.length) : Ints w w.heap.size (some ⟨(bs.getD j (0, 0)).1, 0, none⟩) wd (m.getD j []) := (h.own j hj).ints
theorem Rws.snoc {b c : Nat} {l : List Int} (h : Rws w base e wd bs m) (hl : OwnI w base e (some ⟨b, 0, none⟩) wd c l) (hb : ∀ j, j < m.length → (bs.getD j (0, 0)).1 ≠ b) : Rws w base e wd (bs ++ [(b, c)]) (m ++ [l]) := by
  have hn := h.ln
  have hat : ∀ j, (bs ++ [(b, c)]).getD j (0, 0) = if j < m.length then bs.getD j (0, 0) else if j = m.length then (b, c) else (0, 0) := by
    intro j
    rw [List.getD_eq_getElem?_getD, List.getElem?_append, hn]
    by_cases h1 : j < m.length
    · rw [if_pos h1, if_pos h1, List.getD_eq_getElem?_getD]
    · rw [if_neg h1, if_neg h1]
      by_cases h2 : j = m.length
      · rw [if_pos h2, h2, Nat.sub_self]; rfl
      · rw [if_neg h2, List.getElem?_eq_none (by simp; omega)]; rfl
  refine ⟨by simp [hn], fun i j hi hj hij => ?_, fun j hj => ?_⟩
  · simp only [List.length_append, List.length_cons, List.length_nil] at hi hj
    rw [hat, hat] at hij
    by_cases h1 : i < m.length <;> by_cases h2 : j < m.length
    · rw [if_pos h1, if_pos h2] at hij; exact h.apart i j h1 h2 hij
    · rw [if_pos h1, if_neg h2, if_pos (by omega)] at hij; exact absurd hij (hb i h1)
    · rw [if_neg h1, if_pos (by omega), if_pos h2] at hij; exact absurd hij.symm (hb j h2)
    · omega
  · simp only [List.length_append, List.length_cons, List.length_nil] at hj
    have hrow : (m ++ [l]).getD j [] = if j < m.length then m.getD j [] else l := by
      rw [List.getD_eq_getElem?_getD, List.getElem?_append]
      by_cases h1 : j < m.length
      · rw [if_pos h1, if_pos h1, List.getD_eq_getElem?_getD]
      · rw [if_neg h1, if_neg h1, show j - m.length = 0 by omega]; rfl
    rw [hat, hrow]
    by_cases h1 : j < m.length
    · rw [if_pos h1, if_pos h1]; exact h.own j h1
    · rw [if_neg h1, if_neg h1, if_pos (by omega)]; exact hl
end

/-- The leading rows of 32 columns, plus 1. -/
def ldL (lead : List Nat) : List Int := (List.range 32).map fun k => if k ∈ lead then (lead.idxOf k : Int) + 1 else 0
theorem ldL_len (lead : List Nat) : (ldL lead).length = 32 := by simp [ldL]
theorem ldL_at (lead : List Nat) {k : Nat} (hk : k < 32) : (ldL lead).getD k 0 = if k ∈ lead then (lead.idxOf k : Int) + 1 else 0 := by
  unfold ldL
  rw [List.getD_eq_getElem?_getD, List.getElem?_map, List.getElem?_range hk]; rfl
theorem ldL_set (lead : List Nat) {k : Nat} (hk : k < 32) (hn : k ∉ lead) : (ldL lead).set k ((lead.length : Int) + 1) = ldL (lead ++ [k]) := by
  refine cf_ext (by rw [List.length_set, ldL_len, ldL_len]) fun j => ?_
  by_cases hj : j < 32
  · show ((ldL lead).set k _).getD j 0 = (ldL (lead ++ [k])).getD j 0
    rw [ldL_at _ hj, List.getD_eq_getElem?_getD, List.getElem?_set]
    by_cases h1 : k = j
    · subst h1
      rw [if_pos rfl, if_pos (by rw [ldL_len]; exact hj), if_pos (by simp), List.idxOf_append, if_neg hn]; simp
    · rw [if_neg h1, ← List.getD_eq_getElem?_getD, ldL_at _ hj, List.idxOf_append]
      by_cases h2 : j ∈ lead
      · rw [if_pos h2, if_pos (by simp [h2]), if_pos h2]
      · rw [if_neg h2, if_neg (by simp [h2]; exact fun e => h1 e.symm)]
  · rw [cf_out (by rw [List.length_set, ldL_len]; omega), cf_out (by rw [ldL_len]; omega)]

/-- The cells of a reduced form. -/
def redC (p c : Int) (R : Value) (rank : Int) (ld : List Int) : Array Value := #[.int .i64 p, .int .i64 c, R, .int .i64 rank] ++ (ld.map (Value.int .i64)).toArray
theorem redC_ld (p c : Int) (R : Value) (rank : Int) {ld : List Int} (hl : ld.length = 32) {k : Nat} (hk : k < 32) : (redC p c R rank ld)[4 + k]? = some (.int .i64 (ld.getD k 0)) := by
  unfold redC
  rw [Array.getElem?_append_right (by simp)]
  simp [hl, hk, List.getD_eq_getElem?_getD]
theorem redC_set_ld (p c : Int) (R : Value) (rank x : Int) {ld : List Int} (k : Nat) : (redC p c R rank ld).setIfInBounds (4 + k) (.int .i64 x) = redC p c R rank (ld.set k x) := by
  unfold redC
  rw [Array.setIfInBounds_append_right (by simp)]
  simp [List.map_set]
theorem redC_set_rank (p c : Int) (R : Value) (rank x : Int) (ld : List Int) : (redC p c R rank ld).setIfInBounds 3 (.int .i64 x) = redC p c R x ld := by
  unfold redC
  rw [Array.setIfInBounds_append_left (by simp)]; rfl
theorem redC_set_rows (p c : Int) (R R' : Value) (rank : Int) (ld : List Int) : (redC p c R rank ld).setIfInBounds 2 R' = redC p c R' rank ld := by
  unfold redC
  rw [Array.setIfInBounds_append_left (by simp)]; rfl
theorem redC_0 (p c : Int) (R : Value) (rank : Int) (ld : List Int) : (redC p c R rank ld)[0]? = some (.int .i64 p) := by unfold redC; rw [Array.getElem?_append_left (by simp)]; rfl
theorem redC_1 (p c : Int) (R : Value) (rank : Int) (ld : List Int) : (redC p c R rank ld)[1]? = some (.int .i64 c) := by unfold redC; rw [Array.getElem?_append_left (by simp)]; rfl
theorem redC_2 (p c : Int) (R : Value) (rank : Int) (ld : List Int) : (redC p c R rank ld)[2]? = some R := by unfold redC; rw [Array.getElem?_append_left (by simp)]; rfl
theorem redC_3 (p c : Int) (R : Value) (rank : Int) (ld : List Int) : (redC p c R rank ld)[3]? = some (.int .i64 rank) := by unfold redC; rw [Array.getElem?_append_left (by simp)]; rfl
end Go.Proofs.YtnjdjcgandfnfaaDoor
