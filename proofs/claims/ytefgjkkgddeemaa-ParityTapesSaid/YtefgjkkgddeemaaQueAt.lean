/-
  What a call of Queries leaves of the frame and of the heap, and the plain law of ParityTapes: where two last queries differ, and lists out of their pieces. No conditions.
-/
import Derived.Test.YtefgjkkgddeemaaPQue
namespace Go.Proofs.Ytefgjkkgddeemaa
open Go.RowKit
set_option linter.unusedVariables false

/-- Some queries; only what is new has turned since w0. -/
def QueAt (p : Int) (N s1 m i : Nat) (ys : List Int) (w0 : World) (s e : Value) (wx : World) : Prop :=
  ∃ A' c', s = .slice A' m c' ∧ e = .int .i64 0 ∧ OwnM wx w0.heap.size w0.heap.size 22 A' m c' (chunkL ys N s1 ++ [lastQ p N i (chunkL ys N s1)]) ∧ Below w0.heap.size w0.drew wx
/-- The call's tape is laid into the box that was there before. -/
theorem QueAt.box {p : Int} {N s1 m i : Nat} {ys : List Int} {w0 w9 : World} {A9 : Option Addr} {c9 base b : Nat} (ho : OwnM w9 base base 22 A9 m c9 (chunkL ys N s1 ++ [lastQ p N i (chunkL ys N s1)])) (hB : Below w0.heap.size w0.drew w9)
    (hb0 : w0.heap.size ≤ b) (hb1 : b < base) (u v : Value) : QueAt p N s1 m i ys w0 (.slice A9 m c9) (.int .i64 0) ((w9.setCell ⟨b, 0, none⟩ u).setCell ⟨b, 1, none⟩ v) :=
  ⟨A9, c9, rfl, rfl, (ho.step (((Step.refl b w9).set 0 u).set 1 v) hb1 hb1).weaken (by omega) (by omega), (hB.setCell (p := ⟨b, 0, none⟩) hb0 u).setCell (p := ⟨b, 1, none⟩) hb0 v⟩
/-- Or into a new one. -/
theorem QueAt.new {p : Int} {N s1 m i : Nat} {ys : List Int} {w0 w9 : World} {A9 : Option Addr} {c9 base : Nat} (ho : OwnM w9 base base 22 A9 m c9 (chunkL ys N s1 ++ [lastQ p N i (chunkL ys N s1)])) (hB : Below w0.heap.size w0.drew w9)
    (hb0 : w0.heap.size ≤ base) (o : Obj) : QueAt p N s1 m i ys w0 (.slice A9 m c9) (.int .i64 0) (w9.alloc o) :=
  ⟨A9, c9, rfl, rfl, (ho.belowAll (bbox o)).weaken hb0 hb0, hB.alloc hB.size o⟩

theorem Mat.take_ {w : World} {lo B : Nat} {A : Option Addr} {n k : Nat} {rows : List (List Int)} (h : Mat w lo B A n rows) (hk : k ≤ n) : Mat w lo B A k (rows.take k) := by
  refine ⟨by rw [List.length_take, h.1]; omega, fun h0 => ?_⟩
  obtain ⟨b, off, e, hl, hb, hc⟩ := h.2 (by omega)
  refine ⟨b, off, e, hl, hb, fun j hj => ?_⟩
  obtain ⟨A', n', c', h1, h2, h3, h4⟩ := hc j (by omega)
  refine ⟨A', n', c', h1, h2, ?_, h4⟩
  have : (rows.take k).getD j [] = rows.getD j [] := by rw [List.getD_eq_getElem?_getD, List.getElem?_take, if_pos hj, List.getD_eq_getElem?_getD]
  rw [this]; exact h3
theorem OwnM.cap {w : World} {base lo n c : Nat} {e : TypeId} {A : Option Addr} {rows : List (List Int)} (h : OwnM w base lo e A n c rows) : n ≤ c := by
  obtain ⟨_, vs, hown, _⟩ := h
  rcases hown.2 with ⟨hv, hn⟩ | ⟨g, cap, cur, hv, _, _, hc, _⟩
  · injection hv; omega
  · injection hv with _ _ h3; omega

/-- At how many of the first places two lists differ. -/
def dfN (X Y : List Int) : Nat → Int
  | 0 => 0
  | k + 1 => dfN X Y k + (if X.getD k 0 = Y.getD k 0 then 0 else 1)
theorem dfN_in (X Y : List Int) : ∀ k : Nat, 0 ≤ dfN X Y k ∧ dfN X Y k ≤ k
  | 0 => by simp [dfN]
  | k + 1 => by
    have := dfN_in X Y k
    simp only [dfN]
    split <;> omega
theorem dfN_last {p : Int} (hp : 2 ≤ p) {n i j : Nat} {qs : List (List Int)} (hq : ∀ q ∈ qs, q.length = n) : ∀ k, k ≤ n → dfN (lastQ p n i qs) (lastQ p n j qs) k = if i = j then 0 else (if i < k then 1 else 0) + (if j < k then 1 else 0)
  | 0, _ => by simp [dfN]
  | k + 1, h => by
    have ih := dfN_last hp (i := i) (j := j) hq k (by omega)
    have e := lastQ_ne hp (i := i) (j := j) hq (k := k) (by omega)
    simp only [dfN, ih]
    by_cases hij : i = j
    · subst hij
      rw [if_pos rfl, if_pos rfl, if_pos rfl]; rfl
    · rw [if_neg hij, if_neg hij]
      by_cases h1 : i = k
      · have hne : ¬ (lastQ p n i qs).getD k 0 = (lastQ p n j qs).getD k 0 := fun h => hij (h1.trans ((e.1 h).1 h1).symm)
        rw [if_neg hne]
        by_cases h2 : j < k
        · rw [if_neg (by omega), if_pos h2, if_pos (by omega), if_pos (by omega)]; rfl
        · rw [if_neg (by omega), if_neg h2, if_pos (by omega), if_neg (by omega)]; rfl
      · by_cases h2 : j = k
        · have hne : ¬ (lastQ p n i qs).getD k 0 = (lastQ p n j qs).getD k 0 := fun h => h1 ((e.1 h).2 h2)
          rw [if_neg hne]
          by_cases h3 : i < k
          · rw [if_pos h3, if_neg (by omega), if_pos (by omega), if_pos (by omega)]; rfl
          · rw [if_neg h3, if_neg (by omega), if_neg (by omega), if_pos (by omega)]; rfl
        · have heq : (lastQ p n i qs).getD k 0 = (lastQ p n j qs).getD k 0 := e.2 ⟨fun h => absurd h h1, fun h => absurd h h2⟩
          rw [if_pos heq, Int.add_zero]
          by_cases h3 : i < k <;> by_cases h4 : j < k <;> simp [h3, h4, show ∀ a, a < k → a < k + 1 from fun a h => by omega] <;> omega

theorem chunkL_flat (xs : List Int) (r : Nat) : ∀ k, (chunkL xs r k).flatten = xs.take (k * r)
  | 0 => by simp [chunkL]
  | k + 1 => by
    rw [chunkL_succ, List.flatten_append, chunkL_flat xs r k, Nat.add_mul, Nat.one_mul, List.take_add]
    simp
theorem chunkL_same {xs ys : List Int} {r k : Nat} (hx : xs.length = k * r) (hy : ys.length = k * r) (h : chunkL xs r k = chunkL ys r k) : xs = ys := by
  have := congrArg List.flatten h
  rwa [chunkL_flat, chunkL_flat, List.take_of_length_le (by omega), List.take_of_length_le (by omega)] at this
/-- The queries are the same exactly if the tapes are. -/
theorem queries_same {p : Int} {N s1 i : Nat} {xs ys : List Int} (hx : xs.length = s1 * N) (hy : ys.length = s1 * N) :
    ((chunkL xs N s1 ++ [lastQ p N i (chunkL xs N s1)]) == (chunkL ys N s1 ++ [lastQ p N i (chunkL ys N s1)])) = (ys == xs) := by
  rw [Bool.eq_iff_iff, beq_iff_eq, beq_iff_eq]
  constructor
  · intro h
    have h1 := (List.append_inj h (by rw [chunkL_len, chunkL_len])).1
    exact (chunkL_same hx hy h1).symm
  · rintro rfl; rfl
end Go.Proofs.Ytefgjkkgddeemaa
