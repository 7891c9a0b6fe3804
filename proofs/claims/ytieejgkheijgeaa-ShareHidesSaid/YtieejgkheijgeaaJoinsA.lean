/-
  The points of shares in another order, no program in sight. No conditions.
-/
import Derived.Test.YtieejgkheijgeaaShareA
import Derived.Test.YtieejgkheijgeaaOrder
namespace Go.Proofs.Ytieejgkheijgeaa
set_option linter.unusedVariables false

theorem ord_apart {M : Nat} {ks : List Int} (h : IsOrder M ks) (j k : Nat) (hjk : j < k) (hk : k < M) : ks.getD j 0 ≠ ks.getD k 0 := by
  have hl := order_len h
  have hnd : ks.Nodup := h.nodup_iff.2 (by unfold rangeI; rw [List.nodup_iff_pairwise_ne, List.pairwise_map]; exact (List.nodup_range).imp fun hne e => hne (by injection e))
  rw [List.getD_eq_getElem?_getD, List.getD_eq_getElem?_getD, List.getElem?_eq_getElem (by omega), List.getElem?_eq_getElem (by omega)]
  intro e
  have := (List.nodup_iff_pairwise_ne.1 hnd)
  rw [List.pairwise_iff_getElem] at this
  exact this j k (by omega) (by omega) hjk e

/-- The points 1, 2, .. in another order. -/
def ordP (ks : List Int) : List Int := ks.map fun k => k + 1
theorem ordP_len (ks : List Int) : (ordP ks).length = ks.length := by simp [ordP]
theorem ordP_at {ks : List Int} {j : Nat} (hj : j < ks.length) : (ordP ks).getD j 0 = ks.getD j 0 + 1 := by
  unfold ordP
  rw [List.getD_eq_getElem?_getD, List.getElem?_map, List.getD_eq_getElem?_getD, List.getElem?_eq_getElem hj]; rfl
theorem ordP_allP {p : Int} {M : Nat} {ks : List Int} (h : IsOrder M ks) (hM : (M : Int) < p) : allP p (ordP ks) = true := allP_iff.2 fun x hx => by
  obtain ⟨k, hk, rfl⟩ := List.mem_map.1 hx
  have := order_mem h k hk
  omega
theorem ordP_apart {M : Nat} {ks : List Int} (h : IsOrder M ks) : Apart2 (ordP ks) := fun j k h1 h2 => by
  rw [ordP_len, order_len h] at h2
  rw [ordP_at (by rw [order_len h]; omega), ordP_at (by rw [order_len h]; omega)]
  have := ord_apart h j k h1 h2
  omega
end Go.Proofs.Ytieejgkheijgeaa
