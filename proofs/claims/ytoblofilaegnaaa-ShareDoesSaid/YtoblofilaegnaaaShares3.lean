/-
  Rows of shares that the call itself made: another value; blocks beside each other. No conditions.
-/
import Derived.Test.YtoblofilaegnaaaGSha
import Derived.Test.YtoblofilaegnaaaShares2
namespace Go.Proofs.Ytoblofilaegnaaa
open Go.RowKit
set_option linter.unusedVariables false

theorem shV_set (v : Int) : ∀ us ys : List Int, us.length = ys.length → ∀ j, j < us.length → (shV us ys).set (j * 2 + 1) (.int .i64 v) = shV us (ys.set j v)
  | [], [], _, j, hj => by simp at hj
  | u :: us, y :: ys, h, j, hj => by
    cases j with
    | zero => rfl
    | succ j =>
      have := shV_set v us ys (by simpa using h) j (by simpa using hj)
      rw [show (j + 1) * 2 + 1 = (j * 2 + 1) + 1 + 1 by omega]
      simp only [shV, List.set_cons_succ, this]

theorem OwnS.form {w : World} {base n c : Nat} {A : Option Addr} {us ys : List Int} (h : OwnS w base A n c us ys) (hn : 0 < n) : ∃ g, A = some ⟨g, 0, none⟩ ∧ base ≤ g ∧ g < w.heap.size := by
  obtain ⟨g, cap, hv, h1, h2⟩ := World.ownsRow.form h.2.2 hn
  injection hv with hA
  exact ⟨g, hA, h1, h2⟩
theorem OwnS.frozenAt {w : World} {base n c g : Nat} {us ys : List Int} (h : OwnS w base (some ⟨g, 0, none⟩) n c us ys) (j : Nat) : w.frozen? ⟨g, j, none⟩ = false := World.ownsRow.frozenAt h.2.2 j
theorem OwnS.stored {w : World} {base n c g : Nat} {us ys : List Int} (h : OwnS w base (some ⟨g, 0, none⟩) n c us ys) {j : Nat} (hj : j < n) (v : Int) : OwnS (w.setCell ⟨g, j * 2 + 1, none⟩ (.int .i64 v)) base (some ⟨g, 0, none⟩) n c us (ys.set j v) := by
  refine ⟨h.1, by rw [List.length_set]; exact h.2.1, ?_⟩
  have := (World.ownsRow.stored h.2.2 (j * 2 + 1) (.int .i64 v)).1
  rw [shV_set v us ys (by rw [h.1, h.2.1]) j (by rw [h.1]; exact hj)] at this
  exact this

theorem OwnS.cellAt {w : World} {base n c g : Nat} {us ys : List Int} (h : OwnS w base (some ⟨g, 0, none⟩) n c us ys) {j : Nat} (hj : j < n) : w.cell? ⟨g, j * 2, none⟩ = some (.int .i64 (us.getD j 0)) ∧ w.cell? ⟨g, j * 2 + 1, none⟩ = some (.int .i64 (ys.getD j 0)) := by
  have hs := shV_at us ys (by rw [h.1, h.2.1]) j (by rw [h.1]; exact hj)
  exact ⟨(World.ownsRow.cellAt h.2.2 (j * 2) (by omega)).trans hs.1, (World.ownsRow.cellAt h.2.2 (j * 2 + 1) (by omega)).trans hs.2⟩

/-- A block that was made right after another one. -/
theorem Blk.new1 (w : World) (o : Obj) (t : TypeId) (cs : Array Value) : Blk ((w.alloc o).alloc (.cells cs t)) (w.heap.size + 1) t cs := by
  have := Blk.new (w.alloc o) t cs
  rwa [World.size_alloc] at this
/-- A block of numbers reads as them. -/
theorem Blk.ints {w : World} {b : Nat} {t : TypeId} {cs : Array Value} (h : Blk w b t cs) (xs : List Int) (n : Nat) (hcs : cs = (vals xs).toArray) (hn : xs.length = n) : Ints w w.heap.size (some ⟨b, 0, none⟩) n xs :=
  ⟨hn, fun _ => ⟨b, 0, rfl, h.lt, fun j hj => by
    have h1 := h.cell (0 + j)
    rw [Nat.zero_add] at h1
    rw [Nat.zero_add]
    refine h1.trans ?_
    rw [hcs, vals, List.getElem?_toArray, List.getElem?_map, List.getElem?_eq_getElem (by omega), List.getD_eq_getElem?_getD, List.getElem?_eq_getElem (by omega)]
    rfl⟩⟩
end Go.Proofs.Ytoblofilaegnaaa
