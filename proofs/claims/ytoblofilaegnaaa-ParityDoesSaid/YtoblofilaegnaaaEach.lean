/-
  The iterator over the rows of a matrix: what it hands on, and when. Conditions: the rows read as their numbers.
-/
import Derived.Shelf.Abstract
import Derived.Shelf.RegionOpen
import Derived.WalkKit
import Derived.OwnWalkIn
import Derived.TacticsInMore
import Derived.LoopNIn
import Derived.LoopIn
import Derived.Test.YtoblofilaegnaaaPlain
import Derived.Test.YtoblofilaegnaaaRes
import Derived.Test.YtoblofilaegnaaaMat
namespace Go.Proofs.Ytoblofilaegnaaa
open Go.RowKit Go.Shelf
set_option linter.unusedVariables false
attribute [local go_sem] Oper.semAt_some

/-- A row that lies in the world w0. -/
def RowElt (w0 : World) (B : Nat) (rows : List (List Int)) : Type := {e : (Option Addr × Nat × Nat) × List Int // Ints w0 B e.1.1 e.1.2.1 e.2 ∧ e.1.2.1 ≤ 17592186044416 ∧ e.2 ∈ rows}
def rowsOf {w0 : World} {B : Nat} {rows : List (List Int)} (pre : List (RowElt w0 B rows)) : List (List Int) := pre.map fun e => e.1.2
theorem rowsOf_snoc {w0 : World} {B : Nat} {rows : List (List Int)} (pre : List (RowElt w0 B rows)) (x : RowElt w0 B rows) : rowsOf (pre ++ [x]) = rowsOf pre ++ [x.1.2] := by simp [rowsOf]
theorem rowsOf_len {w0 : World} {B : Nat} {rows : List (List Int)} (pre : List (RowElt w0 B rows)) : (rowsOf pre).length = pre.length := by simp [rowsOf]

theorem each_any (A : Option Addr) (n c : Nat) (w : World) :
    Calls Try.prog 153 #[.slice A n c] w fun e w' => e = .returned (.func (.func 174) #[] #[.pointer (some ⟨w.heap.size, 0, none⟩)]) ∧ w' = w.alloc (.cells #[.slice A n c] 25) := by
  go_enter Try.func153, Try.ntmps153
  go_wp2
  go_ret
  exact ⟨rfl, rfl⟩

theorem take_succ_rows (l : List (List Int)) {j : Nat} (hj : j < l.length) : l.take (j + 1) = l.take j ++ [l.getD j []] := by
  rw [List.take_add_one, List.getD_eq_getElem?_getD, List.getElem?_eq_getElem hj]; rfl

set_option maxRecDepth 100000 in
set_option maxHeartbeats 2000000 in
/-- The closure of each. -/
theorem each1_in (n : Nat) (hn : 1 ≤ n) (l Bs n₁ gs m lo B : Nat) (A : Option Addr) (cap : Nat) (rows : List (List Int)) (w0 : World) (hm : m ≤ 17592186044416) (J Jx : List (RowElt w0 B rows) → World → Prop)
    (hY : ∀ pre x W, J pre W → pre.length < rows.length → YieldAt Fence.wide (n - 1) Try.prog l #[.slice x.1.1.1 x.1.1.2.1 x.1.1.2.2] W fun e W' =>
      (e = .returned (.bool true) ∧ J (pre ++ [x]) W' ∧ KeepsB n₁ gs W W') ∨ (e = .returned (.bool false) ∧ Jx (pre ++ [x]) W'))
    (W : World) (hW0 : Below w0.heap.size w0 W) (hgs : gs < n₁) (hB0 : B ≤ w0.heap.size) (hBg : B ≤ gs) (hBs0 : Bs < n₁) (hBs1 : Bs ≠ gs) (hBs : W.cell? ⟨Bs, 0, none⟩ = some (.slice A m cap)) (hM : Mat w0 lo B A m rows) (h0 : J [] W) :
    CallsIn Fence.wide n Try.prog 174 #[.func (.yield l) #[] #[], .pointer (some ⟨Bs, 0, none⟩)] W fun e W' => (∃ v, e = .returned v) ∧
      ((∃ ys, rowsOf ys = rows ∧ J ys W') ∨ (∃ pre, (∃ k, rowsOf pre = rows.take k) ∧ Jx pre W')) := by
  have HL := Lib.hid hM.len
  refine callsIn_of_wp Try.func174 rfl trivial ?_ rfl
  simp only [Try.ntmps174, List.size_toArray, List.length_cons, List.length_nil, Nat.reduceAdd, Nat.reduceSub, Array.replicate_succ, Array.replicate_zero, List.push_toArray, List.append_toArray, List.nil_append, List.cons_append]
  gi_wp2
  gi_loopw [7] (fun i wr => ∃ (k : Nat) (pre : List (RowElt w0 B rows)), k ≤ m ∧ i = .int .i64 k ∧ Hid (rowsOf pre = rows.take k) ∧ J pre wr ∧ KeepsB n₁ gs W wr)
    (fun i _ => m - (intOf i).toNat)
  case atStart => exact ⟨0, [], Nat.zero_le _, rfl, Lib.hid rfl, h0, KeepsB.refl _ _ _⟩
  case round =>
    obtain ⟨k, pre, hk, rfl, HE, hJs, hnx⟩ := hrel
    by_cases hlt : k < m
    · obtain ⟨b, off, A1, n1, c1, rfl, _, hb1, hcell, hn1, hI, _⟩ := hM.at_ hlt
      have hcv := (hnx.cell (b := b) (o := off + k) (by omega) (by omega)).trans ((hW0.cell (p := ⟨b, off + k, none⟩) (by show b < _; omega)).trans hcell)
      have hk0 : (0 : Int) ≤ (k : Int) := by omega
      have hkm : (k : Int) < (m : Int) := by omega
      have hmem : rows.getD k [] ∈ rows := by
        rw [List.getD_eq_getElem?_getD, List.getElem?_eq_getElem (by rw [HL.out]; exact hlt)]
        exact List.getElem_mem _
      have hlen : pre.length < rows.length := by
        have := congrArg List.length HE.out
        rw [rowsOf_len, List.length_take] at this
        rw [HL.out] at this ⊢
        omega
      have HT := Lib.hid (take_succ_rows rows (j := k) (by rw [HL.out]; exact hlt))
      obtain ⟨fn, tmps, assign, body, hy, hR⟩ := hY pre ⟨((A1, n1, c1), rows.getD k []), hI, hn1, hmem⟩ _ hJs hlen
      dsimp only at hy
      have HS2 : Hid (rowsOf (pre ++ [⟨((A1, n1, c1), rows.getD k []), hI, hn1, hmem⟩]) = rows.take (k + 1)) := Lib.hid ((rowsOf_snoc pre ⟨((A1, n1, c1), rows.getD k []), hI, hn1, hmem⟩).trans (by rw [HE.out, HT.out]))
      clear hJs
      gi_wp2
      refine hR.mono ?_
      rintro e W3 (⟨rfl, hJ3, hk3⟩ | ⟨rfl, hJx3⟩)
      · gi_wp2
        go_roundw
        case rel => exact ⟨k + 1, _, by omega, by go_num, HS2, hJ3, hnx.trans hk3⟩
        case measure => simp [intOf]; omega
      · gi_wp2
        refine bodyPost_ret (results_none rfl _ _ _) rfl ?_
        exact ⟨⟨_, rfl⟩, .inr ⟨_, ⟨k + 1, HS2.out⟩, hJx3⟩⟩
    · have hkn : k = m := by omega
      subst hkn
      have hE := HE.out
      rw [List.take_of_length_le (by rw [HL.out]; omega)] at hE
      have HE2 := Lib.hid hE
      clear hE
      gi_wp2
      go_end0
      exact ⟨⟨_, rfl⟩, .inl ⟨pre, HE2.out, hJs⟩⟩
end Go.Proofs.Ytoblofilaegnaaa
