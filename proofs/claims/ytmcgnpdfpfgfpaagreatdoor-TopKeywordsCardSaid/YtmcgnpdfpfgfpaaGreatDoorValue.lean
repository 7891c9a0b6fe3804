/-
  What residue's Value hands back: the range over slices.Backward. Conditions: the list reads as its numbers, all of them elements.
-/
import Derived.RangeFuncNested
import Derived.RangeFuncBound
import Derived.RangeFuncCalls
import Derived.RangeFuncLeaves
import Derived.RangeFuncBox
import Derived.Shelf.Abstract
import Derived.Shelf.RegionOpen
import Derived.WalkKit
import Derived.OwnWalkIn
import Derived.TacticsInMore
import Derived.LoopNIn
import Derived.LoopIn
import Derived.Test.YtmcgnpdfpfgfpaaGreatDoorGBas
import Derived.Test.YtmcgnpdfpfgfpaaGreatDoorPlain
namespace Go.Proofs.YtmcgnpdfpfgfpaaGreatDoor
open Go.RowKit Go.Shelf
set_option linter.unusedVariables false
attribute [local go_sem] Oper.semAt_some

/-- What lay below n₁ lies as it lay, but for block gs. -/
def KeepsBut (n₁ gs : Nat) (W W' : World) : Prop := ∀ k, k < n₁ → k ≠ gs → W'.heap[k]? = W.heap[k]?
theorem KeepsBut.refl (n₁ gs : Nat) (W : World) : KeepsBut n₁ gs W W := fun _ _ _ => rfl
theorem KeepsBut.trans {n₁ gs : Nat} {A B C : World} (h : KeepsBut n₁ gs A B) (k : KeepsBut n₁ gs B C) : KeepsBut n₁ gs A C := fun i h1 h2 => (k i h1 h2).trans (h i h1 h2)
theorem KeepsBut.cell {n₁ gs : Nat} {W W' : World} (h : KeepsBut n₁ gs W W') {b o : Nat} (h1 : b < n₁) (h2 : b ≠ gs) : W'.cell? ⟨b, o, none⟩ = W.cell? ⟨b, o, none⟩ := World.cell?_of_block (h b h1 h2)
theorem KeepsBut.put {n₁ gs : Nat} {w : World} (hn : n₁ ≤ w.heap.size) (W : World) (l : Nat) (o o' : Obj) (hl : w.heap.size ≤ l) (_ : W.heap[l]? = some o) (_ : o.isCells = false) (_ : o.isWalk = false) : KeepsBut n₁ gs W (W.putObj l o') :=
  fun k hk _ => World.putObj_heap_other (by omega)

set_option maxRecDepth 100000 in
set_option maxHeartbeats 2000000 in
/-- The closure of slices.Backward. -/
theorem back1_in (n : Nat) (hn : 1 ≤ n) (l Bs n₁ gs : Nat) (p : Int) (hp : 2 ≤ p) (A : Option Addr) (cap : Nat) (zs : List Int) (hz : allP p zs = true) (hreach : zs.length ≤ 17592186044416) (J Jx : List (PlaceElt p) → World → Prop)
    (hY : ∀ pre x W, J pre W → pre.length < zs.length → YieldAt Fence.wide (n - 1) Tryz.prog l #[.int .i64 (x.1.1 : Int), .int .i64 x.1.2] W fun e W' =>
      (e = .returned (.bool true) ∧ J (pre ++ [x]) W' ∧ KeepsBut n₁ gs W W') ∨ (e = .returned (.bool false) ∧ Jx (pre ++ [x]) W'))
    (W : World) (hgs : gs < n₁) (hBs0 : Bs < n₁) (hBs1 : Bs ≠ gs) (hBs : W.cell? ⟨Bs, 0, none⟩ = some (.slice A zs.length cap)) (hc : Ints W gs A zs.length zs) (h0 : J [] W) :
    CallsIn Fence.wide n Tryz.prog 84 #[.func (.yield l) #[] #[], .pointer (some ⟨Bs, 0, none⟩)] W fun e W' => (∃ v, e = .returned v) ∧
      ((∃ ys, ys = uptoElt (backElt p hp zs hz) zs.length ∧ J ys W') ∨ (∃ pre, (∃ k, k ≤ zs.length ∧ pre = uptoElt (backElt p hp zs hz) k) ∧ Jx pre W')) := by
  refine callsIn_of_wp Tryz.func84 rfl trivial ?_ rfl
  simp only [Tryz.ntmps84, List.size_toArray, List.length_cons, List.length_nil, Nat.reduceAdd, Nat.reduceSub, Array.replicate_succ, Array.replicate_zero, List.push_toArray, List.append_toArray, List.nil_append, List.cons_append]
  gi_wp2
  gi_loopw [3] (fun i wr => ∃ (k : Nat) (iv : Int), k ≤ zs.length ∧ i = .int .i64 iv ∧ Hid (iv = (zs.length : Int) - 1 - k) ∧ J (uptoElt (backElt p hp zs hz) k) wr ∧ KeepsBut n₁ gs W wr)
    (fun i _ => (intOf i + 1).toNat)
  case atStart => exact ⟨0, _, Nat.zero_le _, rfl, Lib.hid (by omega), h0, KeepsBut.refl _ _ _⟩
  case round =>
    obtain ⟨k, iv, hk, rfl, HI, hJs, hnx⟩ := hrel
    have hBx : wr.cell? ⟨Bs, 0, none⟩ = some (.slice A zs.length cap) := (hnx.cell hBs0 hBs1).trans hBs
    by_cases hlt : k < zs.length
    · obtain ⟨j, hj⟩ : ∃ j : Nat, zs.length - 1 - k = j := ⟨_, rfl⟩
      obtain rfl : iv = (j : Int) := by have := HI.out; omega
      obtain ⟨b, off, rfl, hb, hcell⟩ := hc.2 (by omega)
      have hcx := (hnx.cell (b := b) (o := off + j) (by omega) (by omega)).trans (hcell j (by omega))
      obtain ⟨fn, tmps, assign, body, hy, hR⟩ := hY _ (backElt p hp zs hz k) wr hJs (by rw [uptoElt_length]; exact hlt)
      rw [backElt_at hlt, hj] at hy
      dsimp only at hy
      have hjl : (j : Int) < (zs.length : Int) := by omega
      have HJ := Lib.hid hj
      have hl2 : (zs.length : Int) ≤ 17592186044416 := by omega
      generalize zs.getD j 0 = v at hy hcx
      clear hcell hj
      gi_wp2
      refine hR.mono ?_
      rintro e W3 (⟨rfl, hJ3, hk3⟩ | ⟨rfl, hJx3⟩)
      · gi_wp2
        go_roundw
        case rel => exact ⟨k + 1, _, by omega, rfl, Lib.hid (by have := HI.out; omega), by rw [uptoElt_succ]; exact hJ3, hnx.trans hk3⟩
        case measure => simp [intOf]
      · gi_wp2
        refine bodyPost_ret (results_none rfl _ _ _) rfl ?_
        exact ⟨⟨_, rfl⟩, .inr ⟨_, ⟨k + 1, by omega, (uptoElt_succ _ _).symm⟩, hJx3⟩⟩
    · have hkn : k = zs.length := by omega
      have hiv : iv < 0 := by have := HI.out; omega
      rw [hkn] at hJs
      gi_wp2
      go_end0
      exact ⟨⟨_, rfl⟩, .inl ⟨_, rfl, hJs⟩⟩

set_option maxHeartbeats 1000000 in
/-- slices.Backward: the slice is boxed; the function value captures the box. -/
theorem back_any (A : Option Addr) (n c : Nat) (w : World) :
    Calls Tryz.prog 50 #[.slice A n c] w fun e w' => e = .returned (.func (.func 84) #[] #[.pointer (some ⟨w.heap.size, 0, none⟩)]) ∧ w' = w.alloc (.cells #[.slice A n c] 22) := by
  go_enter Tryz.func50, Tryz.ntmps50
  go_wp2
  go_ret
  exact ⟨rfl, rfl⟩

/-- What a round of Value leaves. -/
theorem valueStep {p x : Int} {w W : World} {pre : List (PlaceElt p)} {y : PlaceElt p} (hB : Below w.heap.size w W) (hcp : W.cell? ⟨w.heap.size, 0, none⟩ = some (.int .i64 p)) (hcx : W.cell? ⟨w.heap.size + 1, 0, none⟩ = some (.int .i64 x))
    (hcs : W.cell? ⟨w.heap.size + 1 + 1, 0, none⟩ = some (.int .i64 (valueSo p x pre))) (hfs : W.frozen? ⟨w.heap.size + 1 + 1, 0, none⟩ = false) {u : Int} (hu : u = valueSo p x (pre ++ [y])) :
    KeepsBut (w.heap.size + 4) (w.heap.size + 1 + 1) W (W.setCell ⟨w.heap.size + 1 + 1, 0, none⟩ (.int .i64 u)).drew ∧
    (((W.setCell ⟨w.heap.size + 1 + 1, 0, none⟩ (.int .i64 u)).drew.cell? ⟨w.heap.size, 0, none⟩ = some (.int .i64 p) ∧ (W.setCell ⟨w.heap.size + 1 + 1, 0, none⟩ (.int .i64 u)).drew.cell? ⟨w.heap.size + 1, 0, none⟩ = some (.int .i64 x) ∧
      (W.setCell ⟨w.heap.size + 1 + 1, 0, none⟩ (.int .i64 u)).drew.cell? ⟨w.heap.size + 1 + 1, 0, none⟩ = some (.int .i64 (valueSo p x (pre ++ [y]))) ∧ (W.setCell ⟨w.heap.size + 1 + 1, 0, none⟩ (.int .i64 u)).drew.frozen? ⟨w.heap.size + 1 + 1, 0, none⟩ = false) ∧
      Below w.heap.size w (W.setCell ⟨w.heap.size + 1 + 1, 0, none⟩ (.int .i64 u)).drew) := by
  subst hu
  refine ⟨fun k _ hk => Below.heap_setCell W ⟨w.heap.size + 1 + 1, 0, none⟩ _ k hk, ⟨?_, ?_, ?_, ?_⟩, (hB.setCell (p := ⟨w.heap.size + 1 + 1, 0, none⟩) (by simp; omega) _).drew⟩
  · exact (World.cell?_setCell_other W _ _ _ (fun e => by injection e with e _ _; omega)).trans hcp
  · exact (World.cell?_setCell_other W _ _ _ (fun e => by injection e with e _ _; omega)).trans hcx
  · exact World.cell?_setCell_same' _ _ _ (by rw [hcs]; rfl)
  · exact (World.frozen?_setCell _ _ _ _).trans hfs

set_option maxRecDepth 100000 in
set_option maxHeartbeats 4000000 in
/-- residue's Value. -/
theorem value_any (p x : Int) (A : Option Addr) (n c : Nat) (zs : List Int) (w : World) (hp : 2 ≤ p ∧ p ≤ 65521) (hx : 0 ≤ x ∧ x < p) (h : Ints w w.heap.size A n zs) (hz : allP p zs = true) (hn : n ≤ 17592186044416) :
    Calls Tryz.prog 117 #[.int .i64 p, .slice A n c, .int .i64 x] w fun e w' => e = .returned (.int .i64 (valueP p x zs)) ∧ Below w.heap.size w w' := by
  have hl := h.len
  subst hl
  refine (callsIn_wide (n := 5)).1 ?_
  refine callsIn_of_wp_marks Tryz.func117 rfl trivial ?_ rfl
  simp only [Tryz.ntmps117, List.size_toArray, List.length_cons, List.length_nil, Nat.reduceAdd, Nat.reduceSub, Array.replicate_succ, Array.replicate_zero, List.push_toArray, List.append_toArray, List.nil_append, List.cons_append]
  gi_wp2_with (refine ⟨trivial, ?_⟩; gi_at_call 50; refine (callsIn_wide.2 (back_any A zs.length c _)).mono ?_; rintro e w' ⟨rfl, rfl⟩)
  obtain ⟨W4, hW4⟩ : ∃ W4, (((w.alloc (.cells #[.int .i64 p] 104)).alloc (.cells #[.int .i64 x] 3)).alloc (.cells #[.int .i64 0] 3)).alloc (.cells #[.slice A zs.length c] 22) = W4 := ⟨_, rfl⟩
  have hsz : W4.heap.size = w.heap.size + 4 := by rw [← hW4]; simp
  have bP : Boxed W4 w.heap.size 104 (.int .i64 p) := by rw [← hW4]; exact (((Boxed.new w _ _).alloc _).alloc _).alloc _
  have bX : Boxed W4 (w.heap.size + 1) 3 (.int .i64 x) := by rw [← hW4]; have := (((Boxed.new (w.alloc (.cells #[.int .i64 p] 104)) 3 (.int .i64 x)).alloc (.cells #[.int .i64 0] 3)).alloc (.cells #[.slice A zs.length c] 22)); simpa using this
  have bS : Boxed W4 (w.heap.size + 1 + 1) 3 (.int .i64 0) := by rw [← hW4]; have := ((Boxed.new ((w.alloc (.cells #[.int .i64 p] 104)).alloc (.cells #[.int .i64 x] 3)) 3 (.int .i64 0)).alloc (.cells #[.slice A zs.length c] 22)); simpa using this
  have bN : Boxed W4 (w.heap.size + 1 + 1 + 1) 22 (.slice A zs.length c) := by rw [← hW4]; have := (Boxed.new (((w.alloc (.cells #[.int .i64 p] 104)).alloc (.cells #[.int .i64 x] 3)).alloc (.cells #[.int .i64 0] 3)) 22 (.slice A zs.length c)); simpa using this
  have hB0 : Below w.heap.size w W4 := by rw [← hW4]; exact ballocs (ballocs (ballocs (bbox _) _) _) _
  have hI4 : Ints W4 (w.heap.size + 1 + 1) A zs.length zs := (h.below hB0).more (by omega)
  rw [hW4]
  clear hW4
  refine wpIn_rangeFunc_ownG (α := PlaceElt p) rfl (by omega) (gf := 84) (lb := #[.pointer (some ⟨w.heap.size + 1 + 1 + 1, 0, none⟩)]) rfl trivial (enters_of Tryz.func84 (by kernel_rfl) rfl)
    (encs := fun y : PlaceElt p => #[Value.int .i64 (y.1.1 : Int), Value.int .i64 y.1.2]) (Kp := KeepsBut (w.heap.size + 4) (w.heap.size + 1 + 1)) (S := fun ys => ys = uptoElt (backElt p hp.1 zs hz) zs.length) (Sp := fun pre => ∃ k, k ≤ zs.length ∧ pre = uptoElt (backElt p hp.1 zs hz) k) (N := zs.length) (w0 := W4)
    (fun l J Jx W hW _ _ hY h0 => back1_in _ (by omega) l (w.heap.size + 1 + 1 + 1) (w.heap.size + 4) (w.heap.size + 1 + 1) p hp.1 A c zs hz hn J Jx hY W (by omega) (by omega) (by omega) ((hW.cell (p := ⟨w.heap.size + 1 + 1 + 1, 0, none⟩) (by simp; omega)).trans bN.cell) (hI4.below (hW.mono (by omega))) h0)
    KeepsBut.trans (KeepsBut.put (by omega)) (Below.refl _ _) (fun _ => rfl)
    (fun pre W => (W.cell? ⟨w.heap.size, 0, none⟩ = some (.int .i64 p) ∧ W.cell? ⟨w.heap.size + 1, 0, none⟩ = some (.int .i64 x) ∧ W.cell? ⟨w.heap.size + 1 + 1, 0, none⟩ = some (.int .i64 (valueSo p x pre)) ∧ W.frozen? ⟨w.heap.size + 1 + 1, 0, none⟩ = false) ∧ Below w.heap.size w W)
    (fun _ _ _ => False)
    (OwnFrom.and (Own.from (fun s A B row hs hg hr => ⟨cell_kept hs.1 hg hr, cell_kept hs.2.1 hg hr, cell_kept hs.2.2.1 hg hr, (frozen_kept hs.2.2.1 hg hr).trans hs.2.2.2⟩) _) (ownFrom_below (Nat.le_refl _) (by omega)))
    (fun _ _ _ _ _ hs _ _ => hs)
    ⟨⟨bP.cell, bX.cell, bS.cell, bS.frozen⟩, hB0⟩
    (fun y => { tmps := #[.int .i64 p, .slice A zs.length c, .int .i64 x, .pointer (some ⟨w.heap.size, 0, none⟩), undef, .pointer (some ⟨w.heap.size + 1, 0, none⟩), .int .i64 0, .pointer (some ⟨w.heap.size + 1 + 1, 0, none⟩), undef, .int .i64 y.1.2, .slice A zs.length c, .func (.func 84) #[] #[.pointer (some ⟨w.heap.size + 1 + 1 + 1, 0, none⟩)], .int .i64 (y.1.1 : Int), .int .i64 y.1.2, undef, undef, undef, undef, undef, undef, undef, undef], defers := [] }) ?assign ?body ?done ?stop
  case assign =>
    intro l y W K hK
    gi_wp2
    exact hK
  case body =>
    rintro l pre y W ⟨⟨hcp, hcx, hcs, hfs⟩, hB⟩ _
    have hd : 1 ≤ 5 - 1 - 1 := by omega
    have hmx : Tryz.prog.follows .mixedOrders = true := by kernel_rfl
    have hs := valueSo_in hp.1 x pre
    have hm := mulP_in (valueSo p x pre) x hp.1
    gi_wp2
    gi_region_with_o (first
      | (refine ⟨trivial, ?_⟩; gi_at_call 119; refine (CallsIn.inRound l (callsIn_wide.2 (mulP_any p _ x _ hp hs hx))).mono ?_; rintro e w' ⟨rfl, rfl⟩)
      | (refine ⟨trivial, ?_⟩; gi_at_call 118; refine (CallsIn.inRound l (callsIn_wide.2 (addP_any p _ y.1.2 _ hp hm y.2))).mono ?_; rintro e w' ⟨rfl, rfl⟩))
    all_goals gi_wp2
    all_goals (try go_bits)
    all_goals exact ⟨((KeepsOthers.setCell _ _ _).trans (KeepsOthers.drew _)).from _, valueStep hB hcp hcx hcs hfs (by rw [valueSo_snoc])⟩
  case done =>
    rintro D ys W hD rfl ⟨⟨_, _, hcs, _⟩, hB⟩ hK
    gi_wp2
    refine ⟨by simp, .inl ⟨_, _, rfl, run_takeDeferred hK, ?_⟩⟩
    refine ⟨_, results_tmp rfl _ _ _, ?_, hB.trans (belowK_b (w := w) (Nat.le_refl _) W D _ _ (by omega) hK rfl rfl)⟩
    refine ret_int ?_
    rw [valueSo_all hp.1 x zs hz _ (Nat.le_refl _), Nat.sub_self, List.drop_zero]
  case stop =>
    rintro D cc pre W _ _ hh _
    exact hh.elim
end Go.Proofs.YtmcgnpdfpfgfpaaGreatDoor
