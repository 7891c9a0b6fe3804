/-
  The iterator over the cells of a word that are known: what it hands on, and when. Conditions: the list of cells reads as their values and marks.
-/
import Derived.RangeFuncNested
import Derived.RangeFuncBound
import Derived.RangeFuncCalls
import Derived.RangeFuncLeaves
import Derived.RangeFuncBox
import Derived.Shelf.Abstract
import Derived.Shelf.RegionOpen
import Derived.WalkKit
import Derived.OwnWalkIn
import Derived.TacticsInMore
import Derived.LoopNIn
import Derived.LoopIn
import Derived.Test.YtnjdjcgandfnfaaDoorRes
import Derived.Test.YtnjdjcgandfnfaaDoorPlain
import Derived.Test.YtnjdjcgandfnfaaDoorKeeps
namespace Go.Proofs.YtnjdjcgandfnfaaDoor
open Go.RowKit Go.Shelf
set_option linter.unusedVariables false
attribute [local go_sem] Oper.semAt_some

/-- A slice of cells reads as values and marks. -/
def Cel (w : World) (B : Nat) (A : Option Addr) (n : Nat) (vs : List Int) (bs : List Bool) : Prop :=
  vs.length = n ∧ bs.length = n ∧ (0 < n → ∃ b off, A = some ⟨b, off, none⟩ ∧ b < B ∧ ∀ j, j < n → w.cell? ⟨b, off + j * 2, none⟩ = some (.int .i64 (vs.getD j 0)) ∧ w.cell? ⟨b, off + j * 2 + 1, none⟩ = some (.bool (bs.getD j false)))
theorem Cel.below {w w' : World} {B : Nat} {A : Option Addr} {n : Nat} {us : List Int} {ys : List Bool} (h : Cel w B A n us ys) (hb : Below B w w') : Cel w' B A n us ys :=
  ⟨h.1, h.2.1, fun hn => by
    obtain ⟨b, off, e, hl, hc⟩ := h.2.2 hn
    exact ⟨b, off, e, hl, fun j hj => ⟨(hb.cell (p := ⟨b, off + j * 2, none⟩) hl).trans (hc j hj).1, (hb.cell (p := ⟨b, off + j * 2 + 1, none⟩) hl).trans (hc j hj).2⟩⟩⟩
theorem Cel.more {w : World} {B B' : Nat} {A : Option Addr} {n : Nat} {us : List Int} {ys : List Bool} (h : Cel w B A n us ys) (hB : B ≤ B') : Cel w B' A n us ys :=
  ⟨h.1, h.2.1, fun hn => by
    obtain ⟨b, off, e, hl, hc⟩ := h.2.2 hn
    exact ⟨b, off, e, by omega, hc⟩⟩
theorem Cel.upto {w0 w' : World} {A : Option Addr} {n : Nat} {us : List Int} {ys : List Bool} (h : Cel w0 w0.heap.size A n us ys) (hb : Below w0.heap.size w0 w') : Cel w' w'.heap.size A n us ys := (h.below hb).more hb.size

/-- A known cell, with where it stands. -/
def KnElt (vs : List Int) (bs : List Bool) : Type := {e : Int × Int // e ∈ knL vs bs}
def eltsOf {vs : List Int} {bs : List Bool} (pre : List (KnElt vs bs)) : List (Int × Int) := pre.map fun e => e.1
theorem eltsOf_snoc {vs : List Int} {bs : List Bool} (pre : List (KnElt vs bs)) (x : KnElt vs bs) : eltsOf (pre ++ [x]) = eltsOf pre ++ [x.1] := by simp [eltsOf]
theorem eltsOf_len {vs : List Int} {bs : List Bool} (pre : List (KnElt vs bs)) : (eltsOf pre).length = pre.length := by simp [eltsOf]

theorem known_any (A : Option Addr) (n c : Nat) (w : World) :
    Calls Tryd.prog 81 #[.slice A n c] w fun e w' => e = .returned (.func (.func 88) #[] #[.pointer (some ⟨w.heap.size, 0, none⟩)]) ∧ w' = w.alloc (.cells #[.slice A n c] 25) := by
  go_enter Tryd.func81, Tryd.ntmps81
  go_wp2
  go_ret
  exact ⟨rfl, rfl⟩

set_option maxRecDepth 100000 in
set_option maxHeartbeats 2000000 in
/-- The closure of known. -/
theorem known1_in (n : Nat) (hn : 1 ≤ n) (l Bs n₁ gs m : Nat) (A : Option Addr) (cap : Nat) (vs : List Int) (bs : List Bool) (hm : m ≤ 1000) (J Jx : List (KnElt vs bs) → World → Prop) {Bj : Nat} (hJ : AbidesFrom Bj J)
    (hY : ∀ pre x W, J pre W → pre.length < (knL vs bs).length → YieldAt Fence.wide (n - 1) Tryd.prog l #[.int .i64 x.1.1, .int .i64 x.1.2] W fun e W' =>
      (e = .returned (.bool true) ∧ J (pre ++ [x]) W' ∧ KeepsB n₁ gs W W') ∨ (e = .returned (.bool false) ∧ Jx (pre ++ [x]) W'))
    (W : World) (hW : n₁ ≤ W.heap.size) (hgs : gs < n₁) (hBs0 : Bs < n₁) (hBs1 : Bs ≠ gs) (hBs : W.cell? ⟨Bs, 0, none⟩ = some (.slice A m cap)) (hc : Cel W gs A m vs bs) (h0 : J [] W) :
    CallsIn Fence.wide n Tryd.prog 88 #[.func (.yield l) #[] #[], .pointer (some ⟨Bs, 0, none⟩)] W fun e W' => (∃ v, e = .returned v) ∧
      ((∃ ys, eltsOf ys = knL vs bs ∧ J ys W') ∨ (∃ pre, (∃ k, eltsOf pre = (knL vs bs).take k) ∧ Jx pre W')) := by
  have hvl : vs.length = bs.length := by rw [hc.1, hc.2.1]
  have HVL := Lib.hid hvl
  have HV := Lib.hid hc.1
  clear hvl
  refine callsIn_of_wp Tryd.func88 rfl trivial ?_ rfl
  simp only [Tryd.ntmps88, List.size_toArray, List.length_cons, List.length_nil, Nat.reduceAdd, Nat.reduceSub, Array.replicate_succ, Array.replicate_zero, List.push_toArray, List.append_toArray, List.nil_append, List.cons_append]
  gi_wp2
  gi_loopw [7] (fun i wr => ∃ (k : Nat) (pre : List (KnElt vs bs)), k ≤ m ∧ i = .int .i64 k ∧ Hid (eltsOf pre = knL (vs.take k) (bs.take k)) ∧ J pre wr ∧ KeepsB n₁ gs W wr)
    (fun i _ => m - (intOf i).toNat)
  case atStart => exact ⟨0, [], Nat.zero_le _, rfl, Lib.hid rfl, h0, KeepsB.refl _ _ _⟩
  case round =>
    obtain ⟨k, pre, hk, rfl, HE, hJs, hnx⟩ := hrel
    by_cases hlt : k < m
    · obtain ⟨b, off, rfl, hb, hcell⟩ := hc.2.2 (by omega)
      have hcv := (hnx.cell (b := b) (o := off + k * 2) (by omega) (by omega)).trans (hcell k hlt).1
      have hcb := (hnx.cell (b := b) (o := off + k * 2 + 1) (by omega) (by omega)).trans (hcell k hlt).2
      clear hcell
      have hST := knL_step HVL.out (j := k) (by rw [HV.out]; exact hlt)
      have HMEM : Hid (bs.getD k false = true → ((k : Int) + 1, vs.getD k 0) ∈ knL vs bs) := Lib.hid fun hb => knL_mem HVL.out (by rw [HV.out]; exact hlt) hb
      have HLT : Hid (bs.getD k false = true → pre.length < (knL vs bs).length) := Lib.hid fun hb => by
        have := knL_lt HVL.out (j := k) (by rw [HV.out]; exact hlt) hb
        rw [← HE.out, eltsOf_len] at this; exact this
      have hsz := hnx.1
      have hkw : IntKind.i64.wrap ((k : Int) + 1) = (k : Int) + 1 := IntWalk.i64_in _ (by omega)
      have hk0 : (0 : Int) ≤ (k : Int) := by omega
      have hkm : (k : Int) < (m : Int) := by omega
      generalize vs.getD k 0 = v at *
      have hJa : J pre (wr.alloc (.cells #[.int .i64 v, .bool (bs.getD k false)] 59)) := hJ _ _ _ none hJs (World.grownBy_alloc _ _ none) (fun r e => by cases e)
      have hka : KeepsB n₁ gs W (wr.alloc (.cells #[.int .i64 v, .bool (bs.getD k false)] 59)) := hnx.trans (KeepsB.alloc (by omega) _)
      by_cases hbt : bs.getD k false = true
      · have hmem := HMEM.out hbt
        have hlen := HLT.out hbt
        rw [hbt] at hJa hka hcb hST
        obtain ⟨fn, tmps, assign, body, hy, hR⟩ := hY pre ⟨((k : Int) + 1, v), hmem⟩ _ hJa hlen
        dsimp only at hy
        have HS2 : Hid (eltsOf (pre ++ [⟨((k : Int) + 1, v), hmem⟩]) = knL (vs.take (k + 1)) (bs.take (k + 1))) := Lib.hid ((eltsOf_snoc pre ⟨((k : Int) + 1, v), hmem⟩).trans (by rw [HE.out, hST]; rfl))
        have HS3 : Hid (∃ q, knL (vs.take (k + 1)) (bs.take (k + 1)) = (knL vs bs).take q) := Lib.hid ⟨_, knL_takes HVL.out (k + 1)⟩
        clear hST hJs
        gi_wp2
        refine hR.mono ?_
        rintro e W3 (⟨rfl, hJ3, hk3⟩ | ⟨rfl, hJx3⟩)
        · gi_wp2
          go_roundw
          case rel => exact ⟨k + 1, _, by omega, by go_num, HS2, hJ3, hka.trans hk3⟩
          case measure => simp [intOf]; omega
        · gi_wp2
          refine bodyPost_ret (results_none rfl _ _ _) rfl ?_
          obtain ⟨q, hq⟩ := HS3.out
          exact ⟨⟨_, rfl⟩, .inr ⟨_, ⟨q, HS2.out.trans hq⟩, hJx3⟩⟩
      · have hbf : bs.getD k false = false := by simpa using hbt
        rw [hbf] at hJa hka hcb hST
        have HS2 : Hid (eltsOf pre = knL (vs.take (k + 1)) (bs.take (k + 1))) := Lib.hid (by rw [HE.out, hST]; simp)
        clear hST hJs
        gi_wp2
        refine ⟨fun _ h => (by cases h), ?_⟩
        gi_wp2
        go_roundw
        case rel => exact ⟨k + 1, pre, by omega, by go_num, HS2, hJa, hka⟩
        case measure => simp [intOf]; omega
    · have hkn : k = m := by omega
      subst hkn
      have hE := HE.out
      rw [List.take_of_length_le (by rw [HV.out]; omega), List.take_of_length_le (by rw [← HVL.out, HV.out]; omega)] at hE
      have HE2 := Lib.hid hE
      clear hE
      gi_wp2
      go_end0
      exact ⟨⟨_, rfl⟩, .inl ⟨pre, HE2.out, hJs⟩⟩
end Go.Proofs.YtnjdjcgandfnfaaDoor
