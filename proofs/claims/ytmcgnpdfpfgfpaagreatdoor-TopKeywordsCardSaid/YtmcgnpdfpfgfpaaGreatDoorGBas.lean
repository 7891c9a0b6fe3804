/-
  Words for memory and contracts of small functions of the second form. Conditions: those of each lemma.
-/
import Derived.Test.YtmcgnpdfpfgfpaaGreatDoorProg
import Derived.Test.YtmcgnpdfpfgfpaaGreatDoorPlain
import Derived.WalkKit
import Derived.WalkSpells
import Derived.Lib.Hide
import Derived.RangeFuncNested
import Derived.RangeFuncBound
import Derived.RangeFuncCalls
import Derived.RangeFuncLeaves
import Derived.RangeFuncBox
import Derived.Shelf.Abstract
import Derived.Shelf.RegionOpen
import Derived.OwnWalkIn
import Derived.TacticsInMore
import Derived.LoopNIn
import Derived.LoopIn
import Derived.Deep.RegionHeld3
import Derived.Deep.DeepCutAuto
import Derived.BigQuiet
import Derived.Deep.RegionLaw
/-! Res -/
namespace Go.Proofs.YtmcgnpdfpfgfpaaGreatDoor
open Go.RowKit
set_option linter.unusedVariables false

theorem of_yes (p : Int) (w : World) (h : okP p = true) :
    Calls Tryz.prog 39 #[.agg #[.int .i64 p]] w fun e w' => e = .returned (.tuple #[.int .i64 p, .bool true]) ∧ Below w.heap.size w w' := by
  obtain ⟨h1, h2, h3⟩ := (okP_iff p).1 h
  have H3 := Lib.hid h3
  clear h h3
  go_enter Tryz.func39, Tryz.ntmps39
  go_wp2
  go_loop [4] (fun d => ∃ k : Nat, 2 ≤ k ∧ k ≤ 256 ∧ d = .int .i64 k) (fun d => 256 - (intOf d).toNat)
  case atStart => exact ⟨2, by omega, by omega, rfl⟩
  case round =>
    obtain ⟨k, hk1, hk2, rfl⟩ := hrel
    have hkk : 0 ≤ (k : Int) * k ∧ (k : Int) * k ≤ 65536 := ⟨Int.mul_nonneg (by omega) (by omega), by have := Int.mul_le_mul (show (k : Int) ≤ 256 by omega) (show (k : Int) ≤ 256 by omega) (by omega) (by omega); omega⟩
    by_cases hc : (k : Int) * k ≤ p
    · have hne : (p % (k : Int) == 0) = false := by
        rw [beq_eq_false_iff_ne]; exact H3.out k hk1 (by rw [Int.natCast_mul]; exact hc)
      have hlt : k < 256 := by
        rcases Nat.lt_or_ge k 256 with h | h
        · exact h
        · have : k = 256 := by omega
          subst this; omega
      go_wp2
      go_round
      case rel => exact ⟨k + 1, by omega, by omega, by go_num⟩
      case measure => simp [intOf]; omega
    · go_wp2
      go_ret2
      exact ⟨rfl, (Below.refl _ _).alloc (Nat.le_refl _) _⟩

theorem has_any (p a : Int) (w : World) :
    Calls Tryz.prog 82 #[.int .i64 p, .int .i64 a] w fun e w' => e = .returned (.bool (inP p a)) ∧ w = w' := by
  by_cases h1 : 0 ≤ a
  · by_cases h2 : a < p
    · have : inP p a = true := inP_iff.2 ⟨h1, h2⟩
      go_enter Tryz.func82, Tryz.ntmps82
      go_wp2
      go_ret
      first | exact ⟨rfl, rfl⟩ | exact ⟨ret_bool this.symm, rfl⟩
    · have : inP p a = false := by rw [← Bool.not_eq_true, inP_iff]; omega
      go_enter Tryz.func82, Tryz.ntmps82
      go_wp2
      go_ret
      first | exact ⟨rfl, rfl⟩ | exact ⟨ret_bool this.symm, rfl⟩
  · have : inP p a = false := by rw [← Bool.not_eq_true, inP_iff]; omega
    go_enter Tryz.func82, Tryz.ntmps82
    go_wp2
    go_ret
    first | exact ⟨rfl, rfl⟩ | exact ⟨ret_bool this.symm, rfl⟩

theorem mulP_any (p x y : Int) (w : World) (hp : 2 ≤ p ∧ p ≤ 65521) (hx : 0 ≤ x ∧ x < p) (hy : 0 ≤ y ∧ y < p) :
    Calls Tryz.prog 119 #[.int .i64 p, .int .i64 x, .int .i64 y] w fun e w' => e = .returned (.int .i64 (mulP p x y)) ∧ w = w' := by
  have hm : 0 ≤ x * y ∧ x * y ≤ 65521 * 65521 := ⟨Int.mul_nonneg hx.1 hy.1, Int.mul_le_mul (by omega) (by omega) hy.1 (by omega)⟩
  go_enter Tryz.func119, Tryz.ntmps119
  go_wp2
  go_ret
  exact ⟨rfl, rfl⟩

theorem addP_any (p x y : Int) (w : World) (hp : 2 ≤ p ∧ p ≤ 65521) (hx : 0 ≤ x ∧ x < p) (hy : 0 ≤ y ∧ y < p) :
    Calls Tryz.prog 118 #[.int .i64 p, .int .i64 x, .int .i64 y] w fun e w' => e = .returned (.int .i64 (addP p x y)) ∧ w = w' := by
  go_enter Tryz.func118, Tryz.ntmps118
  go_wp2
  go_ret
  exact ⟨rfl, rfl⟩

/-- The closure in All. -/
theorem all1_any (p a : Int) (b : Nat) (w : World) (hb : w.cell? ⟨b, 0, none⟩ = some (.int .i64 p)) :
    Calls Tryz.prog 81 #[.int .i64 a, .pointer (some ⟨b, 0, none⟩)] w fun e w' => e = .returned (.bool (!inP p a)) ∧ w = w' := by
  go_enter Tryz.func81, Tryz.ntmps81
  go_wp2_with (go_at_call 82; refine (has_any p a _).mono ?_; rintro e w' ⟨rfl, rfl⟩)
  go_ret
  exact ⟨rfl, rfl⟩

/-- slices.IndexFunc with the closure of All: -1 just where all are elements. -/
theorem indexFunc_any (p : Int) (b : Nat) (A : Option Addr) (n c : Nat) (xs : List Int) (w : World) {B : Nat} (h : Ints w B A n xs) (hn : n ≤ 4611686018427387904) (hb : w.cell? ⟨b, 0, none⟩ = some (.int .i64 p)) :
    Calls Tryz.prog 85 #[.slice A n c, .func (.func 81) #[] #[.pointer (some ⟨b, 0, none⟩)]] w fun e w' =>
      (∃ i : Int, e = .returned (.int .i64 i) ∧ (0 ≤ i ↔ allP p xs = false)) ∧ w = w' := by
  obtain ⟨hl, hc⟩ := h
  have HL := Lib.hid hl
  clear hl
  go_enter Tryz.func85, Tryz.ntmps85
  go_wp2
  go_loop [8] (fun i => ∃ k : Nat, k ≤ n ∧ i = .int .i64 k ∧ Hid (allP p (xs.take k) = true)) (fun i => n - (intOf i).toNat)
  case atStart => exact ⟨0, Nat.zero_le _, rfl, Lib.hid rfl⟩
  case round =>
    obtain ⟨k, hk, rfl, HA⟩ := hrel
    by_cases hlt : k < n
    · obtain ⟨b', off, rfl, hb', hcell⟩ := hc (by omega)
      have hck := hcell k hlt
      clear hc hcell
      have HT := Lib.hid (take_snoc_int xs k (by rw [HL.out]; exact hlt))
      generalize xs.getD k 0 = x at *
      by_cases hx : inP p x = true
      · go_wp2_with (go_at_call 81; refine (all1_any p x b _ hb).mono ?_; rintro e w' ⟨rfl, rfl⟩)
        go_round
        case rel => exact ⟨k + 1, by omega, by go_num, Lib.hid (by rw [HT.out, allP_append]; exact ⟨HA.out, by simp [allP, hx]⟩)⟩
        case measure => simp [intOf]; omega
      · have hx' : inP p x = false := by simpa using hx
        clear hx
        go_wp2_with (go_at_call 81; refine (all1_any p x b _ hb).mono ?_; rintro e w' ⟨rfl, rfl⟩)
        go_ret
        refine ⟨⟨k, rfl, fun _ => ?_, fun _ => by omega⟩, rfl⟩
        rw [← Bool.not_eq_true]
        intro ha
        have hs : allP p (xs.take (k + 1)) = true := allP_iff.2 fun u hu => allP_iff.1 ha u (List.mem_of_mem_take hu)
        rw [HT.out, allP_append] at hs
        have := hs.2
        simp [allP, hx'] at this
    · go_wp2
      go_ret
      refine ⟨⟨-1, rfl, fun h => by omega, fun h => ?_⟩, rfl⟩
      have := HA.out
      rw [List.take_of_length_le (by rw [HL.out]; omega), h] at this
      cases this

theorem contains_any (p : Int) (b : Nat) (A : Option Addr) (n c : Nat) (xs : List Int) (w : World) {B : Nat} (h : Ints w B A n xs) (hn : n ≤ 4611686018427387904) (hb : w.cell? ⟨b, 0, none⟩ = some (.int .i64 p)) :
    Calls Tryz.prog 51 #[.slice A n c, .func (.func 81) #[] #[.pointer (some ⟨b, 0, none⟩)]] w fun e w' =>
      e = .returned (.bool (!allP p xs)) ∧ w = w' := by
  go_enter Tryz.func51, Tryz.ntmps51
  go_wp2_with (go_at_call 85; refine (indexFunc_any p b A n c xs _ h hn hb).mono ?_; rintro e w' ⟨⟨i, rfl, hi⟩, rfl⟩; have HI := Lib.hid hi; clear hi)
  go_ret
  refine ⟨ret_bool ?_, rfl⟩
  show decide (0 ≤ i) = _
  rw [Bool.eq_iff_iff, decide_eq_true_eq, HI.out]
  simp

/-- residue's All. -/
theorem all_any (p : Int) (A : Option Addr) (n c : Nat) (xs : List Int) (w : World) (h : Ints w w.heap.size A n xs) (hn : n ≤ 4611686018427387904) :
    Calls Tryz.prog 47 #[.int .i64 p, .slice A n c] w fun e w' => e = .returned (.bool (allP p xs)) ∧ Below w.heap.size w w' := by
  have h2 : Ints (w.alloc (.cells #[.int .i64 p] 104)) w.heap.size A n xs := h.alloc (Nat.le_refl _) _
  go_enter Tryz.func47, Tryz.ntmps47
  go_wp2_with (go_at_call 51; refine (contains_any p _ A n c xs _ h2 hn (by simp)).mono ?_; rintro e w' ⟨rfl, rfl⟩)
  go_ret
  refine ⟨ret_bool (by simp), (Below.refl _ _).alloc (Nat.le_refl _) _⟩
end Go.Proofs.YtmcgnpdfpfgfpaaGreatDoor

/-! Known -/
namespace Go.Proofs.YtmcgnpdfpfgfpaaGreatDoor
open Go.RowKit Go.Shelf
set_option linter.unusedVariables false
attribute [local go_sem] Oper.semAt_some

/-- A slice of cells reads as values and marks. -/
def Cel (w : World) (B : Nat) (A : Option Addr) (n : Nat) (vs : List Int) (bs : List Bool) : Prop :=
  vs.length = n ∧ bs.length = n ∧ (0 < n → ∃ b off, A = some ⟨b, off, none⟩ ∧ b < B ∧ ∀ j, j < n → w.cell? ⟨b, off + j * 2, none⟩ = some (.int .i64 (vs.getD j 0)) ∧ w.cell? ⟨b, off + j * 2 + 1, none⟩ = some (.bool (bs.getD j false)))
theorem Cel.below {w w' : World} {B : Nat} {A : Option Addr} {n : Nat} {us : List Int} {ys : List Bool} (h : Cel w B A n us ys) (hb : Below B w w') : Cel w' B A n us ys :=
  ⟨h.1, h.2.1, fun hn => by
    obtain ⟨b, off, e, hl, hc⟩ := h.2.2 hn
    exact ⟨b, off, e, hl, fun j hj => ⟨(hb.cell (p := ⟨b, off + j * 2, none⟩) hl).trans (hc j hj).1, (hb.cell (p := ⟨b, off + j * 2 + 1, none⟩) hl).trans (hc j hj).2⟩⟩⟩
theorem Cel.more {w : World} {B B' : Nat} {A : Option Addr} {n : Nat} {us : List Int} {ys : List Bool} (h : Cel w B A n us ys) (hB : B ≤ B') : Cel w B' A n us ys :=
  ⟨h.1, h.2.1, fun hn => by
    obtain ⟨b, off, e, hl, hc⟩ := h.2.2 hn
    exact ⟨b, off, e, by omega, hc⟩⟩
theorem Cel.upto {w0 w' : World} {A : Option Addr} {n : Nat} {us : List Int} {ys : List Bool} (h : Cel w0 w0.heap.size A n us ys) (hb : Below w0.heap.size w0 w') : Cel w' w'.heap.size A n us ys := (h.below hb).more hb.size

/-- A known cell, with where it stands. -/
def KnElt (vs : List Int) (bs : List Bool) : Type := {e : Int × Int // e ∈ knL vs bs}
def eltsOf {vs : List Int} {bs : List Bool} (pre : List (KnElt vs bs)) : List (Int × Int) := pre.map fun e => e.1
theorem eltsOf_snoc {vs : List Int} {bs : List Bool} (pre : List (KnElt vs bs)) (x : KnElt vs bs) : eltsOf (pre ++ [x]) = eltsOf pre ++ [x.1] := by simp [eltsOf]
theorem eltsOf_len {vs : List Int} {bs : List Bool} (pre : List (KnElt vs bs)) : (eltsOf pre).length = pre.length := by simp [eltsOf]

theorem known_any (A : Option Addr) (n c : Nat) (w : World) :
    Calls Tryz.prog 120 #[.slice A n c] w fun e w' => e = .returned (.func (.func 137) #[] #[.pointer (some ⟨w.heap.size, 0, none⟩)]) ∧ w' = w.alloc (.cells #[.slice A n c] 83) := by
  go_enter Tryz.func120, Tryz.ntmps120
  go_wp2
  go_ret
  exact ⟨rfl, rfl⟩

set_option maxRecDepth 100000 in
set_option maxHeartbeats 2000000 in
/-- The closure of known. -/
theorem known1_in (n : Nat) (hn : 1 ≤ n) (l Bs n₁ gs m : Nat) (A : Option Addr) (cap : Nat) (vs : List Int) (bs : List Bool) (hm : m ≤ 1000) (J Jx : List (KnElt vs bs) → World → Prop) {Bj : Nat} (hJ : AbidesFrom Bj J)
    (hY : ∀ pre x W, J pre W → pre.length < (knL vs bs).length → YieldAt Fence.wide (n - 1) Tryz.prog l #[.int .i64 x.1.1, .int .i64 x.1.2] W fun e W' =>
      (e = .returned (.bool true) ∧ J (pre ++ [x]) W' ∧ KeepsB n₁ gs W W') ∨ (e = .returned (.bool false) ∧ Jx (pre ++ [x]) W'))
    (W : World) (hW : n₁ ≤ W.heap.size) (hgs : gs < n₁) (hBs0 : Bs < n₁) (hBs1 : Bs ≠ gs) (hBs : W.cell? ⟨Bs, 0, none⟩ = some (.slice A m cap)) (hc : Cel W gs A m vs bs) (h0 : J [] W) :
    CallsIn Fence.wide n Tryz.prog 137 #[.func (.yield l) #[] #[], .pointer (some ⟨Bs, 0, none⟩)] W fun e W' => (∃ v, e = .returned v) ∧
      ((∃ ys, eltsOf ys = knL vs bs ∧ J ys W') ∨ (∃ pre, (∃ k, eltsOf pre = (knL vs bs).take k) ∧ Jx pre W')) := by
  have hvl : vs.length = bs.length := by rw [hc.1, hc.2.1]
  have HVL := Lib.hid hvl
  have HV := Lib.hid hc.1
  clear hvl
  refine callsIn_of_wp Tryz.func137 rfl trivial ?_ rfl
  simp only [Tryz.ntmps137, List.size_toArray, List.length_cons, List.length_nil, Nat.reduceAdd, Nat.reduceSub, Array.replicate_succ, Array.replicate_zero, List.push_toArray, List.append_toArray, List.nil_append, List.cons_append]
  gi_wp2
  gi_loopw [7] (fun i wr => ∃ (k : Nat) (pre : List (KnElt vs bs)), k ≤ m ∧ i = .int .i64 k ∧ Hid (eltsOf pre = knL (vs.take k) (bs.take k)) ∧ J pre wr ∧ KeepsB n₁ gs W wr)
    (fun i _ => m - (intOf i).toNat)
  case atStart => exact ⟨0, [], Nat.zero_le _, rfl, Lib.hid rfl, h0, KeepsB.refl _ _ _⟩
  case round =>
    obtain ⟨k, pre, hk, rfl, HE, hJs, hnx⟩ := hrel
    by_cases hlt : k < m
    · obtain ⟨b, off, rfl, hb, hcell⟩ := hc.2.2 (by omega)
      have hcv := (hnx.cell (b := b) (o := off + k * 2) (by omega) (by omega)).trans (hcell k hlt).1
      have hcb := (hnx.cell (b := b) (o := off + k * 2 + 1) (by omega) (by omega)).trans (hcell k hlt).2
      clear hcell
      have hST := knL_step HVL.out (j := k) (by rw [HV.out]; exact hlt)
      have HMEM : Hid (bs.getD k false = true → ((k : Int) + 1, vs.getD k 0) ∈ knL vs bs) := Lib.hid fun hb => knL_mem HVL.out (by rw [HV.out]; exact hlt) hb
      have HLT : Hid (bs.getD k false = true → pre.length < (knL vs bs).length) := Lib.hid fun hb => by
        have := knL_lt HVL.out (j := k) (by rw [HV.out]; exact hlt) hb
        rw [← HE.out, eltsOf_len] at this; exact this
      have hsz := hnx.1
      have hkw : IntKind.i64.wrap ((k : Int) + 1) = (k : Int) + 1 := IntWalk.i64_in _ (by omega)
      have hk0 : (0 : Int) ≤ (k : Int) := by omega
      have hkm : (k : Int) < (m : Int) := by omega
      generalize vs.getD k 0 = v at *
      have hJa : J pre (wr.alloc (.cells #[.int .i64 v, .bool (bs.getD k false)] 87)) := hJ _ _ _ none hJs (World.grownBy_alloc _ _ none) (fun r e => by cases e)
      have hka : KeepsB n₁ gs W (wr.alloc (.cells #[.int .i64 v, .bool (bs.getD k false)] 87)) := hnx.trans (KeepsB.alloc (by omega) _)
      by_cases hbt : bs.getD k false = true
      · have hmem := HMEM.out hbt
        have hlen := HLT.out hbt
        rw [hbt] at hJa hka hcb hST
        obtain ⟨fn, tmps, assign, body, hy, hR⟩ := hY pre ⟨((k : Int) + 1, v), hmem⟩ _ hJa hlen
        dsimp only at hy
        have HS2 : Hid (eltsOf (pre ++ [⟨((k : Int) + 1, v), hmem⟩]) = knL (vs.take (k + 1)) (bs.take (k + 1))) := Lib.hid ((eltsOf_snoc pre ⟨((k : Int) + 1, v), hmem⟩).trans (by rw [HE.out, hST]; rfl))
        have HS3 : Hid (∃ q, knL (vs.take (k + 1)) (bs.take (k + 1)) = (knL vs bs).take q) := Lib.hid ⟨_, knL_takes HVL.out (k + 1)⟩
        clear hST hJs
        gi_wp2
        refine hR.mono ?_
        rintro e W3 (⟨rfl, hJ3, hk3⟩ | ⟨rfl, hJx3⟩)
        · gi_wp2
          go_roundw
          case rel => exact ⟨k + 1, _, by omega, by go_num, HS2, hJ3, hka.trans hk3⟩
          case measure => simp [intOf]; omega
        · gi_wp2
          refine bodyPost_ret (results_none rfl _ _ _) rfl ?_
          obtain ⟨q, hq⟩ := HS3.out
          exact ⟨⟨_, rfl⟩, .inr ⟨_, ⟨q, HS2.out.trans hq⟩, hJx3⟩⟩
      · have hbf : bs.getD k false = false := by simpa using hbt
        rw [hbf] at hJa hka hcb hST
        have HS2 : Hid (eltsOf pre = knL (vs.take (k + 1)) (bs.take (k + 1))) := Lib.hid (by rw [HE.out, hST]; simp)
        clear hST hJs
        gi_wp2
        refine ⟨fun _ h => (by cases h), ?_⟩
        gi_wp2
        go_roundw
        case rel => exact ⟨k + 1, pre, by omega, by go_num, HS2, hJa, hka⟩
        case measure => simp [intOf]; omega
    · have hkn : k = m := by omega
      subst hkn
      have hE := HE.out
      rw [List.take_of_length_le (by rw [HV.out]; omega), List.take_of_length_le (by rw [← HVL.out, HV.out]; omega)] at hE
      have HE2 := Lib.hid hE
      clear hE
      gi_wp2
      go_end0
      exact ⟨⟨_, rfl⟩, .inl ⟨pre, HE2.out, hJs⟩⟩
end Go.Proofs.YtmcgnpdfpfgfpaaGreatDoor

/-! Inv -/
namespace Go.Proofs.YtmcgnpdfpfgfpaaGreatDoor
open Go.RowKit
set_option linter.unusedVariables false

theorem subP_any (p x y : Int) (w : World) (hp : 2 ≤ p ∧ p ≤ 65521) (hx : 0 ≤ x ∧ x < p) (hy : 0 ≤ y ∧ y < p) :
    Calls Tryz.prog 122 #[.int .i64 p, .int .i64 x, .int .i64 y] w fun e w' => e = .returned (.int .i64 (subP p x y)) ∧ w = w' := by
  have hp0 : ¬ p = 0 := by omega
  go_enter Tryz.func122, Tryz.ntmps122
  go_wp2
  go_ret
  exact ⟨rfl, rfl⟩

set_option maxHeartbeats 400000 in
theorem inv_ok (p a : Int) (w : World) (hok : okP p = true) (ha : 0 < a ∧ a < p) :
    Calls Tryz.prog 123 #[.int .i64 p, .int .i64 a] w fun e w' => (∃ v, e = .returned (.int .i64 v) ∧ (0 ≤ v ∧ v < p) ∧ Hid (Cong p (a * v) 1)) ∧ w = w' := by
  have hp := okP_pos hok
  have HST := Lib.hid (Euc.start hok ha)
  clear hok
  go_enter Tryz.func123, Tryz.ntmps123
  go_wp2
  go_loop [5, 6, 7, 8] (fun v1 v2 v3 v4 => ∃ r s x y : Int, v1 = .int .i64 r ∧ v2 = .int .i64 s ∧ v3 = .int .i64 x ∧ v4 = .int .i64 y ∧ Hid (Euc p a r s x y)) (fun _ v2 _ _ => (intOf v2).toNat)
  case atStart => exact ⟨p, a, 0, 1, rfl, rfl, rfl, rfl, HST⟩
  case round =>
    obtain ⟨r, s, x, y, rfl, rfl, rfl, rfl, HE⟩ := hrel
    have h0 := HE.out.s0
    have h1 := HE.out.sr
    have h2 := HE.out.rp
    have h3 := HE.out.bx
    have h4 := HE.out.by_
    by_cases hs : 0 < s
    · have HE2 := Lib.hid (HE.out.step hs)
      have hb := HE.out.bounds hs
      have hsn : ¬ s = 0 := by omega
      have h6 := HE2.out.sr
      have h7 := HE2.out.s0
      go_wp2
      go_round
      case rel => exact ⟨s, r - r / s * s, y, x - r / s * y, rfl, rfl, rfl, rfl, HE2⟩
      case measure => simp [intOf]; omega
    · obtain rfl : s = 0 := by omega
      have HD := Lib.hid HE.out.done
      have hpn : ¬ p = 0 := by omega
      have ht := tmod_facts x p (by omega)
      have hT : Hid ((x.tmod p + p).tmod p = x % p) := Lib.hid (by rw [Int.tmod_eq_emod_of_nonneg (by omega), mod_of_go x p (by omega)])
      have hin : 0 ≤ x % p ∧ x % p < p := ⟨Int.emod_nonneg _ (by omega), Int.emod_lt_of_pos _ (by omega)⟩
      have HW : Hid (x.tmod p % p = x % p) := Lib.hid (by rw [← mod_of_go x p (by omega), Int.add_emod_right])
      go_wp2
      go_ret
      exact ⟨⟨x % p, ret_int HW.out, hin, HD⟩, rfl⟩
end Go.Proofs.YtmcgnpdfpfgfpaaGreatDoor

/-! Base -/
namespace Go.Proofs.YtmcgnpdfpfgfpaaGreatDoor
open Go.RowKit

theorem info_int : (Tryz.prog.info? 3).map (fun i => (i.zero, i.size, i.bytes)) = some (some (.int .i64 0), 1, 8) := by kernel_rfl

/-- mk.Mod at a positive modulus. -/
theorem mod_any (x k : Int) (w : World) (hk : 0 < k) (hk2 : k ≤ 4611686018427387904) :
    Calls Tryz.prog 56 #[.int .i64 x, .int .i64 k] w fun e w' => e = .returned (.int .i64 (x % k)) ∧ w = w' := by
  have h := tmod_facts x k hk
  have hp := Lib.hid (mod_of_go x k hk)
  obtain ⟨h1, h2, _, _⟩ := h
  go_enter Tryz.func56, Tryz.ntmps56
  go_wp2
  go_ret
  exact ⟨ret_int hp.out, rfl⟩

end Go.Proofs.YtmcgnpdfpfgfpaaGreatDoor

/-! Deck -/
namespace Go.Proofs.YtmcgnpdfpfgfpaaGreatDoor
open Go.RowKit
set_option linter.unusedVariables false

/-- Block g is a deck over the list xs, of which q have been taken; the list lies below the deck. -/
def Deck (w : World) (g : Nat) (A : Option Addr) (n c : Nat) (xs : List Int) (q : Nat) : Prop :=
  Blk w g 95 #[.slice A n c, .int .i64 q] ∧ q ≤ n ∧ n ≤ 500 ∧ Ints w g A n xs

section
variable {w w' : World} {g n c q : Nat} {A : Option Addr} {xs : List Int}
theorem Deck.below {B : Nat} (h : Deck w g A n c xs q) (hb : Below B w w') (hg : g < B) : Deck w' g A n c xs q :=
  ⟨h.1.below hb hg, h.2.1, h.2.2.1, h.2.2.2.below (hb.mono (by omega))⟩
theorem Deck.belowAll (h : Deck w g A n c xs q) (hb : Below w.heap.size w w') : Deck w' g A n c xs q := h.below hb h.1.lt
theorem Deck.drew (h : Deck w g A n c xs q) : Deck w.drew g A n c xs q := h
theorem Deck.drewN (h : Deck w g A n c xs q) (k : Nat) : Deck (w.drewN k) g A n c xs q := h
theorem Deck.setCell (h : Deck w g A n c xs q) {p : Addr} (hp : g < p.block) (u : Value) : Deck (w.setCell p u) g A n c xs q := ⟨h.1.far (by omega) u, h.2.1, h.2.2.1, h.2.2.2.setCell (by omega) u⟩
theorem Deck.alloc (h : Deck w g A n c xs q) (o : Obj) : Deck (w.alloc o) g A n c xs q := h.belowAll (bbox o)
end

/-- Only the deck, and what is new, has turned. -/
def Step (g : Nat) (w w' : World) : Prop := w.grownBy w' (some g)
theorem Step.refl (g : Nat) (w : World) : Step g w w := World.grownBy.refl w _
theorem Step.trans {g : Nat} {a b c : World} (h : Step g a b) (k : Step g b c) : Step g a c :=
  ⟨k.os.trans h.os, k.tape.trans h.tape, k.output.trans h.output, Nat.le_trans h.size k.size, fun i hi hne => (k.block i (Nat.lt_of_lt_of_le hi h.size) hne).trans (h.block i hi hne)⟩
theorem Step.of_below {g : Nat} {a b : World} (h : Below a.heap.size a b) : Step g a b := ⟨h.os, h.tape, h.output, h.size, fun i hi _ => h.block i hi⟩
theorem Step.drew {g : Nat} {a b : World} (h : Step g a b) : Step g a b.drew := ⟨h.os, h.tape, h.output, h.size, h.block⟩
theorem Step.drewN {g : Nat} {a b : World} (h : Step g a b) (n : Nat) : Step g a (b.drewN n) := ⟨h.os, h.tape, h.output, h.size, h.block⟩
theorem Step.set {g : Nat} {a b : World} (h : Step g a b) (i : Nat) (u : Value) : Step g a (b.setCell ⟨g, i, none⟩ u) :=
  h.trans ⟨rfl, rfl, rfl, by simp [World.setCell], fun k hk hne => Below.heap_setCell b ⟨g, i, none⟩ u k (fun e => hne (by rw [e]))⟩
theorem Step.setNew {g : Nat} {a b : World} (h : Step g a b) {p : Addr} (hp : a.heap.size ≤ p.block) (u : Value) : Step g a (b.setCell p u) :=
  ⟨h.os, h.tape, h.output, by simpa [World.setCell] using h.size, fun k hk hne => (Below.heap_setCell b p u k (by omega)).trans (h.block k hk hne)⟩
theorem Step.alloc {g : Nat} {a b : World} (h : Step g a b) (o : Obj) : Step g a (b.alloc o) := h.trans (Step.of_below (bbox o))
theorem Step.thenBelow {g : Nat} {a b c : World} (h : Step g a b) (k : Below a.heap.size b c) : Step g a c :=
  ⟨k.os.trans h.os, k.tape.trans h.tape, k.output.trans h.output, Nat.le_trans h.size k.size, fun i hi hne => (k.block i hi).trans (h.block i hi hne)⟩
theorem Step.below {g B : Nat} {w0 a b : World} (h : Below B w0 a) (hs : Step g a b) (hB : B ≤ a.heap.size) (hg : B ≤ g) : Below B w0 b :=
  h.grown hs hB fun k hk => by injection hk with hk; omega
theorem Step.block {g : Nat} {a b : World} (hs : Step g a b) {t : TypeId} {cs : Array Value} {k : Nat} (h : Blk a k t cs) (hk : k ≠ g) : Blk b k t cs := h.grown hs (fun e => hk (by injection e))
theorem OwnI.step {g base n c : Nat} {e : TypeId} {A : Option Addr} {xs : List Int} {w w' : World} (h : OwnI w base e A n c xs) (hs : Step g w w') (hg : g < base) : OwnI w' base e A n c xs := by
  rcases hb : (Value.slice A n c).ownBlock with _ | k
  · exact h.kept hs (.inl hb)
  · exact h.kept hs (.inr (by rw [hb]; intro e; injection e with e; have := h.row k hb; omega))
theorem OwnI.drew {base n c : Nat} {e : TypeId} {A : Option Addr} {xs : List Int} {w : World} (h : OwnI w base e A n c xs) : OwnI w.drew base e A n c xs := h
theorem OwnI.base {base base' n c : Nat} {e : TypeId} {A : Option Addr} {xs : List Int} {w : World} (h : OwnI w base e A n c xs) (hb : base' ≤ base) : OwnI w base' e A n c xs := by
  refine ⟨h.1, ?_⟩
  rcases h.2 with h0 | ⟨g, cap, cur, hv, hg, r⟩
  · exact .inl h0
  · exact .inr ⟨g, cap, cur, hv, Nat.le_trans hb hg, r⟩

theorem few_any (A : Option Addr) (n c : Nat) (w : World) :
    Calls Tryz.prog 6 #[.slice A n c] w fun e w' => e = .returned (.bool (decide (n ≤ 500))) ∧ w = w' := by
  by_cases h : n ≤ 500
  · go_enter Tryz.func6, Tryz.ntmps6
    go_wp2
    go_ret
    exact ⟨ret_bool (by simp; omega), rfl⟩
  · go_enter Tryz.func6, Tryz.ntmps6
    go_wp2
    go_ret
    exact ⟨ret_bool (by simp; omega), rfl⟩

theorem new_any (A : Option Addr) (n c : Nat) (xs : List Int) (w : World) (h : Ints w w.heap.size A n xs) (hn : n ≤ 500) :
    Calls Tryz.prog 7 #[.slice A n c] w fun e w' => (∃ g, e = .returned (.pointer (some ⟨g, 0, none⟩)) ∧ g = w.heap.size ∧ Deck w' g A n c xs 0) ∧ Below w.heap.size w w' := by
  go_enter Tryz.func7, Tryz.ntmps7
  go_wp2
  go_ret
  exact ⟨⟨_, rfl, rfl, Blk.new _ _ _, Nat.zero_le _, hn, h.alloc (Nat.le_refl _) _⟩, bbox _⟩

/-- What Next leaves. -/
def NextPost (g : Nat) (A : Option Addr) (n c : Nat) (xs : List Int) (q : Nat) (k : Int) (w : World) (e : Ending) (w' : World) : Prop :=
  ∃ (r : Int) (q' : Nat), e = .returned (.int .i64 r) ∧ (1 ≤ k → 0 ≤ r ∧ r < k) ∧ (k < 1 → r = 0) ∧ Deck w' g A n c xs q' ∧ Step g w w' ∧ w'.heap.size = w.heap.size

theorem next_any (g : Nat) (A : Option Addr) (n c : Nat) (xs : List Int) (q : Nat) (k : Int) (w : World) (h : Deck w g A n c xs q) (hk : k ≤ 4611686018427387904) :
    Calls Tryz.prog 22 #[.pointer (some ⟨g, 0, none⟩), .int .i64 k] w (NextPost g A n c xs q k w) := by
  obtain ⟨hB, hq, hn, hI⟩ := h
  have hc0 : w.cell? ⟨g, 0, none⟩ = some (.slice A n c) := (hB.cell 0).trans rfl
  have hc1 : w.cell? ⟨g, 1, none⟩ = some (.int .i64 q) := (hB.cell 1).trans rfl
  have hf1 := hB.frozen 1
  by_cases h1 : k < 1
  · have hd : decide (k < 1) = true := by simpa using h1
    go_enter Tryz.func22, Tryz.ntmps22
    go_wp2
    go_quiet (fail)
    go_wp2
    go_ret
    exact ⟨0, q, rfl, fun h => by omega, fun _ => rfl, Deck.drewN ⟨hB, hq, hn, hI⟩ _, (Step.refl g w).drewN _, rfl⟩
  have hd : decide (k < 1) = false := by simpa using h1
  by_cases h2 : n ≤ q
  · go_enter Tryz.func22, Tryz.ntmps22
    go_wp2
    go_quiet (fail)
    go_wp2
    go_ret
    exact ⟨0, q, rfl, fun h => by omega, fun _ => rfl, Deck.drewN ⟨hB, hq, hn, hI⟩ _, (Step.refl g w).drewN _, rfl⟩
  obtain ⟨b, off, rfl, hb, hcell⟩ := hI.2 (by omega)
  have hcq := hcell q (by omega)
  clear hcell
  have hr : 0 ≤ xs.getD q 0 % k ∧ xs.getD q 0 % k < k := ⟨Int.emod_nonneg _ (by omega), Int.emod_lt_of_pos _ (by omega)⟩
  have HR := Lib.hid hr
  clear hr
  generalize xs.getD q 0 = x at *
  go_enter Tryz.func22, Tryz.ntmps22
  go_wp2
  go_quiet (fail)
  go_wp2
  go_quiet (fail)
  go_wp2_with (go_at_call 56; refine (mod_any x k _ (by omega) hk).mono ?_; rintro e w' ⟨rfl, rfl⟩)
  go_ret
  refine ⟨x % k, q + 1, rfl, fun _ => HR.out, fun h => by omega, ?_, ((Step.refl g w).set 1 _).drewN _, by simp [World.setCell]⟩
  have hB2 := hB.set_ 1 (.int .i64 ((q : Int) + 1))
  refine Deck.drewN (⟨by rw [show ((q + 1 : Nat) : Int) = (q : Int) + 1 by omega]; exact hB2, by omega, hn, ?_⟩) _
  exact hI.setCell (p := ⟨g, 1, none⟩) (Nat.le_refl _) _

end Go.Proofs.YtmcgnpdfpfgfpaaGreatDoor

/-! Order -/
namespace Go.Proofs.YtmcgnpdfpfgfpaaGreatDoor
open Go.RowKit
set_option linter.unusedVariables false

/-- The numbers below n. -/
def rangeI (n : Nat) : List Int := (List.range n).map Int.ofNat
theorem rangeI_succ (n : Nat) : rangeI (n + 1) = rangeI n ++ [(n : Int)] := by simp [rangeI, List.range_succ]
theorem rangeI_len (n : Nat) : (rangeI n).length = n := by simp [rangeI]

/-- An order of the numbers below n. -/
def IsOrder (n : Nat) (ks : List Int) : Prop := ks.Perm (rangeI n)

theorem take_drop_at (rs : List Int) (j : Nat) (hj : j < rs.length) : rs.take j ++ (rs.getD j 0 :: rs.drop (j + 1)) = rs := by
  rw [List.getD_eq_getElem?_getD, List.getElem?_eq_getElem hj]; simp

theorem order_step {n : Nat} {os rs : List Int} (j : Nat) (hj : j < rs.length) (h : (os ++ rs).Perm (rangeI n)) : ((os ++ [rs.getD j 0]) ++ (rs.take j ++ rs.drop (j + 1))).Perm (rangeI n) := by
  refine List.Perm.trans ?_ h
  rw [List.append_assoc]
  refine List.Perm.append_left os ?_
  refine List.Perm.trans ?_ (List.Perm.of_eq (take_drop_at rs j hj))
  exact (List.perm_middle (a := rs.getD j 0) (l₁ := rs.take j) (l₂ := rs.drop (j + 1))).symm

/-- A slice of numbers that can be read, but not where the row v lies. -/
def Apart (v : Value) (B : Nat) (A : Option Addr) (n : Nat) : Prop := 0 < n → ∀ b off s, A = some ⟨b, off, s⟩ → B ≤ b ∧ v.ownBlock ≠ some b

theorem Ints.take_ {w : World} {B : Nat} {A : Option Addr} {n : Nat} {xs : List Int} (h : Ints w B A n xs) (j : Nat) (hj : j ≤ n) : Ints w B A j (xs.take j) := by
  refine ⟨by rw [List.length_take, h.1]; omega, fun h0 => ?_⟩
  obtain ⟨b, off, e, hb, hc⟩ := h.2 (by omega)
  refine ⟨b, off, e, hb, fun i hi => ?_⟩
  rw [hc i (by omega), List.getD_eq_getElem?_getD, List.getD_eq_getElem?_getD, List.getElem?_take, if_pos hi]

theorem Ints.drop_ {w : World} {B : Nat} {b off : Nat} {n : Nat} {xs : List Int} (h : Ints w B (some ⟨b, off, none⟩) n xs) (j : Nat) (hj : j ≤ n) (A : Option Addr) (hA : j < n → A = some ⟨b, off + j, none⟩) : Ints w B A (n - j) (xs.drop j) := by
  refine ⟨by rw [List.length_drop, h.1], fun h0 => ?_⟩
  obtain ⟨b', off', e, hb, hc⟩ := h.2 (by omega)
  injection e with e
  injection e with e1 e2 _
  subst e1 e2
  refine ⟨b, off + j, hA (by omega), hb, fun i hi => ?_⟩
  rw [Nat.add_assoc, hc (j + i) (by omega), List.getD_eq_getElem?_getD, List.getD_eq_getElem?_getD, List.getElem?_drop]

theorem Ints.drew {w : World} {B n : Nat} {A : Option Addr} {xs : List Int} (h : Ints w B A n xs) : Ints w.drew B A n xs := h

theorem Ints.stepAt {g : Nat} {w w' : World} {b off n : Nat} {xs : List Int} (h : Ints w w.heap.size (some ⟨b, off, none⟩) n xs) (hs : Step g w w') (hb : b ≠ g) : Ints w' w'.heap.size (some ⟨b, off, none⟩) n xs := by
  refine ⟨h.1, fun h0 => ?_⟩
  obtain ⟨b', off', e, hlt, hc⟩ := h.2 h0
  injection e with e
  injection e with e1 e2 _
  subst e1 e2
  exact ⟨b, off, rfl, Nat.lt_of_lt_of_le hlt hs.size, fun j hj => (World.cell?_of_block (World.grownBy.block hs b hlt (fun e => hb (by injection e)))).trans (hc j hj)⟩

theorem Ints.grownAt {row : Option Nat} {w w' : World} {b off n : Nat} {xs : List Int} (h : Ints w w.heap.size (some ⟨b, off, none⟩) n xs) (hs : w.grownBy w' row) (hb : row ≠ some b) : Ints w' w'.heap.size (some ⟨b, off, none⟩) n xs := by
  refine ⟨h.1, fun h0 => ?_⟩
  obtain ⟨b', off', e, hlt, hc⟩ := h.2 h0
  injection e with e
  injection e with e1 e2 _
  subst e1 e2
  exact ⟨b, off, rfl, Nat.lt_of_lt_of_le hlt hs.size, fun j hj => (World.cell?_of_block (hs.block b hlt (fun e => hb e.symm))).trans (hc j hj)⟩

/-- What Order leaves. -/
def OrderPost (g : Nat) (A : Option Addr) (n c : Nat) (xs : List Int) (k : Nat) (w : World) (e : Ending) (w' : World) : Prop :=
  ∃ (A' : Option Addr) (c' : Nat) (ks : List Int) (q' : Nat), e = .returned (.slice A' k c') ∧ OwnI w' w.heap.size 3 A' k c' ks ∧ IsOrder k ks ∧ Deck w' g A n c xs q' ∧ Step g w w'

def sliceLen : Value → Nat
  | .slice _ n _ => n
  | _ => 0

set_option maxHeartbeats 800000 in
set_option maxRecDepth 100000 in
theorem order_any (g : Nat) (A : Option Addr) (n c : Nat) (xs : List Int) (q : Nat) (k : Nat) (w : World) (h : Deck w g A n c xs q) (hk : k ≤ 17592186044416) :
    Calls Tryz.prog 63 #[.pointer (some ⟨g, 0, none⟩), .int .i64 k] w (OrderPost g A n c xs k w) := by
  have hg := h.1.lt
  obtain ⟨i0, hi0, hz0, hz1, hz2⟩ := info_parts info_int
  go_enter Tryz.func63, Tryz.ntmps63
  go_wp2
  go_loopw [5, 10] (fun v i wr => ∃ (m : Nat) (A' : Option Addr) (c' : Nat), m ≤ k ∧ i = .int .i64 m ∧ v = .slice A' m c' ∧ OwnI wr w.heap.size 3 A' m c' (rangeI m) ∧ Below w.heap.size w wr) (fun _ i _ => k - (intOf i).toNat)
  case atStart => exact ⟨0, none, 0, Nat.zero_le _, rfl, rfl, OwnI.nil_, Below.refl _ _⟩
  case round =>
    obtain ⟨m, A', c', hm, rfl, rfl, hown, hb⟩ := hrel
    by_cases hlt : m < k
    · have HR := Lib.hid (rangeI_succ m)
      go_wp2_with (
        at_builtin
        refine wpList_append_ints rfl _ _ _ rfl w.heap.size 3 i0 _ Tryz.underlying22 hi0 hz0 hz1 hz2 rfl A' m c' _ rfl (hown.alloc _) _ _ 1 1 [(m : Int)] rfl (Ints.one _ _ _) (m + 1) rfl _ rfl (by omega) (le_alloc hb.size _) ?_
        intro A2 c2 w2 hown2 hgr hbw2 hab
        rw [← HR.out] at hown2
        have hb2 := (ballocs hb (.cells #[.int .i64 (m : Int)] 3)).trans hbw2)
      go_roundw
      case rel => exact ⟨m + 1, A2, c2, by omega, by go_num, rfl, hown2, hb2⟩
      case measure => simp [intOf]; omega
    · have hkm : m = k := by omega
      subst hkm
      go_wp2
      have hD := h.below hb hg
      have hIr := hown.ints
      have hcap : m ≤ c' := by
        rcases hown.2 with ⟨_, h0⟩ | ⟨g', cap, cur, hv, _, _, hnc, _⟩
        · omega
        · injection hv; omega
      have hrow := hown.row
      clear hown
      go_loopw [5, 6] (fun v u wr => ∃ (r s : Nat) (A1 A2 : Option Addr) (c1 c2 q1 : Nat) (rs os : List Int), v = .slice A1 r c1 ∧ u = .slice A2 s c2 ∧ r ≤ c1 ∧ (A1 = none → r = 0) ∧ s + r = m ∧ Ints wr wr.heap.size A1 r rs ∧ OwnI wr w.heap.size 3 A2 s c2 os ∧
        Hid ((os ++ rs).Perm (rangeI m)) ∧ Apart (.slice A2 s c2) w.heap.size A1 r ∧ Deck wr g A n c xs q1 ∧ Step g w wr) (fun v _ _ => sliceLen v)
      case atStart =>
        refine ⟨m, 0, A', none, c', 0, q, rangeI m, [], rfl, rfl, hcap, ?_, by omega, hIr, OwnI.nil_, Lib.hid (List.Perm.refl _), ?_, hD, Step.of_below hb⟩
        · rintro rfl
          rcases Nat.eq_zero_or_pos m with h0 | h0
          · exact h0
          · obtain ⟨b, off, e, _⟩ := hIr.2 h0; cases e
        · intro h0 b off s e
          exact ⟨hrow b (by rw [e]; rfl), by simp [Value.ownBlock]⟩
      case round =>
        obtain ⟨r, s, A1, A2, c1, c2, q1, rs, os, rfl, rfl, hrc, hA1, hsr, hI, hown, HP, hap, hD1, hS1⟩ := hrel
        by_cases hr0 : r = 0
        · subst hr0
          have hrs : rs = [] := List.eq_nil_of_length_eq_zero hI.1
          subst hrs
          have hsm : s = m := by omega
          subst hsm
          go_wp2
          go_ret
          exact ⟨A2, c2, os, q1, rfl, hown, by have := HP.out; rw [List.append_nil] at this; exact this, hD1, hS1⟩
        · have hpos : (0 : Int) < (r : Int) := by omega
          obtain ⟨b, off, hA, hb1, hcell⟩ := hI.2 (by omega)
          subst hA
          have HC := Lib.hid hcell
          clear hcell
          go_wp2_with (first
            | (go_at_call 22; refine (next_any g A n c xs q1 r _ hD1 (by omega)).mono ?_; rintro e w1 ⟨j', q2, rfl, hj, hj0, hD2, hS2, hzw⟩
               obtain ⟨j, rfl⟩ : ∃ j : Nat, j' = j := ⟨j'.toNat, by have := hj (by omega); omega⟩
               have hjr : j < r := by have := hj (by omega); omega
               have hS3 := hS1.trans hS2
               have hbg : b ≠ g := by have := (hap (by omega) b off none rfl).1; omega
               have hI2 := hI.stepAt hS2 hbg
               have hcj : w1.cell? ⟨b, off + j, none⟩ = some (.int .i64 (rs.getD j 0)) := (World.cell?_of_block (World.grownBy.block hS2 b hb1 (fun e => hbg (by injection e)))).trans (HC.out j hjr)
               have hown2 := hown.step hS2 hg
               obtain ⟨x, hx⟩ : ∃ x, rs.getD j 0 = x := ⟨_, rfl⟩
               rw [hx] at hcj
               have HXJ := Lib.hid hx
               clear hx
               clear hj hj0 hzw)
            | (at_builtin
               refine wpList_append_ints rfl _ _ _ rfl w.heap.size 3 i0 _ Tryz.underlying22 hi0 hz0 hz1 hz2 rfl A2 s c2 os rfl (hown2.alloc _) _ _ 1 1 [x] rfl (Ints.one _ _ _) (s + 1) rfl (os ++ [x]) rfl (by omega) (le_alloc hS3.size _) ?_
               intro A3 c3 w3 hown3 hgr3 hbw3 hab3))
          have hne2 : (Value.slice A2 s c2).ownBlock ≠ some b := (hap (by omega) b off none rfl).2
          have hBb := (hap (by omega) b off none rfl).1
          have hI3 := ((hI2.upto (bbox (.cells #[.int .i64 x] 3))).grownAt hgr3 hne2)
          have hb1w : b < w1.heap.size := Nat.lt_of_lt_of_le hb1 (World.grownBy.size hS2)
          have hab4 : (Value.slice A3 (s + 1) c3).ownBlock ≠ some b := by
            rcases hab3 with h0 | h0
            · rw [h0]; exact hne2
            · rw [h0, World.size_alloc]; intro e; injection e with e; omega
          have hsz3 : w.heap.size ≤ w3.heap.size := Nat.le_trans (le_alloc hS3.size _) hbw3.size
          have hD3 := (hD2.alloc (.cells #[.int .i64 x] 3)).below hbw3 hg
          have hS4 : Step g w w3 := (hS3.alloc _).thenBelow hbw3
          have HP2 : Hid (((os ++ [x]) ++ (rs.take j ++ rs.drop (j + 1))).Perm (rangeI m)) := Lib.hid (by
            have := order_step j (by rw [hI.1]; exact hjr) HP.out
            rw [HXJ.out] at this; exact this)
          obtain ⟨A4, hA4, HI4⟩ : ∃ A4 : Option Addr, (if c1 = j + 1 then some (⟨b, off, none⟩ : Addr) else some ⟨b, off + (j + 1), none⟩) = A4 ∧ Hid (Ints w3 w3.heap.size A4 (r - (j + 1)) (rs.drop (j + 1))) := by
            refine ⟨_, rfl, Lib.hid (hI3.drop_ (j + 1) (by omega) _ (fun h => ?_))⟩
            rw [if_neg (by omega)]
          have HT4 := Lib.hid (hI3.take_ j (by omega))
          have HX1 := Lib.hid hgr3
          have HX2 := Lib.hid hbw3
          have HX3 := Lib.hid hab4
          have HX4 := Lib.hid hsz3
          have HX5 := Lib.hid hBb
          clear hgr3 hbw3 hab3 hab4 hsz3 hBb hne2 hI3 hI2 hcj hb1w hb1 hI hown hown2 hap hS1 hS2 hD1 hD2 hS3 hIr hrow hcap hD h hb HC HXJ HP hbg
          have hwr : IntKind.i64.wrap ((j : Int) + 1) = (j : Int) + 1 := IntWalk.i64_in _ (by omega)
          have hp0 : (0 : Int) ≤ (j : Int) + 1 := by omega
          have hp1 : (j : Int) + 1 ≤ (r : Int) := by omega
          have hp2 : ((j : Int) + 1).toNat = j + 1 := by omega
          have hp3 : j ≤ c1 := by omega
          go_region_law (refine step_append_cut rfl (.tmp 35) (.tmp 39) 22 rfl 3 i0 _ Tryz.underlying22 hi0 hz0 hz1 hz2 rfl (some ⟨b, off, none⟩) j (rs.take j) (fun h => by cases h) (by simp [Act.eval, Act.put]) _ HT4.out.drew A4 (r - (j + 1)) (c1 - (j + 1)) (rs.drop (j + 1)) (by simp [Act.eval, Act.put]) _ HI4.out.drew (by omega) (r - 1) (by omega) _ rfl ?_; intro A5 c5 w4 hn5 hz5 hbw5 hor5)
          simp only [List.getElem_toArray, List.getElem_cons_succ, List.getElem_cons_zero, Act.put, List.setIfInBounds_toArray, List.set_cons_succ, List.set_cons_zero]
          go_roundw
          case rel =>
            (repeat apply Exists.intro)
            refine ⟨?_, rfl⟩
            have hb4 : Below w3.heap.size w3 w4 := (Below.refl _ _).drew.trans hbw5
            refine ⟨r - 1, s + 1, A5, A3, c5, c3, q2, _, _, rfl, rfl, hn5, hz5, by omega, ?_, hown3.belowAll hb4, HP2, ?_, hD3.belowAll hb4, hS4.thenBelow (hb4.mono HX4.out)⟩
            · rcases hor5 with ⟨h0, rfl, rfl⟩ | h5
              · have e1 : r - (j + 1) = 0 := h0
                have h6 := HT4.out.drew
                have e2 : rs.drop (j + 1) = [] := List.eq_nil_of_length_eq_zero (by rw [HI4.out.1]; exact e1)
                rw [e2, List.append_nil, show r - 1 = j by omega]
                exact h6
              · exact h5.ints
            · intro h0 b' off' s' e
              rcases hor5 with ⟨_, e1, rfl⟩ | h5
              · rw [e] at e1
                injection e1 with e1
                injection e1 with e1 _ _
                subst e1
                exact ⟨HX5.out, HX3.out⟩
              · have h6 := h5.row b' (by rw [e]; rfl)
                have h7 := HX4.out
                have h8 : w3.heap.size ≤ b' := h6
                refine ⟨by omega, fun e2 => ?_⟩
                have := (World.ownsRow.lt hown3 b' e2).2
                omega
          case measure => simp [sliceLen]; omega

theorem order_mem {n : Nat} {ks : List Int} (h : IsOrder n ks) : ∀ k ∈ ks, 0 ≤ k ∧ k < (n : Int) := by
  intro k hk
  have := h.mem_iff.1 hk
  simp [rangeI] at this
  obtain ⟨j, hj, rfl⟩ := this
  omega

theorem order_len {n : Nat} {ks : List Int} (h : IsOrder n ks) : ks.length = n := by rw [h.length_eq, rangeI_len]

theorem order_at {n : Nat} {ks : List Int} (h : IsOrder n ks) {m : Nat} (hm : m < n) : ∃ k : Nat, ks.getD m 0 = k ∧ k < n := by
  have hl : m < ks.length := by rw [order_len h]; exact hm
  have := order_mem h ks[m] (List.getElem_mem hl)
  refine ⟨ks[m].toNat, ?_, by omega⟩
  rw [List.getD_eq_getElem?_getD, List.getElem?_eq_getElem hl, Option.getD_some]
  omega

/-- Two rows of the call's own that lie apart. -/
def Two (w : World) (base : Nat) (e : TypeId) (A1 : Option Addr) (n1 c1 : Nat) (xs : List Int) (A2 : Option Addr) (n2 c2 : Nat) (ys : List Int) : Prop :=
  OwnI w base e A1 n1 c1 xs ∧ OwnI w base e A2 n2 c2 ys ∧ ∀ b, (Value.slice A1 n1 c1).ownBlock = some b → (Value.slice A2 n2 c2).ownBlock ≠ some b

section
variable {w w' : World} {base n1 c1 n2 c2 : Nat} {e : TypeId} {A1 A2 : Option Addr} {xs ys : List Int}
theorem Two.nil_ : Two w base e none 0 0 [] none 0 0 [] := ⟨OwnI.nil_, OwnI.nil_, fun b h => by simp [Value.ownBlock] at h⟩
theorem Two.alloc (h : Two w base e A1 n1 c1 xs A2 n2 c2 ys) (o : Obj) : Two (w.alloc o) base e A1 n1 c1 xs A2 n2 c2 ys := ⟨h.1.alloc o, h.2.1.alloc o, h.2.2⟩
theorem Two.drew (h : Two w base e A1 n1 c1 xs A2 n2 c2 ys) : Two w.drew base e A1 n1 c1 xs A2 n2 c2 ys := h
theorem Two.swap (h : Two w base e A1 n1 c1 xs A2 n2 c2 ys) : Two w base e A2 n2 c2 ys A1 n1 c1 xs := ⟨h.2.1, h.1, fun b h1 h2 => h.2.2 b h2 h1⟩
theorem Two.first {A3 : Option Addr} {n3 c3 : Nat} {zs : List Int} (h : Two w base e A1 n1 c1 xs A2 n2 c2 ys) (hown : OwnI w' base e A3 n3 c3 zs) (hg : w.grownBy w' (Value.slice A1 n1 c1).ownBlock)
    (hab : (Value.slice A3 n3 c3).ownBlock = (Value.slice A1 n1 c1).ownBlock ∨ (Value.slice A3 n3 c3).ownBlock = some w.heap.size) : Two w' base e A3 n3 c3 zs A2 n2 c2 ys := by
  refine ⟨hown, ?_, ?_⟩
  · rcases hb : (Value.slice A2 n2 c2).ownBlock with _ | b
    · exact h.2.1.kept hg (.inl hb)
    · refine h.2.1.kept hg (.inr ?_)
      rw [hb]
      intro e1
      exact h.2.2 b e1.symm hb
  · intro b h1 h2
    rcases hab with h3 | h3
    · exact h.2.2 b (by rw [← h3, h1]) h2
    · rw [h3] at h1
      injection h1 with h1
      have := (World.ownsRow.lt h.2.1 b h2).2
      omega
end

/-- The new cell in which an appended element lies, its block by name. -/
theorem Ints.lit (w : World) (cs : Array Value) (xs : List Int) (t : TypeId) (n g : Nat) (hg : g = w.heap.size) (hcs : cs = (vals xs).toArray) (hn : xs.length = n) : Ints (w.alloc (.cells cs t)) (w.alloc (.cells cs t)).heap.size (some ⟨g, 0, none⟩) n xs := by
  subst hg hcs
  refine ⟨hn, fun _ => ⟨_, _, rfl, by simp, fun j hj => ?_⟩⟩
  rw [Nat.zero_add, World.cell?_alloc_at _ _ _ _ rfl]
  simp [vals, List.getD_eq_getElem?_getD, show j < xs.length by omega]

theorem Ints.oneAt (w : World) (x : Int) (t : TypeId) (g : Nat) (hg : g = w.heap.size) : Ints (w.alloc (.cells #[.int .i64 x] t)) (w.alloc (.cells #[.int .i64 x] t)).heap.size (some ⟨g, 0, none⟩) 1 [x] := by
  subst hg
  exact (Ints.one w x t).more (by simp)

/-- A cell that neither of the two rows owns. -/
def Src (w : World) (v1 v2 : Value) (b : Nat) (u : Int) : Prop := Ints w w.heap.size (some ⟨b, 0, none⟩) 1 [u] ∧ v1.ownBlock ≠ some b ∧ v2.ownBlock ≠ some b

theorem Src.new {w : World} {base n1 c1 n2 c2 : Nat} {e : TypeId} {A1 A2 : Option Addr} {xs ys : List Int} (h : Two w base e A1 n1 c1 xs A2 n2 c2 ys) {w' : World} {b : Nat} {u : Int} (hb : w.heap.size ≤ b) (hI : Ints w' w'.heap.size (some ⟨b, 0, none⟩) 1 [u]) :
    Src w' (.slice A1 n1 c1) (.slice A2 n2 c2) b u :=
  ⟨hI, fun e1 => by have := (World.ownsRow.lt h.1 b e1).2; omega, fun e1 => by have := (World.ownsRow.lt h.2.1 b e1).2; omega⟩

/-- An append of one number to a row of the call's own, in a region that draws its order. -/
theorem step_append_own {P : Program} {ops : Array Oper} {o : Oper} {a : Act} {w : World} {K : Act → World → Prop} {Q : Exit → Act → World → Prop} {E : Prop}
    (hg : o.guard = none) (s x : Operand) (t : TypeId) (hop : o.op = Op.call { callee := Callee.builtin Builtin.append, args := #[s, x], argTypes := #[t, t] })
    (base : Nat) (e : TypeId) (i : TypeInfo) (z : Value) (ht : P.underlying t = some (.slice e)) (hi : P.info? e = some i) (hz : i.zero = some z) (hsize : i.size = 1) (hby : i.bytes = 8) (hzs : z.cells.size = 1)
    (A1 : Option Addr) (n1 c1 : Nat) (xs : List Int) (hT : OwnI w base e A1 n1 c1 xs) (hs : a.eval s = .slice A1 n1 c1)
    (b : Nat) (c : Nat) (u : Int) (hx : a.eval x = .slice (some ⟨b, 0, none⟩) 1 c) (hI : Ints w w.heap.size (some ⟨b, 0, none⟩) 1 [u]) (hcap : n1 + 1 ≤ 17592186044416) (hbase : base ≤ w.heap.size)
    (hK : ∀ A' c' w', OwnI w' base e A' (n1 + 1) c' (xs ++ [u]) → Below base w w' → K (a.put o.dst (.slice A' (n1 + 1) c')) w') :
    if Region.wanted o (yielded ops a.tmps) = true then Oper.wp P o a w K Q else E := by
  refine step_append_any (P := P) w hg s x t hop base e i z 1 8 ht hi hz hsize hby hzs (by omega) (.slice A1 n1 c1) n1 (vals xs) hs hT w.heap.size (some ⟨b, 0, none⟩) 1 c (vals [u]) hx hI.reads (vals_one _) (by unfold maxLen; omega) (by omega) hbase ?_
  intro v' w' hown hgr hab
  have hb : Below base w w' := (Below.refl base w).grown hgr hbase hT.row
  rcases hown.2 with ⟨_, h0⟩ | ⟨g, cap, cur, rfl, _⟩
  · omega
  · refine hK _ cap w' ?_ hb
    unfold OwnI
    rw [show vals (xs ++ [u]) = vals xs ++ vals [u] by simp [vals]]
    exact hown
end Go.Proofs.YtmcgnpdfpfgfpaaGreatDoor

/-! Mat -/
namespace Go.Proofs.YtmcgnpdfpfgfpaaGreatDoor
open Go.RowKit
set_option linter.unusedVariables false

/-- The slice's block is not below lo. -/
def Lo (lo : Nat) (A : Option Addr) (n : Nat) : Prop := 0 < n → ∀ b off s, A = some ⟨b, off, s⟩ → lo ≤ b

/-- The slice of slices reads as these rows; all of it lies from block lo on, and below block B. -/
def Mat (w : World) (lo B : Nat) (A : Option Addr) (n : Nat) (rows : List (List Int)) : Prop :=
  rows.length = n ∧ (0 < n → ∃ b off, A = some ⟨b, off, none⟩ ∧ lo ≤ b ∧ b < B ∧ ∀ j, j < n → ∃ A' n' c', w.cell? ⟨b, off + j, none⟩ = some (.slice A' n' c') ∧ n' ≤ 17592186044416 ∧ Ints w B A' n' (rows.getD j []) ∧ Lo lo A' n')

section
variable {w w' : World} {lo B B' n : Nat} {A : Option Addr} {rows : List (List Int)}
theorem Mat.len (h : Mat w lo B A n rows) : rows.length = n := h.1
theorem Mat.keep (h : Mat w lo B A n rows) (hk : ∀ p : Addr, lo ≤ p.block → p.block < B → w'.cell? p = w.cell? p) : Mat w' lo B A n rows :=
  ⟨h.1, fun hn => by
    obtain ⟨b, off, e, hl, hb, hc⟩ := h.2 hn
    refine ⟨b, off, e, hl, hb, fun j hj => ?_⟩
    obtain ⟨A', n', c', h1, h2, h3, h4⟩ := hc j hj
    refine ⟨A', n', c', (hk _ hl hb).trans h1, h2, ⟨h3.1, fun h0 => ?_⟩, h4⟩
    obtain ⟨b2, o2, e2, hb2, hc2⟩ := h3.2 h0
    exact ⟨b2, o2, e2, hb2, fun i hi => (hk _ (h4 h0 b2 o2 _ e2) hb2).trans (hc2 i hi)⟩⟩
theorem Mat.more (h : Mat w lo B A n rows) (hB : B ≤ B') : Mat w lo B' A n rows :=
  ⟨h.1, fun hn => by
    obtain ⟨b, off, e, hl, hb, hc⟩ := h.2 hn
    refine ⟨b, off, e, hl, by omega, fun j hj => ?_⟩
    obtain ⟨A', n', c', h1, h2, h3, h4⟩ := hc j hj
    exact ⟨A', n', c', h1, h2, h3.more hB, h4⟩⟩
theorem Mat.below (h : Mat w lo B A n rows) (hb : Below B w w') : Mat w' lo B A n rows := h.keep fun _ _ hp => hb.cell hp
theorem Mat.upto (h : Mat w lo w.heap.size A n rows) (hb : Below w.heap.size w w') : Mat w' lo w'.heap.size A n rows := (h.below hb).more hb.size
theorem Mat.low {lo' : Nat} (h : Mat w lo B A n rows) (hl : lo' ≤ lo) : Mat w lo' B A n rows :=
  ⟨h.1, fun hn => by
    obtain ⟨b, off, e, h0, hb, hc⟩ := h.2 hn
    refine ⟨b, off, e, by omega, hb, fun j hj => ?_⟩
    obtain ⟨A', n', c', h1, h2, h3, h4⟩ := hc j hj
    exact ⟨A', n', c', h1, h2, h3, fun hp b o s e => by have := h4 hp b o s e; omega⟩⟩
theorem Mat.at_ (h : Mat w lo B A n rows) {j : Nat} (hj : j < n) : ∃ b off A' n' c', A = some ⟨b, off, none⟩ ∧ lo ≤ b ∧ b < B ∧ w.cell? ⟨b, off + j, none⟩ = some (.slice A' n' c') ∧ n' ≤ 17592186044416 ∧ Ints w B A' n' (rows.getD j []) ∧ Lo lo A' n' := by
  obtain ⟨b, off, e, hl, hb, hc⟩ := h.2 (by omega)
  obtain ⟨A', n', c', h1, h2, h3, h4⟩ := hc j hj
  exact ⟨b, off, A', n', c', e, hl, hb, h1, h2, h3, h4⟩
end

theorem Mat.step {g lo n : Nat} {w w' : World} {A : Option Addr} {rows : List (List Int)} (h : Mat w lo w.heap.size A n rows) (hs : Step g w w') (hg : g < lo) : Mat w' lo w'.heap.size A n rows :=
  (h.keep fun p hl hb => World.cell?_of_block (World.grownBy.block hs p.block hb (fun e => by injection e; omega))).more (World.grownBy.size hs)

end Go.Proofs.YtmcgnpdfpfgfpaaGreatDoor
