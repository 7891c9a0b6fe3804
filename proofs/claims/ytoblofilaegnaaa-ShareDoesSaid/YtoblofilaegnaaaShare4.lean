/-
  What share's through, At and Join hand back where the shares are too few. Conditions: the shares read as their points and values, all of them elements.
-/
import Derived.Test.YtoblofilaegnaaaGSha
namespace Go.Proofs.Ytoblofilaegnaaa
open Go.RowKit
set_option linter.unusedVariables false

set_option maxRecDepth 100000 in
set_option maxHeartbeats 1600000 in
theorem through_few (p : Int) (A M : Option Addr) (n c m d th : Nat) (us ys ms : List Int) (w : World) (hok : okP p = true) (h : Sh w w.heap.size A n us ys) (hM : Ints w w.heap.size M m ms) (hma : allP p ms = true) (ha : allP p us = true) (hy : allP p ys = true)
    (hn : n ≤ 60) (hm : m ≤ 60) (hth : n ≤ th) (hth9 : th ≤ 9) :
    Calls Try.prog 142 #[.agg #[.int .i64 p], .int .i64 th, .slice A n c, .slice M m d] w fun e w' =>
      e = .returned (.tuple #[.int .i64 0, .slice none 0 0, .int .i64 11]) ∧ Below w.heap.size w w' := by
  have hp := okP_pos hok
  have HO := Lib.hid hok
  have HA := Lib.hid ha
  have HY := Lib.hid hy
  have HM := Lib.hid hma
  have HLA := Lib.hid h.1
  have HLY := Lib.hid h.2.1
  have HTH : Hid (decide ((0 : Int) ≤ (th : Int) ∧ (th : Int) ≤ 9) = true) := Lib.hid (decide_eq_true (by omega))
  have hbf0 : Below (w.alloc (.cells #[.int .i64 p] 24)).heap.size (w.alloc (.cells #[.int .i64 p] 24)) (w.alloc (.cells #[.int .i64 p] 24)) := Below.refl _ _
  have hF0 := Blk.new w 24 #[.int .i64 p]
  have hw0 : Below w.heap.size w (w.alloc (.cells #[.int .i64 p] 24)) := bbox _
  clear ha hy hok hma
  go_enter Try.func142, Try.ntmps142
  go_wp2_with (first
    | (go_at_call 118; refine (of_yes p _ HO.out).mono ?_; rintro e w1 ⟨rfl, hb1⟩
       have hbf1 := bnext hbf0 hb1
       clear hb1)
    | (go_at_call 119; (refine (all_any p M m d ms _ ((hM.upto hw0).upto hbf1) (by omega)).mono ?_); rintro e w2 ⟨rfl, hb2⟩; rw [HM.out]
       have hbf2 := bnext hbf1 hb2
       clear hb2))
  go_loopw [35] (fun i wz => ∃ k : Nat, k ≤ n ∧ i = .int .i64 k ∧ Below (w.alloc (.cells #[.int .i64 p] 24)).heap.size (w.alloc (.cells #[.int .i64 p] 24)) wz) (fun i _ => n - (intOf i).toNat)
  case atStart => exact ⟨0, Nat.zero_le _, rfl, hbf2⟩
  case round =>
    obtain ⟨k, hk, rfl, hbf⟩ := hrel
    have hbz := bnext hw0 hbf
    by_cases hlt : k < n
    · obtain ⟨b, off, rfl, hbl, hcell⟩ := h.2.2 (by omega)
      have hcA := (hbz.cell (p := ⟨b, off + k * 2, none⟩) hbl).trans (hcell k hlt).1
      have hcY := (hbz.cell (p := ⟨b, off + k * 2 + 1, none⟩) hbl).trans (hcell k hlt).2
      clear hcell
      have hxe := allP_getD HA.out (k := k) (by rw [HLA.out]; exact hlt)
      have hye := allP_getD HY.out (k := k) (by rw [HLY.out]; exact hlt)
      generalize us.getD k 0 = x at *
      generalize ys.getD k 0 = y at *
      have HI1 : Hid (inP p x = true) := Lib.hid (inP_iff.2 hxe)
      have HI2 : Hid (inP p y = true) := Lib.hid (inP_iff.2 hye)
      have hbf8 := ballocs hbf (.cells #[.int .i64 x, .int .i64 y] 52)
      have hN := Blk.new wr 52 #[.int .i64 x, .int .i64 y]
      have hn0 : (wr.alloc (.cells #[.int .i64 x, .int .i64 y] 52)).cell? ⟨wr.heap.size, 0, none⟩ = some (.int .i64 x) := (hN.cell 0).trans rfl
      have hn1 : (wr.alloc (.cells #[.int .i64 x, .int .i64 y] 52)).cell? ⟨wr.heap.size, 1, none⟩ = some (.int .i64 y) := (hN.cell 1).trans rfl
      go_wp2_with (first
        | (go_at_call 123; (with_reducible refine (has_any p x _).mono ?_); rintro e w' ⟨rfl, rfl⟩; rw [HI1.out])
        | (go_at_call 123; (with_reducible refine (has_any p y _).mono ?_); rintro e w' ⟨rfl, rfl⟩; rw [HI2.out]))
      go_roundw
      case rel => exact ⟨k + 1, by omega, by go_num, hbf8⟩
      case measure => simp [intOf]; omega
    · have hkn : k = n := by omega
      subst hkn
      obtain ⟨w5, hw5⟩ : ∃ w5, w5 = wr := ⟨_, rfl⟩
      subst hw5
      have hnth : (k : Int) ≤ (th : Int) := by omega
      have hdkth : decide (k ≤ th) = true := by simpa using hth
      have hn512 : ¬ ((512 : Int) < (k : Int)) := by omega
      go_wp2_with (go_at_call 140; refine (threshold_any th _).mono ?_; rintro e w' ⟨rfl, rfl⟩; rw [HTH.out])
      go_ret3
      exact ⟨rfl, hbz⟩

set_option maxRecDepth 100000 in
set_option maxHeartbeats 800000 in
theorem at_share_few (p x : Int) (A : Option Addr) (n c th : Nat) (us ys : List Int) (w : World) (hok : okP p = true) (h : Sh w w.heap.size A n us ys) (hx : 0 ≤ x ∧ x < p) (ha : allP p us = true) (hy : allP p ys = true)
    (hn : n ≤ 60) (hth : n ≤ th) (hth9 : th ≤ 9) :
    Calls Try.prog 63 #[.agg #[.int .i64 p], .int .i64 th, .slice A n c, .int .i64 x] w fun e w' =>
      e = .returned (.tuple #[.int .i64 0, .int .i64 11]) ∧ Below w.heap.size w w' := by
  have hp := okP_pos hok
  have HO := Lib.hid hok
  have HX : Hid (allP p [x] = true) := Lib.hid (allP_iff.2 (by simpa using hx))
  have HA := Lib.hid ha
  have HY := Lib.hid hy
  clear ha hy hok
  have hb0 : Below w.heap.size w ((w.alloc (.cells #[.int .i64 p] 24)).alloc (.cells #[.int .i64 x] 3)) := ballocs (bbox _) _
  have hS0 := h.upto hb0
  go_enter Try.func63, Try.ntmps63
  go_wp2_with (first
    | (go_at_call 142; (refine (through_few p A _ n c 1 1 th us ys [x] _ HO.out hS0 (by exact Ints.oneAt _ x _ _ (by simp)) HX.out HA.out HY.out hn (by omega) hth hth9).mono ?_); rintro e w1 ⟨rfl, hb1⟩
       have hbb1 := bnext hb0 hb1))
  go_ret2
  exact ⟨rfl, hbb1⟩

set_option maxRecDepth 100000 in
set_option maxHeartbeats 800000 in
theorem join_share_few (p : Int) (A : Option Addr) (n c th : Nat) (us ys : List Int) (w : World) (hok : okP p = true) (h : Sh w w.heap.size A n us ys) (ha : allP p us = true) (hy : allP p ys = true)
    (hn : n ≤ 60) (hth : n ≤ th) (hth9 : th ≤ 9) :
    Calls Try.prog 59 #[.agg #[.int .i64 p], .int .i64 th, .slice A n c] w fun e w' =>
      e = .returned (.tuple #[.int .i64 0, .int .i64 11]) ∧ Below w.heap.size w w' := by
  have hp := okP_pos hok
  have HO := Lib.hid hok
  have HA := Lib.hid ha
  have HY := Lib.hid hy
  clear ha hy hok
  have hb0 : Below w.heap.size w (w.alloc (.cells #[.int .i64 p] 24)) := bbox _
  have hS0 := h.upto hb0
  go_enter Try.func59, Try.ntmps59
  go_wp2_with (go_at_call 63; (refine (at_share_few p 0 A n c th us ys _ HO.out hS0 (by omega) HA.out HY.out hn hth hth9).mono ?_); rintro e w1 ⟨rfl, hb1⟩)
  go_ret2
  exact ⟨rfl, bnext hb0 hb1⟩
end Go.Proofs.Ytoblofilaegnaaa
