/-
  What Limits hands back for any arguments, on both sides, and the second form's comparison of equal shares. Conditions: the shares read as their points and values.
-/
import Derived.Test.YtoblofilaegnaaaSpAll
import Derived.Test.YtoblofilaegnaaaRShAll
import Derived.Deep.QuietTactic
import Derived.BigQuiet
namespace Go.Proofs.Ytoblofilaegnaaa
open Go.RowKit
set_option linter.unusedVariables false

/-- What Limits finds. -/
def limR (p m : Int) : List Int × Int := if okP p = true then (if 0 ≤ m ∧ m ≤ 9 then (List.replicate m.toNat p, 0) else ([], 1)) else ([], 9)
set_option maxRecDepth 100000 in
theorem limits_yes (p : Int) (th : Nat) (w : World) (hok : okP p = true) (hth : th ≤ 9) :
    Calls Try.prog 55 #[.agg #[.int .i64 p], .int .i64 th] w fun e w' => (∃ A' c', e = .returned (.tuple #[.slice A' th c', .int .i64 0]) ∧ OwnI w' w.heap.size 3 A' th c' (List.replicate th p)) ∧ Below w.heap.size w w' := by
  obtain ⟨i0, hi0, hz0, hz1, hz2⟩ := info_parts info_int
  have hp := okP_pos hok
  have HO := Lib.hid hok
  have HTH : Hid (decide ((0 : Int) ≤ (th : Int) ∧ (th : Int) ≤ 9) = true) := Lib.hid (decide_eq_true (by omega))
  have hb0 : Below w.heap.size w (w.alloc (.cells #[.int .i64 p] 24)) := bbox _
  have hF0 := Blk.new w 24 #[.int .i64 p]
  clear hok
  go_enter Try.func55, Try.ntmps55
  go_wp2_with (first
    | (go_at_call 118; refine (of_yes p _ HO.out).mono ?_; rintro e w1 ⟨rfl, hb1⟩
       have hbb1 := bnext hb0 hb1
       have hF1 := hF0.below hb1 hF0.lt)
    | (go_at_call 140; refine (threshold_any th _).mono ?_; rintro e w' ⟨rfl, rfl⟩; rw [HTH.out]))
  go_loopw [8, 20] (fun s i wz => ∃ (k : Nat) (L : Option Addr) (lc : Nat), k ≤ th ∧ s = .slice L k lc ∧ i = .int .i64 k ∧ OwnI wz w1.heap.size 3 L k lc (List.replicate k p) ∧ Below w1.heap.size w1 wz) (fun _ i _ => th - (intOf i).toNat)
  case atStart => exact ⟨0, none, 0, Nat.zero_le _, rfl, rfl, OwnI.nil_, Below.refl _ _⟩
  case round =>
    obtain ⟨k, L, lc, hk, rfl, rfl, hown, hb⟩ := hrel
    by_cases hlt : k < th
    · have hki : (k : Int) < (th : Int) := by omega
      have hFz := hF1.below hb hF1.lt
      have hcz : wr.cell? ⟨w.heap.size, 0, none⟩ = some (.int .i64 p) := (hFz.cell 0).trans rfl
      have HS : Hid (List.replicate k p ++ [p] = List.replicate (k + 1) p) := Lib.hid (List.replicate_succ' ..).symm
      have hbz3 := hb.alloc hb.size (.cells #[.int .i64 p] 3)
      have hown2 := hown.alloc (.cells #[.int .i64 p] 3)
      go_wp2_with ((at_builtin; refine wpList_append_ints rfl _ _ _ rfl w1.heap.size 3 i0 _ Try.underlying22 hi0 hz0 hz1 hz2 rfl L k lc _ rfl hown2 _ _ 1 1 [p] rfl (Ints.one _ _ _) (k + 1) rfl _ HS.out (by omega) hbz3.size ?_; intro A2 c2 w4 hown4 hgr hbw4 hab; have hbz4 := hbz3.trans hbw4))
      go_roundw
      case rel => exact ⟨k + 1, A2, c2, by omega, rfl, by go_num, hown4, hbz4⟩
      case measure => simp [intOf]; omega
    · obtain rfl : k = th := by omega
      go_wp2
      go_ret2
      exact ⟨⟨L, lc, rfl, hown.base hbb1.size⟩, bnext hbb1 hb⟩


set_option maxRecDepth 100000 in
theorem rlimits_yes (p : Int) (th : Nat) (w : World) (hok : okP p = true) (hth : th ≤ 9) :
    Calls Try.prog 52 #[.agg #[.int .i64 p], .int .i64 th] w fun e w' => (∃ A' c', e = .returned (.tuple #[.slice A' th c', .int .i64 0]) ∧ OwnI w' w.heap.size 3 A' th c' (List.replicate th p)) ∧ Below w.heap.size w w' := by
  obtain ⟨i0, hi0, hz0, hz1, hz2⟩ := info_parts info_int
  have hp := okP_pos hok
  have HO := Lib.hid hok
  have hb0 : Below w.heap.size w (w.alloc (.cells #[.int .i64 p] 24)) := bbox _
  have hF0 := Blk.new w 24 #[.int .i64 p]
  clear hok
  go_enter Try.func52, Try.ntmps52
  have h1 : ¬ (th : Int) < 0 := by omega
  have h2 : ¬ (9 : Int) < (th : Int) := by omega
  go_wp2_with (go_at_call 128; refine (check_yes p _ HO.out).mono ?_; rintro e w1 ⟨rfl, hb1⟩
               have hbb1 := bnext hb0 hb1
               have hF1 := hF0.below hb1 hF0.lt)
  go_loopw [7, 20] (fun s i wz => ∃ (k : Nat) (L : Option Addr) (lc : Nat), k ≤ th ∧ s = .slice L k lc ∧ i = .int .i64 k ∧ OwnI wz w1.heap.size 3 L k lc (List.replicate k p) ∧ Below w1.heap.size w1 wz) (fun _ i _ => th - (intOf i).toNat)
  case atStart => exact ⟨0, none, 0, Nat.zero_le _, rfl, rfl, OwnI.nil_, Below.refl _ _⟩
  case round =>
    obtain ⟨k, L, lc, hk, rfl, rfl, hown, hb⟩ := hrel
    by_cases hlt : k < th
    · have hki : (k : Int) < (th : Int) := by omega
      have hFz := hF1.below hb hF1.lt
      have hcz : wr.cell? ⟨w.heap.size, 0, none⟩ = some (.int .i64 p) := (hFz.cell 0).trans rfl
      have HS : Hid (List.replicate k p ++ [p] = List.replicate (k + 1) p) := Lib.hid (List.replicate_succ' ..).symm
      have hbz3 := hb.alloc hb.size (.cells #[.int .i64 p] 3)
      have hown2 := hown.alloc (.cells #[.int .i64 p] 3)
      go_wp2_with ((at_builtin; refine wpList_append_ints rfl _ _ _ rfl w1.heap.size 3 i0 _ Try.underlying22 hi0 hz0 hz1 hz2 rfl L k lc _ rfl hown2 _ _ 1 1 [p] rfl (Ints.one _ _ _) (k + 1) rfl _ HS.out (by omega) hbz3.size ?_; intro A2 c2 w4 hown4 hgr hbw4 hab; have hbz4 := hbz3.trans hbw4))
      go_roundw
      case rel => exact ⟨k + 1, A2, c2, by omega, rfl, by go_num, hown4, hbz4⟩
      case measure => simp [intOf]; omega
    · obtain rfl : k = th := by omega
      go_wp2
      go_ret2
      exact ⟨⟨L, lc, rfl, hown.base hbb1.size⟩, bnext hbb1 hb⟩



set_option maxRecDepth 100000 in
theorem limits_all (p m : Int) (w : World) (hp64 : -9223372036854775808 ≤ p ∧ p ≤ 9223372036854775807) :
    Calls Try.prog 55 #[.agg #[.int .i64 p], .int .i64 m] w (VecPost (limR p m) w) := by
  have hb0 : Below w.heap.size w (w.alloc (.cells #[.int .i64 p] 24)) := bbox _
  by_cases hok : okP p = true
  · by_cases hm : 0 ≤ m ∧ m ≤ 9
    · have e1 : limR p m = (List.replicate m.toNat p, 0) := by unfold limR; rw [if_pos hok, if_pos hm]
      rw [e1]
      obtain ⟨th, rfl⟩ : ∃ th : Nat, m = th := ⟨m.toNat, by omega⟩
      refine (limits_yes p th w hok (by omega)).mono ?_
      rintro e w' ⟨⟨A', c', rfl, hO⟩, hb⟩
      exact ⟨⟨A', th, c', rfl, hO⟩, hb⟩
    · have e1 : limR p m = ([], 1) := by unfold limR; rw [if_pos hok, if_neg hm]
      rw [e1]
      have HO := Lib.hid hok
      have HTH : Hid (decide (0 ≤ m ∧ m ≤ 9) = false) := Lib.hid (decide_eq_false hm)
      clear hok hm e1
      go_enter Try.func55, Try.ntmps55
      go_wp2_with (first
        | (go_at_call 118; refine (of_yes p _ HO.out).mono ?_; rintro e w1 ⟨rfl, hb1⟩
           have hbb1 := bnext hb0 hb1)
        | (go_at_call 140; refine (threshold_any m _).mono ?_; rintro e w' ⟨rfl, rfl⟩; rw [HTH.out]))
      go_ret2
      exact ⟨⟨none, 0, 0, rfl, OwnI.nil_⟩, hbb1⟩
  · have e1 : limR p m = ([], 9) := by unfold limR; rw [if_neg hok]
    rw [e1]
    have hokf : okP p = false := by simpa using hok
    have HO := Lib.hid hokf
    clear hok hokf e1
    go_enter Try.func55, Try.ntmps55
    go_wp2_with (go_at_call 118; refine (of_no p _ hp64 HO.out).mono ?_; rintro e w1 ⟨rfl, hb1⟩
                 have hbb1 := bnext hb0 hb1)
    go_ret2
    exact ⟨⟨none, 0, 0, rfl, OwnI.nil_⟩, hbb1⟩
set_option maxRecDepth 100000 in
theorem rlimits_all (p m : Int) (w : World) :
    Calls Try.prog 52 #[.agg #[.int .i64 p], .int .i64 m] w (VecPost (limR p m) w) := by
  have hb0 : Below w.heap.size w (w.alloc (.cells #[.int .i64 p] 24)) := bbox _
  by_cases hok : okP p = true
  · by_cases hm : 0 ≤ m ∧ m ≤ 9
    · have e1 : limR p m = (List.replicate m.toNat p, 0) := by unfold limR; rw [if_pos hok, if_pos hm]
      rw [e1]
      obtain ⟨th, rfl⟩ : ∃ th : Nat, m = th := ⟨m.toNat, by omega⟩
      refine (rlimits_yes p th w hok (by omega)).mono ?_
      rintro e w' ⟨⟨A', c', rfl, hO⟩, hb⟩
      exact ⟨⟨A', th, c', rfl, hO⟩, hb⟩
    · have e1 : limR p m = ([], 1) := by unfold limR; rw [if_pos hok, if_neg hm]
      rw [e1]
      have HO := Lib.hid hok
      have HBD : Hid (m < 0 ∨ (¬ m < 0 ∧ 9 < m)) := Lib.hid (by omega)
      clear hok hm e1
      rcases HBD.out with h1 | ⟨h1, h2⟩
      · go_enter Try.func52, Try.ntmps52
        go_wp2_with (go_at_call 128; refine (check_yes p _ HO.out).mono ?_; rintro e w1 ⟨rfl, hb1⟩
                     have hbb1 := bnext hb0 hb1)
        go_ret2
        exact ⟨⟨none, 0, 0, rfl, OwnI.nil_⟩, hbb1⟩
      · go_enter Try.func52, Try.ntmps52
        go_wp2_with (go_at_call 128; refine (check_yes p _ HO.out).mono ?_; rintro e w1 ⟨rfl, hb1⟩
                     have hbb1 := bnext hb0 hb1)
        go_ret2
        exact ⟨⟨none, 0, 0, rfl, OwnI.nil_⟩, hbb1⟩
  · have e1 : limR p m = ([], 9) := by unfold limR; rw [if_neg hok]
    rw [e1]
    have hokf : okP p = false := by simpa using hok
    have HO := Lib.hid hokf
    clear hok hokf e1
    go_enter Try.func52, Try.ntmps52
    go_wp2_with (go_at_call 128; refine (check_no p _ HO.out).mono ?_; rintro e w1 ⟨rfl, hb1⟩
                 have hbb1 := bnext hb0 hb1)
    go_ret2
    exact ⟨⟨none, 0, 0, rfl, OwnI.nil_⟩, hbb1⟩

set_option maxRecDepth 100000 in
/-- Equal lists of shares are found equal. -/
theorem rsameS_yes (A B : Option Addr) (n c d : Nat) (us ys : List Int) (w : World) {B1 B2 : Nat} (h : Sh w B1 A n us ys) (h2 : Sh w B2 B n us ys) (hn : n ≤ 1000000) :
    Calls Try.prog 57 #[.slice A n c, .slice B n d] w fun e w' => e = .returned (.bool true) ∧ ∃ q, w' = w.drewN q := by
  go_enter Try.func57, Try.ntmps57
  go_wp2
  go_loopw [13] (fun i wr => ∃ k q : Nat, k ≤ n ∧ i = .int .i64 k ∧ wr = w.drewN q) (fun i _ => n - (intOf i).toNat)
  case atStart => exact ⟨0, 0, Nat.zero_le _, rfl, rfl⟩
  case round =>
    obtain ⟨k, q, hk, rfl, rfl⟩ := hrel
    by_cases hlt : k < n
    · obtain ⟨b1, o1, rfl, _, hc1⟩ := h.2.2 (by omega)
      obtain ⟨b2, o2, rfl, _, hc2⟩ := h2.2.2 (by omega)
      have hx0 := (hc1 k hlt).1
      have hx1 := (hc1 k hlt).2
      have hy0 := (hc2 k hlt).1
      have hy1 := (hc2 k hlt).2
      generalize us.getD k 0 = u at *
      generalize ys.getD k 0 = y at *
      have hk0 : (0 : Int) ≤ (k : Int) := by omega
      have hk1 : (k : Int) < (n : Int) := by omega
      clear hc1 hc2
      go_wp2
      go_quiet (fail)
      go_wp2
      go_roundw
      case rel => exact ⟨k + 1, _, by omega, by go_num, rfl⟩
      case measure => simp [intOf]; omega
    · go_wp2
      go_ret
      exact ⟨rfl, q, rfl⟩
end Go.Proofs.Ytoblofilaegnaaa
