/-
  What parity's check and Limits, and the second form's Limits, hand back for any arguments. Conditions: none.
-/
import Derived.Test.YtoblofilaegnaaaPar1
import Derived.Test.YtoblofilaegnaaaParB
import Derived.Test.YtoblofilaegnaaaVec2
import Derived.Test.YtoblofilaegnaaaRef
namespace Go.Proofs.Ytoblofilaegnaaa
open Go.RowKit
set_option linter.unusedVariables false

theorem pcheck_any (p r s : Int) (w : World) (hp64 : -9223372036854775808 ≤ p ∧ p ≤ 9223372036854775807) :
    Calls Try.prog 151 #[.agg #[.int .i64 p], .int .i64 r, .int .i64 s] w fun e w' => e = .returned (.int .i64 (sizeE p r s)) ∧ Below w.heap.size w w' := by
  have hb0 : Below w.heap.size w (w.alloc (.cells #[.int .i64 p] 24)) := bbox _
  by_cases hok : okP p = true
  · by_cases h : (2 ≤ s ∧ s ≤ 10) ∧ 1 ≤ r ∧ r ≤ 1024
    · rw [sizeE_yes hok h]
      exact pcheck_ok p r s w hok h.2 h.1
    · have e1 : sizeE p r s = 1 := by unfold sizeE; rw [if_pos hok, if_neg h]
      rw [e1]
      have HO := Lib.hid hok
      have HBD : Hid (s < 2 ∨ (¬ s < 2 ∧ 10 < s) ∨ (¬ s < 2 ∧ ¬ 10 < s ∧ r < 1) ∨ (¬ s < 2 ∧ ¬ 10 < s ∧ ¬ r < 1 ∧ 1024 < r)) := Lib.hid (by omega)
      clear hok h e1
      rcases HBD.out with h1 | ⟨h1, h2⟩ | ⟨h1, h2, h3⟩ | ⟨h1, h2, h3, h4⟩
      all_goals
        go_enter Try.func151, Try.ntmps151
        go_wp2_with (go_at_call 118; refine (of_yes p _ HO.out).mono ?_; rintro e w1 ⟨rfl, hb1⟩; have hbb1 := bnext hb0 hb1; clear hb1)
        go_ret
        exact ⟨rfl, hbb1⟩
  · have e1 : sizeE p r s = 9 := by unfold sizeE; rw [if_neg hok]
    rw [e1]
    have hokf : okP p = false := by simpa using hok
    have HO := Lib.hid hokf
    clear hok hokf e1
    go_enter Try.func151, Try.ntmps151
    go_wp2_with (go_at_call 118; refine (of_no p _ hp64 HO.out).mono ?_; rintro e w1 ⟨rfl, hb1⟩; have hbb1 := bnext hb0 hb1; clear hb1)
    go_ret
    exact ⟨rfl, hbb1⟩

set_option maxRecDepth 100000 in
theorem plimits_all (p r s : Int) (w : World) (hp64 : -9223372036854775808 ≤ p ∧ p ≤ 9223372036854775807) :
    Calls Try.prog 82 #[.agg #[.int .i64 p], .int .i64 r, .int .i64 s] w (VecPost (plimR p r s) w) := by
  by_cases h : sizeE p r s = 0
  · obtain ⟨hok, hs, hr⟩ := sizeE_zero h
    obtain ⟨r', s1, rfl, hs1, _, hr1, hs2, hN, hN2, hle⟩ := sizes_of ⟨hs, hr⟩
    have e1 : plimR p r' s = (List.replicate (r' * s1) p, 0) := by unfold plimR; rw [if_pos h, hN2]
    rw [e1]
    rw [hs1] at hN
    refine (plimits_ok p r' s1 (r' * s1) s w hok hr1 hs2 hs1 hN hle).mono ?_
    rintro e w' ⟨⟨A', c', rfl, hO⟩, hb⟩
    exact ⟨⟨A', _, c', rfl, hO⟩, hb⟩
  · have e1 : plimR p r s = ([], sizeE p r s) := by unfold plimR; rw [if_neg h]
    rw [e1]
    have hb0 : Below w.heap.size w (w.alloc (.cells #[.int .i64 p] 24)) := bbox _
    generalize hE : sizeE p r s = E at *
    have HE := Lib.hid hE
    clear hE e1
    go_enter Try.func82, Try.ntmps82
    go_wp2_with (go_at_call 151; refine (pcheck_any p r s _ hp64).mono ?_; rw [HE.out]; rintro e w1 ⟨rfl, hb1⟩; have hbb1 := bnext hb0 hb1)
    go_ret2
    exact ⟨⟨none, 0, 0, rfl, OwnI.nil_⟩, hbb1⟩

set_option maxRecDepth 100000 in
theorem rplimits_yes (p : Int) (r s1 N : Nat) (S : Int) (w : World) (hok : okP p = true) (hr : 1 ≤ r ∧ r ≤ 1024) (hs : 1 ≤ s1 ∧ s1 ≤ 9) (hS : S - 1 = s1) (hN : (r : Int) * (s1 : Int) = N) (hN2 : N ≤ 9216) :
    Calls Try.prog 79 #[.agg #[.int .i64 p], .int .i64 r, .int .i64 S] w fun e w' => (∃ A' c', e = .returned (.tuple #[.slice A' N c', .int .i64 0]) ∧ OwnI w' w.heap.size 3 A' N c' (List.replicate N p)) ∧ Below w.heap.size w w' := by
  obtain ⟨i0, hi0, hz0, hz1, hz2⟩ := info_parts info_int
  have hp := okP_pos hok
  have HO := Lib.hid hok
  have hb0 : Below w.heap.size w (w.alloc (.cells #[.int .i64 p] 24)) := bbox _
  have hF0 := Blk.new w 24 #[.int .i64 p]
  have h1 : ¬ S < 2 := by omega
  have h2 : ¬ 10 < S := by omega
  have h3 : ¬ (r : Int) < 1 := by omega
  have h4 : ¬ (1024 : Int) < (r : Int) := by omega
  clear hok hr
  go_enter Try.func79, Try.ntmps79
  go_wp2_with (go_at_call 128; refine (check_yes p _ HO.out).mono ?_; rintro e w1 ⟨rfl, hb1⟩
               have hbb1 := bnext hb0 hb1
               have hF1 := hF0.below hb1 hF0.lt)
  go_loopw [9, 33] (fun s i wz => ∃ (k : Nat) (L : Option Addr) (lc : Nat), k ≤ N ∧ s = .slice L k lc ∧ i = .int .i64 k ∧ OwnI wz w1.heap.size 3 L k lc (List.replicate k p) ∧ Below w1.heap.size w1 wz) (fun _ i _ => N - (intOf i).toNat)
  case atStart => exact ⟨0, none, 0, Nat.zero_le _, rfl, rfl, OwnI.nil_, Below.refl _ _⟩
  case round =>
    obtain ⟨k, L, lc, hk, rfl, rfl, hown, hb⟩ := hrel
    by_cases hlt : k < N
    · have hki : (k : Int) < (N : Int) := by omega
      have hFz := hF1.below hb hF1.lt
      have hcz : wr.cell? ⟨w.heap.size, 0, none⟩ = some (.int .i64 p) := (hFz.cell 0).trans rfl
      have HS : Hid (List.replicate k p ++ [p] = List.replicate (k + 1) p) := Lib.hid (List.replicate_succ' ..).symm
      have hbz3 := hb.alloc hb.size (.cells #[.int .i64 p] 3)
      have hown2 := hown.alloc (.cells #[.int .i64 p] 3)
      go_wp2_with ((at_builtin; refine wpList_append_ints rfl _ _ _ rfl w1.heap.size 3 i0 _ Try.underlying22 hi0 hz0 hz1 hz2 rfl L k lc _ rfl hown2 _ _ 1 1 [p] rfl (Ints.one _ _ _) (k + 1) rfl _ HS.out (by omega) hbz3.size ?_; intro A2 c2 w4 hown4 hgr hbw4 hab; have hbz4 := hbz3.trans hbw4))
      go_roundw
      case rel => exact ⟨k + 1, A2, c2, by omega, rfl, by go_num, hown4, hbz4⟩
      case measure => simp [intOf]; omega
    · obtain rfl : k = N := by omega
      go_wp2
      go_ret2
      exact ⟨⟨L, lc, rfl, hown.base hbb1.size⟩, bnext hbb1 hb⟩
set_option maxRecDepth 100000 in
theorem rplimits_all (p r s : Int) (w : World) :
    Calls Try.prog 79 #[.agg #[.int .i64 p], .int .i64 r, .int .i64 s] w (VecPost (plimR p r s) w) := by
  by_cases h : sizeE p r s = 0
  · obtain ⟨hok, hs, hr⟩ := sizeE_zero h
    obtain ⟨r', s1, rfl, hs1, _, hr1, hs2, hN, hN2, hle⟩ := sizes_of ⟨hs, hr⟩
    have e1 : plimR p r' s = (List.replicate (r' * s1) p, 0) := by unfold plimR; rw [if_pos h, hN2]
    rw [e1]
    rw [hs1] at hN
    refine (rplimits_yes p r' s1 (r' * s1) s w hok hr1 hs2 hs1 hN hle).mono ?_
    rintro e w' ⟨⟨A', c', rfl, hO⟩, hb⟩
    exact ⟨⟨A', _, c', rfl, hO⟩, hb⟩
  · have e1 : plimR p r s = ([], sizeE p r s) := by unfold plimR; rw [if_neg h]
    rw [e1]
    have hb0 : Below w.heap.size w (w.alloc (.cells #[.int .i64 p] 24)) := bbox _
    by_cases hok : okP p = true
    · have h9 : ¬ ((2 ≤ s ∧ s ≤ 10) ∧ 1 ≤ r ∧ r ≤ 1024) := fun h9 => h (sizeE_yes hok h9)
      have e2 : sizeE p r s = 1 := by unfold sizeE; rw [if_pos hok, if_neg h9]
      rw [e2]
      have HO := Lib.hid hok
      have HBD : Hid (s < 2 ∨ (¬ s < 2 ∧ 10 < s) ∨ (¬ s < 2 ∧ ¬ 10 < s ∧ r < 1) ∨ (¬ s < 2 ∧ ¬ 10 < s ∧ ¬ r < 1 ∧ 1024 < r)) := Lib.hid (by omega)
      clear hok h h9 e1 e2
      rcases HBD.out with h1 | ⟨h1, h2⟩ | ⟨h1, h2, h3⟩ | ⟨h1, h2, h3, h4⟩
      all_goals
        go_enter Try.func79, Try.ntmps79
        go_wp2_with (go_at_call 128; refine (check_yes p _ HO.out).mono ?_; rintro e w1 ⟨rfl, hb1⟩
                     have hbb1 := bnext hb0 hb1)
        go_ret2
        exact ⟨⟨none, 0, 0, rfl, OwnI.nil_⟩, hbb1⟩
    · have e2 : sizeE p r s = 9 := by unfold sizeE; rw [if_neg hok]
      rw [e2]
      have hokf : okP p = false := by simpa using hok
      have HO := Lib.hid hokf
      clear hok hokf h e1 e2
      go_enter Try.func79, Try.ntmps79
      go_wp2_with (go_at_call 128; refine (check_no p _ HO.out).mono ?_; rintro e w1 ⟨rfl, hb1⟩
                   have hbb1 := bnext hb0 hb1)
      go_ret2
      exact ⟨⟨none, 0, 0, rfl, OwnI.nil_⟩, hbb1⟩
end Go.Proofs.Ytoblofilaegnaaa
