/-
  VectorUnits returns true: the walk of the law. Conditions: none beyond the reading of its arguments.
-/
import Derived.Test.YtiledcpefaoeiaaUnit
import Derived.Test.YtiledcpefaoeiaaComb
import Derived.Test.YtiledcpefaoeiaaMkRows
import Derived.Test.YtiledcpefaoeiaaUnitsA
namespace Go.Proofs.Ytiledcpefaoeiaa
open Go.RowKit
set_option linter.unusedVariables false

theorem unitL_spike (n i : Nat) : unitL n i = spikeL n i 1 := rfl

set_option maxHeartbeats 1600000 in
set_option maxRecDepth 100000 in
theorem vectorUnits_walk (A : Option Addr) (n c : Nat) (zs : List Int) (w : World) (w0 : IsRow .i64 w A n c zs) :
    Calls Try.prog 10 #[.slice A n c] w fun e w' => e = .returned (.bool true) ∧ Below w.heap.size w w' := by
  obtain ⟨h, hw⟩ := w0.ints
  generalize zs.take n = xs at h hw
  clear w0
  obtain ⟨i0, hi0, hz0, hz1, hz2⟩ := info_parts info_row
  by_cases hn : n ≤ 500
  · have hd : decide (n ≤ 500) = true := by simpa using hn
    go_enter Try.func10, Try.ntmps10
    go_wp2_with (first
      | (go_at_call 38; refine (sane04_any _).mono ?_; rintro e w1 ⟨rfl, hb1⟩)
      | (go_at_call 18; refine (few_any A n c _).mono ?_; rintro e w' ⟨rfl, rfl⟩)
      | (go_at_call 19; refine (new_any A n c xs _ (h.upto hb1) hn).mono ?_; rintro e w2 ⟨⟨g, rfl, hge, hD2⟩, hb2⟩
         have hbb2 := bnext hb1 hb2
         have hg : w.heap.size ≤ g := by rw [hge]; exact hb1.size
         clear hge)
      | (go_at_call 20; refine (field_any g A n c xs _ _ hD2).mono ?_; rintro e w3 ⟨p, q3, rfl, hkn, hD3, hS3⟩
         have hbb3 := ballocs (Step.below hbb2 hS3 hbb2.size hg) (.cells #[.int .i64 p] 35)
         have hF3 := Blk.new w3 35 #[.int .i64 p]
         have hD3' := hD3.alloc (.cells #[.int .i64 p] 35)
         have hgf : w3.heap.size ≠ g := by have := hD3.1.lt; omega
         have HO := Lib.hid (okP_known hkn)
         have hp := okP_pos (okP_known hkn)
         clear hkn)
      | (go_at_call 21; refine (next_any g A n c xs q3 9 _ hD3' (by omega)).mono ?_; rintro e w4 ⟨r', q4, rfl, hr, hr0, hD4, hS4, hz4⟩
         obtain ⟨r, rfl⟩ : ∃ r : Nat, r' = r := ⟨r'.toNat, by have := hr (by omega); omega⟩
         have hr9 : r < 9 := by have := hr (by omega); omega
         have hF4 := Step.block hS4 hF3 hgf
         have hc4 : w4.cell? ⟨w3.heap.size, 0, none⟩ = some (.int .i64 p) := (hF4.cell 0).trans rfl
         have hbb4 := Step.below hbb3 hS4 hbb3.size hg
         clear hr hr0 hz4)
      | (go_at_call 22; (refine (elements_any g A n c xs q4 p r w4 hD4 hp (by omega)).mono ?_); rintro e w5 ⟨B1, d1, l, q5, rfl, hown5, hY, hD5, hS5⟩
         have hF5 := Step.block hS5 hF4 hgf
         have hbb5 := Step.below hbb4 hS5 hbb4.size hg))
    have hI5 := hown5.ints
    have HY := Lib.hid hY
    have HL := Lib.hid hI5.len
    clear hF3 hF4 hD3 hD3' hD4 hD2 hS3 hS4 hS5 hbb2 hbb3 hbb4 hb1 hb2 hc4 hown5 hY hD5
    go_loopw [7, 31] (fun v i wr => ∃ (k : Nat) (A' : Option Addr) (c' : Nat), k ≤ r ∧ i = .int .i64 k ∧ v = .slice A' k c' ∧ OwnM wr w5.heap.size w5.heap.size 22 A' k c' (unitsL r k) ∧ Below w5.heap.size w5 wr) (fun _ i _ => r - (intOf i).toNat)
    case atStart => exact ⟨0, none, 0, Nat.zero_le _, rfl, rfl, OwnM.nil_, Below.refl _ _⟩
    case round =>
      obtain ⟨k, A', c', hk, rfl, rfl, hown, hbr⟩ := hrel
      have hFr := hF5.below hbr hF5.lt
      have hfr : wr.cell? ⟨w3.heap.size, 0, none⟩ = some (.int .i64 p) := (hFr.cell 0).trans rfl
      by_cases hlt : k < r
      · have HV := Lib.hid (dot_unit_left p hp.1 r k l HL.out hlt HY.out)
        have HUA := Lib.hid (spikeL_all hp.1 r k)
        have HUS := Lib.hid (unitsL_succ r k)
        obtain ⟨b1, o1, hB1, hb1, hcl⟩ := hI5.2 (by omega)
        subst hB1
        have hck := hcl k hlt
        clear hcl
        have hk0 : (0 : Int) ≤ (k : Int) := by omega
        have hkr : (k : Int) < (r : Int) := by omega
        go_wp2_with (first
          | (go_at_call 42; refine (unit_ok p r k _ HO.out (by omega) hlt).mono ?_; rintro e w6 ⟨⟨U1, u1, rfl, hown6⟩, hb6⟩; rw [unitL_spike] at hown6
             have hbr6 := hbr.trans (hb6.mono hbr.size)
             have hF6 := hFr.below hb6 hFr.lt
             have hf6 : w6.cell? ⟨w3.heap.size, 0, none⟩ = some (.int .i64 p) := (hF6.cell 0).trans rfl
             have hM6 := hown.belowAll hb6
             have hI6 := hI5.upto hbr6
             have hsz6 := hb6.size
             clear hb6)
          | (go_at_call 40; refine (dot_ok p U1 (some ⟨b1, o1, none⟩) r u1 d1 (spikeL r k 1) l _ HO.out hown6.ints hI6 HUA.out HY.out (by omega)).mono ?_; rintro e w7 ⟨rfl, hb7⟩; rw [HV.out]
             have hbr7 := hbr6.trans (hb7.mono hbr6.size)
             have hM7 := (hM6.belowAll hb7).belowAll (bbox (.cells #[.slice U1 r u1] 22))
             have hU7 := (hown6.ints.upto hb7).upto (bbox (.cells #[.slice U1 r u1] 22))
             have hck7 := (hbr7.cell (p := ⟨b1, o1 + k, none⟩) hb1).trans hck
             have hcl7 : (w7.alloc (.cells #[.slice U1 r u1] 22)).cell? ⟨w7.heap.size, 0, none⟩ = some (.slice U1 r u1) := by rw [World.cell?_alloc_at _ _ _ _ rfl]; rfl
             have HLO : Hid (Lo w5.heap.size U1 r) := Lib.hid fun h0 b off s e => by have h1 := hown6.row b (by rw [e]; rfl); have h2 := hbr.size; omega
             have HAP : Hid (0 < r → ∀ b off s, U1 = some ⟨b, off, s⟩ → (Value.slice A' k c').ownBlock ≠ some b) := Lib.hid fun h0 b off s e e2 => by
               have h1 := hown6.row b (by rw [e]; rfl)
               have h2 := (hown.row b e2).2
               omega
             clear hb7)
          | (at_builtin
             refine wpList_append_row rfl _ _ 45 rfl w5.heap.size w5.heap.size 22 i0 _ Try.underlying45 hi0 hz0 hz1 hz2 rfl A' k c' (unitsL r k) rfl hM7 w7.heap.size 1 U1 r u1 (spikeL r k 1) rfl hcl7 (by simp) (by omega) hU7 HLO.out HAP.out (k + 1) rfl (by omega) (le_alloc hbr7.size _) ?_
             intro A2 c2 w8 hown8 hgr8 hbw8
             rw [← HUS.out] at hown8
             have hbr8 := (hbr7.alloc hbr7.size (.cells #[.slice U1 r u1] 22)).trans hbw8))
        go_roundw
        case rel => exact ⟨k + 1, A2, c2, by omega, by go_num, rfl, hown8, hbr8⟩
        case measure => simp [intOf]; omega
      · have hkr : k = r := by omega
        subst hkr
        have HUO := Lib.hid (unitsL_ok hp.1 k k)
        have HCU := Lib.hid (comb_units p hp.1 k l HL.out HY.out)
        have HS : Hid (sameL l l = true) := Lib.hid (sameL_iff.2 rfl)
        have hM := hown.mat (Nat.le_refl _)
        go_wp2_with (first
          | (go_at_call 41; refine (combine_ok p B1 A' k k d1 c' l (unitsL k k) _ HO.out (hI5.upto hbr) hM HY.out HUO.out (by omega) (by omega)).mono ?_; rintro e w9 ⟨⟨C1, e1, rfl, hown9⟩, hb9⟩
             rw [HCU.out] at hown9
             have hbr9 := hbr.trans (hb9.mono hbr.size))
          | (go_at_call 35; refine (same_any C1 B1 k k e1 d1 l l _ hown9.ints (hI5.upto hbr9) (by omega) (by omega)).mono ?_; rintro e w10 ⟨rfl, qq, rfl⟩; rw [HS.out]))
        go_ret
        exact ⟨rfl, below_drewN (bnext hbb5 hbr9) _⟩
  · have hd : decide (n ≤ 500) = false := by simpa using hn
    go_enter Try.func10, Try.ntmps10
    go_wp2_with (first
      | (go_at_call 38; refine (sane04_any _).mono ?_; rintro e w1 ⟨rfl, hb1⟩)
      | (go_at_call 18; refine (few_any A n c _).mono ?_; rintro e w' ⟨rfl, rfl⟩))
    go_ret
    exact ⟨rfl, hb1⟩
end Go.Proofs.Ytiledcpefaoeiaa
