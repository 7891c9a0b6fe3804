/-
  VectorDoes returns true: the walk of the law. Conditions: none beyond the reading of its arguments.
-/
import Derived.Test.YtdklcgpjdajkmaaUnit
import Derived.Test.YtdklcgpjdajkmaaFld
import Derived.Test.YtdklcgpjdajkmaaMkRows
import Derived.Test.YtdklcgpjdajkmaaRAll
import Derived.Test.YtdklcgpjdajkmaaOff
import Derived.Test.YtdklcgpjdajkmaaSame
namespace Go.Proofs.Ytdklcgpjdajkmaa
open Go.RowKit
set_option linter.unusedVariables false

/-- Some answer; nothing changes. -/
def SomeBool (w : World) (e : Ending) (w' : World) : Prop := (∃ b, e = .returned (.bool b)) ∧ w = w'
/-- small: some answer; nothing changes. -/
theorem small04_any (A : Option Addr) (n c : Nat) (rows : List (List Int)) (w : World) {lo : Nat} (h : Mat w lo w.heap.size A n rows) (hn : n ≤ 17592186044416) :
    Calls Try.prog 28 #[.slice A n c] w (SomeBool w) := by
  go_enter Try.func28, Try.ntmps28
  go_wp2
  go_loop [3, 8] (fun s i => ∃ (k : Nat) (z : Int), k ≤ n ∧ i = .int .i64 k ∧ s = .int .i64 z) (fun _ i => n - (intOf i).toNat)
  case atStart => exact ⟨0, 0, Nat.zero_le _, rfl, rfl⟩
  case round =>
    obtain ⟨k, z, hk, rfl, rfl⟩ := hrel
    by_cases hlt : k < n
    · obtain ⟨b, off, B1, m, d1, rfl, _, hb1, hcell, hm, hI, _⟩ := h.at_ hlt
      go_wp2
      go_round
      case rel => exact ⟨k + 1, _, by omega, by go_num, rfl⟩
      case measure => simp [intOf]; omega
    · go_wp2
      go_ret
      exact ⟨⟨_, rfl⟩, rfl⟩

set_option maxHeartbeats 8000000 in
set_option maxRecDepth 100000 in
theorem vectorDoes_walk (T : Option Addr) (n c : Nat) (xs : List Int) (pr : Int) (A : Option Addr) (la ca : Nat) (ls : List Int) (B : Option Addr) (lb cb : Nat) (bs : List Int) (R : Option Addr) (lr cr : Nat) (rows : List (List Int)) (x0 n0 wd0 : Int) (w : World)
    (h : Ints w w.heap.size T n xs) (hpr : -9223372036854775808 ≤ pr ∧ pr ≤ 9223372036854775807) (hA : Ints w w.heap.size A la ls) (hla : la ≤ 17592186043904) (hB : Ints w w.heap.size B lb bs) (hlb : lb ≤ 17592186043904) (hR : Mat w 0 w.heap.size R lr rows) (hlr : lr ≤ 17592186043904)
    (hx0 : -9223372036854775808 ≤ x0 ∧ x0 ≤ 9223372036854775807) (hn0 : -9223372036854775808 ≤ n0 ∧ n0 ≤ 9223372036854775807) (hwd0 : -9223372036854775808 ≤ wd0 ∧ wd0 ≤ 9223372036854775807) :
    Calls Try.prog 4 #[.slice T n c, .agg #[.int .i64 pr], .slice A la ca, .slice B lb cb, .slice R lr cr, .int .i64 x0, .int .i64 n0, .int .i64 wd0] w fun e w' => e = .returned (.bool true) ∧ Below w.heap.size w w' := by
  have hb0 : Below w.heap.size w (w.alloc (.cells #[.int .i64 pr] 46)) := bbox _
  have hB0 := Blk.new w 46 #[.int .i64 pr]
  by_cases hn : n ≤ 500
  · have hd : decide (n ≤ 500) = true := by simpa using hn
    by_cases hab : la + lb ≤ 800
    · have hab1 : ¬ (800 : Int) < (la : Int) + (lb : Int) := by omega
      go_enter Try.func4, Try.ntmps4
      go_wp2_with (first
        | (go_at_call 27; refine (sane04_any _).mono ?_; rintro e w1 ⟨rfl, hb1⟩
           have hbb1 := bnext hb0 hb1
           have hB1 := hB0.below hb1 (by simp)
           clear hb0 hB0 hb1)
        | (go_at_call 11; refine (few_any T n c _).mono ?_; rintro e w' ⟨rfl, rfl⟩)
        | (go_at_call 28; refine (small04_any R lr cr rows _ (hR.upto hbb1) (by omega)).mono ?_; rintro e w' ⟨⟨sb, rfl⟩, rfl⟩; cases sb)
        | (go_at_call 12; refine (new_any T n c xs _ (h.upto hbb1) hn).mono ?_; rintro e w2 ⟨⟨g, rfl, hge, hD2⟩, hb2⟩
           have hbb2 := bnext hbb1 hb2
           have hB2 := hB1.below hb2 hB1.lt
           have hg : w.heap.size < g := by rw [hge]; exact hB1.lt
           clear hge hbb1 hB1 hb2)
        | (go_at_call 29; refine (field_any g T n c xs _ _ hD2).mono ?_; rintro e w3 ⟨p, q3, rfl, hkn, hD3, hS3⟩
           have hbb3 := ballocs (Step.below hbb2 hS3 hbb2.size (by omega)) (.cells #[.int .i64 p] 46)
           have hB3 := (Step.block hS3 hB2 (by omega)).alloc (.cells #[.int .i64 p] 46)
           have hF3 := Blk.new w3 46 #[.int .i64 p]
           have hD3' := hD3.alloc (.cells #[.int .i64 p] 46)
           have hgf : g < w3.heap.size := hD3.1.lt
           have HO := Lib.hid (okP_known hkn)
           have hp := okP_pos (okP_known hkn)
           clear hkn hD3 hS3 hB2 hbb2)
        | (go_at_call 16; (with_reducible refine (next_any g T n c xs q4 5 w4 hD4 (by omega)).mono ?_); rintro e w5 ⟨s', q5, rfl, hs, hs0, hD5, hS5, hz5⟩
           obtain ⟨wd, rfl⟩ : ∃ r : Nat, s' = r := ⟨s'.toNat, by have := hs (by omega); omega⟩
           have hwd : wd < 5 := by have := hs (by omega); omega
           have hF5 := Step.block hS5 hF4 (by omega)
           have hB5 := Step.block hS5 hB4 (by omega)
           have hbb5 := Step.below hbb4 hS5 hbb4.size (by omega)
           have hc5 : w5.cell? ⟨w3.heap.size, 0, none⟩ = some (.int .i64 p) := (hF5.cell 0).trans rfl
           clear hs hs0 hz5 hS5 hF4 hB4 hbb4 hD4)
        | (go_at_call 16; refine (next_any g T n c xs q3 5 _ hD3' (by omega)).mono ?_; rintro e w4 ⟨r', q4, rfl, hr, hr0, hD4, hS4, hz4⟩
           obtain ⟨k, rfl⟩ : ∃ r : Nat, r' = r := ⟨r'.toNat, by have := hr (by omega); omega⟩
           have hk5 : k < 5 := by have := hr (by omega); omega
           have hF4 := Step.block hS4 hF3 (by omega)
           have hB4 := Step.block hS4 hB3 (by omega)
           have hbb4 := Step.below hbb3 hS4 hbb3.size (by omega)
           clear hr hr0 hz4 hS4 hF3 hB3 hbb3 hD3'))
      · go_ret
        exact ⟨rfl, hbb1⟩
      go_region_held3 (fun w' => w'.cell? ⟨w3.heap.size, 0, none⟩ = some (.int .i64 p)) (first | go_keep | exact hc5 | exact hc6 | exact hc7)
        (first
          | (go_at_call 30; (refine (rows_any g T n c xs q5 p k wd _ hD5.drew hp (by omega) (by omega)).mono ?_); rintro e w6 ⟨B1, d1, own, q6, rfl, hown6, hOR, hD6, hS6⟩
             have hF6 := Step.block hS6 hF5.drew (by omega)
             have hc6 : w6.cell? ⟨w3.heap.size, 0, none⟩ = some (.int .i64 p) := (hF6.cell 0).trans rfl)
          | (go_at_call 31; (refine (elements_any g T n c xs q6 p k w6 hD6 hp (by omega)).mono ?_); rintro e w7 ⟨B2, d2, cs, q7, rfl, hown7, hCS, hD7, hS7⟩
             have hF7 := Step.block hS7 hF6 (by omega)
             have hc7 : w7.cell? ⟨w3.heap.size, 0, none⟩ = some (.int .i64 p) := (hF7.cell 0).trans rfl))
      have hg5 : g < w5.drew.heap.size := hD5.1.lt
      have hbb6 := Step.below hbb5.drew hS6 hbb5.size (by omega)
      have hbb7 := Step.below hbb6 hS7 hbb6.size (by omega)
      have hB7 := Step.block hS7 (Step.block hS6 hB5.drew (by omega)) (by omega)
      have hr7 : w7.cell? ⟨w.heap.size, 0, none⟩ = some (.int .i64 pr) := (hB7.cell 0).trans rfl
      have hOO := MatO.of_mat ((hown6.step hS7 hg5 hg5).mat (Nat.le_refl _)) hg5
      have hCO := IntsO.of_own hown7 (Nat.lt_of_lt_of_le hg5 hS6.size_le)
      have hAO := IntsO.of_raw hA hbb7 (by omega : w.heap.size ≤ g)
      have hBO := IntsO.of_raw hB hbb7 (by omega : w.heap.size ≤ g)
      have hRO := MatO.of_raw hR hbb7 (by omega : w.heap.size ≤ g)
      clear hc5 hc6 hD5 hD6 hS6 hS7 hown6 hown7 hF5 hF6 hbb5 hbb6 hB5
      go_wp2_with fail
      have hbW := ballocs hbb7 (.cells #[.int .i64 pr, .int .i64 p] 46)
      have hb7W : Below w7.heap.size w7 (w7.alloc (.cells #[.int .i64 pr, .int .i64 p] 46)) := bbox _
      have hN := Blk.new w7 46 #[.int .i64 pr, .int .i64 p]
      have hFW := hF7.alloc (.cells #[.int .i64 pr, .int .i64 p] 46)
      have hOO := hOO.below hb7W
      have hCO := hCO.below hb7W
      have hAO := hAO.below hb7W
      have hBO := hBO.below hb7W
      have hRO := hRO.below hb7W
      have hDW := hD7.belowAll hb7W
      have hgN : g < w7.heap.size := hD7.1.lt
      obtain ⟨gN, hgNe⟩ : ∃ gN, w7.heap.size = gN := ⟨_, rfl⟩
      obtain ⟨W, hW⟩ : ∃ W, w7.alloc (.cells #[.int .i64 pr, .int .i64 p] 46) = W := ⟨_, rfl⟩
      rw [hW] at hbW hN hFW hOO hCO hAO hBO hRO hDW
      rw [hgNe] at hN hgN
      obtain ⟨gF, hgFe⟩ : ∃ gF, w3.heap.size = gF := ⟨_, rfl⟩
      rw [hgFe] at hgf hFW
      have hNl := hN.lt
      have hFl := hFW.lt
      have hkl : k ≤ 17592186043904 := by omega
      have PGS : ∀ j, j < 2 → ∃ pg : Int, W.cell? ⟨gN, j, none⟩ = some (.int .i64 pg) ∧ -9223372036854775808 ≤ pg ∧ pg ≤ 9223372036854775807 := by
        intro j hj
        have : j = 0 ∨ j = 1 := by omega
        rcases this with rfl | rfl
        · exact ⟨pr, (hN.cell 0).trans rfl, hpr⟩
        · exact ⟨p, (hN.cell 1).trans rfl, by omega, by omega⟩
      have PGS := Lib.hid PGS
      clear hb7W hF7 hc7 hB7 hr7 hD7 hbb7 hCS hOR hn hd hab hab1 hD2 hg5 hpr hN
      rw [hgNe, hW, hgFe]
      clear hgNe hW hgFe
      go_loopw [94] (fun i wr => ∃ j q : Nat, j ≤ 2 ∧ i = .int .i64 j ∧ Step g W wr ∧ Deck wr g T n c xs q) (fun i _ => 2 - (intOf i).toNat)
      case atStart => exact ⟨0, q7, by omega, rfl, Step.refl _ _, hDW⟩
      case round =>
        obtain ⟨j, q, hj2, rfl, hS, hD⟩ := hrel
        by_cases hj : j < 2
        · obtain ⟨pg, hpg, hpg64⟩ := PGS.out j hj
          have hjl : (j : Int) < 2 := by omega
          have hj0 : (0 : Int) ≤ (j : Int) := by omega
          have hv0 := hS.at_ hNl (by omega) hpg
          go_wp2_with fail
          have hS1 : Step g W ((wr.alloc (.cells #[.int .i64 pg] 46)).alloc (.cells #[.slice A la ca, .slice B2 k d2] 22)) := (hS.alloc _).alloc _
          have hP1 := (Blk.new wr 46 #[.int .i64 pg]).alloc (.cells #[.slice A la ca, .slice B2 k d2] 22)
          have hL1 := Blk.new (wr.alloc (.cells #[.int .i64 pg] 46)) 22 #[.slice A la ca, .slice B2 k d2]
          have hD1 := (hD.alloc (.cells #[.int .i64 pg] 46)).alloc (.cells #[.slice A la ca, .slice B2 k d2] 22)
          have hwl : W.heap.size ≤ wr.heap.size := hS.size_le
          obtain ⟨gP, hgP⟩ : ∃ gP, wr.heap.size = gP := ⟨_, rfl⟩
          have hL1 : Blk ((wr.alloc (.cells #[.int .i64 pg] 46)).alloc (.cells #[.slice A la ca, .slice B2 k d2] 22)) (wr.heap.size + 1) 22 #[.slice A la ca, .slice B2 k d2] := by rw [World.size_alloc] at hL1; exact hL1
          obtain ⟨W2, hW2⟩ : ∃ W2, (wr.alloc (.cells #[.int .i64 pg] 46)).alloc (.cells #[.slice A la ca, .slice B2 k d2] 22) = W2 := ⟨_, rfl⟩
          rw [hW2] at hS1 hP1 hL1 hD1
          rw [hgP] at hP1 hL1 hwl
          have hP1l := hP1.lt
          have hL1l := hL1.lt
          have hAO2 := hAO.step hS1
          have hBO2 := hBO.step hS1
          have hCO2 := hCO.step hS1
          have hOO2 := hOO.step hS1
          have hRO2 := hRO.step hS1
          have hFW2 := Step.block hS1 hFW (by omega)
          have LSS : ∀ i, i < 2 → ∃ (L : Option Addr) (ln lc : Nat) (lx : List Int), W2.cell? ⟨gP + 1, i, none⟩ = some (.slice L ln lc) ∧ IntsO g W2 L ln lx ∧ ln ≤ 17592186043904 := by
            intro i hi
            have : i = 0 ∨ i = 1 := by omega
            rcases this with rfl | rfl
            · exact ⟨A, la, ca, ls, (hL1.cell 0).trans rfl, hAO2, hla⟩
            · exact ⟨B2, k, d2, cs, (hL1.cell 1).trans rfl, hCO2, hkl⟩
          have LSS := Lib.hid LSS
          rw [hgP, hW2]
          have hS0 := hS1
          clear hgP hW2 hS hD hL1 hv0 hpg hS1
          go_loopw [102] (fun i wx => ∃ i2 q : Nat, i2 ≤ 2 ∧ i = .int .i64 i2 ∧ Step g W2 wx ∧ Deck wx g T n c xs q) (fun i _ => 2 - (intOf i).toNat)
          case atStart => exact ⟨0, q, by omega, rfl, Step.refl _ _, hD1⟩
          case round =>
            obtain ⟨i2, q2, hi2, rfl, hS, hD⟩ := hrel
            by_cases hi : i2 < 2
            · obtain ⟨L, ln, lc, lx, hlv, hLO, hln⟩ := LSS.out i2 hi
              have hil : (i2 : Int) < 2 := by omega
              have hi0 : (0 : Int) ≤ (i2 : Int) := by omega
              have hv1 := hS.at_ hL1l (by omega) hlv
              have hLOx := hLO.step hS
              have hBOx := hBO2.step hS
              have hPx := Step.block hS hP1 (by omega)
              have hFx := Step.block hS hFW2 (by omega)
              have hpx : wr.cell? ⟨gP, 0, none⟩ = some (.int .i64 pg) := (hPx.cell 0).trans rfl
              obtain ⟨r1, e1, HR1⟩ := pairE (addR pg lx bs)
              obtain ⟨r2, e2, HR2⟩ := pairE (scaleR pg lx x0)
              have HL1 := Lib.hid (addR_len pg lx bs (by rw [hLO.len]; omega))
              have HL2 := Lib.hid (scaleR_len pg lx x0 (by rw [hLO.len]; omega))
              have HSA1 : Hid (sameL r1 r1 = true) := Lib.hid (by simp [sameL])
              have HSA2 : Hid (sameL r2 r2 = true) := Lib.hid (by simp [sameL])
              go_wp2_with (first
                | (go_at_call 32; refine (vecE HR1 HL1 (vadd_any pg L B ln lb lc cb lx bs _ hpg64 hLOx.ints hBOx.ints (by omega) (by omega))).mono ?_; rintro e w1 ⟨U1, un1, uc1, rfl, hU1, hun1, hb1⟩
                   have hS1 := hS.far hb1
                   have hD1 := hD.belowAll hb1
                   have hLO1 := hLOx.below hb1
                   have hBO1 := hBOx.below hb1
                   have hP1x := hPx.below hb1 hPx.lt
                   have hF1x := hFx.below hb1 hFx.lt
                   have hp1x : w1.cell? ⟨gP, 0, none⟩ = some (.int .i64 pg) := (hP1x.cell 0).trans rfl
                   have hUO1 := IntsO.of_own (g := g) hU1 hD.1.lt
                   clear hb1 hU1)
                | (go_at_call 33; refine (vecE HR1 HL1 (radd_any pg L B ln lb lc cb lx bs _ hLO1.ints hBO1.ints (by omega) (by omega))).mono ?_; rintro e w2 ⟨U2, un2, uc2, rfl, hU2, hun2, hb2⟩
                   have hS2 := hS1.far hb2
                   have hD2 := hD1.belowAll hb2
                   have hLO2 := hLO1.below hb2
                   have hBO2x := hBO1.below hb2
                   have hP2x := hP1x.below hb2 hP1x.lt
                   have hF2x := hF1x.below hb2 hF1x.lt
                   have hp2x : w2.cell? ⟨gP, 0, none⟩ = some (.int .i64 pg) := (hP2x.cell 0).trans rfl
                   have hUO2 := hUO1.below hb2
                   have hVO2 := IntsO.of_own (g := g) hU2 hD1.1.lt
                   clear hb2 hU2 hS1 hD1 hLO1 hBO1 hUO1)
                | (go_at_call 34; refine (vecE HR2 HL2 (vscale_any pg x0 L ln lc lx _ hpg64 hLO2.ints (by omega))).mono ?_; rintro e w3 ⟨U3, un3, uc3, rfl, hU3, hun3, hb3⟩
                   have hS3 := hS2.far hb3
                   have hD3 := hD2.belowAll hb3
                   have hLO3 := hLO2.below hb3
                   have hBO3 := hBO2x.below hb3
                   have hP3x := hP2x.below hb3 hP2x.lt
                   have hF3x := hF2x.below hb3 hF2x.lt
                   have hp3x : w3.cell? ⟨gP, 0, none⟩ = some (.int .i64 pg) := (hP3x.cell 0).trans rfl
                   have hUO3 := hUO2.below hb3
                   have hVO3 := hVO2.below hb3
                   have hSO3 := IntsO.of_own (g := g) hU3 hD2.1.lt
                   clear hb3 hU3 hS2 hD2 hLO2 hBO2x hUO2 hVO2)
                | (go_at_call 35; refine (vecE HR2 HL2 (rscale_any pg x0 L ln lc lx _ hLO3.ints (by omega))).mono ?_; rintro e w4 ⟨U4, un4, uc4, rfl, hU4, hun4, hb4⟩
                   have hS4 := hS3.far hb4
                   have hD4 := hD3.belowAll hb4
                   have hLO4 := hLO3.below hb4
                   have hBO4 := hBO3.below hb4
                   have hP4x := hP3x.below hb4 hP3x.lt
                   have hF4x := hF3x.below hb4 hF3x.lt
                   have hf4x : w4.cell? ⟨gF, 0, none⟩ = some (.int .i64 p) := (hF4x.cell 0).trans rfl
                   have hUO4 := hUO3.below hb4
                   have hVO4 := hVO3.below hb4
                   have hSO4 := hSO3.below hb4
                   have hTO4 := IntsO.of_own (g := g) hU4 hD3.1.lt
                   clear hb4 hU4 hS3 hD3 hLO3 hBO3 hUO3 hVO3 hSO3)
                | (go_at_call 36; ((with_reducible refine (same_any U1 U2 un1 un2 uc1 uc2 r1 r1 _ hUO4.ints hVO4.ints (by omega) (by omega)).mono ?_); rintro e w5 ⟨rfl, q5, rfl⟩; rw [HSA1.out]))
                | (go_at_call 36; refine (same_any U3 U4 un3 un4 uc3 uc4 r2 r2 _ (hSO4.drewN q5).ints (hTO4.drewN q5).ints (by omega) (by omega)).mono ?_; rintro e w6 ⟨rfl, q6, rfl⟩; rw [HSA2.out])
                | (go_at_call 31; refine (elements_any g T n c xs q2 p ln _ (hD4.drewN (q5 + q6)) hp (by omega)).mono ?_; rintro e w7 ⟨E, ec, ex, q7, rfl, hE, hEP, hD7, hS7⟩
                   have hS7' := (hS4.drewN (q5 + q6)).trans hS7
                   have hLO7 := (hLO4.drewN (q5 + q6)).step hS7
                   have hBO7 := (hBO4.drewN (q5 + q6)).step hS7
                   have hP7 := Step.block hS7 (Blk.drewN hP4x (q5 + q6)) (by omega)
                   have hEO := IntsO.of_own (g := g) hE hD4.1.lt
                   have hEl := hE.len
                   clear hE hEP hS7 hS4 hD4 hLO4 hBO4 hUO4 hVO4 hSO4 hTO4 hP4x hF4x hf4x hPx hLOx hBOx hFx hpx hp1x hp2x hp3x hF1x hF2x hF3x hP1x hP2x hP3x))
              have hS8 := hS7'.alloc (.cells #[.slice B lb cb, .slice E ln ec] 22)
              have hD8 := hD7.alloc (.cells #[.slice B lb cb, .slice E ln ec] 22)
              have hLO8 := hLO7.alloc (.cells #[.slice B lb cb, .slice E ln ec] 22)
              have hBO8 := hBO7.alloc (.cells #[.slice B lb cb, .slice E ln ec] 22)
              have hEO8 := hEO.alloc (.cells #[.slice B lb cb, .slice E ln ec] 22)
              have hP8 := hP7.alloc (.cells #[.slice B lb cb, .slice E ln ec] 22)
              have hM8 := Blk.new w7 22 #[.slice B lb cb, .slice E ln ec]
              obtain ⟨gM, hgM⟩ : ∃ gM, w7.heap.size = gM := ⟨_, rfl⟩
              obtain ⟨W8, hW8⟩ : ∃ W8, w7.alloc (.cells #[.slice B lb cb, .slice E ln ec] 22) = W8 := ⟨_, rfl⟩
              rw [hW8] at hS8 hD8 hLO8 hBO8 hEO8 hP8 hM8
              rw [hgM] at hM8
              have hM8l := hM8.lt
              have MSS : ∀ i, i < 2 → ∃ (M : Option Addr) (mn mc : Nat) (mx : List Int), W8.cell? ⟨gM, i, none⟩ = some (.slice M mn mc) ∧ Ints W8 W8.heap.size M mn mx ∧ mn ≤ 17592186043904 := by
                intro i hi
                have : i = 0 ∨ i = 1 := by omega
                rcases this with rfl | rfl
                · exact ⟨B, lb, cb, bs, (hM8.cell 0).trans rfl, hBO8.ints, hlb⟩
                · exact ⟨E, ln, ec, ex, (hM8.cell 1).trans rfl, hEO8.ints, hln⟩
              have MSS := Lib.hid MSS
              rw [hgM, hW8]
              clear hgM hW8 hS7' hLO7 hBO7 hP7 hEO hEl hM8 hv1 hlv
              go_loopw [162] (fun i wx => ∃ i3 : Nat, i3 ≤ 2 ∧ i = .int .i64 i3 ∧ Below W8.heap.size W8 wx) (fun i _ => 2 - (intOf i).toNat)
              case atStart => exact ⟨0, by omega, rfl, Below.refl _ _⟩
              case round =>
                obtain ⟨i3, hi3, rfl, hB8⟩ := hrel
                by_cases hi3' : i3 < 2
                · obtain ⟨M, mn, mc, mx, hmv, hMI, hmn⟩ := MSS.out i3 hi3'
                  have hil3 : (i3 : Int) < 2 := by omega
                  have hi03 : (0 : Int) ≤ (i3 : Int) := by omega
                  have hv3 := (hB8.cell (p := ⟨gM, i3, none⟩) hM8l).trans hmv
                  have hLI9 := hLO8.ints.upto hB8
                  have hMI9 := hMI.upto hB8
                  have hP9 := hP8.below hB8 hP8.lt
                  have hp9 : wr.cell? ⟨gP, 0, none⟩ = some (.int .i64 pg) := (hP9.cell 0).trans rfl
                  obtain ⟨dv, de, HDR⟩ := pairE (dotR pg lx mx)
                  go_wp2_with (first
                    | (go_at_call 37; refine (valE HDR (vdot_any pg L M ln mn lc mc lx mx _ hpg64 hLI9 hMI9 (by omega) (by omega))).mono ?_; rintro e w10 ⟨rfl, hb10⟩
                       have hB10 := bnext hB8 hb10
                       have hLI10 := hLI9.upto hb10
                       have hMI10 := hMI9.upto hb10
                       have hP10 := hP9.below hb10 hP9.lt
                       have hp10 : w10.cell? ⟨gP, 0, none⟩ = some (.int .i64 pg) := (hP10.cell 0).trans rfl)
                    | (go_at_call 38; refine (valE HDR (rdot_any pg L M ln mn lc mc lx mx _ hLI10 hMI10 (by omega) (by omega))).mono ?_; rintro e w11 ⟨rfl, hb11⟩
                       have hB11 := bnext hB10 hb11))
                  go_roundw
                  case rel => exact ⟨i3 + 1, by omega, by go_num, hB11⟩
                  case measure => simp [intOf]; omega
                · have hil3 : ¬ (i3 : Int) < 2 := by omega
                  have hS9 := hS8.far hB8
                  have hD9 := hD8.belowAll hB8
                  have hLO9 := hLO8.below hB8
                  have hP9 := hP8.below hB8 hP8.lt
                  go_wp2_with fail
                  have hS10 := hS9.alloc (.cells #[.int .i64 wd0, .int .i64 (wd : Int)] 3)
                  have hD10 := hD9.alloc (.cells #[.int .i64 wd0, .int .i64 (wd : Int)] 3)
                  have hLO10 := hLO9.alloc (.cells #[.int .i64 wd0, .int .i64 (wd : Int)] 3)
                  have hP10 := hP9.alloc (.cells #[.int .i64 wd0, .int .i64 (wd : Int)] 3)
                  have hY10 := Blk.new wr 3 #[.int .i64 wd0, .int .i64 (wd : Int)]
                  obtain ⟨gY, hgY⟩ : ∃ gY, wr.heap.size = gY := ⟨_, rfl⟩
                  obtain ⟨W10, hW10⟩ : ∃ W10, wr.alloc (.cells #[.int .i64 wd0, .int .i64 (wd : Int)] 3) = W10 := ⟨_, rfl⟩
                  rw [hW10] at hS10 hD10 hLO10 hP10 hY10
                  rw [hgY] at hY10
                  have hY10l := hY10.lt
                  have hOO10 := (hOO2.step hS10).mat
                  have hRO10 := (hRO2.step hS10).mat
                  have YSS : ∀ i, i < 2 → ∃ yv : Int, W10.cell? ⟨gY, i, none⟩ = some (.int .i64 yv) := by
                    intro i hi
                    have : i = 0 ∨ i = 1 := by omega
                    rcases this with rfl | rfl
                    · exact ⟨wd0, (hY10.cell 0).trans rfl⟩
                    · exact ⟨(wd : Int), (hY10.cell 1).trans rfl⟩
                  have YSS := Lib.hid YSS
                  rw [hgY, hW10]
                  clear hgY hW10 hS9 hD9 hLO9 hP9 hY10 hS8 hD8 hLO8 hP8 hB8 hBO8 hEO8
                  go_loopw [193] (fun i wx => ∃ i4 : Nat, i4 ≤ 2 ∧ i = .int .i64 i4 ∧ Below W10.heap.size W10 wx) (fun i _ => 2 - (intOf i).toNat)
                  case atStart => exact ⟨0, by omega, rfl, Below.refl _ _⟩
                  case round =>
                    obtain ⟨i4, hi4, rfl, hB10⟩ := hrel
                    by_cases hi4' : i4 < 2
                    · obtain ⟨yv, hyv⟩ := YSS.out i4 hi4'
                      have hil4 : (i4 : Int) < 2 := by omega
                      have hi04 : (0 : Int) ≤ (i4 : Int) := by omega
                      have hv4 := (hB10.cell (p := ⟨gY, i4, none⟩) hY10l).trans hyv
                      go_wp2_with fail
                      have hB11 := ballocs hB10 (.cells #[.slice R lr cr, .slice B1 k d1] 47)
                      have hZ11 := Blk.new wr 47 #[.slice R lr cr, .slice B1 k d1]
                      obtain ⟨gZ, hgZ⟩ : ∃ gZ, wr.heap.size = gZ := ⟨_, rfl⟩
                      obtain ⟨W11, hW11⟩ : ∃ W11, wr.alloc (.cells #[.slice R lr cr, .slice B1 k d1] 47) = W11 := ⟨_, rfl⟩
                      rw [hW11] at hB11 hZ11
                      rw [hgZ] at hZ11
                      have hZ11l := hZ11.lt
                      have hRO11 := hRO10.upto hB11
                      have hOO11 := hOO10.upto hB11
                      have hLI11 := hLO10.ints.upto hB11
                      have hP11 := hP10.below hB11 hP10.lt
                      have ZSS : ∀ i, i < 2 → ∃ (Z : Option Addr) (zn zc : Nat) (zx : List (List Int)), W11.cell? ⟨gZ, i, none⟩ = some (.slice Z zn zc) ∧ Mat W11 0 W11.heap.size Z zn zx ∧ zn ≤ 17592186043904 := by
                        intro i hi
                        have : i = 0 ∨ i = 1 := by omega
                        rcases this with rfl | rfl
                        · exact ⟨R, lr, cr, rows, (hZ11.cell 0).trans rfl, hRO11, hlr⟩
                        · exact ⟨B1, k, d1, own, (hZ11.cell 1).trans rfl, hOO11, hkl⟩
                      have ZSS := Lib.hid ZSS
                      rw [hgZ, hW11]
                      clear hgZ hW11 hZ11 hv4 hyv
                      go_loopw [201] (fun i wx => ∃ i5 : Nat, i5 ≤ 2 ∧ i = .int .i64 i5 ∧ Below W11.heap.size W11 wx) (fun i _ => 2 - (intOf i).toNat)
                      case atStart => exact ⟨0, by omega, rfl, Below.refl _ _⟩
                      case round =>
                        obtain ⟨i5, hi5, rfl, hB12⟩ := hrel
                        by_cases hi5' : i5 < 2
                        · obtain ⟨Z, zn, zc, zx, hzv, hZI, hzn⟩ := ZSS.out i5 hi5'
                          have hil5 : (i5 : Int) < 2 := by omega
                          have hi05 : (0 : Int) ≤ (i5 : Int) := by omega
                          have hv5 := (hB12.cell (p := ⟨gZ, i5, none⟩) hZ11l).trans hzv
                          have hLI12 := hLI11.upto hB12
                          have hZI12 := hZI.upto hB12
                          have hP12 := hP11.below hB12 hP11.lt
                          have hp12 : wr.cell? ⟨gP, 0, none⟩ = some (.int .i64 pg) := (hP12.cell 0).trans rfl
                          obtain ⟨r3, e3, HR3⟩ := pairE (combR pg lx zx yv)
                          have HL3 := Lib.hid (combR_len pg lx zx yv)
                          have HSA3 : Hid (sameL r3 r3 = true) := Lib.hid (by simp [sameL])
                          go_wp2_with (first
                            | (go_at_call 39; refine (vecE HR3 HL3 (vcombine_any pg L Z ln zn lc zc yv lx zx _ hpg64 hLI12 hZI12 (by omega) (by omega))).mono ?_; rintro e w13 ⟨C1, cn1, cc1, rfl, hC1, hcn1, hb13⟩
                               have hB13 := bnext hB12 hb13
                               have hLI13 := hLI12.upto hb13
                               have hZI13 := hZI12.upto hb13
                               have hP13 := hP12.below hb13 hP12.lt
                               have hp13 : w13.cell? ⟨gP, 0, none⟩ = some (.int .i64 pg) := (hP13.cell 0).trans rfl
                               have hCI1 := hC1.ints
                               clear hb13)
                            | (go_at_call 40; refine (vecE HR3 HL3 (rcombine_any pg L Z ln zn lc zc yv lx zx _ hLI13 hZI13 (by omega) (by omega))).mono ?_; rintro e w14 ⟨C2, cn2, cc2, rfl, hC2, hcn2, hb14⟩
                               have hB14 := bnext hB13 hb14
                               have hCI3 := hCI1.upto hb14
                               have hCI2 := hC2.ints
                               clear hb14)
                            | (go_at_call 36; refine (same_any C1 C2 cn1 cn2 cc1 cc2 r3 r3 _ hCI3 hCI2 (by omega) (by omega)).mono ?_; rintro e w15 ⟨rfl, q15, rfl⟩; rw [HSA3.out]
                               have hB15 := below_drewN hB14 q15))
                          go_roundw
                          case rel => exact ⟨i5 + 1, by omega, by go_num, hB15⟩
                          case measure => simp [intOf]; omega
                        · have hil5 : ¬ (i5 : Int) < 2 := by omega
                          have hB13 := hB11.trans (hB12.mono hB11.size)
                          go_wp2
                          go_roundw
                          case rel => exact ⟨i4 + 1, by omega, by go_num, hB13⟩
                          case measure => simp [intOf]; omega
                    · have hil4 : ¬ (i4 : Int) < 2 := by omega
                      have hS12 := hS10.far hB10
                      have hD12 := hD10.belowAll hB10
                      go_wp2
                      go_roundw
                      case rel => exact ⟨i2 + 1, q7, by omega, by go_num, hS12, hD12⟩
                      case measure => simp [intOf]; omega
            · have hil : ¬ (i2 : Int) < 2 := by omega
              have hPx := Step.block hS hP1 (by omega)
              have hS1 := hS0.trans hS
              have hw9 : (0 : Int) ≤ n0 % 9 ∧ n0 % 9 < 9 := by omega
              have hx9 : (0 : Int) ≤ x0 % 9 ∧ x0 % 9 < 9 := by omega
              go_wp2_with (first
                | (go_at_call 21; ((with_reducible refine (mod_any n0 9 _ (by omega) (by omega)).mono ?_); rintro e w1 ⟨rfl, rfl⟩))
                | (go_at_call 21; refine (mod_any x0 9 _ (by omega) (by omega)).mono ?_; rintro e w1 ⟨rfl, rfl⟩))
              have hS2 := hS1.alloc (.cells #[.int .i64 n0, .int .i64 x0, .int .i64 (n0 % 9), .int .i64 (x0 % 9)] 59)
              have hD2 := hD.alloc (.cells #[.int .i64 n0, .int .i64 x0, .int .i64 (n0 % 9), .int .i64 (x0 % 9)] 59)
              have hP2 := hPx.alloc (.cells #[.int .i64 n0, .int .i64 x0, .int .i64 (n0 % 9), .int .i64 (x0 % 9)] 59)
              have hQ2 := Blk.new wr 59 #[.int .i64 n0, .int .i64 x0, .int .i64 (n0 % 9), .int .i64 (x0 % 9)]
              obtain ⟨gQ, hgQ⟩ : ∃ gQ, wr.heap.size = gQ := ⟨_, rfl⟩
              obtain ⟨W3, hW3⟩ : ∃ W3, wr.alloc (.cells #[.int .i64 n0, .int .i64 x0, .int .i64 (n0 % 9), .int .i64 (x0 % 9)] 59) = W3 := ⟨_, rfl⟩
              rw [hW3] at hS2 hD2 hP2 hQ2
              rw [hgQ] at hQ2
              have hQ2l := hQ2.lt
              have QSS : ∀ i, i < 2 → ∃ u v : Int, W3.cell? ⟨gQ, i * 2, none⟩ = some (.int .i64 u) ∧ W3.cell? ⟨gQ, i * 2 + 1, none⟩ = some (.int .i64 v) := by
                intro i hi
                have : i = 0 ∨ i = 1 := by omega
                rcases this with rfl | rfl
                · exact ⟨n0, x0, (hQ2.cell 0).trans rfl, (hQ2.cell 1).trans rfl⟩
                · exact ⟨n0 % 9, x0 % 9, (hQ2.cell 2).trans rfl, (hQ2.cell 3).trans rfl⟩
              have QSS := Lib.hid QSS
              rw [hgQ, hW3]
              clear hgQ hW3 hQ2 hS1 hD hPx hw9 hx9
              go_loopw [243] (fun i wx => ∃ i6 : Nat, i6 ≤ 2 ∧ i = .int .i64 i6 ∧ Below W3.heap.size W3 wx) (fun i _ => 2 - (intOf i).toNat)
              case atStart => exact ⟨0, by omega, rfl, Below.refl _ _⟩
              case round =>
                obtain ⟨i6, hi6, rfl, hB3⟩ := hrel
                by_cases hi6' : i6 < 2
                · obtain ⟨un, uv, hun, huv⟩ := QSS.out i6 hi6'
                  have hil6 : (i6 : Int) < 2 := by omega
                  have hi06 : (0 : Int) ≤ (i6 : Int) := by omega
                  have hv60 := (hB3.cell (p := ⟨gQ, i6 * 2, none⟩) hQ2l).trans hun
                  have hv61 := (hB3.cell (p := ⟨gQ, i6 * 2 + 1, none⟩) hQ2l).trans huv
                  have hB4 := ballocs hB3 (.cells #[.int .i64 un, .int .i64 uv] 59)
                  have hG4 := Blk.new wr 59 #[.int .i64 un, .int .i64 uv]
                  have hP4 := (hP2.below hB3 hP2.lt).alloc (.cells #[.int .i64 un, .int .i64 uv] 59)
                  have hp4 : (wr.alloc (.cells #[.int .i64 un, .int .i64 uv] 59)).cell? ⟨gP, 0, none⟩ = some (.int .i64 pg) := (hP4.cell 0).trans rfl
                  have hg40 : (wr.alloc (.cells #[.int .i64 un, .int .i64 uv] 59)).cell? ⟨wr.heap.size, 0, none⟩ = some (.int .i64 un) := (hG4.cell 0).trans rfl
                  have hg41 : (wr.alloc (.cells #[.int .i64 un, .int .i64 uv] 59)).cell? ⟨wr.heap.size, 1, none⟩ = some (.int .i64 uv) := (hG4.cell 1).trans rfl
                  obtain ⟨r6, e6, HR6⟩ := pairE (unitR pg un uv)
                  have HL6 := Lib.hid (unitR_len pg un uv)
                  have HSA6 : Hid (sameL r6 r6 = true) := Lib.hid (by simp [sameL])
                  go_wp2_with (first
                    | (go_at_call 41; refine (vecE HR6 HL6 (vunit_any pg un uv _ hpg64)).mono ?_; rintro e w5 ⟨C1, cn1, cc1, rfl, hC1, hcn1, hb5⟩
                       have hB5 := bnext hB4 hb5
                       have hP5 := hP4.below hb5 hP4.lt
                       have hG5 := hG4.below hb5 hG4.lt
                       have hp5 : w5.cell? ⟨gP, 0, none⟩ = some (.int .i64 pg) := (hP5.cell 0).trans rfl
                       have hg50 : w5.cell? ⟨wr.heap.size, 0, none⟩ = some (.int .i64 un) := (hG5.cell 0).trans rfl
                       have hg51 : w5.cell? ⟨wr.heap.size, 1, none⟩ = some (.int .i64 uv) := (hG5.cell 1).trans rfl
                       have hCI1 := hC1.ints
                       clear hb5)
                    | (go_at_call 42; refine (vecE HR6 HL6 (runit_any pg un uv _)).mono ?_; rintro e w6 ⟨C2, cn2, cc2, rfl, hC2, hcn2, hb6⟩
                       have hB6 := bnext hB5 hb6
                       have hCI3 := hCI1.upto hb6
                       have hCI2 := hC2.ints
                       clear hb6)
                    | (go_at_call 36; refine (same_any C1 C2 cn1 cn2 cc1 cc2 r6 r6 _ hCI3 hCI2 (by omega) (by omega)).mono ?_; rintro e w7 ⟨rfl, q7, rfl⟩; rw [HSA6.out]
                       have hB7 := below_drewN hB6 q7))
                  go_roundw
                  case rel => exact ⟨i6 + 1, by omega, by go_num, hB7⟩
                  case measure => simp [intOf]; omega
                · have hil6 : ¬ (i6 : Int) < 2 := by omega
                  have hS4 := hS2.far hB3
                  have hD4 := hD2.belowAll hB3
                  go_wp2
                  go_roundw
                  case rel => exact ⟨j + 1, q2, by omega, by go_num, hS4, hD4⟩
                  case measure => simp [intOf]; omega
        · have hjl : ¬ (j : Int) < 2 := by omega
          go_wp2
          go_ret
          exact ⟨rfl, Step.below hbW hS hbW.size (by omega)⟩
    · have hab1 : (800 : Int) < (la : Int) + (lb : Int) := by omega
      go_enter Try.func4, Try.ntmps4
      go_wp2_with (first
        | (go_at_call 27; refine (sane04_any _).mono ?_; rintro e w1 ⟨rfl, hb1⟩
           have hbb1 := bnext hb0 hb1)
        | (go_at_call 11; refine (few_any T n c _).mono ?_; rintro e w' ⟨rfl, rfl⟩))
      go_ret
      exact ⟨rfl, hbb1⟩
  · have hd : decide (n ≤ 500) = false := by simpa using hn
    go_enter Try.func4, Try.ntmps4
    go_wp2_with (first
      | (go_at_call 27; refine (sane04_any _).mono ?_; rintro e w1 ⟨rfl, hb1⟩
         have hbb1 := bnext hb0 hb1)
      | (go_at_call 11; refine (few_any T n c _).mono ?_; rintro e w' ⟨rfl, rfl⟩))
    go_ret
    exact ⟨rfl, hbb1⟩
end Go.Proofs.Ytdklcgpjdajkmaa
