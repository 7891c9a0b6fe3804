/-
  CodeDoes returns true: the walk of the law. Conditions: none beyond the reading of its arguments.
-/
import Derived.Test.YtoblofilaegnaaaGCod
import Derived.Test.YtoblofilaegnaaaGCel
import Derived.Test.YtoblofilaegnaaaGBO
import Derived.Test.YtoblofilaegnaaaGC34
import Derived.Test.YtoblofilaegnaaaSame
namespace Go.Proofs.Ytoblofilaegnaaa
open Go.RowKit
set_option linter.unusedVariables false

theorem two_ofC {P : Nat → Prop} (h0 : P 0) (h1 : P 1) : ∀ i, i < 2 → P i := by
  intro i hi
  have : i = 0 ∨ i = 1 := by omega
  rcases this with rfl | rfl
  · exact h0
  · exact h1
theorem encR_len (p : Int) (cs : List Int) (n : Int) : (encR p cs n).1.length ≤ 17592186044416 := by
  unfold encR
  repeat' split
  all_goals simp
  rename_i h1 h2
  have : (valsP p cs (ptsL n.toNat)).length = n.toNat := by simp [valsP, ptsL]
  omega
theorem FillR.ex (p : Int) (vs : List Int) (bs : List Bool) (k : Int) : True := trivial

set_option maxHeartbeats 16000000 in
set_option maxRecDepth 100000 in
theorem codeDoes_walk (T : Option Addr) (n c : Nat) (xs : List Int) (pr : Int) (P : Option Addr) (lp cp : Nat) (ps : List Int) (L : Option Addr) (ll cl : Nat) (us : List Int) (bs : List Bool) (n0 k0 : Int) (w : World)
    (h : Ints w w.heap.size T n xs) (hpr : -9223372036854775808 ≤ pr ∧ pr ≤ 9223372036854775807) (hP : Ints w w.heap.size P lp ps) (hlp : lp ≤ 17592186043904) (hcp : lp ≤ cp) (hL : Cel w w.heap.size L ll us bs) (hn0 : -9223372036854775808 ≤ n0 ∧ n0 ≤ 9223372036854775807) (hk0 : -9223372036854775808 ≤ k0 ∧ k0 ≤ 9223372036854775807) :
    Calls Try.prog 7 #[.slice T n c, .agg #[.int .i64 pr], .slice P lp cp, .slice L ll cl, .int .i64 n0, .int .i64 k0] w fun e w' => e = .returned (.bool true) ∧ Below w.heap.size w w' := by
  have hb0 : Below w.heap.size w (w.alloc (.cells #[.int .i64 pr] 24)) := bbox _
  have hB0 := Blk.new w 24 #[.int .i64 pr]
  by_cases hn : n ≤ 500
  · have hd : decide (n ≤ 500) = true := by simpa using hn
    by_cases hab : lp ≤ 600
    · have hab1 : ¬ (600 : Int) < (lp : Int) := by omega
      by_cases hll : ll ≤ 60
      · have hll1 : ¬ (60 : Int) < (ll : Int) := by omega
        go_enter Try.func7, Try.ntmps7
        go_wp2_with (first
          | (go_at_call 65; refine (sane08_any _).mono ?_; rintro e w1 ⟨rfl, hb1⟩
             have hbb1 := bnext hb0 hb1
             have hB1 := hB0.below hb1 (by simp)
             clear hb0 hB0 hb1)
          | (go_at_call 16; refine (few_any T n c _).mono ?_; rintro e w' ⟨rfl, rfl⟩)
          | (go_at_call 18; refine (new_any T n c xs _ (h.upto hbb1) hn).mono ?_; rintro e w2 ⟨⟨g, rfl, hge, hD2⟩, hb2⟩
             have hbb2 := bnext hbb1 hb2
             have hB2 := hB1.below hb2 hB1.lt
             have hg : w.heap.size < g := by rw [hge]; exact hB1.lt
             clear hge hbb1 hB1 hb2)
          | (go_at_call 51; refine (big_any g T n c xs _ 9 _ hD2 (by omega)).mono ?_; rintro e w3 ⟨p, q3, rfl, hkn, h9, hD3, hS3⟩
             have hbb3 := ballocs (Step.below hbb2 hS3 hbb2.size (by omega)) (.cells #[.int .i64 p] 24)
             have hB3 := (Step.block hS3 hB2 (by omega)).alloc (.cells #[.int .i64 p] 24)
             have hF3 := Blk.new w3 24 #[.int .i64 p]
             have hD3' := hD3.alloc (.cells #[.int .i64 p] 24)
             have hgf : g < w3.heap.size := hD3.1.lt
             have hc3 : (w3.alloc (.cells #[.int .i64 p] 24)).cell? ⟨w3.heap.size, 0, none⟩ = some (.int .i64 p) := (hF3.cell 0).trans rfl
             have HO := Lib.hid (okP_known hkn)
             have hp := okP_pos (okP_known hkn)
             clear hkn hD3 hS3 hB2 hbb2))
        go_region_held3 (fun w' => w'.cell? ⟨w3.heap.size, 0, none⟩ = some (.int .i64 p)) (first | go_keep | exact hc3 | exact hc4 | exact hc5)
          (first
            | (go_at_call 22; (with_reducible refine (elements_any g T n c xs q4 p k w4 hD4 hp (by omega)).mono ?_); rintro e w5 ⟨B2, d2, qs, q5, rfl, hown5, hQA, hD5, hS5⟩
               have hF5 := Step.block hS5 hF4 (by omega)
               have hc5 : w5.cell? ⟨w3.heap.size, 0, none⟩ = some (.int .i64 p) := (hF5.cell 0).trans rfl
               have hT5 := hS4.trans hS5)
            | (go_at_call 20; refine (next_any g T n c xs q3 6 _ hD3'.drew (by omega)).mono ?_; rintro e w4 ⟨r', q4, rfl, hr, hr0, hD4, hS4, hz4⟩
               obtain ⟨k, rfl⟩ : ∃ r : Nat, r' = r := ⟨r'.toNat, by have := hr (by omega); omega⟩
               have hk6 : k < 6 := by have := hr (by omega); omega
               have hF4 := Step.block hS4 hF3.drew (by omega)
               have hc4 : w4.cell? ⟨w3.heap.size, 0, none⟩ = some (.int .i64 p) := (hF4.cell 0).trans rfl
               clear hr hr0 hz4))
        rename_i K hk hHeld
        clear hHeld
        refine hk _ _ ?_
        clear hk
        go_wp2_with fail
        have hg4 : g < w4.heap.size := hD4.1.lt
        have hQO5 := IntsO.of_own hown5 hg4
        have HQA := Lib.hid hQA
        have hQcap := hown5.cap
        have hbb5 := Step.below hbb3.drew hT5 hbb3.size (by omega)
        have hB5 := Step.block hT5 hB3.drew (by omega)
        clear hQA
        go_region_held3 (fun w' => w'.cell? ⟨w3.heap.size, 0, none⟩ = some (.int .i64 p)) (first | go_keep | exact hc5 | exact hc6 | exact hc7 | exact hc8 | exact hc9)
          (first
            | (go_at_call 66; (with_reducible refine (mcellsW_ok g T n c xs q8 p B2 k d2 qs N nw si w8 hD8 HO.out hQO8.ints HQA.out hQcap (by omega) (by omega) (by omega) (by omega) (by omega)).mono ?_); rintro e w9 ⟨B3, d3, vs, cs, q9, rfl, hown9, hK9, hW9, hZ9, hD9, hS9⟩
               have hF9 := Step.block hS9 hF8 (by omega)
               have hc9 : w9.cell? ⟨w3.heap.size, 0, none⟩ = some (.int .i64 p) := (hF9.cell 0).trans rfl
               have hT9 := hT8.trans hS9)
            | (go_at_call 20; (with_reducible refine (next_any g T n c xs q7 4 w7 hD7 (by omega)).mono ?_); rintro e w8 ⟨s', q8, rfl, hs, hs0, hD8, hS8, hz8⟩
               obtain ⟨si, rfl⟩ : ∃ r : Nat, s' = r := ⟨s'.toNat, by have := hs (by omega); omega⟩
               have hsi : si < 4 := by have := hs (by omega); omega
               have hF8 := Step.block hS8 hF7 (by omega)
               have hQO8 := hQO7.step hS8
               have hc8 : w8.cell? ⟨w3.heap.size, 0, none⟩ = some (.int .i64 p) := (hF8.cell 0).trans rfl
               have hT8 := hT7.trans hS8
               clear hs hs0 hz8)
            | (go_at_call 20; (with_reducible refine (next_any g T n c xs q6 3 w6 hD6 (by omega)).mono ?_); rintro e w7 ⟨s', q7, rfl, hs, hs0, hD7, hS7, hz7⟩
               obtain ⟨nw, rfl⟩ : ∃ r : Nat, s' = r := ⟨s'.toNat, by have := hs (by omega); omega⟩
               have hnw : nw < 3 := by have := hs (by omega); omega
               have hF7 := Step.block hS7 hF6 (by omega)
               have hQO7 := hQO6.step hS7
               have hc7 : w7.cell? ⟨w3.heap.size, 0, none⟩ = some (.int .i64 p) := (hF7.cell 0).trans rfl
               have hT7 := hT6.trans hS7
               clear hs hs0 hz7)
            | (go_at_call 20; refine (next_any g T n c xs q5 9 _ hD5.drew (by omega)).mono ?_; rintro e w6 ⟨s', q6, rfl, hs, hs0, hD6, hS6, hz6⟩
               have hs9 := hs (by omega)
               obtain ⟨N, hN⟩ : ∃ N : Nat, 1 + s' = (N : Int) := ⟨(1 + s').toNat, by omega⟩
               have hNw : IntKind.i64.wrap (1 + s') = (N : Int) := by rw [hN]; exact IntWalk.i64_in _ (by omega)
               have hN9 : N ≤ 9 := by omega
               have hF6 := Step.block hS6 hF5.drew (by omega)
               have hQO6 := (hQO5.drewN 1).step hS6
               have hc6 : w6.cell? ⟨w3.heap.size, 0, none⟩ = some (.int .i64 p) := (hF6.cell 0).trans rfl
               have hT6 := hS6
               clear hs hs0 hz6 hs9 hN))
        rename_i K hk hHeld
        clear hHeld
        refine hk _ _ ?_
        clear hk
        have hbb9 := Step.below hbb5.drew hT9 hbb5.size (by omega)
        have hB9 := Step.block hT9 hB5.drew (by omega)
        have hr9 : w9.cell? ⟨w.heap.size, 0, none⟩ = some (.int .i64 pr) := (hB9.cell 0).trans rfl
        have hQI9 := (hQO8.step hS9).ints
        have hCI9 := hown9.cel
        have hPI9 := hP.upto hbb9
        have hLI9 := hL.upto hbb9
        clear hT5 hT6 hT7 hT8 hT9 hc3 hc4 hc5 hc6 hc7 hc8 hD2 hD3' hD4 hD5 hD6 hD7 hD8 hD9 hS4 hS5 hS6 hS7 hS8 hS9 hown5 hown9 hF3 hF4 hF5 hF6 hF7 hF8 hB3 hbb3 hbb5 hB5 hn hd hab1 hB9 hg4 hQO5 hQO6 hQO7 hQO8 HQA hK9 hW9 hZ9 hll1 hNw
        go_wp2_with fail
        have hbW := ballocs hbb9 (.cells #[.int .i64 pr, .int .i64 p] 24)
        have hN := Blk.new w9 24 #[.int .i64 pr, .int .i64 p]
        have hb9W : Below w9.heap.size w9 (w9.alloc (.cells #[.int .i64 pr, .int .i64 p] 24)) := bbox _
        have hPW := hPI9.upto hb9W
        have hQW := hQI9.upto hb9W
        have hLW := hLI9.upto hb9W
        have hCW := hCI9.upto hb9W
        obtain ⟨gN, hgNe⟩ : ∃ gN, w9.heap.size = gN := ⟨_, rfl⟩
        obtain ⟨W, hW⟩ : ∃ W, w9.alloc (.cells #[.int .i64 pr, .int .i64 p] 24) = W := ⟨_, rfl⟩
        rw [hW] at hbW hN hPW hQW hLW hCW
        rw [hgNe] at hN
        have hNl := hN.lt
        have hkl : k ≤ 17592186043904 := by omega
        have PGS := Lib.hid (two_ofC (P := fun j => ∃ pg : Int, W.cell? ⟨gN, j, none⟩ = some (.int .i64 pg) ∧ -9223372036854775808 ≤ pg ∧ pg ≤ 9223372036854775807) ⟨pr, (hN.cell 0).trans rfl, hpr⟩ ⟨p, (hN.cell 1).trans rfl, by omega, by omega⟩)
        rw [hgNe, hW]
        clear hgNe hW hb9W hPI9 hQI9 hLI9 hCI9 hF9 hc9 hbb9 hr9 hN hgf hp HO h9 hpr h hP hL hg
        go_loopw [92] (fun i wr => ∃ j : Nat, j ≤ 2 ∧ i = .int .i64 j ∧ Below W.heap.size W wr) (fun i _ => 2 - (intOf i).toNat)
        case atStart => exact ⟨0, by omega, rfl, Below.refl _ _⟩
        case round =>
          obtain ⟨j, hj2, rfl, hS⟩ := hrel
          by_cases hj : j < 2
          · obtain ⟨pg, hpg, hpg64⟩ := PGS.out j hj
            have hjl : (j : Int) < 2 := by omega
            have hj0 : (0 : Int) ≤ (j : Int) := by omega
            have hv0 := (hS.cell (p := ⟨gN, j, none⟩) hNl).trans hpg
            have hS0 := ballocs hS (.cells #[.int .i64 pg] 24)
            have hG0 := Blk.new wr 24 #[.int .i64 pg]
            have hnm : 0 ≤ n0 % 12 ∧ n0 % 12 < 12 := ⟨Int.emod_nonneg _ (by omega), Int.emod_lt_of_pos _ (by omega)⟩
            obtain ⟨n1, hn1⟩ : ∃ v, n0 % 12 = v := ⟨_, rfl⟩
            rw [hn1] at hnm
            go_wp2_with (go_at_call 32; refine (mod_any n0 12 _ (by omega) (by omega)).mono ?_; rintro e w1 ⟨rfl, rfl⟩; rw [hn1])
            have hS1 := ballocs hS0 (.cells #[.int .i64 n0, .int .i64 n1] 3)
            have hG1 := hG0.alloc (.cells #[.int .i64 n0, .int .i64 n1] 3)
            have hY1 := Blk.new (wr.alloc (.cells #[.int .i64 pg] 24)) 3 #[.int .i64 n0, .int .i64 n1]
            rw [World.size_alloc] at hY1
            obtain ⟨gP, hgP⟩ : ∃ gP, wr.heap.size = gP := ⟨_, rfl⟩
            obtain ⟨W1, hW1⟩ : ∃ W1, (wr.alloc (.cells #[.int .i64 pg] 24)).alloc (.cells #[.int .i64 n0, .int .i64 n1] 3) = W1 := ⟨_, rfl⟩
            rw [hW1] at hS1 hG1 hY1
            rw [hgP] at hG1 hY1
            have hY1l := hY1.lt
            have hG1l := hG1.lt
            have YSS := Lib.hid (two_ofC (P := fun i => ∃ yv : Int, W1.cell? ⟨gP + 1, i, none⟩ = some (.int .i64 yv) ∧ -9223372036854775808 ≤ yv ∧ yv ≤ 9223372036854775807) ⟨n0, (hY1.cell 0).trans rfl, hn0⟩ ⟨n1, (hY1.cell 1).trans rfl, by omega, by omega⟩)
            have hP1 := hPW.upto hS1
            have hQ1 := hQW.upto hS1
            have hL1 := hLW.upto hS1
            have hC1 := hCW.upto hS1
            rw [hgP, hW1]
            clear hgP hW1 hS hS0 hG0 hY1 hnm hn1 hv0 hpg
            go_loopw [101] (fun i wr => ∃ i2 : Nat, i2 ≤ 2 ∧ i = .int .i64 i2 ∧ Below W1.heap.size W1 wr) (fun i _ => 2 - (intOf i).toNat)
            case atStart => exact ⟨0, by omega, rfl, Below.refl _ _⟩
            case round =>
              obtain ⟨i2, hi2, rfl, hS⟩ := hrel
              by_cases hi2' : i2 < 2
              · obtain ⟨yv, hyv, hyv64⟩ := YSS.out i2 hi2'
                have hil2 : (i2 : Int) < 2 := by omega
                have hi02 : (0 : Int) ≤ (i2 : Int) := by omega
                have hv2 := (hS.cell (p := ⟨gP + 1, i2, none⟩) hY1l).trans hyv
                go_wp2_with fail
                have hS2 := ballocs hS (.cells #[.slice P lp cp, .slice B2 k d2] 22)
                have hZ2 := Blk.new wr 22 #[.slice P lp cp, .slice B2 k d2]
                obtain ⟨gZ, hgZ⟩ : ∃ gZ, wr.heap.size = gZ := ⟨_, rfl⟩
                obtain ⟨W2, hW2⟩ : ∃ W2, wr.alloc (.cells #[.slice P lp cp, .slice B2 k d2] 22) = W2 := ⟨_, rfl⟩
                rw [hW2] at hS2 hZ2
                rw [hgZ] at hZ2
                have hZ2l := hZ2.lt
                have hG2 := hG1.below hS2 hG1.lt
                have ZSS := Lib.hid (two_ofC (P := fun i => ∃ (Z : Option Addr) (zn zc : Nat) (zx : List Int), W2.cell? ⟨gZ, i, none⟩ = some (.slice Z zn zc) ∧ Ints W2 W2.heap.size Z zn zx ∧ zn ≤ zc ∧ zn ≤ 17592186043904) ⟨P, lp, cp, ps, (hZ2.cell 0).trans rfl, hP1.upto hS2, hcp, hlp⟩ ⟨B2, k, d2, qs, (hZ2.cell 1).trans rfl, hQ1.upto hS2, hQcap, hkl⟩)
                rw [hgZ, hW2]
                clear hgZ hW2 hS hv2 hyv hZ2
                go_loopw [109] (fun i wr => ∃ i3 : Nat, i3 ≤ 2 ∧ i = .int .i64 i3 ∧ Below W2.heap.size W2 wr) (fun i _ => 2 - (intOf i).toNat)
                case atStart => exact ⟨0, by omega, rfl, Below.refl _ _⟩
                case round =>
                  obtain ⟨i3, hi3, rfl, hS⟩ := hrel
                  by_cases hi3' : i3 < 2
                  · obtain ⟨Z, zn, zc, zx, hzv, hZI, hzc, hzn⟩ := ZSS.out i3 hi3'
                    have hil3 : (i3 : Int) < 2 := by omega
                    have hi03 : (0 : Int) ≤ (i3 : Int) := by omega
                    have hv3 := (hS.cell (p := ⟨gZ, i3, none⟩) hZ2l).trans hzv
                    have hZI3 := hZI.upto hS
                    have hG3 := hG2.below hS hG2.lt
                    have hg3 : wr.cell? ⟨gP, 0, none⟩ = some (.int .i64 pg) := (hG3.cell 0).trans rfl
                    obtain ⟨r1, e1, HR1⟩ := pairE (encR pg zx yv)
                    have HL1 := Lib.hid (encR_len pg zx yv)
                    have HSA1 : Hid (sameL r1 r1 = true) := Lib.hid (by simp [sameL])
                    go_wp2_with (first
                      | (go_at_call 67; refine (vecE HR1 HL1 (encode_all pg Z zn zc yv zx _ hpg64 hZI3 hzc (by omega) hyv64)).mono ?_; rintro e w4 ⟨U1, un1, uc1, rfl, hU1, hun1, hb4⟩
                         have hS4 := bnext hS hb4
                         have hZI4 := hZI3.upto hb4
                         have hG4 := hG3.below hb4 hG3.lt
                         have hg4 : w4.cell? ⟨gP, 0, none⟩ = some (.int .i64 pg) := (hG4.cell 0).trans rfl
                         have hUI4 := hU1.ints
                         clear hb4 hU1)
                      | (go_at_call 68; refine (vecE HR1 HL1 (rencode_all pg Z zn zc yv zx _ hpg64 hZI4 hzc (by omega) hyv64)).mono ?_; rintro e w5 ⟨U2, un2, uc2, rfl, hU2, hun2, hb5⟩
                         have hS5 := bnext hS4 hb5
                         have hUI5 := hUI4.upto hb5
                         have hVI5 := hU2.ints
                         clear hb5 hU2)
                      | (go_at_call 27; refine (same_any U1 U2 un1 un2 uc1 uc2 r1 r1 _ hUI5 hVI5 (by omega) (by omega)).mono ?_; rintro e w6 ⟨rfl, q6, rfl⟩; rw [HSA1.out]
                         have hS6 := below_drewN hS5 q6))
                    go_roundw
                    case rel => exact ⟨i3 + 1, by omega, by go_num, hS6⟩
                    case measure => simp [intOf]; omega
                  · obtain rfl : i3 = 2 := by omega
                    have hS7 := hS2.trans (hS.mono hS2.size)
                    go_wp2
                    go_roundw
                    case rel => exact ⟨i2 + 1, by omega, by go_num, hS7⟩
                    case measure => simp [intOf]; omega
              · obtain rfl : i2 = 2 := by omega
                have hS2 := hS1.trans (hS.mono hS1.size)
                have hG2 := hG1.below hS hG1l
                have hP2 := hP1.upto hS
                have hQ2 := hQ1.upto hS
                have hL2 := hL1.upto hS
                have hC2 := hC1.upto hS
                have hkm : 0 ≤ k0 % 8 ∧ k0 % 8 < 8 := ⟨Int.emod_nonneg _ (by omega), Int.emod_lt_of_pos _ (by omega)⟩
                obtain ⟨k1, hk1⟩ : ∃ v, k0 % 8 = v := ⟨_, rfl⟩
                rw [hk1] at hkm
                go_wp2_with (go_at_call 32; refine (mod_any k0 8 _ (by omega) (by omega)).mono ?_; rintro e w1 ⟨rfl, rfl⟩; rw [hk1])
                have hS3 := ballocs hS2 (.cells #[.int .i64 k0, .int .i64 k1] 3)
                have hN3 := Blk.new wr 3 #[.int .i64 k0, .int .i64 k1]
                have hb23 : Below wr.heap.size wr (wr.alloc (.cells #[.int .i64 k0, .int .i64 k1] 3)) := bbox _
                have hG3 := hG2.alloc (.cells #[.int .i64 k0, .int .i64 k1] 3)
                have hP3 := hP2.upto hb23
                have hQ3 := hQ2.upto hb23
                have hL3 := hL2.upto hb23
                have hC3 := hC2.upto hb23
                obtain ⟨gK, hgK⟩ : ∃ gK, wr.heap.size = gK := ⟨_, rfl⟩
                obtain ⟨W3, hW3⟩ : ∃ W3, wr.alloc (.cells #[.int .i64 k0, .int .i64 k1] 3) = W3 := ⟨_, rfl⟩
                rw [hW3] at hS3 hN3 hG3 hP3 hQ3 hL3 hC3
                rw [hgK] at hN3
                have hN3l := hN3.lt
                have hG3l := hG3.lt
                have KSS := Lib.hid (two_ofC (P := fun i => ∃ yv : Int, W3.cell? ⟨gK, i, none⟩ = some (.int .i64 yv) ∧ -9223372036854775808 ≤ yv ∧ yv ≤ 9223372036854775807) ⟨k0, (hN3.cell 0).trans rfl, hk0⟩ ⟨k1, (hN3.cell 1).trans rfl, by omega, by omega⟩)
                rw [hgK, hW3]
                clear hgK hW3 hS hS2 hG2 hP2 hQ2 hL2 hC2 hN3 hb23 hkm hk1 YSS hP1 hQ1 hL1 hC1 hG1
                go_loopw [143] (fun i wr => ∃ i4 : Nat, i4 ≤ 2 ∧ i = .int .i64 i4 ∧ Below W3.heap.size W3 wr) (fun i _ => 2 - (intOf i).toNat)
                case atStart => exact ⟨0, by omega, rfl, Below.refl _ _⟩
                case round =>
                  obtain ⟨i4, hi4, rfl, hS⟩ := hrel
                  by_cases hi4' : i4 < 2
                  · obtain ⟨kv, hkv, hkv64⟩ := KSS.out i4 hi4'
                    have hil4 : (i4 : Int) < 2 := by omega
                    have hi04 : (0 : Int) ≤ (i4 : Int) := by omega
                    have hv4 := (hS.cell (p := ⟨gK, i4, none⟩) hN3l).trans hkv
                    go_wp2_with fail
                    have hS4 := ballocs hS (.cells #[.slice L ll cl, .slice B3 N d3] 77)
                    have hM4 := Blk.new wr 77 #[.slice L ll cl, .slice B3 N d3]
                    obtain ⟨gM, hgM⟩ : ∃ gM, wr.heap.size = gM := ⟨_, rfl⟩
                    obtain ⟨W4, hW4⟩ : ∃ W4, wr.alloc (.cells #[.slice L ll cl, .slice B3 N d3] 77) = W4 := ⟨_, rfl⟩
                    rw [hW4] at hS4 hM4
                    rw [hgM] at hM4
                    have hM4l := hM4.lt
                    have hG4 := hG3.below hS4 hG3l
                    have hG4l := hG4.lt
                    have hP4 := hP3.upto hS4
                    have hQ4 := hQ3.upto hS4
                    have MSS := Lib.hid (two_ofC (P := fun i => ∃ (Z : Option Addr) (zn zc : Nat) (zv : List Int) (zb : List Bool), W4.cell? ⟨gM, i, none⟩ = some (.slice Z zn zc) ∧ Cel W4 W4.heap.size Z zn zv zb ∧ zn ≤ 1000) ⟨L, ll, cl, us, bs, (hM4.cell 0).trans rfl, hL3.upto hS4, by omega⟩ ⟨B3, N, d3, vs, cs, (hM4.cell 1).trans rfl, hC3.upto hS4, by omega⟩)
                    rw [hgM, hW4]
                    clear hgM hW4 hS hv4 hkv hM4
                    go_loopw [151] (fun i wr => ∃ i5 : Nat, i5 ≤ 2 ∧ i = .int .i64 i5 ∧ Below W4.heap.size W4 wr) (fun i _ => 2 - (intOf i).toNat)
                    case atStart => exact ⟨0, by omega, rfl, Below.refl _ _⟩
                    case round =>
                      obtain ⟨i5, hi5, rfl, hS⟩ := hrel
                      by_cases hi5' : i5 < 2
                      · obtain ⟨Z, zn, zc, zv, zb, hzv, hZI, hzn⟩ := MSS.out i5 hi5'
                        have hil5 : (i5 : Int) < 2 := by omega
                        have hi05 : (0 : Int) ≤ (i5 : Int) := by omega
                        have hv5 := (hS.cell (p := ⟨gM, i5, none⟩) hM4l).trans hzv
                        have hZI3 := hZI.upto hS
                        have hG5 := hG4.below hS hG4l
                        have hg5 : wr.cell? ⟨gP, 0, none⟩ = some (.int .i64 pg) := (hG5.cell 0).trans rfl
                        go_wp2_with (first
                          | (go_at_call 69; refine (fill_all pg Z zn zc kv zv zb _ hpg64 hZI3 hzn hkv64).mono ?_; rintro e w4 ⟨U1, un1, uc1, r1, e1, rfl, hun1, huc1, hU1, hR1, hb4⟩
                             have HR1 := Lib.hid hR1
                             have hS4b := bnext hS hb4
                             have hZI4 := hZI3.upto hb4
                             have hG6 := hG5.below hb4 hG5.lt
                             have hg6 : w4.cell? ⟨gP, 0, none⟩ = some (.int .i64 pg) := (hG6.cell 0).trans rfl
                             clear hb4 hR1)
                          | (go_at_call 70; refine (rfill_all pg Z zn zc kv zv zb _ hpg64 hZI4 hzn hkv64).mono ?_; rintro e w5 ⟨U2, un2, uc2, r2, e2, rfl, hun2, huc2, hU2, hR2, hb5⟩
                             obtain ⟨rfl, rfl⟩ := FillR.one HR1.out hR2
                             have hS5b := bnext hS4b hb5
                             have hZI5 := hZI4.upto hb5
                             have hU15 := hU1.upto hb5
                             have hG7 := hG6.below hb5 hG6.lt
                             have hg7 : w5.cell? ⟨gP, 0, none⟩ = some (.int .i64 pg) := (hG7.cell 0).trans rfl
                             clear hb5 hR2 hU1)
                          | (go_at_call 71; refine (right_all pg Z zn zc kv zv zb _ hpg64 hZI5 hzn hkv64).mono ?_; rintro e w6 ⟨b1, e3, rfl, hR3, hb6⟩
                             have HR3 := Lib.hid hR3
                             have hS6b := bnext hS5b hb6
                             have hZI6 := hZI5.upto hb6
                             have hU16 := hU15.upto hb6
                             have hU26 := hU2.upto hb6
                             have hG8 := hG7.below hb6 hG7.lt
                             have hg8 : w6.cell? ⟨gP, 0, none⟩ = some (.int .i64 pg) := (hG8.cell 0).trans rfl
                             clear hb6 hR3 hU15 hU2)
                          | (go_at_call 72; refine (rright_all pg Z zn zc kv zv zb _ hpg64 hZI6 hzn hkv64).mono ?_; rintro e w7 ⟨b2, e4, rfl, hR4, hb7⟩
                             obtain ⟨rfl, rfl⟩ := RightR.one HR3.out hR4
                             have hS7b := bnext hS6b hb7
                             have hZI7 := hZI6.upto hb7
                             have hU17 := hU16.upto hb7
                             have hU27 := hU26.upto hb7
                             have HSA1 : Hid (sameL r1 r1 = true) := Lib.hid (by simp [sameL])
                             have hG9 := hG8.below hb7 hG8.lt
                             clear hb7 hR4 hU16 hU26)
                          | (go_at_call 27; refine (same_any U1 U2 un1 un2 uc1 uc2 r1 r1 _ hU17 hU27 (by omega) (by omega)).mono ?_; rintro e w8 ⟨rfl, q8b, rfl⟩; rw [HSA1.out]
                             have hS8b := below_drewN hS7b q8b
                             have hZI8 := hZI7.upto (below_drewN (Below.refl _ _) q8b)
                             have hG10 := Blk.drewN hG9 q8b))
                        have hS9 := ballocs hS8b (.cells #[.slice P lp cp, .slice B2 k d2] 22)
                        have hV9 := Blk.new (w7.drewN q8b) 22 #[.slice P lp cp, .slice B2 k d2]
                        have hb79 : Below (w7.drewN q8b).heap.size (w7.drewN q8b) ((w7.drewN q8b).alloc (.cells #[.slice P lp cp, .slice B2 k d2] 22)) := bbox _
                        have hG11 := hG10.alloc (.cells #[.slice P lp cp, .slice B2 k d2] 22)
                        have hZI9 := hZI8.upto hb79
                        obtain ⟨gV, hgV⟩ : ∃ gV, w7.heap.size = gV := ⟨_, rfl⟩
                        obtain ⟨W5, hW5⟩ : ∃ W5, (w7.drewN q8b).alloc (.cells #[.slice P lp cp, .slice B2 k d2] 22) = W5 := ⟨_, rfl⟩
                        rw [hW5] at hS9 hV9 hG11 hZI9
                        have hV9 : Blk W5 w7.heap.size 22 #[.slice P lp cp, .slice B2 k d2] := hV9
                        rw [hgV] at hV9
                        have hV9l := hV9.lt
                        have hG11l := hG11.lt
                        have VSS := Lib.hid (two_ofC (P := fun i => ∃ (Z : Option Addr) (zn zc : Nat) (zx : List Int), W5.cell? ⟨gV, i, none⟩ = some (.slice Z zn zc) ∧ Ints W5 W5.heap.size Z zn zx ∧ zn ≤ zc ∧ zn ≤ 17592186043904) ⟨P, lp, cp, ps, (hV9.cell 0).trans rfl, hP4.upto hS9, hcp, hlp⟩ ⟨B2, k, d2, qs, (hV9.cell 1).trans rfl, hQ4.upto hS9, hQcap, hkl⟩)
                        rw [hgV, hW5]
                        clear hgV hW5 hS8b hS7b hS6b hS5b hS4b hZI8 hZI7 hZI6 hZI5 hZI4 hZI3 hG10 hG9 hG8 hG7 hG6 hG5 hg5 hg6 hg7 hg8 hU17 hU27 HSA1 HR1 HR3 hV9 hb79 hS hv5 hzv hZI
                        go_loopw [206] (fun i wr => ∃ i6 : Nat, i6 ≤ 2 ∧ i = .int .i64 i6 ∧ Below W5.heap.size W5 wr) (fun i _ => 2 - (intOf i).toNat)
                        case atStart => exact ⟨0, by omega, rfl, Below.refl _ _⟩
                        case round =>
                          obtain ⟨i6, hi6, rfl, hS⟩ := hrel
                          by_cases hi6' : i6 < 2
                          · obtain ⟨Y, yn, yc, yx, hyv, hYI, hyc, hyn⟩ := VSS.out i6 hi6'
                            have hil6 : (i6 : Int) < 2 := by omega
                            have hi06 : (0 : Int) ≤ (i6 : Int) := by omega
                            have hv6 := (hS.cell (p := ⟨gV, i6, none⟩) hV9l).trans hyv
                            have hYI3 := hYI.upto hS
                            have hZI3 := hZI9.upto hS
                            have hG12 := hG11.below hS hG11l
                            have hg12 : wr.cell? ⟨gP, 0, none⟩ = some (.int .i64 pg) := (hG12.cell 0).trans rfl
                            obtain ⟨av, ae, HAR⟩ := pairE (agreeR pg zv zb yx)
                            go_wp2_with (first
                              | (go_at_call 73; refine (valE HAR (agree_all pg Z Y zn zc yn yc zv zb yx _ hpg64 hZI3 hzn hYI3 hyc (by omega))).mono ?_; rintro e w10 ⟨rfl, hb10⟩
                                 have hS10 := bnext hS hb10
                                 have hZI10 := hZI3.upto hb10
                                 have hYI10 := hYI3.upto hb10
                                 have hG13 := hG12.below hb10 hG12.lt
                                 have hg13 : w10.cell? ⟨gP, 0, none⟩ = some (.int .i64 pg) := (hG13.cell 0).trans rfl
                                 clear hb10)
                              | (go_at_call 74; refine (valE HAR (ragree_all pg Z Y zn zc yn yc zv zb yx _ hpg64 hZI10 hzn hYI10 hyc (by omega))).mono ?_; rintro e w11 ⟨rfl, hb11⟩
                                 have hS11 := bnext hS10 hb11
                                 clear hb11))
                            go_roundw
                            case rel => exact ⟨i6 + 1, by omega, by go_num, hS11⟩
                            case measure => simp [intOf]; omega
                          · obtain rfl : i6 = 2 := by omega
                            have hS10 := hS9.trans (hS.mono hS9.size)
                            go_wp2
                            go_roundw
                            case rel => exact ⟨i5 + 1, by omega, by go_num, hS10⟩
                            case measure => simp [intOf]; omega
                      · obtain rfl : i5 = 2 := by omega
                        have hS5 := hS4.trans (hS.mono hS4.size)
                        have hnm : 0 ≤ n0 % 40 ∧ n0 % 40 < 40 := ⟨Int.emod_nonneg _ (by omega), Int.emod_lt_of_pos _ (by omega)⟩
                        obtain ⟨n4, hn4⟩ : ∃ v, n0 % 40 = v := ⟨_, rfl⟩
                        rw [hn4] at hnm
                        obtain ⟨dv, de, HDR⟩ := pairE (distR n0 kv)
                        obtain ⟨fv, fe, HFR⟩ := pairE (distR n4 kv)
                        go_wp2_with (first
                          | (go_at_call 75; (with_reducible refine (dist_all n0 kv _ hn0 hkv64).mono ?_); rintro e w' ⟨rfl, rfl⟩; rw [HDR.out])
                          | (go_at_call 76; (with_reducible refine (rdist_all n0 kv _ hn0 hkv64).mono ?_); rintro e w' ⟨rfl, rfl⟩; rw [HDR.out])
                          | (go_at_call 32; refine (mod_any n0 40 _ (by omega) (by omega)).mono ?_; rintro e w1 ⟨rfl, rfl⟩; rw [hn4])
                          | (go_at_call 75; (with_reducible refine (dist_all n4 kv _ (by omega) hkv64).mono ?_); rintro e w' ⟨rfl, rfl⟩; rw [HFR.out])
                          | (go_at_call 76; (with_reducible refine (rdist_all n4 kv _ (by omega) hkv64).mono ?_); rintro e w' ⟨rfl, rfl⟩; rw [HFR.out]))
                        go_roundw
                        case rel => exact ⟨i4 + 1, by omega, by go_num, hS5⟩
                        case measure => simp [intOf]; omega
                  · obtain rfl : i4 = 2 := by omega
                    have hS7 := hS3.trans (hS.mono hS3.size)
                    go_wp2
                    go_roundw
                    case rel => exact ⟨j + 1, by omega, by go_num, hS7⟩
                    case measure => simp [intOf]; omega
          · obtain rfl : j = 2 := by omega
            go_wp2
            go_ret
            exact ⟨rfl, hbW.trans (hS.mono hbW.size)⟩
      · have hll1 : (60 : Int) < (ll : Int) := by omega
        go_enter Try.func7, Try.ntmps7
        go_wp2_with (first
          | (go_at_call 65; refine (sane08_any _).mono ?_; rintro e w1 ⟨rfl, hb1⟩
             have hbb1 := bnext hb0 hb1)
          | (go_at_call 16; refine (few_any T n c _).mono ?_; rintro e w' ⟨rfl, rfl⟩))
        go_ret
        exact ⟨rfl, hbb1⟩
    · have hab1 : (600 : Int) < (lp : Int) := by omega
      go_enter Try.func7, Try.ntmps7
      go_wp2_with (first
        | (go_at_call 65; refine (sane08_any _).mono ?_; rintro e w1 ⟨rfl, hb1⟩
           have hbb1 := bnext hb0 hb1)
        | (go_at_call 16; refine (few_any T n c _).mono ?_; rintro e w' ⟨rfl, rfl⟩))
      go_ret
      exact ⟨rfl, hbb1⟩
  · have hd : decide (n ≤ 500) = false := by simpa using hn
    go_enter Try.func7, Try.ntmps7
    go_wp2_with (first
      | (go_at_call 65; refine (sane08_any _).mono ?_; rintro e w1 ⟨rfl, hb1⟩
         have hbb1 := bnext hb0 hb1)
      | (go_at_call 16; refine (few_any T n c _).mono ?_; rintro e w' ⟨rfl, rfl⟩))
    go_ret
    exact ⟨rfl, hbb1⟩
end Go.Proofs.Ytoblofilaegnaaa
