/-
  UniqueErrors returns true: the walk of the law. Conditions: none beyond the reading of its arguments and of the variable errWrong.
-/
import Derived.Test.YteipcjmkhacdgaaDoorS09
import Derived.Test.YteipcjmkhacdgaaDoorUWord
import Derived.Test.YteipcjmkhacdgaaDoorUKp
import Derived.Test.YteipcjmkhacdgaaDoorDecE
namespace Go.Proofs.YteipcjmkhacdgaaDoor
open Go.RowKit
set_option linter.unusedVariables false

theorem OwnC.drew_ {w : World} {base n c : Nat} {A : Option Addr} {us : List Int} {ys : List Bool} (h : OwnC w base A n c us ys) : OwnC w.drew base A n c us ys := h

set_option maxRecDepth 100000 in
set_option maxHeartbeats 16000000 in
theorem uniqueErrors_walk (A : Option Addr) (n c : Nat) (zs : List Int) (w : World) (w0 : IsRow .i64 w A n c zs) (hW : ErrW w) :
    Calls Tryd.prog 5 #[.slice A n c] w fun e w' => e = .returned (.bool true) ∧ Below w.heap.size w w' := by
  obtain ⟨i0, hi0, hz0, hz1, hz2⟩ := info_parts info_int
  obtain ⟨h, hw⟩ := w0.ints
  generalize zs.take n = xs at h hw
  clear w0
  by_cases hn : n ≤ 500
  · have hd : decide (n ≤ 500) = true := by simpa using hn
    go_enter Tryd.func5, Tryd.ntmps5
    go_upto_region 6 with (first
      | (go_at_call 9; refine (sane09_any _ hW).mono ?_; rintro e w1 ⟨rfl, hb1⟩
         have hE1 := hW.below hb1)
      | (go_at_call 10; refine (few_any A n c _).mono ?_; rintro e w' ⟨rfl, rfl⟩)
      | (go_at_call 11; refine (new_any A n c xs _ (h.upto hb1) hn).mono ?_; rintro e w2 ⟨⟨g, rfl, hge, hD2⟩, hb2⟩
         have hbb2 := bnext hb1 hb2
         have hE2 := hE1.below hb2
         have hg : w.heap.size ≤ g := by rw [hge]; exact hb1.size
         have hg1 : 0 < g := by rw [hge]; exact hE1.2
         clear hge hb1 hb2 hE1))
    go_upto_region 7 with (go_at_call 12; refine (big_any g A n c xs _ 9 _ hD2 (by omega)).mono ?_; rintro e w3 ⟨p, q3, rfl, hkp, hlp, hD3, hS3⟩)
    have hok := okP_known hkp
    have hp := okP_pos hok
    have HO := Lib.hid hok
    have hbb3 := ballocs (Step.below hbb2 hS3 hbb2.size hg) (.cells #[.int .i64 p] 24)
    have hE3 := (hE2.step hS3 hg1).below (bbox (.cells #[.int .i64 p] 24))
    have hF3 := Blk.new w3 24 #[.int .i64 p]
    have hD3' := hD3.alloc (.cells #[.int .i64 p] 24)
    have hgF : g < w3.heap.size := hD3.1.lt
    obtain ⟨F, hF⟩ : ∃ F, w3.heap.size = F := ⟨_, rfl⟩
    obtain ⟨W, hWe⟩ : ∃ W, w3.alloc (.cells #[.int .i64 p] 24) = W := ⟨_, rfl⟩
    rw [hWe] at hbb3 hE3 hF3 hD3' ⊢
    rw [hF] at hF3 hgF ⊢
    clear hWe hF hD3 hS3 hkp hok hE2 hbb2 hD2
    go_upto_region 10 with (first
      | (go_at_call 13; (with_reducible refine (next_any g A n c xs q3 9 W hD3' (by omega)).mono ?_); rintro e w4 ⟨r', q4, rfl, hr, hr0, hD4, hS4, hz4⟩
         obtain ⟨N, hN1⟩ : ∃ r : Nat, 1 + r' = (r : Int) := ⟨(1 + r').toNat, by have := hr (by omega); omega⟩
         have hN : 1 ≤ N ∧ N ≤ 9 := by have := hr (by omega); omega
         have hF4 := Step.block hS4 hF3 (by omega)
         have hE4 := hE3.step hS4 hg1
         have hbb4 := Step.below hbb3 hS4 hbb3.size hg
         have hw4 : IntKind.i64.wrap (1 + r') = (N : Int) := by rw [hN1]; exact IntWalk.i64_in _ (by omega)
         clear hr hr0 hz4)
      | (go_at_call 13; (with_reducible refine (next_any g A n c xs q4 (N : Int) w4 hD4 (by omega)).mono ?_); rintro e w5 ⟨r2, q5, rfl, hr2, hr20, hD5, hS5, hz5⟩
         obtain ⟨k, hk2⟩ : ∃ r : Nat, 1 + r2 = (r : Int) := ⟨(1 + r2).toNat, by have := hr2 (by omega); omega⟩
         have hk : 1 ≤ k ∧ k ≤ N := by have := hr2 (by omega); omega
         have hF5 := Step.block hS5 hF4 (by omega)
         have hE5 := hE4.step hS5 hg1
         have hbb5 := Step.below hbb4 hS5 hbb4.size hg
         have hw5 : IntKind.i64.wrap (1 + r2) = (k : Int) := by rw [hk2]; exact IntWalk.i64_in _ (by omega)
         clear hr2 hr20 hz5))
    clear hw4 hw5 hN1 hk2 hF4 hE4 hbb4 hD4 hF3 hE3 hbb3 hD3' hS4 hS5
    have hgw5 : g < w5.heap.size := hD5.1.lt
    go_wp2_with fail
    go_loopw [7, 36] (fun s i wz => ∃ (j q : Nat) (L : Option Addr) (lc : Nat) (vs : List Int) (bs : List Bool), j ≤ N ∧ s = .slice L j lc ∧ i = .int .i64 j ∧ Hid (OwnC wz w5.heap.size L j lc vs bs) ∧ Hid (knOk p vs bs) ∧ Deck wz g A n c xs q ∧ Step g w5 wz) (fun _ i _ => N - (intOf i).toNat)
    case atStart => exact ⟨0, q5, none, 0, [], [], Nat.zero_le _, rfl, rfl, Lib.hid OwnC.nil_, Lib.hid (fun e he => by simp [knL, knF] at he), hD5, Step.refl g w5⟩
    case round =>
      obtain ⟨j, q, L, lc, vs, bs, hj, rfl, rfl, HOC, HOK, hD, hSt⟩ := hrel
      by_cases hlt : j < N
      · have hjN : (j : Int) < (N : Int) := by omega
        have hFz := Step.block hSt hF5 (by omega)
        have hcf : World.cell? _ ⟨F, 0, none⟩ = some (.int .i64 p) := (hFz.cell 0).trans rfl
        have h4 : ¬ p < 4 := by omega
        have h4b : (4 : Int) ≤ p := by omega
        have h4c : (4 : Int) < p := by omega
        have hDd := hD
        go_wp2_with (first
          | (go_at_call 13; (with_reducible refine (next_any g A n c xs q 4 _ hDd (by omega)).mono ?_); rintro e w6 ⟨r, q6, rfl, hr, _, hD6, hS6, hz6⟩
             have hrb := hr (by omega)
             clear hr hz6)
          | (go_at_call 13; (with_reducible refine (next_any g A n c xs q6 5 _ hD6 (by omega)).mono ?_); rintro e w7 ⟨r2, q7, rfl, hr2, _, hD7, hS7, hz7⟩
             have hrb2 := hr2 (by omega)
             obtain ⟨bb, hbb⟩ : ∃ bb : Bool, decide (r2 > 0) = bb := ⟨_, rfl⟩
             clear hr2 hz7
             have hoA := ((HOC.out.step hS6 hgw5).step hS7 hgw5).belowAll (bbox (.cells #[.int .i64 r, .bool bb] 59))
             have hN9 := Blk.new w7 59 #[.int .i64 r, .bool bb]
             have hSt7 := ((hSt.trans hS6).trans hS7).alloc (.cells #[.int .i64 r, .bool bb] 59)
             have hszl : w5.heap.size ≤ (w7.alloc (.cells #[.int .i64 r, .bool bb] 59)).heap.size := World.grownBy.size hSt7
             have hD8 := hD7.alloc (.cells #[.int .i64 r, .bool bb] 59))
          | (at_builtin
             refine wpList_append_cell rfl _ _ 25 rfl Tryd.underlying25 w5.heap.size L j lc vs bs rfl hoA w7.heap.size 1 r bb rfl ((hN9.cell 0).trans rfl) ((hN9.cell 1).trans rfl) (by omega) hszl ?_
             intro L2 lc2 w10 hS10 hb10))
        have hd10 : Deck w10 g A n c xs q7 := hD8.below hb10 hgw5
        have hs10 : Step g w5 w10 := hSt7.thenBelow hb10
        have hok10 : Hid (knOk p (vs ++ [r]) (bs ++ [bb])) := Lib.hid (knOk_snoc HOK.out (by rw [HOC.out.1, HOC.out.2.1]) (by omega))
        go_roundw
        case rel => exact ⟨j + 1, q7, L2, lc2, _, _, by omega, rfl, by go_num, Lib.hid hS10, hok10, hd10, hs10⟩
        case measure => simp [intOf]; omega
      · obtain rfl : N = j := by omega
        have hcfr : World.cell? _ ⟨F, 0, none⟩ = some (.int .i64 p) := ((Step.block hSt hF5 (by omega)).cell 0).trans rfl
        go_upto_region 17 with (first
          | (go_at_call 15; (with_reducible refine (elements_any g A n c xs q p k _ hD hp (by omega)).mono ?_); rintro e w8 ⟨A8, c8, ql, q8, rfl, hO8, hQ8, hD8, hS8⟩
             have HQA := Lib.hid hQ8
             have hC8 := HOC.out.step hS8 hgw5
             have hSt8 := hSt.trans hS8
             have hF8 := Step.block hSt8 hF5 (by omega)
             have hE8 := hE5.step hSt8 hg1
             have hbb8 := Step.below hbb5 hSt8 hbb5.size hg
             have hI8 := hO8.ints
             have hcap8 := hO8.cap
             have hcf8 : w8.cell? ⟨F, 0, none⟩ = some (.int .i64 p) := (hF8.cell 0).trans rfl
             clear hQ8)
          | (go_at_call 29; (refine (rencode_ok p A8 k c8 N ql _ HO.out hI8 HQA.out hcap8 (by omega) (by omega) (by omega)).mono ?_); rintro e w9 ⟨⟨A9, c9, rfl, hO9⟩, hb9⟩
             have hC9 := hC8.belowAll hb9
             have hF9 := hF8.below hb9 hF8.lt
             have hE9 := hE8.below hb9
             have hbb9 := bnext hbb8 hb9
             have hO89 := hO8.belowAll hb9
             have hK9 := hC9.cel)
          | (at_builtin
             refine wpList_append_cells rfl _ _ _ rfl Tryd.underlying25 w9.heap.size none 0 0 [] [] rfl OwnC.nil_ w9.heap.size L N lc vs bs rfl hK9 N (Nat.zero_add _) (by omega) (Nat.le_refl _) ?_
             intro A10 c10 w10 hC10 hb10))
        go_wp2_with fail
        obtain ⟨gM, rfl, hgM, hgMl⟩ := hC10.form (by omega)
        have hF9l := hF9.lt
        have hgw9 : g < w9.heap.size := by omega
        have hI9 := hO9.ints
        obtain ⟨wv, hwv⟩ : ∃ wv, valsP p ql (ptsL N) = wv := ⟨_, rfl⟩
        rw [hwv] at hI9
        have HWL : Hid (wv.length = N) := Lib.hid (by rw [← hwv, valsP_len, ptsL_len])
        have HWV : Hid (∀ j, j < N → wv.getD j 0 = valueP p ((j : Int) + 1) ql) := Lib.hid fun j hj => by rw [← hwv, valsP_at p ql _ (by rw [ptsL_len]; exact hj), ptsL_at hj]
        have HI9 := Lib.hid hI9
        have HO89 := Lib.hid hO89
        have HK9 := Lib.hid hK9
        have HF9 := Lib.hid hF9
        have HE9 := Lib.hid hE9
        have HVL := Lib.hid hC9.1
        have HBL := Lib.hid hC9.2.1
        have HQL := Lib.hid hO8.len
        have HL1 : Hid (vs.length = bs.length) := Lib.hid (by rw [HVL.out, HBL.out])
        obtain ⟨tv, htv⟩ : ∃ tv, addF p ql 1 vs bs = tv := ⟨_, rfl⟩
        have HTL : Hid (tv.length = vs.length) := Lib.hid (by rw [← htv, addF_len p ql vs bs 1 HL1.out])
        have HTA : Hid (∀ j, j < N → tv.getD j 0 = if bs.getD j false = true then (vs.getD j 0 + valueP p ((j : Int) + 1) ql) % p else vs.getD j 0) := Lib.hid fun j hj => by rw [← htv, addF_at p ql vs bs 1 j HL1.out (by rw [HVL.out]; exact hj), Int.add_comm 1 (j : Int)]
        have HTV := Lib.hid htv
        have HC10 := Lib.hid hC10
        have hb10' : Below w9.heap.size w9 w10 := hb10
        clear hwv hI9 hO89 hK9 hF9 hE9 htv hC10 hb10 hO8 hC8 hSt8 hF8 hE8 hbb8 hI8 hcap8 hcf8 hO9 hb9 hC9 hcfr hD hSt HOC hF5 hE5 hbb5 hD5 hS8 hj hlt
        go_loopw [66] (fun i wz => ∃ j : Nat, j ≤ N ∧ i = .int .i64 j ∧ Hid (OwnC wz w9.heap.size (some ⟨gM, 0, none⟩) N c10 (tv.take j ++ vs.drop j) bs) ∧ Below w9.heap.size w9 wz) (fun i _ => N - (intOf i).toNat)
        case atStart => exact ⟨0, Nat.zero_le _, rfl, HC10, hb10'⟩
        case round =>
          obtain ⟨j, hj, rfl, HOC, hbz⟩ := hrel
          by_cases hlt : j < N
          · obtain ⟨b6, o6, rfl, hb6l, hc6⟩ := HI9.out.2 (by omega)
            have hcw := (hbz.cell (p := ⟨b6, o6 + j, none⟩) hb6l).trans (hc6 j hlt)
            clear hc6
            have hcfz : World.cell? _ ⟨F, 0, none⟩ = some (.int .i64 p) := ((HF9.out.below hbz HF9.out.lt).cell 0).trans rfl
            have hjN : (j : Int) < (N : Int) := by omega
            have hj0 : (0 : Int) ≤ (j : Int) := by omega
            have hxx0 := (HOC.out.cellAt hlt).1
            have hxx1 := (HOC.out.cellAt hlt).2
            rw [swap_getD tv vs j HTL.out (by rw [HVL.out]; exact hlt)] at hxx0
            by_cases hbk : bs.getD j false = true
            · have HT := Lib.hid ((HTA.out j hlt).trans (if_pos hbk))
              have hxin : 0 ≤ vs.getD j 0 ∧ vs.getD j 0 < p := knOk_at HOK.out HL1.out hbk
              rw [hbk] at hxx1
              have hvin := valueP_in hp.1 ((j : Int) + 1) ql
              have hyw := HWV.out j hlt
              obtain ⟨v9, hv9⟩ : ∃ v9, valueP p ((j : Int) + 1) ql = v9 := ⟨_, rfl⟩
              obtain ⟨x, hx⟩ : ∃ x, vs.getD j 0 = x := ⟨_, rfl⟩
              rw [hv9] at hvin hyw HT
              rw [hyw] at hcw
              rw [hx] at hxx0 HT hxin
              have HX := Lib.hid hx
              clear hv9 hx hyw hbk
              have hf0 := HOC.out.frozenAt (j * 2)
              have hxw : IntKind.i64.wrap (x + v9) = x + v9 := IntWalk.i64_in _ (by omega)
              have htm : (x + v9).tmod p = (x + v9) % p := Int.tmod_eq_emod_of_nonneg (by omega)
              have hpn0 : ¬ p = 0 := by omega
              obtain ⟨z, hz⟩ : ∃ z, (x + v9) % p = z := ⟨_, rfl⟩
              rw [hz] at htm HT
              have hzb : 0 ≤ z ∧ z < p := by rw [← hz]; exact ⟨Int.emod_nonneg _ (by omega), Int.emod_lt_of_pos _ (by omega)⟩
              have hzw : IntKind.i64.wrap z = z := IntWalk.i64_in _ (by omega)
              have HCn : Hid (OwnC _ w9.heap.size (some ⟨gM, 0, none⟩) N c10 (tv.take (j + 1) ++ vs.drop (j + 1)) bs) := Lib.hid (by
                have h1 := HOC.out.stored hlt z
                rw [← HT.out, swap_at tv vs j HTL.out (by rw [HVL.out]; exact hlt)] at h1
                exact h1)
              have hbn := hbz.setCell (p := ⟨gM, j * 2, none⟩) hgM (.int .i64 (tv.getD j 0))
              rw [HT.out] at HCn hbn
              clear hz
              go_upto_region 21 with fail
              go_region_law (fail)
              all_goals go_wp2
              all_goals go_roundw
              all_goals first
                | exact ⟨j + 1, by omega, by go_num, Lib.hid HCn.out, hbn⟩
                | exact ⟨j + 1, by omega, by go_num, Lib.hid HCn.out.drew_, hbn.drew⟩
                | exact ⟨j + 1, by omega, by go_num, Lib.hid HCn.out.drew_.drew_, hbn.drew.drew⟩
                | (simp [intOf]; omega)
            · have hbf : bs.getD j false = false := by simpa using hbk
              have HT := Lib.hid ((HTA.out j hlt).trans (if_neg hbk))
              rw [hbf] at hxx1
              have HCn : Hid (OwnC _ w9.heap.size (some ⟨gM, 0, none⟩) N c10 (tv.take (j + 1) ++ vs.drop (j + 1)) bs) := Lib.hid (by
                have h1 := HOC.out
                rw [swap_same tv vs j HTL.out (by rw [HVL.out]; exact hlt) HT.out] at h1
                exact h1)
              clear hbk hbf HT
              go_wp2
              go_roundw
              case rel => exact ⟨j + 1, by omega, by go_num, HCn, hbz⟩
              case measure => simp [intOf]; omega
          · obtain rfl : N = j := by omega
            have hCt := HOC.out
            rw [List.take_of_length_le (by rw [HTL.out, HVL.out]; exact Nat.le_refl _), List.drop_of_length_le (by rw [HVL.out]; exact Nat.le_refl _), List.append_nil] at hCt
            have hKL := (HK9.out.below hbz).more hbz.size
            have hEz := HE9.out.below hbz
            have hFz := HF9.out.below hbz HF9.out.lt
            have hbz' := bnext hbb9 hbz
            have hcfe : World.cell? _ ⟨F, 0, none⟩ = some (.int .i64 p) := (hFz.cell 0).trans rfl
            have HKT : Hid (knL tv bs = shK p ql (knL vs bs)) := Lib.hid (by rw [← HTV.out]; exact knF_addF p ql vs bs 1)
            have HKTL : Hid ((knL tv bs).length = (knL vs bs).length) := Lib.hid (by rw [HKT.out, shK_len])
            have HOKT : Hid (knOk p tv bs) := Lib.hid (by rw [← HTV.out]; exact knOk_add hp.1 ql vs bs)
            have hHI := (HI9.out.below hbz)
            have hI8 := HO89.out.ints.below hbz
            clear HOC HC10 hb10'
            by_cases hkn : k ≤ (knL vs bs).length
            · have HKN := Lib.hid hkn
              clear hkn
              have hkl9 : (knL vs bs).length ≤ N := by have := knL_len vs bs; rw [HVL.out] at this; exact this
              have HSH : Hid (∀ a b, DecOf p k (((knL vs bs).length - k) / 2) (knL vs bs) a → DecOf p k (((knL tv bs).length - k) / 2) (knL tv bs) b → (a = none ∧ b = none) ∨ ∃ P, a = some P ∧ b = some (addL p P ql) ∧ wrL p (addL p P ql) (knL tv bs) = wrL p P (knL vs bs)) := Lib.hid fun a b ha hb => by
                have hkk := HKN.out
                rw [HKTL.out] at hb
                rw [HKT.out] at hb ⊢
                rcases dec_shift HO.out HQA.out (by rw [HQL.out]; exact Nat.le_refl _) HOK.out (knL_apart (by rw [HVL.out]; omega)) (by omega) ha hb with h1 | ⟨P, h1, h2, h3, _⟩
                · exact .inl h1
                · exact .inr ⟨P, h1, h2, h3⟩
              go_wp2_with fail
              go_at_call 18
              refine (uDecode_ok p L N lc k vs bs _ HO.out hKL (by omega) (by omega) HOK.out hk.1 hk.2 HKN.out hEz).mono ?_
              rintro e w11 ⟨⟨hD, rfl⟩ | ⟨P, A1, c1, A2, c2, hD, rfl, hI1, hI2, hc1, hc2, hn1, hn2⟩, hb11⟩
              · have HDq := Lib.hid hD
                have hCt2 := (hCt.belowAll hb11).belowAll (bbox (.cells #[.slice none 0 0, .slice none 0 0] 27))
                have hE11 := (hEz.below hb11).below (bbox (.cells #[.slice none 0 0, .slice none 0 0] 27))
                have hF11 := (hFz.below hb11 hFz.lt).alloc (.cells #[.slice none 0 0, .slice none 0 0] 27)
                have hbz11 := ballocs (bnext hbz' hb11) (.cells #[.slice none 0 0, .slice none 0 0] 27)
                have hcf11 : (w11.alloc (.cells #[.slice none 0 0, .slice none 0 0] 27)).cell? ⟨F, 0, none⟩ = some (.int .i64 p) := (hF11.cell 0).trans rfl
                have hK11 := hCt2.cel
                go_wp2_with fail
                go_at_call 18
                refine (uDecode_ok p (some ⟨gM, 0, none⟩) N c10 k tv bs _ HO.out hK11 (by omega) (by omega) HOKT.out hk.1 hk.2 (by rw [HKTL.out]; exact HKN.out) hE11).mono ?_
                rintro e w12 ⟨⟨hDb, rfl⟩ | ⟨P2, A3, c3, A4, c4, hDb, rfl, hI3, hI4, hc3, hc4, hn3, hn4⟩, hb12⟩
                · go_wp2_with fail
                  go_ret
                  exact ⟨rfl, ballocs (bnext hbz11 hb12) _⟩
                · exfalso
                  rcases HSH.out _ _ HDq.out hDb with ⟨_, h2⟩ | ⟨P, h1, _⟩
                  · cases h2
                  · cases h1
              · have HDq := Lib.hid hD
                obtain ⟨hP1, hP2, hP3, hP4⟩ := hD
                have hP5 : (wrL p P (knL vs bs)).length ≤ 32 := by omega
                have HPA := Lib.hid hP2
                have hsl : (addL p P ql).length ≤ k := Nat.le_trans (addL_len_le p P ql) (by rw [HQL.out]; omega)
                obtain ⟨bad, hbad⟩ : ∃ bad, wrL p P (knL vs bs) = bad := ⟨_, rfl⟩
                obtain ⟨S, hS⟩ : ∃ S, addL p P ql = S := ⟨_, rfl⟩
                obtain ⟨n1, hn1e⟩ : ∃ n1, P.length = n1 := ⟨_, rfl⟩
                rw [hbad] at hI2 hc2 hP5 hP4
                rw [hS] at hsl
                obtain ⟨bn, hbn⟩ : ∃ bn, bad.length = bn := ⟨_, rfl⟩
                obtain ⟨sn, hsn⟩ : ∃ sn, S.length = sn := ⟨_, rfl⟩
                rw [hbn] at hI2 hc2 hP5 hP4
                rw [hsn] at hsl
                rw [hn1e] at hI1 hc1 hP3
                rw [hbad, hbn, hn1e]
                have HBD := Lib.hid hbad
                have HS := Lib.hid hS
                have HBN := Lib.hid hbn
                have HSN := Lib.hid hsn
                clear hbad hS hbn hsn hn1e hP1 hP2 hP4 hn1 hn2
                have hN11 := Blk.new w11 27 #[.slice A1 n1 c1, .slice A2 bn c2]
                have hCt2 := (hCt.belowAll hb11).belowAll (bbox (.cells #[.slice A1 n1 c1, .slice A2 bn c2] 27))
                have hE11 := (hEz.below hb11).below (bbox (.cells #[.slice A1 n1 c1, .slice A2 bn c2] 27))
                have hF11 := (hFz.below hb11 hFz.lt).alloc (.cells #[.slice A1 n1 c1, .slice A2 bn c2] 27)
                have hbz11 := ballocs (bnext hbz' hb11) (.cells #[.slice A1 n1 c1, .slice A2 bn c2] 27)
                have hcf11 : (w11.alloc (.cells #[.slice A1 n1 c1, .slice A2 bn c2] 27)).cell? ⟨F, 0, none⟩ = some (.int .i64 p) := (hF11.cell 0).trans rfl
                have hJ1 := hI1.upto (bbox (.cells #[.slice A1 n1 c1, .slice A2 bn c2] 27))
                have hJ2 := hI2.upto (bbox (.cells #[.slice A1 n1 c1, .slice A2 bn c2] 27))
                have hQ11 := ((hI8.more hbz.size).upto hb11).upto (bbox (.cells #[.slice A1 n1 c1, .slice A2 bn c2] 27))
                have hK11 := hCt2.cel
                obtain ⟨D8, hD8e⟩ : ∃ D8, w11.heap.size = D8 := ⟨_, rfl⟩
                go_wp2_with fail
                go_at_call 18
                refine (uDecode_ok p (some ⟨gM, 0, none⟩) N c10 k tv bs _ HO.out hK11 (by omega) (by omega) HOKT.out hk.1 hk.2 (by rw [HKTL.out]; exact HKN.out) hE11).mono ?_
                rintro e w12 ⟨⟨hDb, rfl⟩ | ⟨P2, A3, c3, A4, c4, hDb, rfl, hI3, hI4, hc3, hc4, hn3, hn4⟩, hb12⟩
                · exfalso
                  rcases HSH.out _ _ HDq.out hDb with ⟨h2, _⟩ | ⟨P, _, h1, _⟩
                  · cases h2
                  · cases h1
                · have hP2 : P2 = S ∧ wrL p P2 (knL tv bs) = bad := by
                    rcases HSH.out _ _ HDq.out hDb with ⟨h2, _⟩ | ⟨P', h1, h2, h3⟩
                    · cases h2
                    · injection h1 with h1
                      injection h2 with h2
                      subst h1
                      rw [HS.out] at h2 h3
                      rw [h2]
                      exact ⟨rfl, h3.trans HBD.out⟩
                  obtain ⟨hP2a, hP2b⟩ := hP2
                  rw [hP2b, HBN.out] at hI4 hc4
                  rw [hP2a, HSN.out] at hI3 hc3
                  rw [hP2b, hP2a, HBN.out, HSN.out]
                  clear hP2a hP2b hn3 hn4 hDb
                  have hN12 := Blk.new w12 27 #[.slice A3 sn c3, .slice A4 bn c4]
                  have hbx := bbox (w0 := w12) (.cells #[.slice A3 sn c3, .slice A4 bn c4] 27)
                  have hJ12 := (hJ1.upto hb12).upto hbx
                  have hJ22 := (hJ2.upto hb12).upto hbx
                  have hJ32 := hI3.upto hbx
                  have hJ42 := hI4.upto hbx
                  have hQ12 := (hQ11.upto hb12).upto hbx
                  have hbz12 := ballocs (bnext hbz11 hb12) (.cells #[.slice A3 sn c3, .slice A4 bn c4] 27)
                  have hF12 := (hF11.below hb12 hF11.lt).alloc (.cells #[.slice A3 sn c3, .slice A4 bn c4] 27)
                  have hN112 := (hN11.below hb12 hN11.lt).alloc (.cells #[.slice A3 sn c3, .slice A4 bn c4] 27)
                  obtain ⟨W, hW9⟩ : ∃ W, w12.alloc (.cells #[.slice A3 sn c3, .slice A4 bn c4] 27) = W := ⟨_, rfl⟩
                  rw [hW9] at hN12 hJ12 hJ22 hJ32 hJ42 hQ12 hbz12 hF12 hN112
                  rw [hD8e] at hN112
                  obtain ⟨D9, hD9⟩ : ∃ D9, w12.heap.size = D9 := ⟨_, rfl⟩
                  rw [hD9] at hN12
                  have hcfW : W.cell? ⟨F, 0, none⟩ = some (.int .i64 p) := (hF12.cell 0).trans rfl
                  have hs0 : W.cell? ⟨D8, 0, none⟩ = some (.slice A1 n1 c1) := (hN112.cell 0).trans rfl
                  go_wp2_with fail
                  go_at_call 30
                  refine (radd5_ok p A1 A8 n1 k c1 c8 P ql _ HO.out hJ12 hQ12 HPA.out HQA.out (by omega) (by omega)).mono ?_
                  rintro e w13 ⟨⟨A13, c13, rfl, hO13⟩, hb13⟩
                  rw [HS.out, HSN.out] at hO13
                  rw [HS.out, HSN.out]
                  have hI13 := hO13.ints
                  have hJ33 := hJ32.upto hb13
                  have hJ23 := hJ22.upto hb13
                  have hJ43 := hJ42.upto hb13
                  have hN13 := hN12.below hb13 hN12.lt
                  have hN113 := hN112.below hb13 hN112.lt
                  have hbz13 := bnext hbz12 hb13
                  have ht0 : w13.cell? ⟨D9, 0, none⟩ = some (.slice A3 sn c3) := (hN13.cell 0).trans rfl
                  go_wp2_with fail
                  go_at_call 24
                  refine (same_any A13 A3 sn sn c13 c3 S S _ hI13 hJ33 (by omega) (by omega)).mono ?_
                  rintro e w14 ⟨rfl, q1, rfl⟩
                  rw [show sameL S S = true by simp [sameL]]
                  have hs11 : (w13.drewN q1).cell? ⟨D8, 1, none⟩ = some (.slice A2 bn c2) := (hN113.cell 1).trans rfl
                  have hs13 : (w13.drewN q1).cell? ⟨D9, 1, none⟩ = some (.slice A4 bn c4) := (hN13.cell 1).trans rfl
                  have hL21 := hJ23.drewN q1
                  have hM21 := hJ43.drewN q1
                  go_wp2_with fail
                  go_at_call 24
                  refine (same_any A2 A4 bn bn c2 c4 bad bad _ hL21 hM21 (by omega) (by omega)).mono ?_
                  rintro e w15 ⟨rfl, q2, rfl⟩
                  rw [show sameL bad bad = true by simp [sameL]]
                  go_wp2_with fail
                  go_ret
                  exact ⟨rfl, below_drewN hbz13 (q1 + q2)⟩
            · have HKN : Hid ((knL vs bs).length < k) := Lib.hid (by omega)
              have HKNT : Hid ((knL tv bs).length < k) := Lib.hid (by rw [HKTL.out]; exact HKN.out)
              clear hkn
              go_wp2_with (first
                | (go_at_call 18; (with_reducible refine (uDecode_few p L N lc k vs bs _ HO.out hKL (by omega) (by omega) HOK.out hk.1 hk.2 HKN.out hEz).mono ?_); rintro e w11 ⟨rfl, hb11⟩
                   have hCt2 := (hCt.belowAll hb11).belowAll (bbox (.cells #[.slice none 0 0, .slice none 0 0] 27))
                   have hE11 := (hEz.below hb11).below (bbox (.cells #[.slice none 0 0, .slice none 0 0] 27))
                   have hF11 := (hFz.below hb11 hFz.lt).alloc (.cells #[.slice none 0 0, .slice none 0 0] 27)
                   have hbz11 := ballocs (bnext hbz' hb11) (.cells #[.slice none 0 0, .slice none 0 0] 27)
                   have hcf11 : (w11.alloc (.cells #[.slice none 0 0, .slice none 0 0] 27)).cell? ⟨F, 0, none⟩ = some (.int .i64 p) := (hF11.cell 0).trans rfl
                   have hK11 := hCt2.cel)
                | (go_at_call 18; (with_reducible refine (uDecode_few p (some ⟨gM, 0, none⟩) N c10 k tv bs _ HO.out hK11 (by omega) (by omega) HOKT.out hk.1 hk.2 HKNT.out hE11).mono ?_); rintro e w12 ⟨rfl, hb12⟩))
              go_ret
              exact ⟨rfl, ballocs (bnext hbz11 hb12) _⟩
  · have hd : decide (n ≤ 500) = false := by simpa using hn
    go_enter Tryd.func5, Tryd.ntmps5
    go_wp2_with (first
      | (go_at_call 9; refine (sane09_any _ hW).mono ?_; rintro e w1 ⟨rfl, hb1⟩)
      | (go_at_call 10; refine (few_any A n c _).mono ?_; rintro e w' ⟨rfl, rfl⟩))
    go_ret
    exact ⟨rfl, hb1⟩
end Go.Proofs.YteipcjmkhacdgaaDoor
