/-
  UniqueCorrects returns true: the walk of the law. Conditions: none beyond the reading of its arguments and of the variable errWrong.
-/
import Derived.Test.YteipcjmkhacdgaaDoorS09
import Derived.Test.YteipcjmkhacdgaaDoorUWord
import Derived.Test.YteipcjmkhacdgaaDoorRef5b
namespace Go.Proofs.YteipcjmkhacdgaaDoor
open Go.RowKit
set_option linter.unusedVariables false

theorem ErrW.step {g : Nat} {w w' : World} (h : ErrW w) (hs : Step g w w') (hg : 0 < g) : ErrW w' :=
  ⟨(World.cell?_of_block (World.grownBy.block hs 0 h.2 (fun e => by injection e with e; omega))).trans h.1, Nat.lt_of_lt_of_le h.2 (World.grownBy.size hs)⟩

set_option maxRecDepth 100000 in
set_option maxHeartbeats 8000000 in
theorem uniqueCorrects_walk (A : Option Addr) (n c : Nat) (zs : List Int) (w : World) (w0 : IsRow .i64 w A n c zs) (hW : ErrW w) :
    Calls Tryd.prog 4 #[.slice A n c] w fun e w' => e = .returned (.bool true) ∧ Below w.heap.size w w' := by
  obtain ⟨i0, hi0, hz0, hz1, hz2⟩ := info_parts info_int
  obtain ⟨h, hw⟩ := w0.ints
  generalize zs.take n = xs at h hw
  clear w0
  by_cases hn : n ≤ 500
  · have hd : decide (n ≤ 500) = true := by simpa using hn
    go_enter Tryd.func4, Tryd.ntmps4
    go_upto_region 6 with (first
      | (go_at_call 9; refine (sane09_any _ hW).mono ?_; rintro e w1 ⟨rfl, hb1⟩
         have hE1 := hW.below hb1)
      | (go_at_call 10; refine (few_any A n c _).mono ?_; rintro e w' ⟨rfl, rfl⟩)
      | (go_at_call 11; refine (new_any A n c xs _ (h.upto hb1) hn).mono ?_; rintro e w2 ⟨⟨g, rfl, hge, hD2⟩, hb2⟩
         have hbb2 := bnext hb1 hb2
         have hE2 := hE1.below hb2
         have hg : w.heap.size ≤ g := by rw [hge]; exact hb1.size
         have hg1 : 0 < g := by rw [hge]; exact hE1.2
         clear hge hb1 hb2 hE1)
      | (go_at_call 27; refine (uword_any g A n c xs 0 _ hD2).mono ?_; rintro e w3 ⟨p, k, N, B1, pn, d1, pl, B2, d2, vs, bs, q3, rfl, hok, hlp, hk1, hkN, hN10, hpnk, hpa, hO3, hC3, hkn, hkl, hwr, hD3, hS3⟩))
    have hbb3 := ballocs (Step.below hbb2 hS3 hbb2.size hg) (.cells #[.int .i64 p] 24)
    have hE3 := (hE2.step hS3 hg1).below (bbox (.cells #[.int .i64 p] 24))
    have hI3 := hO3.ints.upto (bbox (.cells #[.int .i64 p] 24))
    have hK3 := hC3.cel.upto (bbox (.cells #[.int .i64 p] 24))
    have hF3 := Blk.new w3 24 #[.int .i64 p]
    have hcap := hO3.cap
    obtain ⟨F, hF⟩ : ∃ F, w3.heap.size = F := ⟨_, rfl⟩
    obtain ⟨W, hWe⟩ : ∃ W, w3.alloc (.cells #[.int .i64 p] 24) = W := ⟨_, rfl⟩
    rw [hWe] at hbb3 hE3 hI3 hK3 hF3 ⊢
    rw [hF] at hF3 ⊢
    have hvl := hC3.1
    have hbl := hC3.2.1
    have HVL := Lib.hid hvl
    have HBL := Lib.hid hbl
    have HO := Lib.hid hok
    have hp := okP_pos hok
    have HPA := Lib.hid hpa
    have HKN := Lib.hid hkn
    have HKL := Lib.hid hkl
    have HWR := Lib.hid hwr
    have hln : (knL vs bs).length ≤ N := by have := knL_len vs bs; rw [hvl] at this; exact this
    have HAP : Hid ((ptK (knL vs bs)).Pairwise (fun x y => ¬ Cong p (y - x) 0)) := Lib.hid (knL_apart (by rw [hvl]; omega))
    have hcf : W.cell? ⟨F, 0, none⟩ = some (.int .i64 p) := (hF3.cell 0).trans rfl
    obtain ⟨l, hl⟩ : ∃ l, knL vs bs = l := ⟨_, rfl⟩
    have HL := Lib.hid hl
    have HW1 : Hid (∀ a, DecOf p k ((l.length - k) / 2) l a → a = some (trimL pl)) := Lib.hid fun a ha => by
      rw [← hl] at ha
      exact DecOf.one HO.out ha HAP.out (by omega) HPA.out (by rw [hO3.len]; exact hpnk) HWR.out
    have hplen := hO3.len
    have HPL := Lib.hid hplen
    clear hF hWe hvl hbl hok hpa hkn hkl hwr hO3 hC3 hS3 hD3 hD2 hE2 hbb2 hl hplen
    go_wp2_with fail
    go_at_call 18
    refine (uDecode_ok p B2 N d2 k vs bs _ HO.out hK3 (by omega) (by omega) HKN.out hk1 hkN HKL.out hE3).mono ?_
    rw [HL.out]
    rintro e w4 ⟨⟨hD, rfl⟩ | ⟨P, A1, c1, A2, c2, hD, rfl, hI1, hI2, hc1, hc2, hn1, hn2⟩, hb4⟩
    · exfalso
      have := HW1.out _ hD
      cases this
    · have hP : P = trimL pl := by
        have := HW1.out _ hD
        injection this
      have hwrl : wrL p P l = wrL p pl l := by rw [hP, wrL_trim p hp.1]
      rw [hwrl] at hI2 hc2
      rw [hwrl]
      obtain ⟨tl, htl⟩ : ∃ tl, trimL pl = tl := ⟨_, rfl⟩
      obtain ⟨tn1, htn⟩ : ∃ tn1, tl.length = tn1 := ⟨_, rfl⟩
      obtain ⟨bad, hbad⟩ : ∃ bad, wrL p pl l = bad := ⟨_, rfl⟩
      obtain ⟨bn, hbn⟩ : ∃ bn, bad.length = bn := ⟨_, rfl⟩
      rw [htl] at hP
      subst hP
      rw [htn] at hI1 hc1 ⊢
      rw [hbad, hbn] at hI2 hc2 ⊢
      have HTL := Lib.hid htl
      have HTN := Lib.hid htn
      have HBD := Lib.hid hbad
      have HBN := Lib.hid hbn
      have htk : tn1 ≤ k := by rw [← htn, ← htl]; exact Nat.le_trans (trimL_le_ pl) (by rw [HPL.out]; exact hpnk)
      have hbN : bn ≤ N := by rw [← hbn, ← hbad]; exact Nat.le_trans (wrL_len _ _ _) (by rw [← HL.out]; exact hln)
      have hN4 := Blk.new w4 27 #[.slice A1 tn1 c1, .slice A2 bn c2]
      have hbb4 := ballocs (bnext hbb3 hb4) (.cells #[.slice A1 tn1 c1, .slice A2 bn c2] 27)
      have hF4 := (hF3.below hb4 hF3.lt).alloc (.cells #[.slice A1 tn1 c1, .slice A2 bn c2] 27)
      have hI4 := (hI3.upto hb4).upto (bbox (.cells #[.slice A1 tn1 c1, .slice A2 bn c2] 27))
      have hK4 := (hK3.upto hb4).upto (bbox (.cells #[.slice A1 tn1 c1, .slice A2 bn c2] 27))
      have hJ1 := hI1.upto (bbox (.cells #[.slice A1 tn1 c1, .slice A2 bn c2] 27))
      have hJ2 := hI2.upto (bbox (.cells #[.slice A1 tn1 c1, .slice A2 bn c2] 27))
      have hcf4 : (w4.alloc (.cells #[.slice A1 tn1 c1, .slice A2 bn c2] 27)).cell? ⟨F, 0, none⟩ = some (.int .i64 p) := (hF4.cell 0).trans rfl
      clear htl htn hbad hbn hwrl hD hn1 hn2 hI1 hI2 hb4 hF3 hI3 hK3 hcf hE3
      go_upto_region 11 with (first
        | (go_at_call 28; (refine (rTrim_ok p B1 pn d1 pl _ HO.out hI4 HPA.out hcap (by omega)).mono ?_); rintro e w5 ⟨⟨A5, c5, rfl, hO5⟩, hb5⟩
           rw [HTL.out, HTN.out] at hO5
           rw [HTL.out, HTN.out]
           have hbb5 := bnext hbb4 hb5
           have hN5 := hN4.below hb5 hN4.lt
           have hF5 := hF4.below hb5 hF4.lt
           have hI5 := hI4.upto hb5
           have hK5 := hK4.upto hb5
           have hJ15 := hJ1.upto hb5
           have hJ25 := hJ2.upto hb5
           have hT5 := hO5.ints
           have hcf5 : w5.cell? ⟨F, 0, none⟩ = some (.int .i64 p) := (hF5.cell 0).trans rfl
           clear hb5)
        | (go_at_call 29; (refine (rencode_ok p B1 pn d1 N pl _ HO.out hI5 HPA.out hcap (by omega) (by omega) (by omega)).mono ?_); rintro e w6 ⟨⟨A6, c6, rfl, hO6⟩, hb6⟩
           have hbb6 := bnext hbb5 hb6
           have hN6 := hN5.below hb6 hN5.lt
           have hF6 := hF5.below hb6 hF5.lt
           have hK6 := hK5.upto hb6
           have hJ16 := hJ15.upto hb6
           have hJ26 := hJ25.upto hb6
           have hT6 := hT5.upto hb6
           have hV6 := hO6.ints
           clear hb6))
      obtain ⟨wv, hwv⟩ : ∃ wv, valsP p pl (ptsL N) = wv := ⟨_, rfl⟩
      rw [hwv] at hV6
      have HWV : Hid (∀ j, j < N → wv.getD j 0 = valueP p ((j : Int) + 1) pl) := Lib.hid fun j hj => by rw [← hwv, valsP_at p pl _ (by rw [ptsL_len]; exact hj), ptsL_at hj]
      clear hwv hO6 hO5
      go_loopw [13, 52] (fun u i wz => ∃ (j q : Nat) (L : Option Addr) (lc : Nat) (bl : List Int), j ≤ N ∧ q ≤ j ∧ i = .int .i64 j ∧ u = .slice L q lc ∧ Hid (OwnI wz w6.heap.size 3 L q lc bl) ∧ Hid (wrL p pl (knL (vs.take j) (bs.take j)) = bl) ∧ Below w6.heap.size w6 wz) (fun _ i _ => N - (intOf i).toNat)
      case atStart => exact ⟨0, 0, none, 0, [], Nat.zero_le _, Nat.le_refl _, rfl, rfl, Lib.hid OwnI.nil_, Lib.hid (by simp [knL, knF, wrL]), Below.refl _ _⟩
      case round =>
        obtain ⟨j, q, L, lc, bl, hj, hqj, rfl, rfl, HOO, HQ, hb⟩ := hrel
        by_cases hlt : j < N
        · obtain ⟨b1, o1, rfl, hb1, hc1⟩ := hK6.2.2 (by omega)
          obtain ⟨b2, o2, rfl, hb2, hc2⟩ := hV6.2 (by omega)
          have hx0 := (hb.cell (p := ⟨b1, o1 + j * 2, none⟩) hb1).trans (hc1 j hlt).1
          have hx1 := (hb.cell (p := ⟨b1, o1 + j * 2 + 1, none⟩) hb1).trans (hc1 j hlt).2
          have hx2 := (hb.cell (p := ⟨b2, o2 + j, none⟩) hb2).trans (hc2 j hlt)
          rw [HWV.out j hlt] at hx2
          clear hc1 hc2
          have HS := Lib.hid (wrL_step (p := p) (P := pl) (vs := vs) (bs := bs) (by rw [HVL.out, HBL.out]) (j := j) (by rw [HVL.out]; exact hlt))
          have hji : (j : Int) < (N : Int) := by omega
          have hj0 : (0 : Int) ≤ (j : Int) := by omega
          have hjw : IntKind.i64.wrap ((j : Int) + 1) = (j : Int) + 1 := IntWalk.i64_in _ (by omega)
          obtain ⟨y, hy⟩ : ∃ y, vs.getD j 0 = y := ⟨_, rfl⟩
          obtain ⟨z, hz⟩ : ∃ z, valueP p ((j : Int) + 1) pl = z := ⟨_, rfl⟩
          rw [hy] at hx0 HS
          rw [hz] at hx2 HS
          clear hy hz
          have hwl := hb.size
          by_cases hbk : bs.getD j false = true
          · rw [hbk] at hx1 HS
            clear hbk
            by_cases hzy : z = y
            · subst hzy
              have HQ2 : Hid (wrL p pl (knL (vs.take (j + 1)) (bs.take (j + 1))) = bl) := Lib.hid (by rw [HS.out, if_neg (fun hh => hh.2 rfl), List.append_nil, HQ.out])
              have HO1 := Lib.hid (HOO.out.alloc (.cells #[.int .i64 z, .bool true] 59))
              have HB1 := Lib.hid (hb.alloc hwl (.cells #[.int .i64 z, .bool true] 59))
              clear HS
              have hx28 : (wr.alloc (.cells #[.int .i64 z, .bool true] 59)).cell? ⟨b2, o2 + j, none⟩ = some (.int .i64 z) := (World.cell?_alloc_lt wr _ ⟨b2, o2 + j, none⟩ (Nat.lt_of_lt_of_le hb2 hwl)).trans hx2
              have hN8 := Blk.new wr 59 #[.int .i64 z, .bool true]
              go_wp2_with fail
              obtain ⟨G, hG⟩ : ∃ G, wr.heap.size = G := ⟨_, rfl⟩
              obtain ⟨W8, hW8⟩ : ∃ W8, (wr.alloc (.cells #[.int .i64 z, .bool true] 59)) = W8 := ⟨_, rfl⟩
              rw [hW8] at HO1 HB1 hN8 hx28 ⊢
              rw [hG] at hN8 ⊢
              have hy80 : W8.cell? ⟨G, 0, none⟩ = some (.int .i64 z) := (hN8.cell 0).trans rfl
              have hy81 : W8.cell? ⟨G, 1, none⟩ = some (.bool true) := (hN8.cell 1).trans rfl
              clear hW8 hG hx0 hx1 hx2
              go_quiet (fail)
              go_wp2
              go_roundw
              case rel => exact ⟨j + 1, q, L, lc, bl, by omega, by omega, by go_num, rfl, Lib.hid (HO1.out.drewN _), HQ2, below_drewN HB1.out _⟩
              case measure => simp [intOf]; omega
            · have h1 : (y != z) = true := by simpa using fun e => hzy e.symm
              have HQ2 : Hid (wrL p pl (knL (vs.take (j + 1)) (bs.take (j + 1))) = bl ++ [(j : Int) + 1]) := Lib.hid (by rw [HS.out, if_pos ⟨by trivial, hzy⟩, HQ.out])
              have HO1 := Lib.hid (HOO.out.alloc (.cells #[.int .i64 y, .bool true] 59))
              have HB1 := Lib.hid (hb.alloc hwl (.cells #[.int .i64 y, .bool true] 59))
              clear HS hzy
              have hx28 : (wr.alloc (.cells #[.int .i64 y, .bool true] 59)).cell? ⟨b2, o2 + j, none⟩ = some (.int .i64 z) := (World.cell?_alloc_lt wr _ ⟨b2, o2 + j, none⟩ (Nat.lt_of_lt_of_le hb2 hwl)).trans hx2
              have hN8 := Blk.new wr 59 #[.int .i64 y, .bool true]
              go_wp2_with fail
              obtain ⟨G, hG⟩ : ∃ G, wr.heap.size = G := ⟨_, rfl⟩
              obtain ⟨W8, hW8⟩ : ∃ W8, (wr.alloc (.cells #[.int .i64 y, .bool true] 59)) = W8 := ⟨_, rfl⟩
              rw [hW8] at HO1 HB1 hN8 hx28 ⊢
              rw [hG] at hN8 ⊢
              have hy80 : W8.cell? ⟨G, 0, none⟩ = some (.int .i64 y) := (hN8.cell 0).trans rfl
              have hy81 : W8.cell? ⟨G, 1, none⟩ = some (.bool true) := (hN8.cell 1).trans rfl
              clear hW8 hG hx0 hx1 hx2
              go_quiet (fail)
              go_wp2_with (at_builtin
                           refine wpList_append_ints rfl _ _ _ rfl w6.heap.size 3 i0 _ Tryd.underlying22 hi0 hz0 hz1 hz2 rfl L q lc _ rfl ((HO1.out.drewN _).alloc _) _ _ 1 1 [(j : Int) + 1] rfl (Ints.one _ _ _) (q + 1) rfl _ rfl (by omega) (ballocs (below_drewN HB1.out _) _).size ?_
                           intro A2 c2 w9 hown9 hgr9 hbw9 hab9
                           have hb9 := (ballocs (below_drewN HB1.out _) _).trans hbw9)
              go_roundw
              case rel => exact ⟨j + 1, q + 1, A2, c2, _, by omega, by omega, by go_num, rfl, Lib.hid hown9, HQ2, hb9⟩
              case measure => simp [intOf]; omega
          · have hbf : bs.getD j false = false := by simpa using hbk
            have HQ2 : Hid (wrL p pl (knL (vs.take (j + 1)) (bs.take (j + 1))) = bl) := Lib.hid (by rw [HS.out, if_neg (fun hh => hbk hh.1), List.append_nil, HQ.out])
            rw [hbf] at hx1
            have HO1 := Lib.hid (HOO.out.alloc (.cells #[.int .i64 y, .bool false] 59))
            have HB1 := Lib.hid (hb.alloc hwl (.cells #[.int .i64 y, .bool false] 59))
            clear hbk hbf HS
            have hx28 : (wr.alloc (.cells #[.int .i64 y, .bool false] 59)).cell? ⟨b2, o2 + j, none⟩ = some (.int .i64 z) := (World.cell?_alloc_lt wr _ ⟨b2, o2 + j, none⟩ (Nat.lt_of_lt_of_le hb2 hwl)).trans hx2
            have hN8 := Blk.new wr 59 #[.int .i64 y, .bool false]
            go_wp2_with fail
            obtain ⟨G, hG⟩ : ∃ G, wr.heap.size = G := ⟨_, rfl⟩
            obtain ⟨W8, hW8⟩ : ∃ W8, (wr.alloc (.cells #[.int .i64 y, .bool false] 59)) = W8 := ⟨_, rfl⟩
            rw [hW8] at HO1 HB1 hN8 hx28 ⊢
            rw [hG] at hN8 ⊢
            have hy80 : W8.cell? ⟨G, 0, none⟩ = some (.int .i64 y) := (hN8.cell 0).trans rfl
            have hy81 : W8.cell? ⟨G, 1, none⟩ = some (.bool false) := (hN8.cell 1).trans rfl
            clear hW8 hG hx0 hx1 hx2
            go_quiet (fail)
            go_wp2
            go_roundw
            case rel => exact ⟨j + 1, q, L, lc, bl, by omega, by omega, by go_num, rfl, Lib.hid (HO1.out.drewN _), HQ2, below_drewN HB1.out _⟩
            case measure => simp [intOf]; omega
        · obtain rfl : j = N := by omega
          have HQ3 := HQ.out
          rw [List.take_of_length_le (by rw [HVL.out]; exact Nat.le_refl _), List.take_of_length_le (by rw [HBL.out]; exact Nat.le_refl _), HL.out, HBD.out] at HQ3
          subst HQ3
          have hOI := HOO.out.ints
          have hq : q = bn := by rw [← HBN.out]; exact HOO.out.len.symm
          subst hq
          have hN7 := hN6.below hb hN6.lt
          have hF7 := hF6.below hb hF6.lt
          have hK7 := hK6.upto hb
          have hJ17 := hJ16.upto hb
          have hJ27 := hJ26.upto hb
          have hT7 := hT6.upto hb
          have hbb7 := bnext hbb6 hb
          have hk0 : wr.cell? ⟨w4.heap.size, 0, none⟩ = some (.slice A1 tn1 c1) := (hN7.cell 0).trans rfl
          clear HOO HQ
          go_wp2_with fail
          go_at_call 24
          refine (same_any A1 A5 tn1 tn1 c1 c5 P P _ hJ17 hT7 (by omega) (by omega)).mono ?_
          rintro e w8 ⟨rfl, q1, rfl⟩
          rw [show sameL P P = true by simp [sameL]]
          obtain ⟨W5, hW5⟩ : ∃ W5, wr.drewN q1 = W5 := ⟨_, rfl⟩
          have hL5 : Below wr.heap.size wr W5 := by rw [← hW5]; exact below_drewN (Below.refl _ _) q1
          rw [hW5]
          have hk1 : W5.cell? ⟨w4.heap.size, 1, none⟩ = some (.slice A2 q c2) := ((hN7.below hL5 hN7.lt).cell 1).trans rfl
          have hJ25' := hJ27.upto hL5
          have hOI' := hOI.upto hL5
          clear hW5
          go_wp2_with fail
          go_at_call 24
          refine (same_any A2 L q q c2 lc bad bad _ hJ25' hOI' (by omega) (by omega)).mono ?_
          rintro e w9 ⟨rfl, q2, rfl⟩
          rw [show sameL bad bad = true by simp [sameL]]
          obtain ⟨W6, hW6⟩ : ∃ W6, W5.drewN q2 = W6 := ⟨_, rfl⟩
          have hL6 : Below wr.heap.size wr W6 := by rw [← hW6]; exact below_drewN hL5 q2
          rw [hW6]
          have hN8 := hN7.below hL6 hN7.lt
          have hF8 := hF7.below hL6 hF7.lt
          have hm0 : W6.cell? ⟨w4.heap.size, 0, none⟩ = some (.slice A1 tn1 c1) := (hN8.cell 0).trans rfl
          have hm1 : W6.cell? ⟨w4.heap.size, 1, none⟩ = some (.slice A2 q c2) := (hN8.cell 1).trans rfl
          have hf8 : W6.cell? ⟨F, 0, none⟩ = some (.int .i64 p) := (hF8.cell 0).trans rfl
          have hK8 := hK7.upto hL6
          have hJ18 := hJ17.upto hL6
          have hJ28 := hJ27.upto hL6
          clear hW6 hk0 hk1
          go_wp2_with fail
          go_at_call 20
          refine (ucheck_yes p B2 j d2 k vs bs A1 A2 tn1 c1 q c2 P W6 HO.out hK8 (by omega) (by omega) HKN.out hk1 hkN HKL.out hJ18 (by rw [← HTL.out]; exact trimL_allP HPA.out) hc1 (by omega) (Nat.le_trans (tn_le _ _) htk) ?_ ?_).mono ?_
          · rw [HL.out, ← HTL.out, wrL_trim p hp.1, HBD.out]; exact hJ28
          · have := HWR.out
            rw [HL.out, HBD.out, HBN.out] at this
            rw [HL.out]; exact this
          rintro e w7 ⟨rfl, hb7⟩
          go_wp2_with fail
          go_ret
          exact ⟨rfl, bnext (hbb7.trans (hL6.mono hbb7.size)) hb7⟩
  · have hd : decide (n ≤ 500) = false := by simpa using hn
    go_enter Tryd.func4, Tryd.ntmps4
    go_wp2_with (first
      | (go_at_call 9; refine (sane09_any _ hW).mono ?_; rintro e w1 ⟨rfl, hb1⟩)
      | (go_at_call 10; refine (few_any A n c _).mono ?_; rintro e w' ⟨rfl, rfl⟩))
    go_ret
    exact ⟨rfl, hb1⟩
end Go.Proofs.YteipcjmkhacdgaaDoor
