/-
  What the second form's Divide hands back for any arguments: quotient and remainder, or the error. Conditions: the lists read as their numbers.
-/
import Derived.Test.YtoblofilaegnaaaErrL
import Derived.Test.YtoblofilaegnaaaRef5
import Derived.Test.YtoblofilaegnaaaPlain
import Derived.Deep.QuietTactic
import Derived.BigQuiet
import Derived.Test.YtoblofilaegnaaaRInv
namespace Go.Proofs.Ytoblofilaegnaaa
open Go.RowKit
set_option linter.unusedVariables false

set_option maxRecDepth 100000 in
set_option maxHeartbeats 3200000 in
theorem rdivide_yes (p : Int) (A B : Option Addr) (n m c d : Nat) (xs ys : List Int) (w : World) (h0 : errL p [xs, ys] = 0) (h : Ints w w.heap.size A n xs) (h2 : Ints w w.heap.size B m ys) (hc : n ≤ c) (hd : m ≤ d) (hn : n ≤ 512) (hm : m ≤ 512) (hz : 0 < tn ys m) :
    Calls Try.prog 41 #[.agg #[.int .i64 p], .slice A n c, .slice B m d] w fun e w' =>
      (∃ (Q R : List Int) (A1 : Option Addr) (c1 : Nat) (A2 : Option Addr) (c2 : Nat), e = .returned (.tuple #[.slice A1 Q.length c1, .slice A2 R.length c2, .int .i64 0]) ∧ OwnI w' w.heap.size 3 A1 Q.length c1 Q ∧ OwnI w' w.heap.size 3 A2 R.length c2 R ∧ DivOf p xs ys Q R) ∧ Below w.heap.size w w' := by
  obtain ⟨i0, hi0, hz0, hz1, hz2⟩ := info_parts info_int
  have h1 := errL_two h0
  have hok := h1.1
  have hp := okP_pos hok
  have HO := Lib.hid hok
  have HER := Lib.hid h0
  have hx := h1.2.1.1
  have hy := h1.2.2.1
  have hta0 := tn_le xs n
  have hnb0 := tn_le ys m
  have hxl := h.len
  have hyl := h2.len
  obtain ⟨ta, HTA⟩ : ∃ ta, Hid (tn xs n = ta) := ⟨_, Lib.hid rfl⟩
  obtain ⟨nb, HNB⟩ : ∃ nb, Hid (tn ys m = nb) := ⟨_, Lib.hid rfl⟩
  rw [HTA.out] at hta0
  rw [HNB.out] at hnb0 hz
  have HXL : Hid ((trimL xs).length = ta) := Lib.hid (by rw [trimL_len, hxl, HTA.out])
  have HBA := Lib.hid (trimL_allP hy)
  obtain ⟨bs, HBS⟩ : ∃ bs, Hid (trimL ys = bs) := ⟨_, Lib.hid rfl⟩
  have HBL : Hid (bs.length = nb) := Lib.hid (by rw [← HBS.out, trimL_len, hyl, HNB.out])
  rw [HBS.out] at HBA
  obtain ⟨n1, hn1⟩ : ∃ n1, nb = n1 + 1 := ⟨nb - 1, by omega⟩
  have hbl : 0 < bs.getD n1 0 ∧ bs.getD n1 0 < p := by
    have h3 := allP_getD HBA.out (k := n1) (by rw [HBL.out]; omega)
    have h4 : cf bs n1 ≠ 0 := by rw [← HBS.out]; exact trimL_trimd ys n1 (by rw [HBS.out, HBL.out, hn1])
    have h5 : bs.getD n1 0 ≠ 0 := h4
    omega
  obtain ⟨L, hL⟩ : ∃ L : Nat, (L : Int) = max 0 ((ta : Int) - (nb : Int) + 1) := ⟨(max 0 ((ta : Int) - (nb : Int) + 1)).toNat, by omega⟩
  have hL2 : (0 < L → ta = L + n1) ∧ (L = 0 → ta ≤ n1) ∧ L ≤ n := by omega
  have HST : Hid (Dvr p xs bs (trimL xs) (List.replicate L 0) ta) := Lib.hid (by
    have := Dvr.start hp.1 hx bs L
    rwa [HXL.out] at this)
  have hnb1 : (nb : Int) - 1 = (n1 : Int) := by omega
  have hnbw : IntKind.i64.wrap ((nb : Int) - 1) = (n1 : Int) := by rw [hnb1]; exact IntWalk.i64_in _ (by omega)
  have HN1 := Lib.hid hn1
  have hn1b : (n1 : Int) < (nb : Int) := by omega
  have hn10 : (0 : Int) ≤ (n1 : Int) := by omega
  have hnbe : ((nb : Int) == 0) = false := by simp; omega
  have hF0 := Blk.new w 24 #[.int .i64 p]
  clear hx hy hok hxl hyl hn1 h1 h0
  go_enter Try.func41, Try.ntmps41
  go_wp2_with (first
    | (go_at_call 131; (refine (rlists_any p _ 2 2 [xs, ys] _ (by exact Mat.two _ A B n m c d xs ys 22 _ (by simp) (h.upto (bbox _)) (h2.upto (bbox _)) (by omega) (by omega)) (by omega)).mono ?_); rw [HER.out]; rintro e w1 ⟨rfl, hb1⟩
       have hw01 : Below w.heap.size w w1 := bnext (ballocs (bbox _) _) hb1
       have hF1 := (hF0.alloc (.cells #[.slice A n c, .slice B m d] 22)).below hb1 (hF0.alloc _).lt
       have hX1 := h.upto hw01
       have hY1 := h2.upto hw01
       have hs1 := hF1.lt
       clear hb1)
    | (go_at_call 132; (with_reducible refine (rtrim_any A n c xs _ hX1 hc (by omega)).mono ?_); rintro e w2 ⟨⟨AR, c0, rfl, hown2⟩, hb2⟩
       rw [HTA.out] at hown2
       rw [HTA.out]
       have hw02 := bnext hw01 hb2
       have hF2 := hF1.below hb2 hF1.lt
       have hY2 := hY1.upto hb2
       have hgr : ∀ g s, AR = some ⟨g, 0, s⟩ → w1.heap.size ≤ g ∧ g < w2.heap.size := fun g s e => World.ownsRow.lt hown2 g (by rw [e]; rfl)
       have hs2 := hb2.size)
    | (go_at_call 132; (with_reducible refine (rtrim_any B m d ys _ hY2 hd (by omega)).mono ?_); rintro e w3 ⟨⟨A3, c3, rfl, hown3⟩, hb3⟩
       rw [HNB.out, HBS.out] at hown3
       rw [HNB.out]
       have hw03 := bnext hw02 hb3
       have hF3 := hF2.below hb3 hF2.lt
       have hO3 := hown2.belowAll hb3
       obtain ⟨gb, rfl, hgb1, hgb2⟩ := hown3.form (by omega)
       have hcB1 := hown3.cellAt (j := n1) (by omega)
       have hc3 : w3.cell? ⟨w.heap.size, 0, none⟩ = some (.int .i64 p) := (hF3.cell 0).trans rfl
       have hs3 := hb3.size))
  obtain ⟨bl, HBl⟩ : ∃ bl, Hid (bs.getD n1 0 = bl) := ⟨_, Lib.hid rfl⟩
  rw [HBl.out] at hbl hcB1
  clear hnb1
  go_region_held3 (fun w' => w'.cell? ⟨w.heap.size, 0, none⟩ = some (.int .i64 p) ∧ w'.cell? ⟨gb, n1, none⟩ = some (.int .i64 bl)) (first | go_keep | exact ⟨hc3, hcB1⟩ | exact ⟨hc4, hcB4⟩)
    ((go_at_call 137; refine (rinv_ok p bl _ HO.out hbl).mono ?_; rintro e w4 ⟨⟨inv, rfl, hinv, HINV⟩, hb4⟩; have hF4 := hF3.drew.below hb4 hF3.lt; have hc4 : w4.cell? ⟨w.heap.size, 0, none⟩ = some (.int .i64 p) := (hF4.cell 0).trans rfl; have hcB4 := (hb4.cell (p := ⟨gb, n1, none⟩) hgb2).trans hcB1))
  have hb34 : Below w3.heap.size w3 w4 := Below.trans ((Below.refl _ w3).drew) hb4
  have hw04 := bnext hw03 hb34
  have hinv' := hinv
  have hO4 := hO3.belowAll hb34
  have hB4 := hown3.belowAll hb34
  have hs4 := hb34.size
  have HINV2 : Hid (Cong p (bs.getD n1 0 * inv) 1) := Lib.hid (by rw [HBl.out]; exact HINV.out)
  go_wp2_with (
    at_make
    refine wpList_make_full _ rfl _ _ 22 rfl w4.heap.size 3 i0 (.int .i64 0) 1 Try.underlying22 hi0 hz0 hz1 .i64 .i64 _ _ L rfl rfl (by first | rfl | omega) (by first | rfl | omega) (by rw [hz2]; omega) (by unfold maxLen; omega) (Nat.le_refl _) ?_
    intro w5 hown hgr5
    have hown5 : OwnI w5 w4.heap.size 3 (some ⟨w4.heap.size, 0, none⟩) L L (List.replicate L 0) := by rw [zeros_made] at hown; exact hown
    have hb45 : Below w4.heap.size w4 w5 := (Below.refl _ _).grown hgr5 (Nat.le_refl _) (fun k hk => by cases hk)
    clear hown hgr5)
  all_goals
    have hgq := hs4
    have hF5 := hF4.below hb45 hF4.lt
    have hO5 := hO4.belowAll hb45
    have hB5 := hB4.belowAll hb45
    have hw05 := bnext hw04 hb45
    have hgbq : gb < w4.heap.size := by omega
    have hgrq : ∀ g s, AR = some ⟨g, 0, s⟩ → w1.heap.size ≤ g ∧ g < w4.heap.size ∧ g ≠ gb := fun g s e => by have := hgr g s e; omega
    have hwq : w.heap.size < w4.heap.size := by omega
    have hw1q : w1.heap.size ≤ w4.heap.size := by omega
    have hw13 : w1.heap.size ≤ gb := by omega
    have hI5 := hB5.ints
    have hFl5 := hs1
    have HL := Lib.hid hL
    obtain ⟨gq, hgqe⟩ : ∃ gq, w4.heap.size = gq := ⟨_, rfl⟩
    rw [hgqe] at hgbq hgrq hwq hw1q hown5
    rw [hgqe]
    have hown5 : OwnI w5 w1.heap.size 3 (some ⟨gq, 0, none⟩) L L (List.replicate L 0) := hown5.base hw1q
    have hO5 : OwnI w5 w1.heap.size 3 AR ta c0 (trimL xs) := hO5.base (Nat.le_refl _)
    clear hF1 hF2 hF3 hF4 hc3 hc4 hcB1 hcB4 hown2 hown3 hO3 hO4 hB4 hX1 hY1 hY2 hw01 hw02 hw03 hw04 hb2 hb3 hb4 hb34 hb45 hs2 hs3 hs4 hgq hgr hgqe hinv hgb1 hgb2
    go_loopw [13] (fun v wz => ∃ (k D : Nat) (iv : Int) (ts qs : List Int), k ≤ L ∧ v = .int .i64 iv ∧ Hid (iv = (k : Int) - 1) ∧ Hid ((0 < k → D = k + n1) ∧ (k = 0 → D ≤ n1)) ∧ OwnI wz w1.heap.size 3 AR ta c0 ts ∧ OwnI wz w1.heap.size 3 (some ⟨gq, 0, none⟩) L L qs ∧ Hid (Dvr p xs bs ts qs D) ∧ Ints wz wz.heap.size (some ⟨gb, 0, none⟩) nb bs ∧ Blk wz w.heap.size 24 #[.int .i64 p] ∧ Below w.heap.size w wz) (fun v _ => (intOf v + 1).toNat)
    case atStart => exact ⟨L, ta, _, _, _, Nat.le_refl _, rfl, Lib.hid (by rw [HL.out]), Lib.hid ⟨by omega, by omega⟩, hO5, hown5, HST, hI5, hF5, hw05⟩
    case round =>
      obtain ⟨k, D, iv, ts, qs, hk, rfl, HI, HD0, hoT, hoQ, HD, hIb, hFz, hbz⟩ := hrel
      by_cases hk0 : 0 < k
      · obtain ⟨j, rfl⟩ : ∃ j, k = j + 1 := ⟨k - 1, by omega⟩
        obtain rfl : iv = (j : Int) := by have := HI.out; omega
        have hD : D = j + n1 + 1 := by have := HD0.out.1 hk0; omega
        subst hD
        have hta : ta = L + n1 := hL2.1 (by omega)
        have HTAE := Lib.hid hta
        have hlta : j + n1 < ta := by omega
        have htab : ta ≤ 512 := by omega
        clear hta
        obtain ⟨gr, rfl, hgr1, hgr2⟩ := hoT.form (by omega)
        have hgr3 := hgrq gr none rfl
        have hct := hoT.cellAt (j := j + n1) (by omega)
        have htin := allP_getD HD.out.at_ (k := j + n1) (by rw [hoT.len]; omega)
        have hcq := hoQ.cellAt (j := j) (by omega)
        have hfq := hoQ.frozenAt j
        have hcf : wr.cell? ⟨w.heap.size, 0, none⟩ = some (.int .i64 p) := (hFz.cell 0).trans rfl
        have HDT : Hid (allP p ts = true) := Lib.hid HD.out.at_
        have HTL := Lib.hid hoT.len
        have HDS : Hid (∀ q, q = ts.getD (j + n1) 0 * inv % p → Dvr p xs bs (addTo p (p - q) j bs ts (n1 + 1)) (qs.set j q) (j + n1)) := Lib.hid fun q hq => HD.out.step hp.1 (by rw [HBL.out]; exact HN1.out) (by rw [HTL.out]; exact hlta) (by rw [hoQ.len]; omega) HINV2.out hq
        obtain ⟨tl, HTl⟩ : ∃ tl, Hid (ts.getD (j + n1) 0 = tl) := ⟨_, Lib.hid rfl⟩
        rw [HTl.out] at hct htin HDS
        obtain ⟨q, hq⟩ : ∃ q, tl * inv % p = q := ⟨_, rfl⟩
        have hqin : 0 ≤ q ∧ q < p := by rw [← hq]; exact emod_in hp.1 _
        have HD2 := Lib.hid (HDS.out q hq.symm)
        have hti : 0 ≤ tl * inv ∧ tl * inv ≤ 65521 * 65521 := ⟨Int.mul_nonneg htin.1 hinv'.1, by have := Int.mul_le_mul (show tl ≤ 65521 by omega) (show inv ≤ 65521 by omega) hinv'.1 (by omega); omega⟩
        have hw1 : IntKind.i64.wrap (tl * inv) = tl * inv := IntWalk.i64_in _ (by omega)
        have hqt : (tl * inv).tmod p = q := by rw [Int.tmod_eq_emod_of_nonneg hti.1]; exact hq
        obtain ⟨l1, hl1⟩ : ∃ l1, j + n1 = l1 := ⟨_, rfl⟩
        rw [hl1] at hct hlta HD2
        have hx1 : IntKind.i64.wrap ((j : Int) + (nb : Int)) = (j : Int) + (nb : Int) := IntWalk.i64_in _ (by omega)
        have hx2 : IntKind.i64.wrap ((j : Int) + (nb : Int) - 1) = (l1 : Int) := by have := HN1.out; rw [IntWalk.i64_in _ (by omega)]; omega
        have hl10 : (0 : Int) ≤ (l1 : Int) := by omega
        have hl11 : (l1 : Int) < (ta : Int) := by omega
        have hjm : IntKind.i64.wrap ((j : Int) - 1) = (j : Int) - 1 := IntWalk.i64_in _ (by omega)
        have hj0 : (0 : Int) ≤ (j : Int) := by omega
        have hjL : (j : Int) < (L : Int) := by omega
        have hp0 : ¬ p = 0 := by omega
        clear hq HDS HD HI HD0 HL hL
        go_wp2
        go_quiet (fail)
        go_wp2_with fail
        rename_i nq
        have hSw : Step gq wr ((wr.drewN nq).setCell ⟨gq, j, none⟩ (.int .i64 q)) := ((Step.refl gq wr).drewN nq).set j (.int .i64 q)
        have hoT6 : OwnI ((wr.drewN nq).setCell ⟨gq, j, none⟩ (.int .i64 q)) w1.heap.size 3 (some ⟨gr, 0, none⟩) ta c0 ts := hoT.kept hSw (.inr (by simp [Value.ownBlock]; omega))
        have hoQ6 : OwnI ((wr.drewN nq).setCell ⟨gq, j, none⟩ (.int .i64 q)) w1.heap.size 3 (some ⟨gq, 0, none⟩) L L (qs.set j q) := (hoQ.drewN nq).stored j q
        have hIb6 := hIb.grownAt hSw (by simp; omega)
        have hFz6 := Step.block hSw hFz (by omega)
        have hbz6 := Step.below hbz hSw hbz.size (by omega)
        obtain ⟨W6, hW6⟩ : ∃ W6, (wr.drewN nq).setCell ⟨gq, j, none⟩ (.int .i64 q) = W6 := ⟨_, rfl⟩
        rw [hW6] at hoT6 hoQ6 hIb6 hFz6 hbz6
        rw [hW6]
        have hgrW := hFz6.lt
        clear hSw hW6 hoT hoQ hIb hFz hbz hct hcq hfq hcf hw1 hqt hx1 hx2 hti htin
        obtain ⟨u, hu⟩ : ∃ u, p - q = u := ⟨_, rfl⟩
        have huin : 0 < u ∧ u ≤ p := by omega
        rw [hu] at HD2
        have huw : IntKind.i64.wrap (p - q) = u := by rw [IntWalk.i64_in _ (by omega)]; exact hu
        go_loopw [74] (fun i wz => ∃ j2 : Nat, j2 ≤ nb ∧ i = .int .i64 j2 ∧ OwnI wz w1.heap.size 3 (some ⟨gr, 0, none⟩) ta c0 (addTo p u j bs ts j2) ∧ Step gr W6 wz) (fun i _ => nb - (intOf i).toNat)
        case atStart => exact ⟨0, Nat.zero_le _, rfl, by rw [addTo_zero]; exact hoT6, Step.refl _ _⟩
        case round =>
          obtain ⟨j2, hj2, rfl, hownj, hSj⟩ := hrel
          have hIbj := hIb6.grownAt hSj (by simp; omega)
          have hFj := Step.block hSj hFz6 (by omega)
          by_cases hlt2 : j2 < nb
          · obtain ⟨b2, o2, e2, hb2, hc2⟩ := hIbj.2 (by omega)
            injection e2 with e2
            injection e2 with e3 e4 _
            subst e3 e4
            have hcy := hc2 j2 hlt2
            rw [Nat.zero_add] at hcy
            clear hc2
            have hye := allP_getD HBA.out (k := j2) (by rw [HBL.out]; exact hlt2)
            have hcf : wr.cell? ⟨w.heap.size, 0, none⟩ = some (.int .i64 p) := (hFj.cell 0).trans rfl
            have hN1 := HN1.out
            have hzlt : j + j2 < ta := by omega
            have hct := hownj.cellAt (j := j + j2) (by omega)
            rw [addTo_at p u j bs ts j2 (by rw [HTL.out]; omega)] at hct
            have hfz := hownj.frozenAt (j + j2)
            have hte := allP_getD HDT.out (k := j + j2) (by rw [HTL.out]; omega)
            have hst := hownj.stored (j + j2) (timesP p u (ts.getD (j + j2) 0) (bs.getD j2 0))
            rw [addTo_set p u j bs ts j2 (by rw [HTL.out]; omega)] at hst
            obtain ⟨y, HY⟩ : ∃ y, Hid (bs.getD j2 0 = y) := ⟨_, Lib.hid rfl⟩
            obtain ⟨t, HT⟩ : ∃ t, Hid (ts.getD (j + j2) 0 = t) := ⟨_, Lib.hid rfl⟩
            rw [HY.out] at hcy hye hst
            rw [HT.out] at hct hte hst
            obtain ⟨v, HV⟩ : ∃ v, Hid (timesP p u t y = v) := ⟨_, Lib.hid rfl⟩
            rw [HV.out] at hst
            have hxy : 0 ≤ u * y ∧ u * y ≤ 65521 * 65521 := ⟨Int.mul_nonneg (by omega) hye.1, by have := Int.mul_le_mul (show u ≤ 65521 by omega) (show y ≤ 65521 by omega) hye.1 (by omega); omega⟩
            have hvt : (t + u * y).tmod p = v := by rw [Int.tmod_eq_emod_of_nonneg (by omega), times_raw hp.1]; exact HV.out
            have hw1 : IntKind.i64.wrap (u * y) = u * y := IntWalk.i64_in _ (by omega)
            have hw2 : IntKind.i64.wrap (t + u * y) = t + u * y := IntWalk.i64_in _ (by omega)
            obtain ⟨z, hz⟩ : ∃ z : Nat, j + j2 = z := ⟨_, rfl⟩
            have hzi : IntKind.i64.wrap ((j : Int) + (j2 : Int)) = (z : Int) := by rw [IntWalk.i64_in _ (by omega)]; omega
            rw [hz] at hct hfz hst hzlt
            have hzN : (z : Int) < (ta : Int) := by omega
            have hz0 : (0 : Int) ≤ (z : Int) := by omega
            have hj0' : (0 : Int) ≤ (j2 : Int) := by omega
            have hjb : (j2 : Int) < (nb : Int) := by omega
            have HST2 := Lib.hid hst.drew
            have hSj2 : Step gr W6 (wr.setCell ⟨gr, z, none⟩ (.int .i64 v)).drew := (hSj.set z _).drew
            clear hst hxy hN1
            go_wp2_with fail
            go_region
            go_wp2
            go_roundw
            case rel => exact ⟨j2 + 1, by omega, by go_num, HST2.out, hSj2⟩
            case measure => simp [intOf]; omega
          · obtain rfl : j2 = nb := by omega
            have hoQj := hoQ6.kept hSj (.inr (by simp [Value.ownBlock]; omega))
            have hbj := Step.below hbz6 hSj hbz6.size (by omega)
            have HD3 : Hid (Dvr p xs bs (addTo p u j bs ts j2) (qs.set j q) l1) := Lib.hid (by have := HD2.out; rwa [← HN1.out] at this)
            have HDD : Hid ((0 < j → l1 = j + n1) ∧ (j = 0 → l1 ≤ n1)) := Lib.hid ⟨fun _ => hl1.symm, fun e => by omega⟩
            clear hl1
            go_wp2
            go_roundw
            case rel => exact ⟨j, l1, _, _, _, by omega, rfl, Lib.hid rfl, HDD, hownj, hoQj, HD3, hIbj, hFj, hbj⟩
            case measure => simp [intOf]
      · obtain rfl : k = 0 := by omega
        have hiv : iv < 0 := by have := HI.out; omega
        have hiv2 : ¬ (0 ≤ iv) := by omega
        have HDO := Lib.hid (Dvr.done (ys := ys) (by rw [HBS.out]; exact HD.out) (by rw [HBS.out, HBL.out]; exact HN1.out) (HD0.out.2 rfl))
        have hQL := hoQ.len
        have hTL := hoT.len
        have HQN : Hid (tn qs L = (trimL qs).length) := Lib.hid (by rw [trimL_len, hQL])
        have HTN : Hid (tn ts ta = (trimL ts).length) := Lib.hid (by rw [trimL_len, hTL])
        have hcap := hoT.cap
        have hIT := hoT.ints
        have hIQ := hoQ.ints
        have hs1z : w.heap.size ≤ wr.heap.size := hbz.size
        clear hQL hTL HD HI HD0
        go_wp2_with (first
          | (go_at_call 132; (with_reducible refine (rtrim_any (some ⟨gq, 0, none⟩) L L qs wr hIQ (Nat.le_refl _) (by omega)).mono ?_); rintro e w9 ⟨⟨A9, c9, rfl, hown9⟩, hb9⟩
             rw [HQN.out] at hown9
             rw [HQN.out]
             have hbz9 := bnext hbz hb9
             have hIT9 := hIT.upto hb9)
          | (go_at_call 132; (with_reducible refine (rtrim_any AR ta c0 ts w9 hIT9 hcap (by omega)).mono ?_); rintro e w10 ⟨⟨A10, c10, rfl, hown10⟩, hb10⟩
             rw [HTN.out] at hown10
             rw [HTN.out]
             have hbz10 := bnext hbz9 hb10
             have hown99 := hown9.belowAll hb10))
        go_ret3
        exact ⟨⟨trimL qs, trimL ts, A9, c9, A10, c10, rfl, hown99.base hbz.size, hown10.base hbz9.size, HDO.out⟩, hbz10⟩

set_option maxRecDepth 100000 in
theorem rdivide_all (p : Int) (A B : Option Addr) (n m c d : Nat) (xs ys : List Int) (w : World) (h : Ints w w.heap.size A n xs) (h2 : Ints w w.heap.size B m ys) (hc : n ≤ c) (hd : m ≤ d) (hn : n ≤ 17592186044416) (hm : m ≤ 17592186044416) :
    Calls Try.prog 41 #[.agg #[.int .i64 p], .slice A n c, .slice B m d] w (DivPost p xs ys w) := by
  have hl := h.len
  have hl2 := h2.len
  by_cases h0 : errL p [xs, ys] = 0
  · have h1 := errL_two h0
    by_cases hz : tn ys m = 0
    · have hzt : (trimL ys).length = 0 := by rw [trimL_len, hl2]; exact hz
      have H0 := Lib.hid h0
      have HZ := Lib.hid hz
      have HZT := Lib.hid hzt
      obtain ⟨s, HS⟩ : ∃ s, Hid (tn xs n = s) := ⟨_, Lib.hid rfl⟩
      clear h0 h1 hl hl2 hz hzt
      go_enter Try.func41, Try.ntmps41
      go_wp2_with (first
        | (go_at_call 131; (refine (rlists_any p _ 2 2 [xs, ys] _ (by exact Mat.two _ A B n m c d xs ys 22 _ (by simp) (h.upto (bbox _)) (h2.upto (bbox _)) hn hm) (by omega)).mono ?_); rw [H0.out]; rintro e w1 ⟨rfl, hb1⟩
           have hw01 : Below w.heap.size w w1 := bnext (ballocs (bbox _) _) hb1
           have hX1 := h.upto hw01
           have hY1 := h2.upto hw01)
        | (go_at_call 132; (with_reducible refine (rtrim_any A n c xs _ hX1 hc hn).mono ?_); rintro e w2 ⟨⟨A2, c2, rfl, hown2⟩, hb2⟩
           rw [HS.out]
           have hw02 := bnext hw01 hb2
           have hY2 := hY1.upto hb2)
        | (go_at_call 132; (with_reducible refine (rtrim_any B m d ys _ hY2 hd hm).mono ?_); rintro e w3 ⟨⟨A3, c3, rfl, hown3⟩, hb3⟩
           rw [HZ.out]
           have hw03 := bnext hw02 hb3))
      refine bodyPost_ret (v := .tuple #[.slice none 0 0, .slice none 0 0, .int .i64 10]) (by simp [results, Try.results41, go_sem]) rfl (.inr (.inl ⟨H0.out, HZT.out, rfl, hw03⟩))
    · refine (rdivide_yes p A B n m c d xs ys w h0 h h2 hc hd (by omega) (by omega) (by omega)).mono ?_
      rintro e w' ⟨⟨Q, R, A1, c1, A2, c2, rfl, ho1, ho2, hD⟩, hb⟩
      exact .inr (.inr ⟨h0, by rw [trimL_len, hl2]; omega, A1, A2, _, _, c1, c2, Q, R, rfl, ho1, ho2, hD, hb⟩)
  · obtain ⟨er, HER⟩ : ∃ er, Hid (errL p [xs, ys] = er) := ⟨_, Lib.hid rfl⟩
    have h00 := Lib.hid h0
    rw [HER.out] at h0
    have hne : (er != 0) = true := by simpa using h0
    clear h0 hl hl2
    go_enter Try.func41, Try.ntmps41
    go_wp2_with (go_at_call 131; (refine (rlists_any p _ 2 2 [xs, ys] _ (by exact Mat.two _ A B n m c d xs ys 22 _ (by simp) (h.upto (bbox _)) (h2.upto (bbox _)) hn hm) (by omega)).mono ?_); rw [HER.out]; rintro e w1 ⟨rfl, hb1⟩
                 have hw01 : Below w.heap.size w w1 := bnext (ballocs (bbox _) _) hb1)
    refine bodyPost_ret (v := .tuple #[.slice none 0 0, .slice none 0 0, .int .i64 er]) (by simp [results, Try.results41, go_sem]) rfl (.inl ⟨h00.out, by rw [HER.out], hw01⟩)
end Go.Proofs.Ytoblofilaegnaaa
