/-
  The reference's Known, Cells and Agree of chapter 8. Conditions: the cells read as their values and marks; the known ones are elements of a valid field.
-/
import Derived.Test.YtoblofilaegnaaaKnown
import Derived.Test.YtoblofilaegnaaaValue
import Derived.Test.YtoblofilaegnaaaPlain
import Derived.Test.YtoblofilaegnaaaDeck
import Derived.Deep.QuietTactic
import Derived.BigQuiet
import Derived.Deep.RegionHeld3
import Derived.Test.YtoblofilaegnaaaShares3
import Derived.Test.YtoblofilaegnaaaChk
import Derived.Test.YtoblofilaegnaaaRef5b
namespace Go.Proofs.Ytoblofilaegnaaa
open Go.RowKit
set_option linter.unusedVariables false

theorem knL_ptvl (l : List (Int × Int)) (a b : Int) : ptK (l ++ [(a, b)]) = ptK l ++ [a] ∧ vlK (l ++ [(a, b)]) = vlK l ++ [b] := by simp [ptK, vlK]

set_option maxRecDepth 100000 in
theorem rknown_ok (A : Option Addr) (m c : Nat) (vs : List Int) (bs : List Bool) (w : World) (h : Cel w w.heap.size A m vs bs) (hm : m ≤ 32) :
    Calls Try.prog 148 #[.slice A m c] w fun e w' => (∃ (A' : Option Addr) (c' : Nat), e = .returned (.slice A' (knL vs bs).length c') ∧ OwnS w' w.heap.size A' (knL vs bs).length c' (ptK (knL vs bs)) (vlK (knL vs bs))) ∧ Below w.heap.size w w' := by
  have HV := Lib.hid h.1
  have HB := Lib.hid h.2.1
  go_enter Try.func148, Try.ntmps148
  go_wp2_with fail
  go_loopw [3, 8] (fun s i wz => ∃ (k q : Nat) (L : Option Addr) (lc : Nat) (l : List (Int × Int)), k ≤ m ∧ q ≤ k ∧ i = .int .i64 k ∧ s = .slice L q lc ∧ Hid (OwnS wz w.heap.size L q lc (ptK l) (vlK l)) ∧ Hid (knL (vs.take k) (bs.take k) = l) ∧ Below w.heap.size w wz) (fun _ i _ => m - (intOf i).toNat)
  case atStart => exact ⟨0, 0, none, 0, [], Nat.zero_le _, Nat.le_refl _, rfl, rfl, Lib.hid OwnS.nil_, Lib.hid (by simp [knL, knF]), Below.refl _ _⟩
  case round =>
    obtain ⟨k, q, L, lc, l, hk, hqk, rfl, rfl, HO, HQ, hb⟩ := hrel
    by_cases hlt : k < m
    · obtain ⟨b1, o1, rfl, hb1, hc1⟩ := h.2.2 (by omega)
      have hx0 := (hb.cell (p := ⟨b1, o1 + k * 2, none⟩) hb1).trans (hc1 k hlt).1
      have hx1 := (hb.cell (p := ⟨b1, o1 + k * 2 + 1, none⟩) hb1).trans (hc1 k hlt).2
      clear hc1
      have HS := Lib.hid (knL_step (vs := vs) (bs := bs) (by rw [HV.out, HB.out]) (j := k) (by rw [HV.out]; exact hlt))
      have hki : (k : Int) < (m : Int) := by omega
      have hk0 : (0 : Int) ≤ (k : Int) := by omega
      have hkw : IntKind.i64.wrap ((k : Int) + 1) = (k : Int) + 1 := IntWalk.i64_in _ (by omega)
      obtain ⟨y, hy⟩ : ∃ y, vs.getD k 0 = y := ⟨_, rfl⟩
      rw [hy] at hx0 HS
      clear hy
      by_cases hbk : bs.getD k false = true
      · have HQ2 : Hid (knL (vs.take (k + 1)) (bs.take (k + 1)) = l ++ [((k : Int) + 1, y)]) := Lib.hid (by rw [HS.out, if_pos hbk, HQ.out])
        rw [hbk] at hx1
        clear hbk HS
        have HP := Lib.hid (knL_ptvl l ((k : Int) + 1) y)
        have hO1 := (HO.out.belowAll (bbox (.cells #[.int .i64 y, .bool true] 86))).belowAll (bbox (.cells #[.int .i64 ((k : Int) + 1), .int .i64 y] 52))
        have hb2 := ballocs (ballocs hb (.cells #[.int .i64 y, .bool true] 86)) (.cells #[.int .i64 ((k : Int) + 1), .int .i64 y] 52)
        have hN9 := Blk.new1 wr (.cells #[.int .i64 y, .bool true] 86) 52 #[.int .i64 ((k : Int) + 1), .int .i64 y]
        go_wp2_with (at_builtin
                     refine wpList_append_share rfl _ _ _ rfl Try.underlying50 w.heap.size L q lc (ptK l) (vlK l) rfl hO1 (wr.heap.size + 1) 1 ((k : Int) + 1) y rfl ((hN9.cell 0).trans rfl) ((hN9.cell 1).trans rfl) (by omega) hb2.size ?_
                     intro L2 lc2 w4 hO4 hb4)
        go_roundw
        case rel => exact ⟨k + 1, q + 1, L2, lc2, _, by omega, by omega, by go_num, rfl, Lib.hid (by rw [HP.out.1, HP.out.2]; exact hO4), HQ2, hb2.trans hb4⟩
        case measure => simp [intOf]; omega
      · have HQ2 : Hid (knL (vs.take (k + 1)) (bs.take (k + 1)) = l) := Lib.hid (by rw [HS.out, if_neg hbk, List.append_nil, HQ.out])
        have hbf : bs.getD k false = false := by simpa using hbk
        rw [hbf] at hx1
        clear hbk hbf HS
        have hO1 := Lib.hid (HO.out.belowAll (bbox (.cells #[.int .i64 y, .bool false] 86)))
        go_wp2
        go_roundw
        case rel => exact ⟨k + 1, q, L, lc, l, by omega, by omega, by go_num, rfl, hO1, HQ2, ballocs hb _⟩
        case measure => simp [intOf]; omega
    · obtain rfl : k = m := by omega
      have HQ3 := HQ.out
      rw [List.take_of_length_le (by rw [HV.out]; exact Nat.le_refl _), List.take_of_length_le (by rw [HB.out]; exact Nat.le_refl _)] at HQ3
      have hql : l.length = q := by have := HO.out.1; rwa [ptK_len] at this
      have HO2 := HO.out
      rw [← HQ3] at HO2 hql
      have HL := Lib.hid hql
      have HO3 := Lib.hid HO2
      clear HQ3 hql HO2
      go_wp2
      go_ret
      rw [HL.out]
      exact ⟨⟨L, lc, rfl, HO3.out⟩, hb⟩

set_option maxRecDepth 100000 in
theorem rcells_ok (p : Int) (A : Option Addr) (m c : Nat) (vs : List Int) (bs : List Bool) (w : World) (hok : okP p = true) (h : Cel w w.heap.size A m vs bs) (hm : m ≤ 32) (hmp : (m : Int) < p) (hkn : knOk p vs bs) :
    Calls Try.prog 150 #[.agg #[.int .i64 p], .slice A m c] w fun e w' => e = .returned (.int .i64 0) ∧ Below w.heap.size w w' := by
  have hp := okP_pos hok
  have HOK := Lib.hid hok
  have HKN := Lib.hid hkn
  have HV := Lib.hid h.1
  have HB := Lib.hid h.2.1
  have hF0 := Blk.new w 24 #[.int .i64 p]
  have hb0 : Below w.heap.size w (w.alloc (.cells #[.int .i64 p] 24)) := bbox _
  have hge1 : ¬ p ≤ (m : Int) := by omega
  have hge2 : ¬ (32 : Int) < (m : Int) := by omega
  have hge3 : ¬ 32 < m := by omega
  have hge5 : decide ((m : Int) ≥ p) = false := decide_eq_false hge1
  clear hok hkn
  go_enter Try.func150, Try.ntmps150
  go_wp2_with (go_at_call 128; refine (check_yes p _ HOK.out).mono ?_; rintro e w1 ⟨rfl, hb1⟩
               have hbb1 := bnext hb0 hb1
               have hF1 := hF0.below hb1 hF0.lt
               have hcf : w1.cell? ⟨w.heap.size, 0, none⟩ = some (.int .i64 p) := (hF1.cell 0).trans rfl)
  go_loopw [25] (fun i wz => ∃ k : Nat, k ≤ m ∧ i = .int .i64 k ∧ Below w1.heap.size w1 wz) (fun i _ => m - (intOf i).toNat)
  case atStart => exact ⟨0, Nat.zero_le _, rfl, Below.refl _ _⟩
  case round =>
    obtain ⟨k, hk, rfl, hb⟩ := hrel
    have hFz := hF1.below hb hF1.lt
    have hbw := bnext hbb1 hb
    by_cases hlt : k < m
    · have hS := h.upto hbw
      obtain ⟨b1, o1, rfl, hbl1, hc1⟩ := hS.2.2 (by omega)
      have hx0 := (hc1 k hlt).1
      have hx1 := (hc1 k hlt).2
      clear hc1
      have hki : (k : Int) < (m : Int) := by omega
      have hk0 : (0 : Int) ≤ (k : Int) := by omega
      by_cases hbk : bs.getD k false = true
      · have hyb := knOk_at HKN.out (by rw [HV.out, HB.out]) hbk
        obtain ⟨y, hy⟩ : ∃ y, vs.getD k 0 = y := ⟨_, rfl⟩
        rw [hy] at hx0 hyb
        rw [hbk] at hx1
        clear hy hbk
        have HIN : Hid (inF p [y] = true) := Lib.hid (inF_iff.2 ⟨HOK.out, allP_iff.2 fun z hz => by rw [List.mem_singleton.1 hz]; exact hyb⟩)
        have hFz1 := hFz.alloc (.cells #[.int .i64 y, .bool true] 86)
        have hcf1 : (wr.alloc (.cells #[.int .i64 y, .bool true] 86)).cell? ⟨w.heap.size, 0, none⟩ = some (.int .i64 p) := (hFz1.cell 0).trans rfl
        have hcf2 : wr.cell? ⟨w.heap.size, 0, none⟩ = some (.int .i64 p) := (hFz.cell 0).trans rfl
        go_wp2_with (go_at_call 126; (refine (in_any p _ 1 1 [y] _ (by exact Ints.oneAt _ y 3 _ (by simp)) (by omega)).mono ?_); rintro e w2 ⟨rfl, hb2⟩
                     rw [HIN.out]
                     have hbz2 := bnext (ballocs (ballocs hb (.cells #[.int .i64 y, .bool true] 86)) (.cells #[.int .i64 y] 3)) hb2)
        go_roundw
        case rel => exact ⟨k + 1, by omega, by go_num, hbz2⟩
        case measure => simp [intOf]; omega
      · have hbf : bs.getD k false = false := by simpa using hbk
        obtain ⟨y, hy⟩ : ∃ y, vs.getD k 0 = y := ⟨_, rfl⟩
        rw [hy] at hx0
        rw [hbf] at hx1
        clear hy hbk hbf
        go_wp2_with fail
        go_roundw
        case rel => exact ⟨k + 1, by omega, by go_num, ballocs hb _⟩
        case measure => simp [intOf]; omega
    · obtain rfl : k = m := by omega
      go_wp2
      go_ret
      exact ⟨rfl, hbw⟩

theorem wrL_snocN (p : Int) (P : List Int) (l : List (Int × Int)) (e : Int × Int) : (wrL p P (l ++ [e])).length = (wrL p P l).length + (if valueP p e.1 P = e.2 then 0 else 1) := by
  unfold wrL
  rw [List.filter_append, List.map_append, List.length_append]
  by_cases h : valueP p e.1 P = e.2 <;> simp [h]

set_option maxRecDepth 100000 in
set_option maxHeartbeats 1600000 in
theorem ragree_ok (p : Int) (A : Option Addr) (m c : Nat) (vs : List Int) (bs : List Bool) (C : Option Addr) (n cc : Nat) (cs : List Int) (w : World) (hok : okP p = true) (h : Cel w w.heap.size A m vs bs) (hm : m ≤ 32) (hmp : (m : Int) < p) (hkn : knOk p vs bs)
    (hC : Ints w w.heap.size C n cs) (hca : allP p cs = true) (hcc : n ≤ cc) (hn : n ≤ 512) :
    Calls Try.prog 74 #[.agg #[.int .i64 p], .slice A m c, .slice C n cc] w fun e w' => (∃ r : Nat, e = .returned (.tuple #[.int .i64 r, .int .i64 0]) ∧ r + (wrL p cs (knL vs bs)).length = (knL vs bs).length) ∧ Below w.heap.size w w' := by
  have hp := okP_pos hok
  have HOK := Lib.hid hok
  have HKN := Lib.hid hkn
  have HCA := Lib.hid hca
  have HV := Lib.hid h.1
  have hF0 := Blk.new w 24 #[.int .i64 p]
  have hb0 : Below w.heap.size w (w.alloc (.cells #[.int .i64 p] 24)) := bbox _
  have hS0 := h.upto hb0
  have hC0 := hC.upto hb0
  obtain ⟨l, hl⟩ : ∃ l, knL vs bs = l := ⟨_, rfl⟩
  have HPT : Hid (allP p (ptK l) = true) := Lib.hid (by rw [← hl]; exact ptK_allP vs bs (by rw [HV.out]; exact hmp))
  have hlm : l.length ≤ m := by have := knL_len vs bs; rw [hl, HV.out] at this; exact this
  have HL := Lib.hid hl
  rw [hl]
  obtain ⟨N, hN⟩ : ∃ N, l.length = N := ⟨_, rfl⟩
  have HN := Lib.hid hN
  rw [hN] at hlm
  rw [hN]
  clear hok hkn hca hl hN
  go_enter Try.func74, Try.ntmps74
  go_wp2_with (first
    | (go_at_call 150; refine (rcells_ok p A m c vs bs _ HOK.out hS0 hm hmp HKN.out).mono ?_; rintro e w1 ⟨rfl, hb1⟩
       have hbb1 := bnext hb0 hb1
       have hF1 := hF0.below hb1 hF0.lt
       have hS1 := hS0.upto hb1
       have hC1 := hC0.upto hb1
       have hcf : w1.cell? ⟨w.heap.size, 0, none⟩ = some (.int .i64 p) := (hF1.cell 0).trans rfl)
    | (go_at_call 43; refine (rTrim_ok p C n cc cs _ HOK.out hC1 HCA.out hcc hn).mono ?_; rintro e w2 ⟨⟨A2, c2, rfl, hO2⟩, hb2⟩
       have hbb2 := bnext hbb1 hb2
       have hF2 := hF1.below hb2 hF1.lt
       have hS2 := hS1.upto hb2
       have hC2 := hC1.upto hb2
       have hcf2 : w2.cell? ⟨w.heap.size, 0, none⟩ = some (.int .i64 p) := (hF2.cell 0).trans rfl)
    | (go_at_call 148; refine (rknown_ok A m c vs bs _ hS2 hm).mono ?_; rintro e w3 ⟨⟨A3, c3, rfl, hO3⟩, hb3⟩
       rw [HL.out, HN.out] at hO3
       rw [HL.out, HN.out]
       have hbb3 := bnext hbb2 hb3
       have hF3 := hF2.below hb3 hF2.lt
       have hC3 := hC2.upto hb3
       have hSh := hO3.sh))
  go_loopw [11, 34] (fun s i wz => ∃ k q : Nat, k ≤ N ∧ q ≤ k ∧ i = .int .i64 k ∧ s = .int .i64 q ∧ Hid (q + (wrL p cs (l.take k)).length = k) ∧ Below w3.heap.size w3 wz) (fun _ i _ => N - (intOf i).toNat)
  case atStart => exact ⟨0, 0, Nat.zero_le _, Nat.le_refl _, rfl, rfl, Lib.hid (by simp [wrL]), Below.refl _ _⟩
  case round =>
    obtain ⟨k, q, hk, hqk, rfl, rfl, HQ, hb⟩ := hrel
    by_cases hlt : k < N
    · obtain ⟨b1, o1, rfl, hbl1, hc1⟩ := hSh.2.2 (by omega)
      have hx0 := (hb.cell (p := ⟨b1, o1 + k * 2, none⟩) hbl1).trans (hc1 k hlt).1
      have hx1 := (hb.cell (p := ⟨b1, o1 + k * 2 + 1, none⟩) hbl1).trans (hc1 k hlt).2
      clear hc1
      have hki : (k : Int) < (N : Int) := by omega
      have hk0 : (0 : Int) ≤ (k : Int) := by omega
      have hlk : k < l.length := by rw [HN.out]; exact hlt
      have hxb := allP_getD HPT.out (k := k) (by rw [ptK_len]; exact hlk)
      have HST := Lib.hid (show l.take (k + 1) = l.take k ++ [((ptK l).getD k 0, (vlK l).getD k 0)] by
        have h1 : l.take (k + 1) = l.take k ++ [l[k]] := by rw [List.take_add_one, List.getElem?_eq_getElem hlk]; rfl
        have h2 : (ptK l).getD k 0 = (l[k]).1 := by simp [ptK, List.getD_eq_getElem?_getD, List.getElem?_eq_getElem hlk]
        have h3 : (vlK l).getD k 0 = (l[k]).2 := by simp [vlK, List.getD_eq_getElem?_getD, List.getElem?_eq_getElem hlk]
        rw [h1, h2, h3])
      obtain ⟨x, hx⟩ : ∃ x, (ptK l).getD k 0 = x := ⟨_, rfl⟩
      obtain ⟨y, hy⟩ : ∃ y, (vlK l).getD k 0 = y := ⟨_, rfl⟩
      rw [hx] at hx0 hxb HST
      rw [hy] at hx1 HST
      clear hx hy hlk
      have hFz := (hF3.below hb hF3.lt).alloc (.cells #[.int .i64 x, .int .i64 y] 52)
      have hcfz : (wr.alloc (.cells #[.int .i64 x, .int .i64 y] 52)).cell? ⟨w.heap.size, 0, none⟩ = some (.int .i64 p) := (hFz.cell 0).trans rfl
      have hCz := (hC3.upto hb).upto (bbox (w0 := wr) (.cells #[.int .i64 x, .int .i64 y] 52))
      have hN9 := Blk.new wr 52 #[.int .i64 x, .int .i64 y]
      have hbz := ballocs hb (.cells #[.int .i64 x, .int .i64 y] 52)
      obtain ⟨g9, hg9⟩ : ∃ g9, wr.heap.size = g9 := ⟨_, rfl⟩
      obtain ⟨v9, hv9⟩ : ∃ v9, valueP p x cs = v9 := ⟨_, rfl⟩
      have HV9 := Lib.hid hv9
      have HW9 := Lib.hid (wrL_snocN p cs (l.take k) (x, y))
      clear hv9
      by_cases hvy : v9 = y
      · have hve : (v9 == y) = true := by simpa using hvy
        have HQ2 : Hid ((q + 1) + (wrL p cs (l.take (k + 1))).length = k + 1) := Lib.hid (by
          have h1 := HW9.out
          rw [if_pos (HV9.out.trans hvy)] at h1
          rw [HST.out, h1]
          have := HQ.out; omega)
        go_wp2_with (go_at_call 47; (refine (rValue_ok p x C n cc cs _ HOK.out hxb hCz HCA.out hn).mono ?_); rintro e w4 ⟨rfl, hb4⟩
                     rw [HV9.out]
                     have hN4 := hN9.below hb4 hN9.lt
                     rw [hg9] at hN4
                     have hz1 : w4.cell? ⟨g9, 1, none⟩ = some (.int .i64 y) := (hN4.cell 1).trans rfl)
        go_roundw
        case rel => exact ⟨k + 1, q + 1, by omega, by omega, by go_num, by go_num, HQ2, bnext hbz hb4⟩
        case measure => simp [intOf]; omega
      · have hve : (v9 == y) = false := by simpa using hvy
        have HQ2 : Hid (q + (wrL p cs (l.take (k + 1))).length = k + 1) := Lib.hid (by
          have h1 := HW9.out
          rw [if_neg (fun hh => hvy (HV9.out.symm.trans hh))] at h1
          rw [HST.out, h1]
          have := HQ.out; omega)
        go_wp2_with (go_at_call 47; (refine (rValue_ok p x C n cc cs _ HOK.out hxb hCz HCA.out hn).mono ?_); rintro e w4 ⟨rfl, hb4⟩
                     rw [HV9.out]
                     have hN4 := hN9.below hb4 hN9.lt
                     rw [hg9] at hN4
                     have hz1 : w4.cell? ⟨g9, 1, none⟩ = some (.int .i64 y) := (hN4.cell 1).trans rfl)
        go_roundw
        case rel => exact ⟨k + 1, q, by omega, by omega, by go_num, rfl, HQ2, bnext hbz hb4⟩
        case measure => simp [intOf]; omega
    · have hkN : k = N := by omega
      have HQ3 : Hid (q + (wrL p cs l).length = N) := Lib.hid (by have := HQ.out; rw [List.take_of_length_le (by rw [HN.out]; omega)] at this; omega)
      have hkN2 : ¬ ((k : Int) < (N : Int)) := by omega
      go_wp2
      go_ret2
      exact ⟨⟨q, rfl, HQ3.out⟩, bnext hbb3 hb⟩
end Go.Proofs.Ytoblofilaegnaaa
