/-
  PolyReturns returns true: the walk of the law. Conditions: none beyond the reading of its arguments.
-/
import Derived.Test.YtpkieikiakikmaaP05
import Derived.Test.YtpkieikiakikmaaShares
import Derived.Test.YtpkieikiakikmaaRootA
import Derived.Deep.QuietTactic
import Derived.BigQuiet
import Derived.Deep.RegionHeld3
namespace Go.Proofs.Ytpkieikiakikmaa
open Go.RowKit
set_option linter.unusedVariables false

theorem order_eq (g : Nat) (A : Option Addr) (n c : Nat) (xs : List Int) (q : Nat) (k : Nat) (v : Int) (w : World) (hv : v = k) (h : Deck w g A n c xs q) (hk : k ≤ 17592186044416) :
    Calls Try.prog 37 #[.pointer (some ⟨g, 0, none⟩), .int .i64 v] w (OrderPost g A n c xs k w) := by
  subst hv; exact order_any g A n c xs q k w h hk

theorem order_apart {M : Nat} {ks : List Int} (h : IsOrder M ks) (j k : Nat) (hjk : j < k) (hk : k < M) : ks.getD j 0 ≠ ks.getD k 0 := by
  have hl := order_len h
  have hnd : ks.Nodup := h.nodup_iff.2 (by unfold rangeI; rw [List.nodup_iff_pairwise_ne, List.pairwise_map]; exact (List.nodup_range).imp fun hne e => hne (by injection e))
  rw [List.getD_eq_getElem?_getD, List.getD_eq_getElem?_getD, List.getElem?_eq_getElem (by omega), List.getElem?_eq_getElem (by omega)]
  intro e
  have := (List.nodup_iff_pairwise_ne.1 hnd)
  rw [List.pairwise_iff_getElem] at this
  exact this j k (by omega) (by omega) hjk e

set_option maxHeartbeats 6400000 in
set_option maxRecDepth 100000 in
theorem polyReturns_walk (A : Option Addr) (n c : Nat) (zs : List Int) (w : World) (w0 : IsRow .i64 w A n c zs) :
    Calls Try.prog 7 #[.slice A n c] w fun e w' => e = .returned (.bool true) ∧ Below w.heap.size w w' := by
  obtain ⟨h, hw⟩ := w0.ints
  generalize zs.take n = xs at h hw
  clear w0
  by_cases hn : n ≤ 500
  · have hd : decide (n ≤ 500) = true := by simpa using hn
    go_enter Try.func7, Try.ntmps7
    go_wp2_with (first
      | (go_at_call 35; refine (sane05_any _).mono ?_; rintro e w1 ⟨rfl, hb1⟩)
      | (go_at_call 14; refine (few_any A n c _).mono ?_; rintro e w' ⟨rfl, rfl⟩)
      | (go_at_call 15; refine (new_any A n c xs _ (h.upto hb1) hn).mono ?_; rintro e w2 ⟨⟨g, rfl, hge, hD2⟩, hb2⟩
         have hbb2 := bnext hb1 hb2
         have hg : w.heap.size ≤ g := by rw [hge]; exact hb1.size
         clear hge)
      | (go_at_call 36; refine (field_any g A n c xs _ _ hD2).mono ?_; rintro e w3 ⟨p, q3, rfl, hkn, hD3, hS3⟩
         have hok := okP_known hkn
         have hp := okP_pos hok
         have HO := Lib.hid hok
         have hbb3 := ballocs (Step.below hbb2 hS3 hbb2.size hg) (.cells #[.int .i64 p] 47)
         have hF_3 := Blk.new w3 47 #[.int .i64 p]
         have hcf_3 : (w3.alloc (.cells #[.int .i64 p] 47)).cell? ⟨w3.heap.size, 0, none⟩ = some (.int .i64 p) := (hF_3.cell 0).trans rfl
         have hD3' := hD3.alloc (.cells #[.int .i64 p] 47)
         have hgf : w3.heap.size ≠ g := by have := hD3.1.lt; omega
         clear hok hkn hD2 hD3 hS3 hbb2 hb1 hb2)
      | (go_at_call 19; refine (next_any g A n c xs q3 _ _ hD3' (by omega)).mono ?_; rintro e w4 ⟨r', q4, rfl, hr, hr0, hD4, hS4, hz4⟩
         obtain ⟨N, rfl⟩ : ∃ r : Nat, r' = r := ⟨r'.toNat, by have := hr (by omega); omega⟩
         have hN : (N : Int) ≤ p ∧ N ≤ 12 := by have := hr (by omega); omega
         have hwr : IntKind.i64.wrap ((N : Int) + 1) = (N : Int) + 1 := IntWalk.i64_in _ (by omega)
         have hF_4 := Step.block hS4 hF_3 hgf
         have hcf_4 : w4.cell? ⟨w3.heap.size, 0, none⟩ = some (.int .i64 p) := (hF_4.cell 0).trans rfl
         have hbb4 := Step.below hbb3 hS4 hbb3.size hg
         clear hr hr0 hz4))
    all_goals
      go_region_held3 (fun w' => w'.cell? ⟨w3.heap.size, 0, none⟩ = some (.int .i64 p)) (first | exact hcf_4 | exact hc5 | exact hcf_6)
        (first
          | (go_at_call 19; refine (next_any g A n c xs q4 _ _ hD4.drew (by omega)).mono ?_; rintro e w5 ⟨r', q5, rfl, hr, hr0, hD5, hS5, hz5⟩
             obtain ⟨m, rfl⟩ : ∃ r : Nat, r' = r := ⟨r'.toNat, by have := hr (by omega); omega⟩
             have hm : m ≤ N := by have := hr (by omega); omega
             have hF5 := Step.block hS5 hF_4.drew hgf
             have hc5 : w5.cell? ⟨w3.heap.size, 0, none⟩ = some (.int .i64 p) := (hF5.cell 0).trans rfl
             clear hr hr0 hz5)
          | (go_at_call 30; (with_reducible refine (elements_any g A n c xs q5 p m w5 hD5 hp (by omega)).mono ?_); rintro e w6 ⟨A3, c3, ps, q6, rfl, hown6, hZ, hD6, hS6⟩
             have hF_6 := Step.block hS6 hF5 hgf
             have hcf_6 : w6.cell? ⟨w3.heap.size, 0, none⟩ = some (.int .i64 p) := (hF_6.cell 0).trans rfl
             have hbd := hbb4.drew
             have hbd5 := Step.below hbd hS5 hbd.size hg
             have hbb6 := Step.below hbd5 hS6 hbd5.size hg
             have hg5 := hD5.1.lt
             have HPps := Lib.hid hZ
             have hcps := hown6.cap))
      clear hD3' hD4 hD5 hS4 hS5 hS6 hbb3 hbb4 hbd hbd5 hF_3 hcf_3 hF_4 hcf_4 hF5 hc5 hZ
      obtain ⟨M, hM⟩ : ∃ M : Nat, (M : Int) = min p 20 := ⟨(min p 20).toNat, by omega⟩
      have hM2 : M ≤ 20 ∧ (M : Int) ≤ p ∧ N ≤ M := by omega
      go_wp2_with (go_at_call 37; refine (order_eq g A n c xs q6 M _ _ (by omega) hD6 (by omega)).mono ?_; rintro e w7 ⟨A4, c4, ks, q7, rfl, hown7, hord, hD7, hS7⟩
                   have HK := Lib.hid hord
                   have hF_7 := Step.block hS7 hF_6 hgf
                   have hO6 := hown6.step hS7 hg5
                   have hIps := hO6.ints
                   have hIks := hown7.ints
                   have hbb7 := Step.below hbb6 hS7 hbb6.size hg
                   clear hord)
      all_goals
        have HKA : Hid (allP p ks = true) := Lib.hid (allP_iff.2 fun x hx => by have := order_mem HK.out x hx; omega)
        have hkl := hIks.len
        have HDI : Hid (∀ j k, j < k → k < N → (ks.take N).getD j 0 ≠ (ks.take N).getD k 0) := Lib.hid fun j k h1 h2 => by
          have h3 := order_apart HK.out j k h1 (by omega)
          rw [List.getD_eq_getElem?_getD, List.getD_eq_getElem?_getD, List.getElem?_take_of_lt (by omega), List.getElem?_take_of_lt (by omega), ← List.getD_eq_getElem?_getD, ← List.getD_eq_getElem?_getD]
          exact h3
        have hcf_7 : w7.cell? ⟨w3.heap.size, 0, none⟩ = some (.int .i64 p) := (hF_7.cell 0).trans rfl
        have HPL := Lib.hid hIps.len
        clear hcf_6 hF_6 hD6 hD7 hS7 hown6 hown7 hO6 hg5 hbb6
        go_loopw [7, 44] (fun l i wz => ∃ (k m' : Nat) (L : Option Addr) (lc : Nat) (ys : List Int), k ≤ M ∧ Hid (m' = min k N) ∧ m' ≤ N ∧ l = .slice L m' lc ∧ i = .int .i64 k ∧ Hid (OwnS wz w7.heap.size L m' lc (ks.take m') ys) ∧ Hid (allP p ys = true ∧ ∀ j, j < m' → valueP p (ks.getD j 0) ps = ys.getD j 0) ∧ Below w7.heap.size w7 wz) (fun _ i _ => M - (intOf i).toNat)
        case atStart => exact ⟨0, 0, none, 0, [], Nat.zero_le _, Lib.hid (by omega), Nat.zero_le _, rfl, rfl, Lib.hid OwnS.nil_, Lib.hid ⟨rfl, fun j hj => absurd hj (by omega)⟩, Below.refl _ _⟩
        case round =>
          obtain ⟨k, m', L, lc, ys, hk, HM, hm', rfl, rfl, HS, HV, hbz⟩ := hrel
          have hFz := hF_7.below hbz hF_7.lt
          have hcz : wr.cell? ⟨w3.heap.size, 0, none⟩ = some (.int .i64 p) := (hFz.cell 0).trans rfl
          by_cases hlt : k < M
          · obtain ⟨b1, o1, rfl, hb1, hc1⟩ := hIks.2 (by omega)
            have hcx := (hbz.cell (p := ⟨b1, o1 + k, none⟩) hb1).trans (hc1 k hlt)
            clear hc1
            have hxe := allP_getD HKA.out (k := k) (by omega)
            have HTS := Lib.hid (take_succ_getD ks k (by omega))
            obtain ⟨x, HX⟩ : ∃ x, Hid (ks.getD k 0 = x) := ⟨_, Lib.hid rfl⟩
            rw [HX.out] at hcx hxe HTS
            by_cases hmN : m' < N
            · obtain rfl : m' = k := by have := HM.out; omega
              have hys := HS.out.2.1
              obtain ⟨v, HVV⟩ : ∃ v, Hid (valueP p x ps = v) := ⟨_, Lib.hid rfl⟩
              have hvin := valueP_in hp.1 x ps
              rw [HVV.out] at hvin
              have HVN : Hid (allP p (ys ++ [v]) = true ∧ ∀ j, j < m' + 1 → valueP p (ks.getD j 0) ps = (ys ++ [v]).getD j 0) := Lib.hid ⟨allP_append.2 ⟨HV.out.1, allP_iff.2 (by simpa using hvin)⟩, fun j hj => by
                rw [List.getD_eq_getElem?_getD (l := ys ++ [v]), List.getElem?_append]
                split
                · rename_i h1
                  rw [← List.getD_eq_getElem?_getD]
                  exact HV.out.2 j (by omega)
                · rename_i h1
                  obtain rfl : j = m' := by omega
                  rw [hys, Nat.sub_self, HX.out, HVV.out]; rfl⟩
              go_wp2_with (first
                | (go_at_call 38; (refine (pvalue_ok p x A3 m c3 ps _ HO.out (hIps.upto hbz) HPps.out hxe (by omega)).mono ?_); rintro e w8 ⟨rfl, hb8⟩
                   rw [HVV.out]
                   have hbz8 := bnext hbz hb8
                   have hS8 := HS.out.belowAll hb8
                   have hS9 := hS8.belowAll (bbox (.cells #[.int .i64 x, .int .i64 v] 62))
                   have hN9 := Blk.new w8 62 #[.int .i64 x, .int .i64 v]
                   have hbz9 := ballocs hbz8 (.cells #[.int .i64 x, .int .i64 v] 62))
                | (at_builtin
                   refine wpList_append_share rfl _ _ 58 rfl Try.underlying58 w7.heap.size L m' lc (ks.take m') ys rfl hS9 w8.heap.size 1 x v rfl ((hN9.cell 0).trans rfl) ((hN9.cell 1).trans rfl) (by omega) hbz9.size ?_
                   intro L2 lc2 w10 hS10 hb10
                   have hbz10 := hbz9.trans hb10))
              go_roundw
              case rel => exact ⟨m' + 1, m' + 1, L2, lc2, ys ++ [v], by omega, Lib.hid (by omega), by omega, rfl, by go_num, Lib.hid (by rw [HTS.out]; exact hS10), HVN, hbz10⟩
              case measure => simp [intOf]; omega
            · go_wp2
              go_roundw
              case rel => exact ⟨k + 1, m', L, lc, ys, by omega, Lib.hid (by have := HM.out; omega), hm', rfl, by go_num, HS, HV, hbz⟩
              case measure => simp [intOf]; omega
          · obtain rfl : m' = N := by have := HM.out; omega
            have hkl2 : (ks.take m').length = m' := by rw [List.length_take]; omega
            have HTA : Hid (allP p (ks.take m') = true) := Lib.hid (allP_iff.2 fun x hx => allP_iff.1 HKA.out x (List.mem_of_mem_take hx))
            have HUQ : Hid (∀ R, Through p (ks.take m') ys R → R = trimL ps) := Lib.hid fun R hR => hR.unique HO.out (pairwise_of HTA.out (by rw [hkl2]; exact HDI.out)) HPps.out (by rw [hkl2, HPL.out]; exact hm) (fun j hj => by
              rw [hkl2] at hj
              rw [List.getD_eq_getElem?_getD, List.getElem?_take_of_lt hj, ← List.getD_eq_getElem?_getD]
              exact HV.out.2 j hj)
            obtain ⟨tp, HTP⟩ : ∃ tp, Hid (trimL ps = tp) := ⟨_, Lib.hid rfl⟩
            have HTL : Hid (tn ps m = tp.length) := Lib.hid (by rw [← HTP.out, trimL_len, HPL.out])
            have htl : tp.length ≤ m := by have := tn_le ps m; rw [HTL.out] at this; exact this
            have HSM : Hid (sameL tp tp = true) := Lib.hid (sameL_iff.2 rfl)
            have hbw := bnext hbb7 hbz
            have hIpz := hIps.upto hbz
            have hShz := HS.out.sh
            have HYA := Lib.hid HV.out.1
            clear HV HS hkl2
            go_wp2_with (first
              | (go_at_call 39; (refine (interp_ok p L m' lc (ks.take m') ys _ HO.out hShz HTA.out HYA.out (by omega) HDI.out).mono ?_); rintro e w8 ⟨⟨R, A8, c8, rfl, hown8, hT⟩, hb8⟩
                 have hRe := (HUQ.out R hT).trans HTP.out
                 subst hRe
                 have hI8 := hown8.ints
                 have hIp8 := hIpz.upto hb8
                 have hbw8 := bnext hbw hb8
                 have hF8 := hFz.below hb8 hFz.lt
                 have hcf8 : w8.cell? ⟨w3.heap.size, 0, none⟩ = some (.int .i64 p) := (hF8.cell 0).trans rfl
                 clear hT hown8)
              | (go_at_call 40; (refine (ptrim_ok p A3 m c3 ps _ HO.out hIp8 HPps.out hcps (by omega)).mono ?_); rintro e w9 ⟨⟨A9, c9, rfl, hown9⟩, hb9⟩
                 rw [HTL.out, HTP.out] at hown9
                 rw [HTL.out]
                 have hI9 := hI8.upto hb9
                 have hJ9 := hown9.ints
                 have hbw9 := bnext hbw8 hb9
                 clear hown9)
              | (go_at_call 41; (refine (same_any A8 A9 _ _ c8 c9 _ _ _ hI9 hJ9 (by omega) (by omega)).mono ?_); rintro e w' ⟨rfl, q9, rfl⟩
                 rw [HSM.out]))
            go_ret
            exact ⟨rfl, below_drewN hbw9 _⟩
  · have hd : decide (n ≤ 500) = false := by simpa using hn
    go_enter Try.func7, Try.ntmps7
    go_wp2_with (first
      | (go_at_call 35; refine (sane05_any _).mono ?_; rintro e w1 ⟨rfl, hb1⟩)
      | (go_at_call 14; refine (few_any A n c _).mono ?_; rintro e w' ⟨rfl, rfl⟩))
    go_ret
    exact ⟨rfl, hb1⟩
end Go.Proofs.Ytpkieikiakikmaa
