/-
  UniqueOnly returns true: the walk of the law. Conditions: none beyond the reading of its arguments and of the variable errWrong.
-/
import Derived.Test.YteipcjmkhacdgaaDoorS09
import Derived.Test.YteipcjmkhacdgaaDoorUWord
import Derived.Test.YteipcjmkhacdgaaDoorUKp
import Derived.Test.YteipcjmkhacdgaaDoorDecE
import Derived.Test.YteipcjmkhacdgaaDoorRef8
namespace Go.Proofs.YteipcjmkhacdgaaDoor
open Go.RowKit
set_option linter.unusedVariables false

theorem OwnC.drew_ {w : World} {base n c : Nat} {A : Option Addr} {us : List Int} {ys : List Bool} (h : OwnC w base A n c us ys) : OwnC w.drew base A n c us ys := h
theorem cell_drew {w : World} {a : Addr} {v : Value} (h : w.cell? a = some v) : w.drew.cell? a = some v := h
theorem mod7_at (us : List Int) {j : Nat} (hj : j < us.length) : (us.map (· % 7)).getD j 0 = us.getD j 0 % 7 := by
  rw [List.getD_eq_getElem?_getD, List.getD_eq_getElem?_getD, List.getElem?_map, List.getElem?_eq_getElem hj]; rfl
theorem mod7_ok {p : Int} (hp : 10 < p) (us : List Int) (ys : List Bool) : knOk p (us.map (· % 7)) ys := fun e he => by
  have : e.2 ∈ us.map (· % 7) := by
    obtain ⟨j, h1, h2, h3⟩ := knL_of he
    rw [h3]
    show (us.map (· % 7)).getD j 0 ∈ us.map (· % 7)
    rw [List.getD_eq_getElem?_getD, List.getElem?_eq_getElem h1]
    exact List.getElem_mem h1
  obtain ⟨z, _, hz⟩ := List.mem_map.1 this
  omega

set_option maxRecDepth 100000 in
set_option maxHeartbeats 16000000 in
theorem uniqueOnly_walk (A : Option Addr) (n c : Nat) (zs : List Int) (B : Option Addr) (N d : Nat) (us : List Int) (ys : List Bool) (k8 : Int) (w : World) (w0 : IsRow .i64 w A n c zs) (hcl : Cel w w.heap.size B N us ys) (hNd : N ≤ d) (hk8 : 0 ≤ k8 ∧ k8 < 256) (hW : ErrW w) :
    Calls Tryd.prog 6 #[.slice A n c, .slice B N d, .int .u8 k8] w fun e w' => e = .returned (.bool true) ∧ Below w.heap.size w w' := by
  obtain ⟨i0, hi0, hz0, hz1, hz2⟩ := info_parts info_int
  obtain ⟨h, hw⟩ := w0.ints
  generalize zs.take n = xs at h hw
  clear w0
  by_cases hn : n ≤ 500
  · have hd : decide (n ≤ 500) = true := by simpa using hn
    by_cases hN10 : N ≤ 10
    · have hN10i : ¬ (10 : Int) < (N : Int) := by omega
      have hN10N : ¬ 10 < N := by omega
      have hN10d : decide ((10 : Int) < (N : Int)) = false := decide_eq_false hN10i
      have hN10e : decide ((N : Int) > 10) = false := decide_eq_false hN10i
      by_cases hN0 : N = 0
      · subst hN0
        go_enter Tryd.func6, Tryd.ntmps6
        go_wp2_with (first
          | (go_at_call 9; refine (sane09_any _ hW).mono ?_; rintro e w1 ⟨rfl, hb1⟩)
          | (go_at_call 10; refine (few_any A n c _).mono ?_; rintro e w' ⟨rfl, rfl⟩))
        go_ret
        exact ⟨rfl, hb1⟩
      · have hN0b : ((N : Int) == 0) = false := by simp; omega
        have hN0i : ¬ (N : Int) = 0 := by omega
        have hNpos : 0 < N := by omega
        go_enter Tryd.func6, Tryd.ntmps6
        go_upto_region 6 with (first
          | (go_at_call 9; refine (sane09_any _ hW).mono ?_; rintro e w1 ⟨rfl, hb1⟩
             have hE1 := hW.below hb1)
          | (go_at_call 10; refine (few_any A n c _).mono ?_; rintro e w' ⟨rfl, rfl⟩)
          | (go_at_call 11; refine (new_any A n c xs _ (h.upto hb1) hn).mono ?_; rintro e w2 ⟨⟨g, rfl, hge, hD2⟩, hb2⟩
             have hbb2 := bnext hb1 hb2
             have hE2 := hE1.below hb2
             have hg : w.heap.size ≤ g := by rw [hge]; exact hb1.size
             have hg1 : 0 < g := by rw [hge]; exact hE1.2
             have hK2 := hcl.upto hbb2
             clear hge hb1 hb2 hE1))
        go_upto_region 7 with (go_at_call 12; refine (big_any g A n c xs _ 10 _ hD2 (by omega)).mono ?_; rintro e w3 ⟨p, q3, rfl, hkp, hlp, hD3, hS3⟩)
        have hok := okP_known hkp
        have hp := okP_pos hok
        have HO := Lib.hid hok
        have hbb3 := ballocs (Step.below hbb2 hS3 hbb2.size hg) (.cells #[.int .i64 p] 24)
        have hE3 := (hE2.step hS3 hg1).below (bbox (.cells #[.int .i64 p] 24))
        have hF3 := Blk.new w3 24 #[.int .i64 p]
        have hD3' := hD3.alloc (.cells #[.int .i64 p] 24)
        have hgF : g < w3.heap.size := hD3.1.lt
        have hK3 := (hcl.below (Below.mono hbb3 (Nat.le_refl _))).more hbb3.size
        obtain ⟨F, hF⟩ : ∃ F, w3.heap.size = F := ⟨_, rfl⟩
        obtain ⟨W, hWe⟩ : ∃ W, w3.alloc (.cells #[.int .i64 p] 24) = W := ⟨_, rfl⟩
        rw [hWe] at hbb3 hE3 hF3 hD3' hK3 ⊢
        rw [hF] at hF3 hgF ⊢
        clear hWe hF hD3 hS3 hkp hok hE2 hbb2 hD2 hK2
        have hF3l := hF3.lt
        go_upto_region 9 with
          (at_builtin
           refine wpList_append_cells rfl _ _ _ rfl Tryd.underlying25 W.heap.size none 0 0 [] [] rfl OwnC.nil_ W.heap.size B N d us ys rfl hK3 N (Nat.zero_add _) (by omega) (Nat.le_refl _) ?_
           intro A10 c10 w10 hC10 hb10)
        go_wp2_with fail
        have hgW : g < W.heap.size := by omega
        obtain ⟨gM, rfl, hgM, hgMl⟩ := hC10.form (by omega)
        have HVL := Lib.hid hcl.1
        have HBL := Lib.hid hcl.2.1
        obtain ⟨tv, htv⟩ : ∃ tv, us.map (· % 7) = tv := ⟨_, rfl⟩
        have HTL : Hid (tv.length = us.length) := Lib.hid (by rw [← htv, List.length_map])
        have HTA : Hid (∀ j, j < N → tv.getD j 0 = us.getD j 0 % 7) := Lib.hid fun j hj => by rw [← htv, mod7_at us (by rw [HVL.out]; exact hj)]
        have HOT : Hid (knOk p tv ys) := Lib.hid (by rw [← htv]; exact mod7_ok hlp us ys)
        have HC10 := Lib.hid hC10
        have HF3 := Lib.hid hF3
        have HE3 := Lib.hid hE3
        have hb10' : Below W.heap.size W w10 := hb10
        clear htv hC10 hF3 hE3 hb10
        go_loopw [10, 46] (fun kk i wz => ∃ j q : Nat, j ≤ N ∧ q ≤ j ∧ i = .int .i64 j ∧ kk = .int .i64 q ∧ Hid (OwnC wz W.heap.size (some ⟨gM, 0, none⟩) N c10 (tv.take j ++ us.drop j) ys) ∧ Hid ((knL (tv.take j) (ys.take j)).length = q) ∧ Below W.heap.size W wz) (fun _ i _ => N - (intOf i).toNat)
        case atStart => exact ⟨0, 0, Nat.zero_le _, Nat.le_refl _, rfl, rfl, HC10, Lib.hid (by simp [knL, knF]), hb10'⟩
        case round =>
          obtain ⟨j, q, hj, hqj, rfl, rfl, HOC, HQ, hbz⟩ := hrel
          by_cases hlt : j < N
          · have hcfz : World.cell? _ ⟨F, 0, none⟩ = some (.int .i64 p) := ((HF3.out.below hbz HF3.out.lt).cell 0).trans rfl
            have hjN : (j : Int) < (N : Int) := by omega
            have hj0 : (0 : Int) ≤ (j : Int) := by omega
            have hxx0 := (HOC.out.cellAt hlt).1
            rw [swap_getD tv us j HTL.out (by rw [HVL.out]; exact hlt)] at hxx0
            have HT := Lib.hid (HTA.out j hlt)
            obtain ⟨x, hx⟩ : ∃ x, us.getD j 0 = x := ⟨_, rfl⟩
            rw [hx] at hxx0 HT
            clear hx
            have hf0 := HOC.out.frozenAt (j * 2)
            obtain ⟨z, hz⟩ : ∃ z, x % 7 = z := ⟨_, rfl⟩
            rw [hz] at HT
            have hp7 : ¬ p < 7 := by omega
            have hp7b : (7 : Int) ≤ p := by omega
            have hp7c : (7 : Int) < p := by omega
            have HCn : Hid (OwnC _ W.heap.size (some ⟨gM, 0, none⟩) N c10 (tv.take (j + 1) ++ us.drop (j + 1)) ys) := Lib.hid (by
              have h1 := HOC.out.stored hlt z
              rw [← HT.out, swap_at tv us j HTL.out (by rw [HVL.out]; exact hlt)] at h1
              exact h1)
            have hbn := hbz.setCell (p := ⟨gM, j * 2, none⟩) hgM (.int .i64 (tv.getD j 0))
            rw [HT.out] at HCn hbn
            have hx1n := (HCn.out.cellAt hlt).2
            have HS := Lib.hid (knL_step (vs := tv) (bs := ys) (by rw [HTL.out, HVL.out, HBL.out]) (j := j) (by rw [HTL.out, HVL.out]; exact hlt))
            have HZ := Lib.hid hz
            clear hz
            have hx1w : World.cell? _ ⟨gM, j * 2 + 1, none⟩ = _ := (HOC.out.cellAt hlt).2
            by_cases hbk : ys.getD j false = true
            · have HQ2 : Hid ((knL (tv.take (j + 1)) (ys.take (j + 1))).length = q + 1) := Lib.hid (by rw [HS.out, if_pos hbk, List.length_append, HQ.out]; rfl)
              rw [hbk] at hx1n hx1w
              have hx1d := cell_drew hx1n
              clear hbk HS
              go_upto_region 12 with fail
              go_region_law (first
                | (go_simp; go_at_call 17; (with_reducible refine (mod_any x 7 _ (by omega) (by omega)).mono ?_); rintro e w11 ⟨rfl, rfl⟩; rw [HZ.out]))
              all_goals go_wp2
              all_goals go_roundw
              all_goals first
                | exact ⟨j + 1, q + 1, by omega, by omega, by go_num, by go_num, Lib.hid HCn.out, HQ2, hbn⟩
                | exact ⟨j + 1, q + 1, by omega, by omega, by go_num, by go_num, Lib.hid HCn.out.drew_, HQ2, hbn.drew⟩
                | (simp [intOf]; omega)
            · have HQ2 : Hid ((knL (tv.take (j + 1)) (ys.take (j + 1))).length = q) := Lib.hid (by rw [HS.out, if_neg hbk, List.append_nil, HQ.out])
              have hbf : ys.getD j false = false := by simpa using hbk
              rw [hbf] at hx1n hx1w
              have hx1d := cell_drew hx1n
              clear hbk hbf HS
              go_upto_region 12 with fail
              go_region_law (first
                | (go_simp; go_at_call 17; (with_reducible refine (mod_any x 7 _ (by omega) (by omega)).mono ?_); rintro e w11 ⟨rfl, rfl⟩; rw [HZ.out]))
              all_goals go_wp2
              all_goals go_roundw
              all_goals first
                | exact ⟨j + 1, q, by omega, by omega, by go_num, rfl, Lib.hid HCn.out, HQ2, hbn⟩
                | exact ⟨j + 1, q, by omega, by omega, by go_num, rfl, Lib.hid HCn.out.drew_, HQ2, hbn.drew⟩
                | (simp [intOf]; omega)
          · obtain rfl : N = j := by omega
            have hCt := HOC.out
            rw [List.take_of_length_le (by rw [HTL.out, HVL.out]; exact Nat.le_refl _), List.drop_of_length_le (by rw [HVL.out]; exact Nat.le_refl _), List.append_nil] at hCt
            have HQ3 : Hid ((knL tv ys).length = q) := Lib.hid (by have := HQ.out; rw [List.take_of_length_le (by rw [HTL.out, HVL.out]; exact Nat.le_refl _), List.take_of_length_le (by rw [HBL.out]; exact Nat.le_refl _)] at this; exact this)
            have hFz := HF3.out.below hbz HF3.out.lt
            have hEz := HE3.out.below hbz
            have hDz := hD3'.belowAll hbz
            have hbz' := bnext hbb3 hbz
            have hcfe : World.cell? _ ⟨F, 0, none⟩ = some (.int .i64 p) := (hFz.cell 0).trans rfl
            have hKz := hCt.cel
            obtain ⟨z8, hz8⟩ : ∃ z8, k8 % (N : Int) = z8 := ⟨_, rfl⟩
            have hz8b : 0 ≤ z8 ∧ z8 < (N : Int) := by rw [← hz8]; exact ⟨Int.emod_nonneg _ hN0i, Int.emod_lt_of_pos _ (by omega)⟩
            obtain ⟨kk, hkk⟩ : ∃ kk : Nat, 1 + z8 = (kk : Int) := ⟨(1 + z8).toNat, by omega⟩
            have hkk1 : 1 ≤ kk ∧ kk ≤ N := by omega
            have hcv : IntKind.i64.wrap k8 = k8 := IntWalk.i64_in _ (by omega)
            have htm : k8.tmod (N : Int) = z8 := by rw [← hz8]; exact Int.tmod_eq_emod_of_nonneg (by omega)
            have hkw : IntKind.i64.wrap (1 + z8) = (kk : Int) := by rw [hkk]; exact IntWalk.i64_in _ (by omega)
            clear hz8 HOC HC10 hb10' HQ
            go_upto_region 17 with fail
            clear hcv htm hkw hkk hz8b
            by_cases hkn : kk ≤ q
            · have HKN : Hid (kk ≤ (knL tv ys).length) := Lib.hid (by rw [HQ3.out]; exact hkn)
              have hkn1 : ¬ ((q : Int) < (kk : Int)) := by omega
              have hkn2 : ¬ q < kk := by omega
              obtain ⟨v, hv⟩ : ∃ v, (q - kk) / 2 = v := ⟨_, rfl⟩
              have HVV := Lib.hid hv
              clear hv
              go_wp2_with fail
              go_at_call 18
              refine (uDecode_ok p (some ⟨gM, 0, none⟩) N c10 kk tv ys _ HO.out hKz (by omega) (by omega) HOT.out hkk1.1 hkk1.2 HKN.out hEz).mono ?_
              rintro e w11 ⟨⟨hDq, rfl⟩ | ⟨P, A1, c1, A2, c2, hDq, rfl, hI1, hI2, hc1, hc2, hn1, hn2⟩, hb11⟩
              · have HVVx : Hid True := Lib.hid trivial
                have hDx : World.cell? (w11.alloc (.cells #[.slice none 0 0, .slice none 0 0] 27)) ⟨F, 0, none⟩ = some (.int .i64 p) := (((hFz.below hb11 hFz.lt).alloc (.cells #[.slice none 0 0, .slice none 0 0] 27)).cell 0).trans rfl
                have hF11 := (hFz.below hb11 hFz.lt).alloc (.cells #[.slice none 0 0, .slice none 0 0] 27)
                have hC11 := (hCt.belowAll hb11).belowAll (bbox (.cells #[.slice none 0 0, .slice none 0 0] 27))
                have hD11 := (hDz.belowAll hb11).alloc (.cells #[.slice none 0 0, .slice none 0 0] 27)
                have hbz11 := ballocs (bnext hbz' hb11) (.cells #[.slice none 0 0, .slice none 0 0] 27)
                have hgw11 : g < (w11.alloc (.cells #[.slice none 0 0, .slice none 0 0] 27)).heap.size := hD11.1.lt
                go_upto_region 25 with (first
                  | (go_at_call 25; (with_reducible refine (uradius_ok q kk _ hkk1.1 hkn (by omega)).mono ?_); rintro e w12 ⟨rfl, rfl⟩
                     rw [HVV.out])
                  | (go_at_call 15; (with_reducible refine (elements_any g A n c xs _ p kk _ hD11 hp (by omega)).mono ?_); rintro e w13 ⟨A8, c8, pl, q8, rfl, hO8, hQ8, hD8, hS8⟩
                     have HQA := Lib.hid hQ8
                     have hC13 := hC11.step hS8 hgW
                     have hK13 := hC13.cel
                     have hF13 := Step.block hS8 hF11 (by omega)
                     have hcf13 : w13.cell? ⟨F, 0, none⟩ = some (.int .i64 p) := (hF13.cell 0).trans rfl
                     have hI13 := hO8.ints
                     have hcap13 := hO8.cap
                     have hPL := Lib.hid hO8.len
                     have hbz13 := Step.below hbz11 hS8 hbz11.size hg)
                  | (go_at_call 31; (refine (ragree_ok p (some ⟨gM, 0, none⟩) N c10 tv ys A8 kk c8 pl _ HO.out hK13 (by omega) (by omega) HOT.out hI13 HQA.out hcap13 (by omega)).mono ?_); rintro e w14 ⟨⟨r, rfl, hr⟩, hb14⟩
                     rw [HQ3.out] at hr
                     have hbz14 := bnext hbz13 hb14))
                obtain ⟨wl, hwl⟩ : ∃ wl, (wrL p pl (knL tv ys)).length = wl := ⟨_, rfl⟩
                rw [hwl] at hr
                have hsub : IntKind.i64.wrap ((q : Int) - (r : Int)) = (wl : Int) := by rw [IntWalk.i64_in _ (by omega)]; omega
                have hgt : v < wl := by
                  have h1 := hDq
                  rw [HQ3.out, HVV.out] at h1
                  have h2 := h1 pl HQA.out (by rw [hPL.out]; exact Nat.le_refl _)
                  rwa [hwl] at h2
                have hle : ¬ (wl : Int) ≤ (v : Int) := by omega
                have hled : decide ((wl : Int) ≤ (v : Int)) = false := decide_eq_false hle
                go_wp2_with fail
                go_ret
                exact ⟨rfl, hbz14⟩
              · have HVVx : Hid True := Lib.hid trivial
                obtain ⟨hP1, hP2, hP3, hP4⟩ := id hDq
                rw [HQ3.out, HVV.out] at hP4
                obtain ⟨n1, hn1e⟩ : ∃ n1, P.length = n1 := ⟨_, rfl⟩
                obtain ⟨bad, hbad⟩ : ∃ bad, wrL p P (knL tv ys) = bad := ⟨_, rfl⟩
                obtain ⟨bn, hbn⟩ : ∃ bn, bad.length = bn := ⟨_, rfl⟩
                have HP4 := Lib.hid hP4
                rw [hbad, hbn] at hP4
                rw [hn1e] at hP3
                rw [hbad, hbn, hn1e]
                rw [hn1e] at hI1 hc1
                rw [hbad, hbn] at hI2 hc2
                have hDx : World.cell? (w11.alloc (.cells #[.slice A1 n1 c1, .slice A2 bn c2] 27)) ⟨F, 0, none⟩ = some (.int .i64 p) := (((hFz.below hb11 hFz.lt).alloc (.cells #[.slice A1 n1 c1, .slice A2 bn c2] 27)).cell 0).trans rfl
                have hF11 := (hFz.below hb11 hFz.lt).alloc (.cells #[.slice A1 n1 c1, .slice A2 bn c2] 27)
                have hC11 := (hCt.belowAll hb11).belowAll (bbox (.cells #[.slice A1 n1 c1, .slice A2 bn c2] 27))
                have hD11 := (hDz.belowAll hb11).alloc (.cells #[.slice A1 n1 c1, .slice A2 bn c2] 27)
                have hbz11 := ballocs (bnext hbz' hb11) (.cells #[.slice A1 n1 c1, .slice A2 bn c2] 27)
                have hgw11 : g < (w11.alloc (.cells #[.slice A1 n1 c1, .slice A2 bn c2] 27)).heap.size := hD11.1.lt
                have hN11 := Blk.new w11 27 #[.slice A1 n1 c1, .slice A2 bn c2]
                have hJ1 := hI1.upto (bbox (.cells #[.slice A1 n1 c1, .slice A2 bn c2] 27))
                have hgwr : g < wr.heap.size := hDz.1.lt
                have h11 := hb11.size
                have HA1 : IntsA g g (w11.alloc (.cells #[.slice A1 n1 c1, .slice A2 bn c2] 27)) A1 n1 P := IntsA.of hJ1 (Nat.le_refl _) fun b o s e h0 hlt => by have := hn1 b o s e (by omega); omega
                have hbi : (bn : Int) ≤ (v : Int) := by omega
                have hpi : (n1 : Int) ≤ (kk : Int) := by omega
                have hDQ := Lib.hid hDq
                have HBD := Lib.hid hbad
                have HBN := Lib.hid hbn
                have HN1 := Lib.hid hn1e
                clear hbad hbn hDq hP1 hP2 hn1 hn2
                go_upto_region 25 with (first
                  | (go_at_call 25; (with_reducible refine (uradius_ok q kk _ hkk1.1 hkn (by omega)).mono ?_); rintro e w12 ⟨rfl, rfl⟩
                     rw [HVV.out])
                  | (go_at_call 15; (with_reducible refine (elements_any g A n c xs _ p kk _ hD11 hp (by omega)).mono ?_); rintro e w13 ⟨A8, c8, pl, q8, rfl, hO8, hQ8, hD8, hS8⟩
                     have HQA := Lib.hid hQ8
                     have hC13 := hC11.step hS8 hgW
                     have hK13 := hC13.cel
                     have hF13 := Step.block hS8 hF11 (by omega)
                     have hcf13 : w13.cell? ⟨F, 0, none⟩ = some (.int .i64 p) := (hF13.cell 0).trans rfl
                     have hI13 := hO8.ints
                     have hcap13 := hO8.cap
                     have hPL := Lib.hid hO8.len
                     have hbz13 := Step.below hbz11 hS8 hbz11.size hg
                     have hA13 := (HA1.kp ((KP.refl g g _).step hS8)).ints
                     have hN13 := Step.block hS8 hN11 (by omega))
                  | (go_at_call 31; (refine (ragree_ok p (some ⟨gM, 0, none⟩) N c10 tv ys A8 kk c8 pl _ HO.out hK13 (by omega) (by omega) HOT.out hI13 HQA.out hcap13 (by omega)).mono ?_); rintro e w14 ⟨⟨r, rfl, hr⟩, hb14⟩
                     rw [HQ3.out] at hr
                     have hbz14 := bnext hbz13 hb14
                     have hA14 := hA13.upto hb14
                     have hN14 := hN13.below hb14 hN13.lt
                     have hF14 := hF13.below hb14 hF13.lt
                     have hI14 := hI13.upto hb14
                     have hcf14 : w14.cell? ⟨F, 0, none⟩ = some (.int .i64 p) := (hF14.cell 0).trans rfl))
                obtain ⟨wl, hwl⟩ : ∃ wl, (wrL p pl (knL tv ys)).length = wl := ⟨_, rfl⟩
                rw [hwl] at hr
                have hsub : IntKind.i64.wrap ((q : Int) - (r : Int)) = (wl : Int) := by rw [IntWalk.i64_in _ (by omega)]; omega
                obtain ⟨tn1, htn⟩ : ∃ tn1, (trimL pl).length = tn1 := ⟨_, rfl⟩
                have HTN := Lib.hid htn
                have htk : tn1 ≤ kk := by rw [← htn]; exact Nat.le_trans (trimL_le_ pl) (by rw [hPL.out]; exact Nat.le_refl _)
                obtain ⟨D8, hD8⟩ : ∃ D8, w11.heap.size = D8 := ⟨_, rfl⟩
                clear htn
                by_cases hle : wl ≤ v
                · have hlei : (wl : Int) ≤ (v : Int) := by omega
                  have HSM : Hid (sameL P (trimL pl) = true) := Lib.hid (by
                    have h1 := DecOf.one HO.out hDQ.out (knL_apart (by rw [HTL.out, HVL.out]; omega)) (by have := HKN.out; omega) HQA.out (by rw [hPL.out]; exact Nat.le_refl _) (by rw [hwl, HQ3.out, HVV.out]; exact hle)
                    injection h1 with h1
                    exact sameL_iff.2 h1)
                  go_upto_region 29 with (go_at_call 28; (refine (rTrim_ok p A8 kk c8 pl _ HO.out hI14 HQA.out hcap13 (by omega)).mono ?_); rintro e w15 ⟨⟨A15, c15, rfl, hO15⟩, hb15⟩
                                          rw [HTN.out] at hO15
                                          rw [HTN.out]
                                          have hbz15 := bnext hbz14 hb15
                                          have hA15 := hA14.upto hb15
                                          have hI15 := hO15.ints
                                          have hN15 := hN14.below hb15 hN14.lt)
                  rw [hD8] at hN15
                  have hs0 : w15.cell? ⟨D8, 0, none⟩ = some (.slice A1 n1 c1) := (hN15.cell 0).trans rfl
                  have hs1 : w15.cell? ⟨D8, 1, none⟩ = some (.slice A2 bn c2) := (hN15.cell 1).trans rfl
                  go_wp2_with fail
                  go_at_call 24
                  refine (same_any A1 A15 n1 tn1 c1 c15 P (trimL pl) _ hA15 hI15 (by omega) (by omega)).mono ?_
                  rintro e w16 ⟨rfl, q1, rfl⟩
                  rw [HSM.out]
                  go_wp2_with fail
                  go_ret
                  exact ⟨rfl, below_drewN hbz15 q1⟩
                · have hlei : ¬ (wl : Int) ≤ (v : Int) := by omega
                  have hled : decide ((wl : Int) ≤ (v : Int)) = false := decide_eq_false hlei
                  have HSM : Hid (sameL P (trimL pl) = false) := Lib.hid (by
                    rw [Bool.eq_false_iff]
                    intro h1
                    have h2 := sameL_iff.1 h1
                    apply hle
                    have h3 := wrL_trim (P := pl) (l := knL tv ys) p hp.1
                    rw [← h2, HBD.out] at h3
                    rw [← hwl, ← h3, HBN.out]
                    omega)
                  go_upto_region 29 with (go_at_call 28; (refine (rTrim_ok p A8 kk c8 pl _ HO.out hI14 HQA.out hcap13 (by omega)).mono ?_); rintro e w15 ⟨⟨A15, c15, rfl, hO15⟩, hb15⟩
                                          rw [HTN.out] at hO15
                                          rw [HTN.out]
                                          have hbz15 := bnext hbz14 hb15
                                          have hA15 := hA14.upto hb15
                                          have hI15 := hO15.ints
                                          have hN15 := hN14.below hb15 hN14.lt)
                  rw [hD8] at hN15
                  have hs0 : w15.cell? ⟨D8, 0, none⟩ = some (.slice A1 n1 c1) := (hN15.cell 0).trans rfl
                  have hs1 : w15.cell? ⟨D8, 1, none⟩ = some (.slice A2 bn c2) := (hN15.cell 1).trans rfl
                  go_wp2_with fail
                  go_at_call 24
                  refine (same_any A1 A15 n1 tn1 c1 c15 P (trimL pl) _ hA15 hI15 (by omega) (by omega)).mono ?_
                  rintro e w16 ⟨rfl, q1, rfl⟩
                  rw [HSM.out]
                  go_wp2_with fail
                  go_ret
                  exact ⟨rfl, below_drewN hbz15 q1⟩
            · have HKN : Hid ((knL tv ys).length < kk) := Lib.hid (by rw [HQ3.out]; omega)
              have hkn1 : (q : Int) < (kk : Int) := by omega
              have hkn2 : q < kk := by omega
              go_wp2_with (go_at_call 18; (with_reducible refine (uDecode_few p (some ⟨gM, 0, none⟩) N c10 kk tv ys _ HO.out hKz (by omega) (by omega) HOT.out hkk1.1 hkk1.2 HKN.out hEz).mono ?_); rintro e w11 ⟨rfl, hb11⟩)
              go_ret
              exact ⟨rfl, ballocs (bnext hbz' hb11) _⟩
    · have hN10i : (10 : Int) < (N : Int) := by omega
      have hN10N : 10 < N := by omega
      go_enter Tryd.func6, Tryd.ntmps6
      go_wp2_with (first
        | (go_at_call 9; refine (sane09_any _ hW).mono ?_; rintro e w1 ⟨rfl, hb1⟩)
        | (go_at_call 10; refine (few_any A n c _).mono ?_; rintro e w' ⟨rfl, rfl⟩))
      go_ret
      exact ⟨rfl, hb1⟩
  · have hd : decide (n ≤ 500) = false := by simpa using hn
    go_enter Tryd.func6, Tryd.ntmps6
    go_wp2_with (first
      | (go_at_call 9; refine (sane09_any _ hW).mono ?_; rintro e w1 ⟨rfl, hb1⟩)
      | (go_at_call 10; refine (few_any A n c _).mono ?_; rintro e w' ⟨rfl, rfl⟩))
    go_ret
    exact ⟨rfl, hb1⟩
end Go.Proofs.YteipcjmkhacdgaaDoor
