/-
  ShareHides returns true: the walk of the law. Conditions: none beyond the reading of its arguments.
-/
import Derived.Test.YtieejgkheijgeaaHidesA
import Derived.Test.YtieejgkheijgeaaS07
import Derived.Test.YtieejgkheijgeaaShares3
import Derived.Test.YtieejgkheijgeaaPoly2
import Derived.Deep.QuietTactic
import Derived.Deep.OwnRows
import Derived.BigQuiet
import Derived.Deep.RegionHeld3
import Derived.Deep.DeepCutAuto
namespace Go.Proofs.Ytieejgkheijgeaa
open Go.RowKit
set_option linter.unusedVariables false

theorem hL_in (p : Int) (th : Nat) (s : Int) (ks : List Int) (T : Nat) : ∀ (n i : Nat), 0 ≤ (hL p th s ks T n).getD i 0 ∧ (hL p th s ks T n).getD i 0 ≤ (n : Int)
  | 0, i => by
    show 0 ≤ (List.replicate T (0 : Int)).getD i 0 ∧ (List.replicate T (0 : Int)).getD i 0 ≤ 0
    rw [List.getD_eq_getElem?_getD, List.getElem?_replicate]
    split <;> simp
  | n + 1, i => by
    have ih := hL_in p th s ks T n
    show 0 ≤ ((hL p th s ks T n).set (hF p th s ks n).toNat ((hL p th s ks T n).getD (hF p th s ks n).toNat 0 + 1)).getD i 0 ∧ ((hL p th s ks T n).set (hF p th s ks n).toNat ((hL p th s ks T n).getD (hF p th s ks n).toNat 0 + 1)).getD i 0 ≤ ((n + 1 : Nat) : Int)
    have h1 := ih i
    have h2 := ih (hF p th s ks n).toNat
    rw [List.getD_eq_getElem?_getD (l := (hL p th s ks T n).set _ _), List.getElem?_set]
    split
    · split
      · simp only [Option.getD_some]; omega
      · simp only [Option.getD_none]; omega
    · rw [← List.getD_eq_getElem?_getD]; omega
/-- A store into another block. -/
theorem OwnI.other {w : World} {base n c g1 g2 o : Nat} {e : TypeId} {xs : List Int} (h : OwnI w base e (some ⟨g2, 0, none⟩) n c xs) (hne : g1 ≠ g2) (v : Value) : OwnI (w.setCell ⟨g1, o, none⟩ v) base e (some ⟨g2, 0, none⟩) n c xs := by
  refine h.kept (row := some g1) ⟨rfl, rfl, rfl, by simp [World.setCell], fun k hk hh => Below.heap_setCell w ⟨g1, o, none⟩ v k (fun e => hh (by rw [e]))⟩ (.inr ?_)
  intro e
  injection e with e
  exact hne e.symm

set_option maxHeartbeats 6400000 in
set_option maxRecDepth 100000 in
theorem shareHides_walk (A : Option Addr) (n c : Nat) (zs : List Int) (small : Bool) (a_ b_ : Int) (w : World) (w0 : IsRow .i64 w A n c zs) (w2 : (Lit.int .u8 a_).wf = true) (w3 : (Lit.int .u8 b_).wf = true) :
    Calls Try.prog 6 #[.slice A n c, .bool small, .int .u8 a_, .int .u8 b_] w fun e w' => e = .returned (.bool true) ∧ Below w.heap.size w w' := by
  have ha : 0 ≤ a_ ∧ a_ ≤ 255 := by simpa [Lit.wf, IntKind.min, IntKind.max, IntKind.signed, IntKind.bits] using w2
  have hb : 0 ≤ b_ ∧ b_ ≤ 255 := by simpa [Lit.wf, IntKind.min, IntKind.max, IntKind.signed, IntKind.bits] using w3
  obtain ⟨h, hw⟩ := w0.ints
  generalize zs.take n = xs at h hw
  clear w0 w2 w3
  by_cases hn : n ≤ 500
  · have hd : decide (n ≤ 500) = true := by simpa using hn
    go_enter Try.func6, Try.ntmps6
    go_upto_region 7 with (first
      | (go_at_call 13; refine (sane07_any _).mono ?_; rintro e w1 ⟨rfl, hb1⟩)
      | (go_at_call 14; refine (few_any A n c _).mono ?_; rintro e w' ⟨rfl, rfl⟩)
      | (go_at_call 15; refine (new_any A n c xs _ (h.upto hb1) hn).mono ?_; rintro e w2 ⟨⟨g, rfl, hge, hD2⟩, hb2⟩
         have hbb2 := bnext hb1 hb2
         have hg : w.heap.size ≤ g := by rw [hge]; exact hb1.size
         have hF2 := Blk.new w2 28 #[.int .i64 5]
         have hD2' := hD2.alloc (.cells #[.int .i64 5] 28)
         have hbb2' := ballocs hbb2 (.cells #[.int .i64 5] 28)
         have hgf : g < w2.heap.size := hD2.1.lt
         have hc2 : (w2.alloc (.cells #[.int .i64 5] 28)).cell? ⟨w2.heap.size, 0, none⟩ = some (.int .i64 5) := (hF2.cell 0).trans rfl
         have hf2 := hF2.frozen 0
         clear hge))
    go_cut [41] (fun s wx => s = .bool small ∧ wx = w2.alloc (.cells #[.int .i64 5] 28))
    case first =>
      go_wp2
      go_meet
      case rel => exact ⟨rfl, rfl⟩
    case rest =>
      obtain ⟨rfl, rfl⟩ := hcut
      rename_i K2 hk2
      refine hk2 _ _ ?_
      clear hk2
      go_cut [42] (fun s wx => ∃ p : Nat, (p = 3 ∨ p = 5) ∧ Blk wx w2.heap.size 28 #[.int .i64 p] ∧ Deck wx g A n c xs 0 ∧ Below w.heap.size w wx)
      case first =>
        have hF2b := Blk.new w2 28 #[.int .i64 3]
        have hD2b := hD2.alloc (.cells #[.int .i64 3] 28)
        have hbb2b := ballocs hbb2 (.cells #[.int .i64 3] 28)
        cases small
        · go_wp2
          go_meet
          case rel => exact ⟨5, .inr rfl, hF2, hD2', hbb2'⟩
        · go_wp2
          go_meet
          case rel => exact ⟨3, .inl rfl, hF2b, hD2b, hbb2b⟩
      case rest =>
        obtain ⟨p, hp, hF3, hD3, hbb3⟩ := hcut
        obtain ⟨w3, hw3⟩ : ∃ w3, w3 = wc := ⟨_, rfl⟩
        subst hw3
        clear hF2 hD2' hbb2' hc2 hf2 hD2 hbb2 hb1 hb2
        have hpi : (p : Int) = 3 ∨ (p : Int) = 5 := by omega
        have hp2 : 2 ≤ (p : Int) ∧ (p : Int) ≤ 5 := by omega
        have hok : okP (p : Int) = true := by rcases hp with rfl | rfl <;> exact okP_known (by simp [isKnown])
        have HO := Lib.hid hok
        have hgf2 : w2.heap.size ≠ g := by omega
        obtain ⟨P1, hP1⟩ : ∃ P1 : Nat, p - 1 = P1 := ⟨_, rfl⟩
        have hP1w : IntKind.i64.wrap ((p : Int) - 1) = P1 := by rw [IntWalk.i64_in _ (by omega)]; omega
        have hP1b : 2 ≤ P1 ∧ P1 ≤ 4 ∧ (P1 : Int) < (p : Int) := by omega
        clear hok
        go_wp2_with (first
          | (go_at_call 17; refine (next_any g A n c xs 0 2 _ hD3 (by omega)).mono ?_; rintro e w4 ⟨r', q4, rfl, hr, hr0, hD4, hS4, hz4⟩
             obtain ⟨th, hth⟩ : ∃ th : Nat, 1 + r' = th := ⟨(1 + r').toNat, by have := hr (by omega); omega⟩
             have hth12 : th = 1 ∨ th = 2 := by have := hr (by omega); omega
             have hthw : IntKind.i64.wrap (1 + r') = th := by rw [hth]; exact IntWalk.i64_in _ (by omega)
             have hF4 := Step.block hS4 hF3 hgf2
             have hcF4 : w4.cell? ⟨w2.heap.size, 0, none⟩ = some (.int .i64 (p : Int)) := (hF4.cell 0).trans rfl
             have hbb4 := Step.below hbb3 hS4 hbb3.size hg
             clear hr hr0 hz4 hS4)
          | (go_at_call 20; (with_reducible refine (order_any g A n c xs q4 P1 _ hD4 (by omega)).mono ?_); rintro e w5 ⟨A5, c5, ks, q5, rfl, hown5, hord, hD5, hS5⟩
             have HK := Lib.hid hord
             have hF5 := Step.block hS5 hF4 hgf2
             have hcF5 : w5.cell? ⟨w2.heap.size, 0, none⟩ = some (.int .i64 (p : Int)) := (hF5.cell 0).trans rfl
             have hbb5 := Step.below hbb4 hS5 hbb4.size hg
             have hIk := hown5.ints
             have hcK := hown5.cap
             have hth2 : ¬ ((P1 : Int) < (th : Int)) := by omega
             have hth2N : ¬ P1 < th := by omega
             clear hord)
          | (go_at_call 25; (with_reducible refine (limits_ok (p : Int) th _ HO.out (by omega)).mono ?_); rintro e w6 ⟨⟨A6, c6, rfl, hown6⟩, hb6⟩
             have hF6 := hF5.below hb6 hF5.lt
             have hbb6 := bnext hbb5 hb6
             have hIl := hown6.ints
             have hIk6 := hIk.upto hb6)
          | (go_at_call 26; (with_reducible refine (rcount_ok (p : Int) th A6 c6 _ hpi hIl (by omega)).mono ?_); rintro e w' ⟨rfl, rfl⟩
             have hpw := powN_in hp2 th (by omega)
             obtain ⟨T, hT⟩ : ∃ T : Nat, powN (p : Int) th = T := ⟨(powN (p : Int) th).toNat, by omega⟩
             rw [hT]
             have HT := Lib.hid hT
             have hTb : 1 ≤ T ∧ T ≤ 25 := by omega
             clear hT hpw))
        have hbw := hbb6
        have hFw := hF6
        clear hF3 hF4 hF5 hF6 hcF4 hcF5 hD3 hD4 hD5 hS5 hbb3 hbb4 hbb5 hbb6 hown5 hown6 hb6 hIk
        go_cut [17, 18] (fun s17 s18 wx => ∃ g1 g2, g1 ≠ g2 ∧ s17 = .slice (some ⟨g1, 0, none⟩) T T ∧ s18 = .slice (some ⟨g2, 0, none⟩) T T ∧ Hid (OwnI wx w6.heap.size 3 (some ⟨g1, 0, none⟩) T T (List.replicate T 0)) ∧ Hid (OwnI wx w6.heap.size 3 (some ⟨g2, 0, none⟩) T T (List.replicate T 0)) ∧ Below w6.heap.size w6 wx)
        case first =>
          as_aux_lemma =>
            have hmk : ∀ w : World, (Instr.makeSlice 22 (.int .i64 (T : Int)) (.int .i64 (T : Int))).run Try.prog w = .ok (.slice (some ⟨w.heap.size, 0, none⟩) T T) (w.alloc (.cells (madeCells #[.int .i64 0] T) 3)) := fun w => run_make_row' 22 3 (.int .i64 0) 8 Try.underlying22 info_int rfl .i64 .i64 T (by omega) (by omega) w
            have HZC : Hid (madeCells #[.int .i64 0] T = (vals (List.replicate T 0)).toArray) := Lib.hid (by
              have := zeros_made T
              rw [Nat.mul_one] at this
              rw [← this]; rfl)
            obtain ⟨ZC, hZC⟩ : ∃ ZC, madeCells #[Value.int .i64 0] T = ZC := ⟨_, rfl⟩
            rw [hZC] at HZC hmk
            clear hZC
            go_region
            all_goals go_wp2
            all_goals go_meet
            all_goals
              have hO1 : OwnI ((w6.alloc (.cells ZC 3)).alloc (.cells ZC 3)).drew w6.heap.size 3 (some ⟨w6.heap.size, 0, none⟩) T T (List.replicate T 0) := OwnI.made (Nat.le_refl _) (by rw [← HZC.out]; exact Blk.drew ((Blk.new w6 3 ZC).alloc _)) (by simp) (by unfold maxLen; omega)
              have hO2 : OwnI ((w6.alloc (.cells ZC 3)).alloc (.cells ZC 3)).drew w6.heap.size 3 (some ⟨w6.heap.size + 1, 0, none⟩) T T (List.replicate T 0) := OwnI.made (Nat.le_succ _) (by rw [← HZC.out]; exact Blk.drew (Blk.new1 w6 _ 3 ZC)) (by simp) (by unfold maxLen; omega)
              have hBB : Below w6.heap.size w6 ((w6.alloc (.cells ZC 3)).alloc (.cells ZC 3)).drew := (ballocs (bbox _) _).drew
              first
                | exact ⟨_, _, (by omega : w6.heap.size ≠ w6.heap.size + 1), rfl, rfl, Lib.hid hO1, Lib.hid hO2, hBB⟩
                | exact ⟨_, _, (by omega : w6.heap.size + 1 ≠ w6.heap.size), rfl, rfl, Lib.hid hO2, Lib.hid hO1, hBB⟩
        case rest =>
          obtain ⟨g1, g2, hne, rfl, rfl, HO1, HO2, hbc⟩ := hcut
          have hsa : 0 ≤ a_ % (p : Int) ∧ a_ % (p : Int) < (p : Int) := ⟨Int.emod_nonneg _ (by omega), Int.emod_lt_of_pos _ (by omega)⟩
          have hsb : 0 ≤ b_ % (p : Int) ∧ b_ % (p : Int) < (p : Int) := ⟨Int.emod_nonneg _ (by omega), Int.emod_lt_of_pos _ (by omega)⟩
          obtain ⟨s1, hs1⟩ : ∃ s1, a_ % (p : Int) = s1 := ⟨_, rfl⟩
          obtain ⟨s2, hs2⟩ : ∃ s2, b_ % (p : Int) = s2 := ⟨_, rfl⟩
          rw [hs1] at hsa
          rw [hs2] at hsb
          have hs1t : a_.tmod (p : Int) = s1 := by rw [Int.tmod_eq_emod_of_nonneg (by omega)]; exact hs1
          have hs2t : b_.tmod (p : Int) = s2 := by rw [Int.tmod_eq_emod_of_nonneg (by omega)]; exact hs2
          have haw : IntKind.i64.wrap a_ = a_ := IntWalk.i64_in _ (by omega)
          have hbw' : IntKind.i64.wrap b_ = b_ := IntWalk.i64_in _ (by omega)
          have hp0 : ¬ (p : Int) = 0 := by omega
          have hp0n : ¬ p = 0 := by omega
          have HOR : Hid (IsOrder (p - 1) ks) := Lib.hid (by rw [hP1]; exact HK.out)
          have HH1 := Lib.hid (hides hp hth12 (by rw [HT.out]) hsa HOR.out)
          have HH2 := Lib.hid (hides hp hth12 (by rw [HT.out]) hsb HOR.out)
          have HPP : Hid ((p : Int).toNat - 1 = P1) := Lib.hid (by omega)
          have hthb : th ≤ 2 ∧ 1 ≤ th := by omega
          go_wp2_with fail
          go_loopw [19] (fun i wz => ∃ nn : Nat, nn ≤ T ∧ i = .int .i64 nn ∧ Hid (OwnI wz w6.heap.size 3 (some ⟨g1, 0, none⟩) T T (hL (p : Int) th s1 ks T nn)) ∧ Hid (OwnI wz w6.heap.size 3 (some ⟨g2, 0, none⟩) T T (hL (p : Int) th s2 ks T nn)) ∧ Below w6.heap.size w6 wz) (fun i _ => T - (intOf i).toNat)
          case atStart => exact ⟨0, Nat.zero_le _, rfl, HO1, HO2, hbc⟩
          case round =>
            obtain ⟨nn, hnn, rfl, HR1, HR2, hbz⟩ := hrel
            by_cases hlt : nn < T
            · have hnT : (nn : Int) < (T : Int) := by omega
              have hIlz := hIl.upto hbz
              have hPN : 0 ≤ (nn : Int) ∧ (nn : Int) < powN (p : Int) th := by rw [HT.out]; omega
              have hFz := hFw.below hbz hFw.lt
              have HDI : Hid (∀ i, i < th → 0 ≤ (digN (p : Int) nn th).getD i 0 ∧ (digN (p : Int) nn th).getD i 0 < (p : Int)) := Lib.hid fun i hi => by
                have hl := digN_len (p : Int) nn th
                rw [List.getD_eq_getElem?_getD, List.getElem?_eq_getElem (by omega)]
                exact digN_in (by omega) th _ (List.getElem_mem _)
              have HDTK : Hid ((digN (p : Int) nn th).take th = digN (p : Int) nn th) := Lib.hid (List.take_of_length_le (by rw [digN_len]; exact Nat.le_refl _))
              go_upto_region 22 with ((go_at_call 27; (with_reducible refine (tapeat_ok (p : Int) th A6 c6 (nn : Int) _ hpi hIlz hthb.1 hPN).mono ?_); rintro e w8 ⟨⟨D, dc, rfl, hown8⟩, hb8⟩))
              have hb68 := hbz.trans (hb8.mono hbz.size)
              have hbX := hb68.alloc hb68.size (.cells #[.slice D th dc, .int .i64 0] 33)
              have hXb := Blk.new w8 33 #[.slice D th dc, .int .i64 0]
              have hR1x := (HR1.out.belowAll hb8).alloc (.cells #[.slice D th dc, .int .i64 0] 33)
              have hR2x := (HR2.out.belowAll hb8).alloc (.cells #[.slice D th dc, .int .i64 0] 33)
              have hownX := hown8.alloc (.cells #[.slice D th dc, .int .i64 0] 33)
              obtain ⟨w10, hw10⟩ : ∃ w10, w10 = w8.alloc (.cells #[.slice D th dc, .int .i64 0] 33) := ⟨_, rfl⟩
              rw [← hw10] at hbX hXb hR1x hR2x hownX ⊢
              have hF10 := hFw.below hbX hFw.lt
              have hDI10 := hownX.ints
              have HXX : Hid (∀ wx, Below w10.heap.size w10 wx → wx.cell? ⟨w2.heap.size, 0, none⟩ = some (.int .i64 (p : Int)) ∧ wx.cell? ⟨w8.heap.size, 0, none⟩ = some (.slice D th dc) ∧ wx.cell? ⟨w8.heap.size, 1, none⟩ = some (.int .i64 0)) := Lib.hid fun wx hx => ⟨((hF10.below hx hF10.lt).cell 0).trans rfl, ((hXb.below hx hXb.lt).cell 0).trans rfl, ((hXb.below hx hXb.lt).cell 1).trans rfl⟩
              have HDT : Hid (∀ wx, Below w10.heap.size w10 wx → Ints wx wx.heap.size D th (digN (p : Int) nn th)) := Lib.hid fun wx hx => hDI10.upto hx
              clear hw10
              have hK0 : Below w10.heap.size w10 w10.drew := (Below.refl _ w10).drew
              have hKZ : Below w10.heap.size w10 (w10.alloc (.cells #[.slice none 0 0, .int .i64 0] 33)).drew := (bbox (.cells #[.slice none 0 0, .int .i64 0] 33)).drew
              go_cut [22, 23, 24] (fun s22 s23 s24 wx => ∃ A9 c9, s22 = .slice A9 P1 c9 ∧ s24 = .int .i64 0 ∧ Hid (OwnS wx w10.heap.size A9 P1 c9 (ptsL P1) (valsP (p : Int) (s1 :: digN (p : Int) nn th) (ptsL P1))) ∧ Below w10.heap.size w10 wx)
              case first =>
                as_aux_lemma =>
                  go_region_held3 (fun w' => w'.cell? ⟨w2.heap.size, 0, none⟩ = some (.int .i64 (p : Int)) ∧ w'.cell? ⟨w8.heap.size, 0, none⟩ = some (.slice D th dc) ∧ w'.cell? ⟨w8.heap.size, 1, none⟩ = some (.int .i64 0)) (first | exact HXX.out _ hK0 | exact HXX.out _ hKZ | exact HXX.out _ hC9 | exact HXX.out _ (hC9.alloc hC9.size _) | exact HXX.out _ ((hC9.setCell (p := ⟨_, 0, none⟩) hle _).setCell (p := ⟨_, 1, none⟩) hle _))
                    (first
                      | (go_at_call 18; (with_reducible refine (split_ok (p : Int) s1 th P1 D th dc (digN (p : Int) nn th) _ HO.out hsa (by first | exact HDT.out _ hK0 | exact HDT.out _ hKZ) (by omega) (by omega) (Nat.le_refl _) HDI.out (by omega) (by omega)).mono ?_); rintro e w9 ⟨⟨A9, c9, T9, tc9, rfl, hoS9⟩, hb9⟩
                         rw [HDTK.out] at hoS9
                         have hC9 : Below w10.heap.size w10 w9 := by first | exact bnext hK0 hb9 | exact bnext hKZ hb9
                         have hle9 := hC9.size
                         first
                           | (have hbx : w10.heap.size < (w10.alloc (.cells #[.slice none 0 0, .int .i64 0] 33)).drew.heap.size := (Blk.new w10 33 #[.slice none 0 0, .int .i64 0]).lt
                              have hBx : Blk w9 w10.heap.size 33 #[.slice none 0 0, .int .i64 0] := (Blk.drew (Blk.new w10 33 #[.slice none 0 0, .int .i64 0])).below hb9 hbx
                              have hle : w10.heap.size ≤ w10.heap.size := Nat.le_refl _
                              have hoS9' := hoS9.step (((Step.refl w10.heap.size w9).set 0 (.slice T9 th tc9)).set 1 (.int .i64 (th : Int))) hbx
                              have hx0 := (hBx.cell 0).trans rfl
                              have hx1 := (hBx.cell 1).trans rfl
                              have hxf0 := hBx.frozen 0
                              have hxf1 := hBx.frozen 1)
                           | (have hle : w10.heap.size ≤ w9.heap.size := hle9)))
                  all_goals go_wp2_with fail
                  all_goals go_meet
                  all_goals first
                    | exact ⟨A9, c9, rfl, rfl, Lib.hid (hoS9'.base (by first | exact Nat.le_refl _ | (simp; done) | (simp; omega))), (hC9.setCell (p := ⟨_, 0, none⟩) hle _).setCell (p := ⟨_, 1, none⟩) hle _⟩
                    | exact ⟨A9, c9, rfl, rfl, Lib.hid ((hoS9.belowAll (bbox _)).base (by first | exact Nat.le_refl _ | (simp; done) | (simp; omega))), hC9.alloc hC9.size _⟩
              case rest =>
                obtain ⟨A9, c9, rfl, rfl, HS1, hb9c⟩ := hcut
                obtain ⟨w11, hw11⟩ : ∃ w11, w11 = wc := ⟨_, rfl⟩
                subst hw11
                have HXX1 : Hid (∀ wx, Below w11.heap.size w11 wx → wx.cell? ⟨w2.heap.size, 0, none⟩ = some (.int .i64 (p : Int)) ∧ wx.cell? ⟨w8.heap.size, 0, none⟩ = some (.slice D th dc) ∧ wx.cell? ⟨w8.heap.size, 1, none⟩ = some (.int .i64 0)) := Lib.hid fun wx hx => HXX.out wx (bnext hb9c hx)
                have HDT1 : Hid (∀ wx, Below w11.heap.size w11 wx → Ints wx wx.heap.size D th (digN (p : Int) nn th)) := Lib.hid fun wx hx => HDT.out wx (bnext hb9c hx)
                clear HXX HDT
                obtain ⟨HXX, HDT⟩ := And.intro HXX1 HDT1
                clear HXX1 HDT1 hK0 hKZ
                go_upto_region 23 with fail
                have hK0 : Below w11.heap.size w11 w11.drew := (Below.refl _ w11).drew
                have hKZ : Below w11.heap.size w11 (w11.alloc (.cells #[.slice none 0 0, .int .i64 0] 33)).drew := (bbox (.cells #[.slice none 0 0, .int .i64 0] 33)).drew
                go_cut [25, 26, 27] (fun s22 s23 s24 wx => ∃ A9 c9, s22 = .slice A9 P1 c9 ∧ s24 = .int .i64 0 ∧ Hid (OwnS wx w11.heap.size A9 P1 c9 (ptsL P1) (valsP (p : Int) (s2 :: digN (p : Int) nn th) (ptsL P1))) ∧ Below w11.heap.size w11 wx)
                case first =>
                  as_aux_lemma =>
                    go_region_held3 (fun w' => w'.cell? ⟨w2.heap.size, 0, none⟩ = some (.int .i64 (p : Int)) ∧ w'.cell? ⟨w8.heap.size, 0, none⟩ = some (.slice D th dc) ∧ w'.cell? ⟨w8.heap.size, 1, none⟩ = some (.int .i64 0)) (first | exact HXX.out _ hK0 | exact HXX.out _ hKZ | exact HXX.out _ hC9 | exact HXX.out _ (hC9.alloc hC9.size _) | exact HXX.out _ ((hC9.setCell (p := ⟨_, 0, none⟩) hle _).setCell (p := ⟨_, 1, none⟩) hle _))
                      (first
                        | (go_at_call 18; (with_reducible refine (split_ok (p : Int) s2 th P1 D th dc (digN (p : Int) nn th) _ HO.out hsb (by first | exact HDT.out _ hK0 | exact HDT.out _ hKZ) (by omega) (by omega) (Nat.le_refl _) HDI.out (by omega) (by omega)).mono ?_); rintro e w9 ⟨⟨A9, c9, T9, tc9, rfl, hoS9⟩, hb9⟩
                           rw [HDTK.out] at hoS9
                           have hC9 : Below w11.heap.size w11 w9 := by first | exact bnext hK0 hb9 | exact bnext hKZ hb9
                           have hle9 := hC9.size
                           first
                             | (have hbx : w11.heap.size < (w11.alloc (.cells #[.slice none 0 0, .int .i64 0] 33)).drew.heap.size := (Blk.new w11 33 #[.slice none 0 0, .int .i64 0]).lt
                                have hBx : Blk w9 w11.heap.size 33 #[.slice none 0 0, .int .i64 0] := (Blk.drew (Blk.new w11 33 #[.slice none 0 0, .int .i64 0])).below hb9 hbx
                                have hle : w11.heap.size ≤ w11.heap.size := Nat.le_refl _
                                have hoS9' := hoS9.step (((Step.refl w11.heap.size w9).set 0 (.slice T9 th tc9)).set 1 (.int .i64 (th : Int))) hbx
                                have hx0 := (hBx.cell 0).trans rfl
                                have hx1 := (hBx.cell 1).trans rfl
                                have hxf0 := hBx.frozen 0
                                have hxf1 := hBx.frozen 1)
                             | (have hle : w11.heap.size ≤ w9.heap.size := hle9)))
                    all_goals go_wp2_with fail
                    all_goals go_meet
                    all_goals first
                      | exact ⟨A9, c9, rfl, rfl, Lib.hid (hoS9'.base (by first | exact Nat.le_refl _ | (simp; done) | (simp; omega))), (hC9.setCell (p := ⟨_, 0, none⟩) hle _).setCell (p := ⟨_, 1, none⟩) hle _⟩
                      | exact ⟨A9, c9, rfl, rfl, Lib.hid ((hoS9.belowAll (bbox _)).base (by first | exact Nat.le_refl _ | (simp; done) | (simp; omega))), hC9.alloc hC9.size _⟩
                case rest =>
                  obtain ⟨A10, c10, rfl, rfl, HS2, hb10c⟩ := hcut
                  obtain ⟨w12, hw12⟩ : ∃ w12, w12 = wc := ⟨_, rfl⟩
                  subst hw12
                  have hbA := bnext hb9c hb10c
                  have hbX12 := hbX.trans (hbA.mono hbX.size)
                  have hR1y := hR1x.belowAll hbA
                  have hR2y := hR2x.belowAll hbA
                  have hS1 := (HS1.out.belowAll hb10c).sh
                  have hS2 := HS2.out.sh
                  have hF12 := hFw.below hbX12 hFw.lt
                  have hcF12 : w12.cell? ⟨w2.heap.size, 0, none⟩ = some (.int .i64 (p : Int)) := (hF12.cell 0).trans rfl
                  have hIk12 := hIk6.upto hbX12
                  obtain ⟨y1, HY1⟩ : ∃ y1, Hid (valsP (p : Int) (s1 :: digN (p : Int) nn th) (ptsL P1) = y1) := ⟨_, Lib.hid rfl⟩
                  obtain ⟨y2, HY2⟩ : ∃ y2, Hid (valsP (p : Int) (s2 :: digN (p : Int) nn th) (ptsL P1) = y2) := ⟨_, Lib.hid rfl⟩
                  rw [HY1.out] at hS1
                  rw [HY2.out] at hS2
                  have HYI1 : Hid (∀ k, k < P1 → 0 ≤ y1.getD k 0 ∧ y1.getD k 0 < (p : Int)) := Lib.hid fun k hk => by rw [← HY1.out, valsP_at _ _ _ (by rw [ptsL_len]; exact hk)]; exact valueP_in (by omega) _ _
                  have HYI2 : Hid (∀ k, k < P1 → 0 ≤ y2.getD k 0 ∧ y2.getD k 0 < (p : Int)) := Lib.hid fun k hk => by rw [← HY2.out, valsP_at _ _ _ (by rw [ptsL_len]; exact hk)]; exact valueP_in (by omega) _ _
                  have HU1 : Hid (uSo (p : Int) y1 ks th = hF (p : Int) th s1 ks nn) := Lib.hid (by unfold hF; rw [HPP.out, HY1.out])
                  have HU2 : Hid (uSo (p : Int) y2 ks th = hF (p : Int) th s2 ks nn) := Lib.hid (by unfold hF; rw [HPP.out, HY2.out])
                  have hb1u := HH1.out.1 nn hlt
                  have hb2u := HH2.out.1 nn hlt
                  rw [← HU1.out] at hb1u
                  rw [← HU2.out] at hb2u
                  have hthP : (th : Int) ≤ (c5 : Int) := by omega
                  have hth0 : (0 : Int) ≤ (th : Int) := by omega
                  have hthv : IntKind.i64.wrap (th : Int) = th := IntWalk.i64_in _ (by omega)
                  as_aux_lemma =>
                    clear HXX HDT hb9c hb10c hbA hR1x hR2x HS1 HS2 hbX hXb hF10 hDI10 hownX hb68 hb8 hown8
                    go_wp2_with fail
                    go_loopw [28, 29, 145] (fun u v i wz => ∃ (t q : Nat) (u1 v1 : Int), t ≤ th ∧ i = .int .i64 t ∧ u = .int .i64 u1 ∧ v = .int .i64 v1 ∧ Hid (uSo (p : Int) y1 ks t = u1) ∧ Hid (uSo (p : Int) y2 ks t = v1) ∧ (0 ≤ u1 ∧ u1 ≤ 100 ∧ 0 ≤ v1 ∧ v1 ≤ 100) ∧ wz = w12.drewN q) (fun _ _ i _ => th - (intOf i).toNat)
                    case atStart => exact ⟨0, 0, 0, 0, Nat.zero_le _, rfl, rfl, rfl, Lib.hid rfl, Lib.hid rfl, by omega, rfl⟩
                    case round =>
                      obtain ⟨t, q, u1, v1, ht, rfl, rfl, rfl, HUu, HUv, hub, rfl⟩ := hrel
                      by_cases hltt : t < th
                      · obtain ⟨b3, o3, rfl, hb3, hc3⟩ := hIk12.2 (by omega)
                        obtain ⟨b4, o4, rfl, hb4, hc4⟩ := hS1.2.2 (by omega)
                        obtain ⟨b5, o5, rfl, hb5, hc5⟩ := hS2.2.2 (by omega)
                        obtain ⟨kk, hkk, hkP⟩ := order_at HK.out (m := t) (by omega)
                        have hck := hc3 t (by omega)
                        rw [hkk] at hck
                        have hcy1 := (hc4 kk hkP).2
                        have hcy2 := (hc5 kk hkP).2
                        clear hc3 hc4 hc5
                        have hyb1 := HYI1.out kk hkP
                        have hyb2 := HYI2.out kk hkP
                        have HN1 : Hid (uSo (p : Int) y1 ks (t + 1) = u1 * (p : Int) + y1.getD kk 0) := Lib.hid (by show uSo (p : Int) y1 ks t * (p : Int) + y1.getD (ks.getD t 0).toNat 0 = _; rw [HUu.out, hkk]; rfl)
                        have HN2 : Hid (uSo (p : Int) y2 ks (t + 1) = v1 * (p : Int) + y2.getD kk 0) := Lib.hid (by show uSo (p : Int) y2 ks t * (p : Int) + y2.getD (ks.getD t 0).toNat 0 = _; rw [HUv.out, hkk]; rfl)
                        obtain ⟨ya, HYa⟩ : ∃ ya, Hid (y1.getD kk 0 = ya) := ⟨_, Lib.hid rfl⟩
                        obtain ⟨yb, HYb⟩ : ∃ yb, Hid (y2.getD kk 0 = yb) := ⟨_, Lib.hid rfl⟩
                        rw [HYa.out] at hcy1 hyb1 HN1
                        rw [HYb.out] at hcy2 hyb2 HN2
                        have HUB : Hid (t = 0 → u1 = 0 ∧ v1 = 0) := Lib.hid fun e => by subst e; exact ⟨HUu.out.symm, HUv.out.symm⟩
                        have hU5 : Hid (t = 1 → u1 < 5 ∧ v1 < 5) := Lib.hid fun e => by
                          subst e
                          obtain ⟨k0, e0, l0⟩ := order_at HK.out (m := 0) (by omega)
                          have g1 : uSo (p : Int) y1 ks 1 = 0 * (p : Int) + y1.getD k0 0 := by show 0 * (p : Int) + y1.getD (ks.getD 0 0).toNat 0 = _; rw [e0]; rfl
                          have g2 : uSo (p : Int) y2 ks 1 = 0 * (p : Int) + y2.getD k0 0 := by show 0 * (p : Int) + y2.getD (ks.getD 0 0).toNat 0 = _; rw [e0]; rfl
                          have h1 := HYI1.out k0 l0
                          have h2 := HYI2.out k0 l0
                          rw [← HUu.out, ← HUv.out, g1, g2]
                          omega
                        have hu5 : u1 < 5 ∧ v1 < 5 := by
                          rcases (by omega : t = 0 ∨ t = 1) with e | e
                          · have := HUB.out e; omega
                          · exact hU5.out e
                        have hup : 0 ≤ u1 * (p : Int) ∧ u1 * (p : Int) ≤ 25 := ⟨Int.mul_nonneg hub.1 (by omega), by have := Int.mul_le_mul (show u1 ≤ 5 by omega) (show (p : Int) ≤ 5 by omega) (by omega) (by omega); omega⟩
                        have hvp : 0 ≤ v1 * (p : Int) ∧ v1 * (p : Int) ≤ 25 := ⟨Int.mul_nonneg hub.2.2.1 (by omega), by have := Int.mul_le_mul (show v1 ≤ 5 by omega) (show (p : Int) ≤ 5 by omega) (by omega) (by omega); omega⟩
                        have hq1 : IntKind.i64.wrap (u1 * (p : Int)) = u1 * (p : Int) := IntWalk.i64_in _ (by omega)
                        have hq2 : IntKind.i64.wrap (u1 * (p : Int) + ya) = u1 * (p : Int) + ya := IntWalk.i64_in _ (by omega)
                        have hq3 : IntKind.i64.wrap (v1 * (p : Int)) = v1 * (p : Int) := IntWalk.i64_in _ (by omega)
                        have hq4 : IntKind.i64.wrap (v1 * (p : Int) + yb) = v1 * (p : Int) + yb := IntWalk.i64_in _ (by omega)
                        have hk0 : (0 : Int) ≤ (kk : Int) := by omega
                        have hkPi : (kk : Int) < (P1 : Int) := by omega
                        have ht0 : (0 : Int) ≤ (t : Int) := by omega
                        have htt : (t : Int) < (th : Int) := by omega
                        have hnb : 0 ≤ u1 * (p : Int) + ya ∧ u1 * (p : Int) + ya ≤ 100 ∧ 0 ≤ v1 * (p : Int) + yb ∧ v1 * (p : Int) + yb ≤ 100 := by omega
                        go_wp2_with fail
                        go_quiet (fail)
                        go_wp2
                        go_roundw
                        case rel => exact ⟨t + 1, _, u1 * (p : Int) + ya, v1 * (p : Int) + yb, by omega, by go_num, rfl, rfl, HN1, HN2, hnb, rfl⟩
                        case measure => simp [intOf]; omega
                      · obtain rfl : th = t := by omega
                        rw [HUu.out] at hb1u
                        rw [HUv.out] at hb2u
                        obtain ⟨U, rfl⟩ : ∃ U : Nat, u1 = U := ⟨u1.toNat, by omega⟩
                        obtain ⟨V, rfl⟩ : ∃ V : Nat, v1 = V := ⟨v1.toNat, by omega⟩
                        have hUT : U < T := by omega
                        have hVT : V < T := by omega
                        have hUTi : (U : Int) < (T : Int) := by omega
                        have hVTi : (V : Int) < (T : Int) := by omega
                        have hU0 : (0 : Int) ≤ (U : Int) := by omega
                        have hV0 : (0 : Int) ≤ (V : Int) := by omega
                        have hU0n : ¬ ((U : Int) < 0) := by omega
                        have hV0n : ¬ ((V : Int) < 0) := by omega
                        have hUTn : ¬ ((T : Int) ≤ (U : Int)) := by omega
                        have hVTn : ¬ ((T : Int) ≤ (V : Int)) := by omega
                        have hUTm : ¬ T ≤ U := by omega
                        have hVTm : ¬ T ≤ V := by omega
                        obtain ⟨w13, hw13⟩ : ∃ w13, w13 = w12.drewN q := ⟨_, rfl⟩
                        rw [← hw13]
                        have hR1a : OwnI w13 w6.heap.size 3 (some ⟨g1, 0, none⟩) T T (hL (p : Int) th s1 ks T nn) := by rw [hw13]; exact hR1y.drewN q
                        have hR2a : OwnI w13 w6.heap.size 3 (some ⟨g2, 0, none⟩) T T (hL (p : Int) th s2 ks T nn) := by rw [hw13]; exact hR2y.drewN q
                        have hbY : Below w6.heap.size w6 w13 := by rw [hw13]; exact below_drewN hbX12 q
                        have hg1 := hR1a.row g1 rfl
                        have hg2 := hR2a.row g2 rfl
                        obtain ⟨x1, HX1⟩ : ∃ x1, Hid ((hL (p : Int) th s1 ks T nn).getD U 0 = x1) := ⟨_, Lib.hid rfl⟩
                        obtain ⟨x2, HX2⟩ : ∃ x2, Hid ((hL (p : Int) th s2 ks T nn).getD V 0 = x2) := ⟨_, Lib.hid rfl⟩
                        have hx1 := hL_in (p : Int) th s1 ks T nn U
                        have hx2 := hL_in (p : Int) th s2 ks T nn V
                        rw [HX1.out] at hx1
                        rw [HX2.out] at hx2
                        have hcx1 := hR1a.cellAt hUT
                        rw [HX1.out] at hcx1
                        have hfx1 := hR1a.frozenAt U
                        have hx1w : IntKind.i64.wrap (x1 + 1) = x1 + 1 := IntWalk.i64_in _ (by omega)
                        have hx2w : IntKind.i64.wrap (x2 + 1) = x2 + 1 := IntWalk.i64_in _ (by omega)
                        have hR1b := hR1a.stored U (x1 + 1)
                        have hR2b := hR2a.other (o := U) hne (.int .i64 (x1 + 1))
                        have hcx2 := hR2b.cellAt hVT
                        rw [HX2.out] at hcx2
                        have hfx2 := hR2b.frozenAt V
                        have hR2c := hR2b.stored V (x2 + 1)
                        have hR1c := hR1b.other (o := V) hne.symm (.int .i64 (x2 + 1))
                        have hbZ := (hbY.setCell (p := ⟨g1, U, none⟩) hg1 (.int .i64 (x1 + 1))).setCell (p := ⟨g2, V, none⟩) hg2 (.int .i64 (x2 + 1))
                        have HE1 : Hid ((hL (p : Int) th s1 ks T nn).set U (x1 + 1) = hL (p : Int) th s1 ks T (nn + 1)) := Lib.hid (by
                          show _ = (hL (p : Int) th s1 ks T nn).set _ _
                          rw [← HU1.out, HUu.out, Int.toNat_natCast, HX1.out])
                        have HE2 : Hid ((hL (p : Int) th s2 ks T nn).set V (x2 + 1) = hL (p : Int) th s2 ks T (nn + 1)) := Lib.hid (by
                          show _ = (hL (p : Int) th s2 ks T nn).set _ _
                          rw [← HU2.out, HUv.out, Int.toNat_natCast, HX2.out])
                        have HRZ1 := Lib.hid (show OwnI _ w6.heap.size 3 (some ⟨g1, 0, none⟩) T T (hL (p : Int) th s1 ks T (nn + 1)) from HE1.out ▸ hR1c)
                        have HRZ2 := Lib.hid (show OwnI _ w6.heap.size 3 (some ⟨g2, 0, none⟩) T T (hL (p : Int) th s2 ks T (nn + 1)) from HE2.out ▸ hR2c)
                        clear hw13 hR1a hR2a hR1b hR2b hR1c hR2c hub hb1u hb2u hS1 hS2 hIk12 hR1y hR2y
                        go_wp2
                        go_roundw
                        case rel => exact ⟨nn + 1, by omega, by go_num, HRZ1, HRZ2, hbZ⟩
                        case measure => simp [intOf]; omega
            · obtain rfl : nn = T := by omega
              as_aux_lemma =>
                have hA1 := HR1.out
                have hA2 := HR2.out
                rw [HH1.out.2] at hA1
                rw [HH2.out.2] at hA2
                have hone : ∀ j, j < nn → (List.replicate nn (1 : Int)).getD j 0 = 1 := fun j hj => by rw [List.getD_eq_getElem?_getD, List.getElem?_replicate, if_pos hj]; rfl
                have HC1 : Hid (∀ j, j < nn → wr.cell? ⟨g1, j, none⟩ = some (.int .i64 1)) := Lib.hid fun j hj => by rw [hA1.cellAt hj, hone j hj]
                have HC2 : Hid (∀ j, j < nn → wr.cell? ⟨g2, j, none⟩ = some (.int .i64 1)) := Lib.hid fun j hj => by rw [hA2.cellAt hj, hone j hj]
                have hbE := bnext hbw hbz
                clear hone hA1 hA2 HR1 HR2
                go_wp2
                go_loopw [200] (fun i wz => ∃ j : Nat, j ≤ nn ∧ i = .int .i64 j ∧ wz = wr) (fun i _ => nn - (intOf i).toNat)
                case atStart => exact ⟨0, Nat.zero_le _, rfl, rfl⟩
                case round =>
                  rename_i wy
                  obtain ⟨j, hj, rfl, rfl⟩ := hrel
                  by_cases hltj : j < nn
                  · have hcj1 := HC1.out j hltj
                    have hcj2 := HC2.out j hltj
                    have hj0 : (0 : Int) ≤ (j : Int) := by omega
                    have hjn : (j : Int) < (nn : Int) := by omega
                    go_wp2
                    go_roundw
                    case rel => exact ⟨j + 1, by omega, by go_num, trivial⟩
                    case measure => simp [intOf]; omega
                  · obtain rfl : j = nn := by omega
                    go_wp2
                    go_ret
                    exact ⟨rfl, hbE⟩
  · have hd : decide (n ≤ 500) = false := by simpa using hn
    go_enter Try.func6, Try.ntmps6
    go_wp2_with (first
      | (go_at_call 13; refine (sane07_any _).mono ?_; rintro e w1 ⟨rfl, hb1⟩)
      | (go_at_call 14; refine (few_any A n c _).mono ?_; rintro e w' ⟨rfl, rfl⟩))
    go_ret
    exact ⟨rfl, hb1⟩
end Go.Proofs.Ytieejgkheijgeaa
