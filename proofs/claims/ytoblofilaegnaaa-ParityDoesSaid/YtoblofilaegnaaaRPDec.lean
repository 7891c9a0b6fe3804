/-
  What the second form's Decode of parity hands back for any arguments, and its comparison of equal rows. Conditions: the answers read as their marks and rows.
-/
import Derived.Test.YtoblofilaegnaaaPDecAll
import Derived.Test.YtoblofilaegnaaaRComb
import Derived.Test.YtoblofilaegnaaaSame
namespace Go.Proofs.Ytoblofilaegnaaa
open Go.RowKit
set_option linter.unusedVariables false
set_option maxRecDepth 100000 in
theorem rpdec_field (p : Int) (L : Option Addr) (s c : Nat) (wd : Int) (w : World) (hok : okP p = false) :
    Calls Try.prog 90 #[.agg #[.int .i64 p], .int .i64 wd, .slice L s c] w (FetPost ([], 9) w) := by
  have HO := Lib.hid hok
  have hb0 : Below w.heap.size w ((w.alloc (.cells #[.int .i64 p] 24)).alloc (.cells #[.slice none 0 0, .slice none 0 0] 99)) := ballocs (bbox _) _
  have hR0 := Blk.new1 w (.cells #[.int .i64 p] 24) 99 #[.slice none 0 0, .slice none 0 0]
  have hF0 := (Blk.new w 24 #[.int .i64 p]).alloc (.cells #[.slice none 0 0, .slice none 0 0] 99)
  clear hok
  go_enter Try.func90, Try.ntmps90
  go_wp2_with (go_at_call 128; refine (check_no p _ HO.out).mono ?_; rintro e w1 ⟨rfl, hb1⟩
               have hbb1 := bnext hb0 hb1
               have hR1 := hR0.below hb1 hR0.lt
               have hx0 := (hR1.cell 0).trans rfl
               have hx1 := (hR1.cell 1).trans rfl
               have hz0' := hR1.frozen 0
               have hz1' := hR1.frozen 1
               clear hb1 hR0 hb0)
  have hB' := blk_two2 (v0 := .slice none 0 0) (v1 := .slice none 0 0) hR1
  have hy0 := (hB'.cell 0).trans rfl
  have hy1 := (hB'.cell 1).trans rfl
  exact bodyPost_ret (v := .tuple #[.agg #[.slice none 0 0, .slice none 0 0], .int .i64 9]) (by simp [results, Try.results90, go_sem, hy0, hy1]) rfl ⟨⟨none, 0, 0, rfl, OwnI.nil_⟩, below_two2 hbb1 (by omega) _ _⟩
set_option maxRecDepth 100000 in
theorem rpdec_size (p : Int) (L : Option Addr) (s c : Nat) (wd : Int) (w : World) (hok : okP p = true) (hsz : wd < 0 ∨ 64 < wd ∨ s < 2 ∨ 10 < s) :
    Calls Try.prog 90 #[.agg #[.int .i64 p], .int .i64 wd, .slice L s c] w (FetPost ([], 4) w) := by
  have HO := Lib.hid hok
  have HBD := Lib.hid (bad_len hsz)
  have hb0 : Below w.heap.size w ((w.alloc (.cells #[.int .i64 p] 24)).alloc (.cells #[.slice none 0 0, .slice none 0 0] 99)) := ballocs (bbox _) _
  have hR0 := Blk.new1 w (.cells #[.int .i64 p] 24) 99 #[.slice none 0 0, .slice none 0 0]
  have hF0 := (Blk.new w 24 #[.int .i64 p]).alloc (.cells #[.slice none 0 0, .slice none 0 0] 99)
  clear hok hsz
  rcases HBD.out with h1 | ⟨h1, h2⟩ | ⟨h1, h2, h3⟩ | ⟨h1, h2, h3, h4⟩
  all_goals
    go_enter Try.func90, Try.ntmps90
    go_wp2_with (go_at_call 128; refine (check_yes p _ HO.out).mono ?_; rintro e w1 ⟨rfl, hb1⟩
                 have hbb1 := bnext hb0 hb1
                 have hR1 := hR0.below hb1 hR0.lt
                 have hx0 := (hR1.cell 0).trans rfl
                 have hx1 := (hR1.cell 1).trans rfl
                 have hz0' := hR1.frozen 0
                 have hz1' := hR1.frozen 1
                 clear hb1 hR0 hb0)
    have hB' := blk_two2 (v0 := .slice none 0 0) (v1 := .slice none 0 0) hR1
    have hy0 := (hB'.cell 0).trans rfl
    have hy1 := (hB'.cell 1).trans rfl
    exact bodyPost_ret (v := .tuple #[.agg #[.slice none 0 0, .slice none 0 0], .int .i64 4]) (by simp [results, Try.results90, go_sem, hy0, hy1]) rfl ⟨⟨none, 0, 0, rfl, OwnI.nil_⟩, below_two2 hbb1 (by omega) _ _⟩
set_option maxRecDepth 100000 in
set_option maxHeartbeats 8000000 in
theorem rpdec_yes (p : Int) (L : Option Addr) (s c wd : Nat) (ks : List Bool) (rows : List (List Int)) (w : World) (hok : okP p = true) (hA : Ans w w.heap.size L s ks rows) (hs : 2 ≤ s ∧ s ≤ 10) (hw : wd ≤ 64) :
    Calls Try.prog 90 #[.agg #[.int .i64 p], .int .i64 wd, .slice L s c] w (FetPost (if firstE (ansE p wd ks rows) s = 0 then (plusL p wd rows, 0) else ([], firstE (ansE p wd ks rows) s)) w) := by
  obtain ⟨i0, hi0, hz0, hz1, hz2⟩ := info_parts info_int
  have hp := okP_pos hok
  have HO := Lib.hid hok
  have HL := Lib.hid hA.2.1
  have h1 : ¬ (wd : Int) < 0 := by omega
  have h2 : ¬ (64 : Int) < (wd : Int) := by omega
  have h3 : ¬ (s : Int) < 2 := by omega
  have h4 : ¬ (10 : Int) < (s : Int) := by omega
  have hb0 : Below w.heap.size w ((w.alloc (.cells #[.int .i64 p] 24)).alloc (.cells #[.slice none 0 0, .slice none 0 0] 99)) := ballocs (bbox _) _
  have hR0 := Blk.new1 w (.cells #[.int .i64 p] 24) 99 #[.slice none 0 0, .slice none 0 0]
  have hF0 := (Blk.new w 24 #[.int .i64 p]).alloc (.cells #[.slice none 0 0, .slice none 0 0] 99)
  have HIF : Hid (∀ row, inF p row = allP p row) := Lib.hid fun row => by
    cases ha : allP p row
    · cases hb : inF p row
      · rfl
      · rw [(inF_iff.1 hb).2] at ha; cases ha
    · exact inF_iff.2 ⟨HO.out, ha⟩
  clear hok
  generalize hRS : (if firstE (ansE p wd ks rows) s = 0 then (plusL p wd rows, 0) else ([], firstE (ansE p wd ks rows) s)) = RS
  have HF : Hid (∀ k, k < s → firstE (ansE p wd ks rows) k = 0 → ansE p wd ks rows k ≠ 0 → RS = ([], ansE p wd ks rows k)) := Lib.hid fun k hk h0 h1 => by
    have := firstE_at h0 h1 s hk
    rw [← hRS, this, if_neg h1]
  have HG : Hid (firstE (ansE p wd ks rows) s = 0 → RS = (plusL p wd rows, 0)) := Lib.hid fun h => by rw [← hRS, if_pos h]
  clear hRS
  go_enter Try.func90, Try.ntmps90
  go_wp2_with (first
    | (go_at_call 128; refine (check_yes p _ HO.out).mono ?_; rintro e w1 ⟨rfl, hb1⟩; have hbb1 := bnext hb0 hb1; have hR1 := hR0.below hb1 hR0.lt; have hF1 := hF0.below hb1 hF0.lt; have hR1l := hR1.lt; clear hb1 hR0 hb0 hF0)
    | (at_make
       refine wpList_make_full _ rfl _ _ 22 rfl (w.heap.size + 2) 3 i0 (.int .i64 0) 1 Try.underlying22 hi0 hz0 hz1 .i64 .i64 wd wd wd rfl rfl rfl rfl (by rw [hz2]; omega) (by unfold maxLen; omega) (by omega) ?_
       intro w2 hown hgr
       have hown2 : OwnI w2 (w.heap.size + 2) 3 (some ⟨w1.heap.size, 0, none⟩) wd wd (List.replicate wd 0) := by rw [made_zeros] at hown; exact hown
       have hb2 := hbb1.grown hgr hbb1.size (fun k hk => by cases hk)
       have hF2 := hF1.grown hgr (fun e => by cases e)
       have hR2 := hR1.grown hgr (fun e => by cases e)
       clear hown hgr))
  clear hF1 hR1 hbb1
  generalize w1.heap.size = g at *
  go_loopw [41] (fun i wr => ∃ k : Nat, k ≤ s ∧ i = .int .i64 k ∧ OwnI wr (w.heap.size + 2) 3 (some ⟨g, 0, none⟩) wd wd (plusL p wd (rows.take k)) ∧ Hid (firstE (ansE p wd ks rows) k = 0) ∧ Below w.heap.size w wr ∧ Blk wr w.heap.size 24 #[.int .i64 p] ∧ Blk wr (w.heap.size + 1) 99 #[.slice none 0 0, .slice none 0 0]) (fun i _ => s - (intOf i).toNat)
  case atStart => exact ⟨0, Nat.zero_le _, rfl, hown2, Lib.hid rfl, hb2, hF2, hR2⟩
  case round =>
    obtain ⟨k, hk, rfl, hown, HK, hbr, hFr, hRr⟩ := hrel
    have HRl := Lib.hid hRr.lt
    by_cases hlt : k < s
    · obtain ⟨b, off, A1, n1, c1, rfl, hbl, hck', hcr', hn1, hI⟩ := (hA.below hbr).at_ hlt
      have hk00 : (0 : Int) ≤ (k : Int) := by omega
      have hkls : (k : Int) < (s : Int) := by omega
      rcases ansE_cases p wd ks rows k with ⟨z1, z2, z3, hz⟩ | ⟨z1, hz⟩ | ⟨z1, z2, hz⟩ | ⟨z1, z2, z3, hz⟩
      · have HK1 : Hid (firstE (ansE p wd ks rows) (k + 1) = 0) := Lib.hid (firstE_step HK.out hz)
        rw [z1] at hck'
        have HT : Hid (plusL p wd (rows.take (k + 1)) = zipI (timesP p 1) (plusL p wd (rows.take k)) (rows.getD k [])) := Lib.hid (by rw [take_snoc_row rows k (by rw [HL.out]; exact hlt), plusL_snoc])
        have HTA := Lib.hid (plusL_all hp.1 wd (rows.take k))
        generalize rows.getD k [] = row at *
        obtain rfl : n1 = wd := by rw [hI.len] at z2; omega
        have HAL := Lib.hid z3
        have HIN : Hid (inF p row = true) := Lib.hid (by rw [HIF.out]; exact z3)
        have HRL := Lib.hid hI.len
        have HOL := Lib.hid hown.len
        generalize plusL p n1 (rows.take k) = ts at *
        have hBk := Blk.new wr 89 #[.bool true, .slice A1 n1 c1]
        have hk0 : (wr.alloc (.cells #[.bool true, .slice A1 n1 c1] 89)).cell? ⟨wr.heap.size, 0, none⟩ = some (.bool true) := (hBk.cell 0).trans rfl
        have hk1 : (wr.alloc (.cells #[.bool true, .slice A1 n1 c1] 89)).cell? ⟨wr.heap.size, 1, none⟩ = some (.slice A1 n1 c1) := (hBk.cell 1).trans rfl
        have hRa := hRr.alloc (.cells #[.bool true, .slice A1 n1 c1] 89)
        have hFa := hFr.alloc (.cells #[.bool true, .slice A1 n1 c1] 89)
        have hfa : (wr.alloc (.cells #[.bool true, .slice A1 n1 c1] 89)).cell? ⟨w.heap.size, 0, none⟩ = some (.int .i64 p) := (hFa.cell 0).trans rfl
        have hbra := ballocs hbr (.cells #[.bool true, .slice A1 n1 c1] 89)
        have hIa := (hI.more (B' := wr.heap.size) (by have := HRl.out; omega)).upto (bbox (.cells #[.bool true, .slice A1 n1 c1] 89))
        have howna := hown.belowAll (bbox (.cells #[.bool true, .slice A1 n1 c1] 89))
        clear z1 z2 z3 hz
        go_wp2_with (go_at_call 126; (refine (in_any p A1 n1 c1 row _ hIa (by omega)).mono ?_); rintro e w3 ⟨rfl, hb3⟩; rw [HIN.out]
                     have hk3 := (hb3.cell (p := ⟨wr.heap.size, 1, none⟩) (by simp)).trans hk1
                     have hown3 := howna.belowAll hb3
                     have hbr3 := hbra.trans (hb3.mono hbra.size)
                     have hF3 := hFa.below hb3 hFa.lt
                     have hR3 := hRa.below hb3 hRa.lt
                     have hI3 : Ints w3 w.heap.size A1 n1 row := (hI.below (bbox (.cells #[.bool true, .slice A1 n1 c1] 89) |>.mono (by have := HRl.out; omega))).below (hb3.mono (by have := HRl.out; simp; omega))
                     clear hb3)
        have hR3l := hR3.lt
        clear hown2 hb2 hF2 hR2 hown howna hIa hI hk0 hk1 hBk hRa hFa hbra hbr hFr hRr hfa hck' hcr'
        go_loopw [64] (fun i wy => ∃ q : Nat, q ≤ n1 ∧ i = .int .i64 q ∧ OwnI wy (w.heap.size + 2) 3 (some ⟨g, 0, none⟩) n1 n1 (partly (timesP p 1) ts row q) ∧ Step g w3 wy) (fun i _ => n1 - (intOf i).toNat)
        case atStart => exact ⟨0, Nat.zero_le _, rfl, by rw [partly_zero]; exact hown3, Step.refl _ _⟩
        case round =>
          obtain ⟨q, hq, rfl, howny, hS⟩ := hrel
          by_cases hlt3 : q < n1
          · obtain ⟨b3, o3, rfl, hb3, hc3⟩ := hI3.2 (by omega)
            obtain ⟨g9, e9, hg9, hg10⟩ := howny.form (by omega)
            obtain rfl : g = g9 := by injection e9 with e9; injection e9
            have hb3g : b3 ≠ g := by omega
            have hry : wr.cell? ⟨b3, o3 + q, none⟩ = some (.int .i64 (row.getD q 0)) := (World.cell?_of_block (World.grownBy.block hS b3 (by omega) (fun e => hb3g (by injection e)))).trans (hc3 q hlt3)
            have hrp : wr.cell? ⟨w.heap.size, 0, none⟩ = some (.int .i64 p) := (World.cell?_of_block (World.grownBy.block hS w.heap.size (by omega) (fun e => by injection e; omega))).trans ((hF3.cell 0).trans rfl)
            have hrt := howny.cellAt hlt3
            rw [partly_at _ ts row (by rw [HRL.out, HOL.out]) q (by rw [HOL.out]; exact hlt3)] at hrt
            have hfz := howny.frozenAt q
            have hst := howny.stored q (timesP p 1 (ts.getD q 0) (row.getD q 0))
            rw [partly_set _ ts row (by rw [HRL.out, HOL.out]) q (by rw [HOL.out]; exact hlt3)] at hst
            have hS2 := hS.set q (.int .i64 (timesP p 1 (ts.getD q 0) (row.getD q 0)))
            have htk := allP_getD HTA.out (k := q) (by rw [HOL.out]; exact hlt3)
            have hyk := allP_getD HAL.out (k := q) (by rw [HRL.out]; exact hlt3)
            generalize ts.getD q 0 = t at *
            generalize row.getD q 0 = y at *
            have hq0 : (0 : Int) ≤ (q : Int) := by omega
            have hq1 : (q : Int) < (n1 : Int) := by omega
            have hw2 : IntKind.i64.wrap (t + y) = t + y := IntWalk.i64_in _ (by omega)
            have hp0 : ¬ p = 0 := by omega
            have hv : timesP p 1 t y = (t + y) % p := timesP_add hyk
            rw [hv] at hst hS2
            have HS := Lib.hid hst
            have HS2 := Lib.hid hS2
            clear hst hS2 hc3 hv
            go_wp2_with fail
            go_region
            all_goals go_wp2
            all_goals go_roundw
            case rel => exact ⟨q + 1, by omega, by go_num, HS.out.drew, HS2.out.drew⟩
            case measure => simp [intOf]; omega
          · obtain rfl : q = n1 := by omega
            have HE : Hid (partly (timesP p 1) ts row q = zipI (timesP p 1) ts row) := Lib.hid (by have := partly_all (timesP p 1) ts row (by rw [HRL.out, HOL.out]); rwa [HOL.out] at this)
            rw [HE.out, ← HT.out] at howny
            have hgb := World.ownsRow.lt howny g rfl
            have hbx5 := Step.below hbr3 hS hbr3.size (by omega)
            have hFx5 := Step.block hS hF3 (by omega)
            have hRx5 := Step.block hS hR3 (by omega)
            go_wp2
            go_roundw
            case rel => exact ⟨k + 1, by omega, by go_num, howny, HK1, hbx5, hFx5, hRx5⟩
            case measure => simp [intOf]; omega
      · obtain rfl : RS = ([], 11) := by rw [HF.out k hlt HK.out (by rw [hz]; decide), hz]
        rw [z1] at hck'
        have hBk := Blk.new wr 89 #[.bool false, .slice A1 n1 c1]
        have hk0 : (wr.alloc (.cells #[.bool false, .slice A1 n1 c1] 89)).cell? ⟨wr.heap.size, 0, none⟩ = some (.bool false) := (hBk.cell 0).trans rfl
        have hk1 : (wr.alloc (.cells #[.bool false, .slice A1 n1 c1] 89)).cell? ⟨wr.heap.size, 1, none⟩ = some (.slice A1 n1 c1) := (hBk.cell 1).trans rfl
        have hRa := hRr.alloc (.cells #[.bool false, .slice A1 n1 c1] 89)
        have hFa := hFr.alloc (.cells #[.bool false, .slice A1 n1 c1] 89)
        have hfa : (wr.alloc (.cells #[.bool false, .slice A1 n1 c1] 89)).cell? ⟨w.heap.size, 0, none⟩ = some (.int .i64 p) := (hFa.cell 0).trans rfl
        have hbra := ballocs hbr (.cells #[.bool false, .slice A1 n1 c1] 89)
        have hx0 := (hRa.cell 0).trans rfl
        have hx1 := (hRa.cell 1).trans rfl
        have hz0' := hRa.frozen 0
        have hz1' := hRa.frozen 1
        clear HF HG HK z1 hz
        go_wp2
        have hB' := blk_two2 (v0 := .slice none 0 0) (v1 := .slice none 0 0) hRa
        have hy0 := (hB'.cell 0).trans rfl
        have hy1 := (hB'.cell 1).trans rfl
        exact bodyPost_ret (v := .tuple #[.agg #[.slice none 0 0, .slice none 0 0], .int .i64 11]) (by simp [results, Try.results90, go_sem, hy0, hy1]) rfl ⟨⟨none, 0, 0, rfl, OwnI.nil_⟩, below_two2 hbra (by omega) _ _⟩
      · obtain rfl : RS = ([], 2) := by rw [HF.out k hlt HK.out (by rw [hz]; decide), hz]
        rw [z1] at hck'
        have hne : ((n1 : Int) != (wd : Int)) = true := by simp; rw [hI.len] at z2; omega
        have hne2 : ¬ (n1 : Int) = (wd : Int) := by rw [hI.len] at z2; omega
        have hBk := Blk.new wr 89 #[.bool true, .slice A1 n1 c1]
        have hk0 : (wr.alloc (.cells #[.bool true, .slice A1 n1 c1] 89)).cell? ⟨wr.heap.size, 0, none⟩ = some (.bool true) := (hBk.cell 0).trans rfl
        have hk1 : (wr.alloc (.cells #[.bool true, .slice A1 n1 c1] 89)).cell? ⟨wr.heap.size, 1, none⟩ = some (.slice A1 n1 c1) := (hBk.cell 1).trans rfl
        have hRa := hRr.alloc (.cells #[.bool true, .slice A1 n1 c1] 89)
        have hFa := hFr.alloc (.cells #[.bool true, .slice A1 n1 c1] 89)
        have hfa : (wr.alloc (.cells #[.bool true, .slice A1 n1 c1] 89)).cell? ⟨w.heap.size, 0, none⟩ = some (.int .i64 p) := (hFa.cell 0).trans rfl
        have hbra := ballocs hbr (.cells #[.bool true, .slice A1 n1 c1] 89)
        have hx0 := (hRa.cell 0).trans rfl
        have hx1 := (hRa.cell 1).trans rfl
        have hz0' := hRa.frozen 0
        have hz1' := hRa.frozen 1
        clear HF HG HK z1 z2 hz
        go_wp2
        have hB' := blk_two2 (v0 := .slice none 0 0) (v1 := .slice none 0 0) hRa
        have hy0 := (hB'.cell 0).trans rfl
        have hy1 := (hB'.cell 1).trans rfl
        exact bodyPost_ret (v := .tuple #[.agg #[.slice none 0 0, .slice none 0 0], .int .i64 2]) (by simp [results, Try.results90, go_sem, hy0, hy1]) rfl ⟨⟨none, 0, 0, rfl, OwnI.nil_⟩, below_two2 hbra (by omega) _ _⟩
      · obtain rfl : RS = ([], 9) := by rw [HF.out k hlt HK.out (by rw [hz]; decide), hz]
        rw [z1] at hck'
        generalize rows.getD k [] = row at *
        obtain rfl : n1 = wd := by rw [hI.len] at z2; omega
        have HIN : Hid (inF p row = false) := Lib.hid (by rw [HIF.out]; exact z3)
        have hBk := Blk.new wr 89 #[.bool true, .slice A1 n1 c1]
        have hk0 : (wr.alloc (.cells #[.bool true, .slice A1 n1 c1] 89)).cell? ⟨wr.heap.size, 0, none⟩ = some (.bool true) := (hBk.cell 0).trans rfl
        have hk1 : (wr.alloc (.cells #[.bool true, .slice A1 n1 c1] 89)).cell? ⟨wr.heap.size, 1, none⟩ = some (.slice A1 n1 c1) := (hBk.cell 1).trans rfl
        have hRa := hRr.alloc (.cells #[.bool true, .slice A1 n1 c1] 89)
        have hFa := hFr.alloc (.cells #[.bool true, .slice A1 n1 c1] 89)
        have hfa : (wr.alloc (.cells #[.bool true, .slice A1 n1 c1] 89)).cell? ⟨w.heap.size, 0, none⟩ = some (.int .i64 p) := (hFa.cell 0).trans rfl
        have hbra := ballocs hbr (.cells #[.bool true, .slice A1 n1 c1] 89)
        have hIa := (hI.more (B' := wr.heap.size) (by have := HRl.out; omega)).upto (bbox (.cells #[.bool true, .slice A1 n1 c1] 89))
        clear HF HG HK z1 z2 z3 hz
        go_wp2_with (go_at_call 126; (refine (in_any p A1 n1 c1 row _ hIa (by omega)).mono ?_); rintro e w3 ⟨rfl, hb3⟩; rw [HIN.out]
                     have hbr3 := hbra.trans (hb3.mono hbra.size)
                     have hR3 := hRa.below hb3 hRa.lt
                     have hx0 := (hR3.cell 0).trans rfl
                     have hx1 := (hR3.cell 1).trans rfl
                     have hz0' := hR3.frozen 0
                     have hz1' := hR3.frozen 1
                     clear hb3)
        have hB' := blk_two2 (v0 := .slice none 0 0) (v1 := .slice none 0 0) hR3
        have hy0 := (hB'.cell 0).trans rfl
        have hy1 := (hB'.cell 1).trans rfl
        exact bodyPost_ret (v := .tuple #[.agg #[.slice none 0 0, .slice none 0 0], .int .i64 9]) (by simp [results, Try.results90, go_sem, hy0, hy1]) rfl ⟨⟨none, 0, 0, rfl, OwnI.nil_⟩, below_two2 hbr3 (by omega) _ _⟩
    · obtain rfl : k = s := by omega
      obtain rfl := HG.out HK.out
      rw [List.take_of_length_le (by rw [HL.out]; omega)] at hown
      have hx0 := (hRr.cell 0).trans rfl
      have hx1 := (hRr.cell 1).trans rfl
      have hz0' := hRr.frozen 0
      have hz1' := hRr.frozen 1
      go_wp2
      have hB' := blk_two2 (v0 := .slice (some ⟨g, 0, none⟩) wd wd) (v1 := .slice none 0 0) hRr
      have hS5 := ((Step.refl (w.heap.size + 1) wr).set 0 (.slice (some ⟨g, 0, none⟩) wd wd)).set 1 (.slice none 0 0)
      have hI5 := (hown.step hS5 (by omega)).base (base' := w.heap.size) (by omega)
      have hy0 := (hB'.cell 0).trans rfl
      have hy1 := (hB'.cell 1).trans rfl
      exact bodyPost_ret (v := .tuple #[.agg #[.slice (some ⟨g, 0, none⟩) wd wd, .slice none 0 0], .int .i64 0]) (by simp [results, Try.results90, go_sem, hy0, hy1]) rfl
        ⟨⟨some ⟨g, 0, none⟩, wd, wd, rfl, hI5⟩, (below_two2 hbr (by omega) _ _)⟩

theorem rpdecode_all (p : Int) (L : Option Addr) (s c : Nat) (wd : Int) (ks : List Bool) (rows : List (List Int)) (w : World) (hA : Ans w w.heap.size L s ks rows) :
    Calls Try.prog 90 #[.agg #[.int .i64 p], .int .i64 wd, .slice L s c] w (FetPost (decR p wd s ks rows) w) := by
  by_cases hok : okP p = true
  · by_cases hsz : wd < 0 ∨ 64 < wd ∨ s < 2 ∨ 10 < s
    · have e : decR p wd s ks rows = ([], 4) := by unfold decR; rw [if_neg (by simp [hok]), if_pos hsz]
      rw [e]
      exact rpdec_size p L s c wd w hok hsz
    · obtain ⟨wn, rfl⟩ : ∃ k : Nat, wd = k := ⟨wd.toNat, by omega⟩
      have e : decR p wn s ks rows = (if firstE (ansE p wn ks rows) s = 0 then (plusL p wn rows, 0) else ([], firstE (ansE p wn ks rows) s)) := by unfold decR; rw [if_neg (by simp [hok]), if_neg hsz, Int.toNat_natCast]
      rw [e]
      exact rpdec_yes p L s c wn ks rows w hok hA (by omega) (by omega)
  · have hokf : okP p = false := by simpa using hok
    have e : decR p wd s ks rows = ([], 9) := by unfold decR; rw [if_pos hokf]
    rw [e]
    exact rpdec_field p L s c wd w hokf
end Go.Proofs.Ytoblofilaegnaaa
