/-
  What share's Split hands back for valid arguments. Conditions: the tape's numbers that are drawn are elements.
-/
import Derived.Test.YtoblofilaegnaaaGSha
import Derived.Test.YtoblofilaegnaaaGTap
namespace Go.Proofs.Ytoblofilaegnaaa
open Go.RowKit
set_option linter.unusedVariables false

/-- Draws where the first numbers may be drawn. -/
theorem draws_first (A : Option Addr) (m c cnt : Nat) (n : Int) (xs : List Int) (w : World) (h : Ints w w.heap.size A m xs) (hm : m ≤ 16384) (hn : 1 ≤ n ∧ n ≤ 2147483647) (hc : cnt ≤ m) (hx : ∀ j, j < cnt → 0 ≤ xs.getD j 0 ∧ xs.getD j 0 < n) :
    Calls Try.prog 115 #[.agg #[.slice A m c, .int .i64 0], .int .i64 n, .int .i64 cnt] w fun e w' =>
      (∃ A' c' D dc, e = .returned (.tuple #[.agg #[.slice A' m c', .int .i64 cnt], .slice D cnt dc, .int .i64 0]) ∧ OwnI w' w.heap.size 3 A' m c' xs ∧ OwnI w' w.heap.size 3 D cnt dc (xs.take cnt)) ∧ Below w.heap.size w w' := by
  have hE : drawsE xs m 0 n cnt = 0 := by
    unfold drawsE
    rw [if_neg (by simp [validT]; omega), if_neg (by simp [limT]; omega), Int.toNat_natCast]
    exact (drawE_ok cnt 0 (by omega)).2 ⟨by rw [h.len]; omega, fun j _ h2 => hx j (by omega)⟩
  refine (draws_any A m c 0 n cnt xs w h (by omega)).mono ?_
  rintro e w' ⟨_, hyes, hb⟩
  obtain ⟨A', c', D, dc, he, h1, h2⟩ := hyes hE
  rw [Int.toNat_natCast] at he h2
  rw [Int.zero_add] at he
  exact ⟨⟨A', c', D, dc, he, h1, by simpa using h2⟩, hb⟩

set_option maxRecDepth 100000 in
set_option maxHeartbeats 1600000 in
theorem split_ok (p secret : Int) (th cnt : Nat) (T : Option Addr) (n c : Nat) (ds : List Int) (w : World) (hok : okP p = true) (hse : 0 ≤ secret ∧ secret < p) (hT : Ints w w.heap.size T n ds) (hn : n ≤ 16384) (hth : th ≤ 9) (hthn : th ≤ n) (hds : ∀ i, i < th → 0 ≤ ds.getD i 0 ∧ ds.getD i 0 < p)
    (hcnt : 1 ≤ cnt ∧ cnt ≤ 100) (hcp : (cnt : Int) < p) :
    Calls Try.prog 56 #[.agg #[.int .i64 p], .int .i64 secret, .int .i64 th, .int .i64 cnt, .agg #[.slice T n c, .int .i64 0]] w fun e w' =>
      (∃ A' c' T' tc, e = .returned (.tuple #[.slice A' cnt c', .agg #[.slice T' n tc, .int .i64 th], .int .i64 0]) ∧ OwnS w' w.heap.size A' cnt c' (ptsL cnt) (valsP p (secret :: ds.take th) (ptsL cnt))) ∧ Below w.heap.size w w' := by
  obtain ⟨i0, hi0, hz0, hz1, hz2⟩ := info_parts info_int
  have hp := okP_pos hok
  have HO := Lib.hid hok
  have HSI : Hid (inP p secret = true) := Lib.hid (inP_iff.2 hse)
  have HTH : Hid (decide ((0 : Int) ≤ (th : Int) ∧ (th : Int) ≤ 9) = true) := Lib.hid (decide_eq_true (by omega))
  have HDS := Lib.hid hds
  have hc1 : ¬ ((cnt : Int) < 1) := by omega
  have hc1N : ¬ cnt < 1 := by omega
  have hc2 : ¬ (p ≤ (cnt : Int)) := by omega
  have hc3 : ¬ ((512 : Int) < (cnt : Int)) := by omega
  have hc3N : ¬ 512 < cnt := by omega
  have hb0 : Below w.heap.size w (((w.alloc (.cells #[.int .i64 p] 24)).alloc (.cells #[.slice T n c, .int .i64 0] 62)).alloc (.cells #[.slice none 0 0, .int .i64 0] 62)) := ballocs (ballocs (bbox _) _) _
  have hF0 := ((Blk.new w 24 #[.int .i64 p]).alloc (.cells #[.slice T n c, .int .i64 0] 62)).alloc (.cells #[.slice none 0 0, .int .i64 0] 62)
  have hB0 := (Blk.new (w.alloc (.cells #[.int .i64 p] 24)) 62 #[.slice T n c, .int .i64 0]).alloc (.cells #[.slice none 0 0, .int .i64 0] 62)
  have hR0 := Blk.new ((w.alloc (.cells #[.int .i64 p] 24)).alloc (.cells #[.slice T n c, .int .i64 0] 62)) 62 #[.slice none 0 0, .int .i64 0]
  simp only [World.size_alloc] at hB0 hR0
  clear hok hds
  go_enter Try.func56, Try.ntmps56
  go_wp2_with (first
    | (go_at_call 118; refine (of_yes p _ HO.out).mono ?_; rintro e w1 ⟨rfl, hb1⟩
       have hbb1 := bnext hb0 hb1
       have hF1 := hF0.below hb1 hF0.lt
       have hB1 := hB0.below hb1 hB0.lt
       have hR1 := hR0.below hb1 hR0.lt
       have hf10 : w1.cell? ⟨w.heap.size, 0, none⟩ = some (.int .i64 p) := (hF1.cell 0).trans rfl
       have hb10 : w1.cell? ⟨w.heap.size + 1, 0, none⟩ = some (.slice T n c) := (hB1.cell 0).trans rfl
       have hb11 : w1.cell? ⟨w.heap.size + 1, 1, none⟩ = some (.int .i64 0) := (hB1.cell 1).trans rfl
       have hT1 := hT.upto hbb1
       clear hb1)
    | (go_at_call 123; (refine (has_any p secret _).mono ?_); rintro e w' ⟨rfl, rfl⟩; rw [HSI.out])
    | (go_at_call 140; refine (threshold_any th _).mono ?_; rintro e w' ⟨rfl, rfl⟩; rw [HTH.out])
    | (go_at_call 115; refine (draws_first T n c th p ds _ hT1 hn (by omega) hthn HDS.out).mono ?_; rintro e w2 ⟨⟨T2, tc2, D, dc, rfl, hoT2, hoD2⟩, hb2⟩
       have hbb2 := bnext hbb1 hb2
       have hF2 := hF1.below hb2 hF1.lt
       have hB2 := hB1.below hb2 hB1.lt
       have hR2 := hR1.below hb2 hR1.lt
       have hb20 : w2.cell? ⟨w.heap.size + 1, 0, none⟩ = some (.slice T n c) := (hB2.cell 0).trans rfl
       have hb21 : w2.cell? ⟨w.heap.size + 1, 1, none⟩ = some (.int .i64 0) := (hB2.cell 1).trans rfl
       have hz0 := hB2.frozen 0
       have hz1' := hB2.frozen 1
       have hrl := hR1.lt))
  have hB3 := blk_two (v0 := .slice T2 n tc2) (v1 := .int .i64 th) hB2
  have hS3 := ((Step.refl (w.heap.size + 1) w2).set 0 (.slice T2 n tc2)).set 1 (.int .i64 th)
  have hR3 := Step.block hS3 hR2 (by omega)
  have hoD3 := (hoD2.step hS3 (by omega)).ints
  have hbb3 := below_two hbb2 (g := w.heap.size + 1) (Nat.le_succ _) (.slice T2 n tc2) (.int .i64 th)
  clear hb10 hb11 hb20 hb21 hf10 hz0 hz1' hB0 hB1 hB2 hF0 hF1 hF2 hR0 hR1 hR2 hb0 hbb1 hbb2 hS3 hoD2 hoT2 hb2 hT1
  generalize (w2.setCell ⟨w.heap.size + 1, 0, none⟩ (.slice T2 n tc2)).setCell ⟨w.heap.size + 1, 1, none⟩ (.int .i64 th) = w3 at *
  go_loopw [17, 67] (fun v17 v67 wz => ∃ (k : Nat) (L : Option Addr) (lc : Nat), k ≤ cnt ∧ v17 = .slice L k lc ∧ v67 = .int .i64 k ∧ OwnI wz w3.heap.size 3 L k lc (ptsL k) ∧ Below w3.heap.size w3 wz) (fun _ v67 _ => cnt - (intOf v67).toNat)
  case atStart => exact ⟨0, none, 0, Nat.zero_le _, rfl, rfl, OwnI.nil_, Below.refl _ _⟩
  case round =>
    obtain ⟨k, L, lc, hk, rfl, rfl, hoL, hbz⟩ := hrel
    by_cases hlt : k < cnt
    · have hkc : (k : Int) < (cnt : Int) := by omega
      have HPS := Lib.hid (ptsL_succ k)
      go_wp2_with (at_builtin
                   refine wpList_append_ints rfl _ _ _ rfl w3.heap.size 3 i0 _ Try.underlying22 hi0 hz0 hz1 hz2 rfl L k lc (ptsL k) rfl (hoL.alloc _) _ _ 1 1 [(k : Int) + 1] rfl (Ints.one _ _ _) (k + 1) rfl (ptsL k ++ [(k : Int) + 1]) rfl (by omega) (le_alloc hbz.size _) ?_
                   intro L2 lc2 w4 hoL2 _ hb4 _
                   have hbz4 := (hbz.alloc hbz.size (.cells #[.int .i64 ((k : Int) + 1)] 3)).trans hb4)
      go_roundw
      case rel => exact ⟨k + 1, L2, lc2, by omega, rfl, by go_num, by rw [HPS.out]; exact hoL2, hbz4⟩
      case measure => simp [intOf]; omega
    · obtain rfl : k = cnt := by omega
      have hBz := hB3.below hbz hB3.lt
      have hRz := hR3.below hbz hR3.lt
      have hbw := bnext hbb3 hbz
      have hDz := (hoD3.upto hbz).drew
      have hLz := hoL.ints.drew
      have hBl := hBz.lt
      have hRl := hRz.lt
      have hsr : wr.drew.cell? ⟨w.heap.size + 1, 0, none⟩ = some (.slice T2 n tc2) ∧ wr.drew.cell? ⟨w.heap.size + 1, 1, none⟩ = some (.int .i64 th) := ⟨(hBz.cell 0).trans rfl, (hBz.cell 1).trans rfl⟩
      have hbl : Below wr.heap.size wr.drew (wr.drew.alloc (.cells #[.int .i64 secret] 3)) := (Below.refl wr.heap.size wr.drew).alloc (show wr.heap.size ≤ wr.drew.heap.size from Nat.le_refl _) _
      have HSK : Hid (∀ wx, Below wr.heap.size wr.drew wx → wx.cell? ⟨w.heap.size + 1, 0, none⟩ = some (.slice T2 n tc2) ∧ wx.cell? ⟨w.heap.size + 1, 1, none⟩ = some (.int .i64 th)) := Lib.hid fun wx hx => ⟨(((Blk.drew hBz).below hx hBl).cell 0).trans rfl, (((Blk.drew hBz).below hx hBl).cell 1).trans rfl⟩
      have hlit : OwnI (wr.drew.alloc (.cells #[.int .i64 secret] 3)) wr.heap.size 3 (some ⟨wr.heap.size, 0, none⟩) 1 1 [secret] := OwnI.made (Nat.le_refl _) (Blk.new wr.drew 3 #[.int .i64 secret]) rfl (by unfold maxLen; omega)
      have HCA : Hid (allP p (secret :: ds.take th) = true) := Lib.hid (allP_iff.2 fun x hx => by
        rcases List.mem_cons.1 hx with h1 | h1
        · rw [h1]; exact hse
        · obtain ⟨j, hj, _, rfl⟩ := take_mem h1
          exact HDS.out j hj)
      have HPA := Lib.hid (ptsL_allP hcp)
      go_wp2_with fail
      go_region_held3 (fun w' => w'.cell? ⟨w.heap.size + 1, 0, none⟩ = some (.slice T2 n tc2) ∧ w'.cell? ⟨w.heap.size + 1, 1, none⟩ = some (.int .i64 th)) (first | exact hsr | exact HSK.out _ hbl | exact HSK.out _ hbl5 | exact HSK.out _ hbl6 | exact hs7)
        (first
          | ((refine step_append_ints (w := wr.drew.alloc (.cells #[.int .i64 secret] 3)) rfl (.tmp 78) (.tmp 79) 22 rfl wr.heap.size 3 i0 _ Try.underlying22 hi0 hz0 hz1 hz2 rfl (some ⟨wr.heap.size, 0, none⟩) 1 1 [secret] (by simp [Act.eval]) hlit wr.heap.size D th dc (ds.take th) (by simp [Act.eval]) (hDz.below hbl) (1 + th) rfl (secret :: ds.take th) rfl (by omega) hbl.size ?_); intro A5 c5 w5 hown5 _ hb5
             have hbl5 := hbl.trans hb5
             have hL5 := (hLz.below hbl5).more hbl5.size)
          | (go_at_call 141; refine (shares_any p A5 L (1 + th) c5 k lc (secret :: ds.take th) (ptsL k) _ hp hown5.ints hL5 HCA.out HPA.out (by omega) (by omega)).mono ?_; rintro e w6 ⟨⟨A6, c6, rfl, hoS6⟩, hb6⟩
             have hbl6 := hbl5.trans (hb6.mono hbl5.size)
             have hR6 := (Blk.drew hRz).below hbl6 hRl
             have hr0 : w6.cell? ⟨w.heap.size + 1 + 1, 0, none⟩ = some (.slice none 0 0) := (hR6.cell 0).trans rfl
             have hr1 : w6.cell? ⟨w.heap.size + 1 + 1, 1, none⟩ = some (.int .i64 0) := (hR6.cell 1).trans rfl
             have hg0 := hR6.frozen 0
             have hg1 := hR6.frozen 1
             have hB6 := (Blk.drew hBz).below hbl6 hBl
             have hB7 := (hB6.far (p := ⟨w.heap.size + 1 + 1, 0, none⟩) (by simp) (.slice T2 n tc2)).far (p := ⟨w.heap.size + 1 + 1, 1, none⟩) (by simp) (.int .i64 th)
             have hs7 : ((w6.setCell ⟨w.heap.size + 1 + 1, 0, none⟩ (.slice T2 n tc2)).setCell ⟨w.heap.size + 1 + 1, 1, none⟩ (.int .i64 th)).cell? ⟨w.heap.size + 1, 0, none⟩ = some (.slice T2 n tc2) ∧ ((w6.setCell ⟨w.heap.size + 1 + 1, 0, none⟩ (.slice T2 n tc2)).setCell ⟨w.heap.size + 1 + 1, 1, none⟩ (.int .i64 th)).cell? ⟨w.heap.size + 1, 1, none⟩ = some (.int .i64 th) := ⟨(hB7.cell 0).trans rfl, (hB7.cell 1).trans rfl⟩))
      all_goals go_wp2
      all_goals have hR7 := blk_two (v0 := .slice T2 n tc2) (v1 := .int .i64 th) hR6
      all_goals have hy0 := (hR7.cell 0).trans rfl
      all_goals have hy1 := (hR7.cell 1).trans rfl
      all_goals have hwr := hbw.size
      all_goals have hl5 := hbl5.size
      all_goals have hl5' : wr.heap.size ≤ w5.heap.size := hl5
      all_goals have hoS7 := ((hoS6.step (((Step.refl (w.heap.size + 1 + 1) w6).set 0 (.slice T2 n tc2)).set 1 (.int .i64 th)) (by omega)).base (base' := w.heap.size) (by omega))
      all_goals have hbE := below_two (hbw.drew.trans (hbl6.mono hbw.size)) (g := w.heap.size + 1 + 1) (by omega) (.slice T2 n tc2) (.int .i64 th)
      all_goals exact bodyPost_ret (v := .tuple #[.slice A6 k c6, .agg #[.slice T2 n tc2, .int .i64 th], .int .i64 0]) (by simp [results, Try.results56, go_sem, hy0, hy1]) rfl ⟨⟨A6, c6, T2, tc2, rfl, hoS7⟩, hbE⟩
end Go.Proofs.Ytoblofilaegnaaa
