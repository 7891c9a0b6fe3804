/-
  What the columns' All hands back: the polynomial of each column. Conditions: all known rows are of one length and of elements, few enough of them are wrong.
-/
import Derived.Test.YtmcgnpdfpfgfpaaGreatDoorGCoA
import Derived.Test.YtmcgnpdfpfgfpaaGreatDoorSrtI
import Derived.Test.YtmcgnpdfpfgfpaaGreatDoorGUni
import Derived.Test.YtmcgnpdfpfgfpaaGreatDoorMkRows
import Derived.Deep.RegionLaw
import Derived.Deep.RegionHeld3
namespace Go.Proofs.YtmcgnpdfpfgfpaaGreatDoor
open Go.RowKit
set_option linter.unusedVariables false

/-- What All hands back. -/
def CaPost (Ps : List (List Int)) (W : Nat) (w : World) (e : Ending) (w' : World) : Prop :=
  (∃ (L : Option Addr) (lc : Nat) (Q : Option Addr) (qn qc : Nat) (qs : List Int), e = .returned (.tuple #[.slice L W lc, .slice Q qn qc, .int .i64 0]) ∧ Mat w' w.heap.size w'.heap.size L W Ps ∧ Ints w' w'.heap.size Q qn qs ∧ Frs w.heap.size Q qn) ∧ Below w.heap.size w w'

set_option maxRecDepth 100000 in
set_option maxHeartbeats 8000000 in
theorem colAll_ok (p : Int) (W N need : Nat) (A : Option Addr) (c : Nat) (ks : List Bool) (rows : List (List Int)) (w : World) (hok : okP p = true) (hA : Ans w w.heap.size A N ks rows) (hN : N ≤ 10) (hNp : (N : Int) < p) (hW64 : W ≤ 64)
    (hel : ∀ i, i < N → ks.getD i false = true → (rows.getD i []).length = W ∧ allP p (rows.getD i []) = true) (hno : ∀ i, i < N → ks.getD i false = false → (rows.getD i []).length = 0) (hn1 : 1 ≤ need) (hnN : need ≤ N) (hneed : need ≤ cntT ks) (hW : ErrW w)
    (P0 : Nat → List Int) (hP : ∀ col, col < W → allP p (P0 col) = true ∧ (P0 col).length ≤ need ∧ (wrL p (P0 col) (knL (colP rows col) ks)).length ≤ (cntT ks - need) / 2) :
    Calls Tryz.prog 69 #[.agg #[.int .i64 p, .int .i64 need, .slice A N c], .int .i64 W, .func (.func 70) #[] #[]] w (CaPost ((List.range W).map fun col => trimL (P0 col)) W w) := by
  obtain ⟨i0, hi0, hz0, hz1, hz2⟩ := info_parts info_int
  obtain ⟨i9, hi9, hy0, hy1, hy2⟩ := info_parts info_row
  have hb1 : Below w.heap.size w (w.alloc (.cells #[.int .i64 p, .int .i64 need, .slice A N c] 147)) := bbox _
  have hC1 := Blk.new w 147 #[.int .i64 p, .int .i64 need, .slice A N c]
  have hE1 := hW.below hb1
  have hA1 := hA.upto hb1
  obtain ⟨w1, hw1⟩ : ∃ v, w.alloc (.cells #[.int .i64 p, .int .i64 need, .slice A N c] 147) = v := ⟨_, rfl⟩
  rw [hw1] at hb1 hC1 hE1 hA1
  have HCD := Lib.hid (fun (col : Nat) (w9 : World) (hc : col < W) (h9 : Ans w9 w9.heap.size A N ks rows) (hE : ErrW w9) => colDecode_ok p W N need col A c ks rows w9 hok h9 hN hNp hc hel hno hn1 hnN hneed hE (P0 col) (hP col hc).1 (hP col hc).2.1 (hP col hc).2.2)
  have HPL : Hid (∀ col, col < W → (trimL (P0 col)).length ≤ 10) := Lib.hid fun col hc => by
    have h1 := (hP col hc).2.1
    have h2 : (trimL (P0 col)).length ≤ (P0 col).length := by rw [trimL_len]; exact tn_le _ _
    omega
  clear hok hel hno hneed hP hA hW
  have hwl : w.heap.size < w1.heap.size := hC1.lt
  go_enter Tryz.func69, Tryz.ntmps69
  go_wp2
  clear hw1
  go_loopw [9, 10, 15] (fun s q i wz => ∃ (k : Nat) (L : Option Addr) (lc : Nat) (Q : Option Addr) (qn qc : Nat) (qs : List Int), k ≤ W ∧ s = .slice L k lc ∧ q = .slice Q qn qc ∧ i = .int .i64 k ∧ qn ≤ k * 10 ∧
    Hid (OwnMO wz w1.heap.size 22 L k lc ((List.range k).map fun col => trimL (P0 col)) (Value.slice Q qn qc).ownBlock) ∧ OwnI wz w1.heap.size 3 Q qn qc qs ∧ Below w1.heap.size w1 wz) (fun _ _ i _ => W - (intOf i).toNat)
  case atStart => exact ⟨0, none, 0, none, 0, 0, [], Nat.zero_le _, rfl, rfl, rfl, by omega, Lib.hid OwnMO.nil_, OwnI.nil_, Below.refl _ _⟩
  case round =>
    obtain ⟨k, L, lc, Q, qn, qc, qs, hk, rfl, rfl, rfl, hqn, HS, hQ, hbz⟩ := hrel
    have hCr := hC1.below hbz hC1.lt
    have hEr := hE1.below hbz
    have hAr := hA1.upto hbz
    have hszr := hbz.size
    have hc0 : wr.cell? ⟨w.heap.size, 0, none⟩ = some (.int .i64 p) := (hCr.cell 0).trans rfl
    have hc1 : wr.cell? ⟨w.heap.size, 1, none⟩ = some (.int .i64 need) := (hCr.cell 1).trans rfl
    have hc2 : wr.cell? ⟨w.heap.size, 2, none⟩ = some (.slice A N c) := (hCr.cell 2).trans rfl
    by_cases hlt : k < W
    · have hkWi : (k : Int) < (W : Int) := by omega
      have hk0 : (0 : Int) ≤ (k : Int) := by omega
      have HD := Lib.hid (HCD.out k wr hlt hAr hEr)
      have HPK := Lib.hid (HPL.out k hlt)
      have HT : Hid ((List.range (k + 1)).map (fun col => trimL (P0 col)) = (List.range k).map (fun col => trimL (P0 col)) ++ [trimL (P0 k)]) := Lib.hid (by rw [List.range_succ, List.map_append]; rfl)
      obtain ⟨R, hR⟩ : ∃ R, trimL (P0 k) = R := ⟨_, rfl⟩
      rw [hR] at HD HPK HT
      clear hR
      go_upto_region 9 with (go_at_call 70; refine (HD.out).mono ?_; rintro e w6 ⟨⟨X, xc, Y, yn, yc, ws, rfl, hX, hY, hyn, hxc, hyc, hfx, hfy⟩, hb6⟩)
      obtain ⟨xn, hxn⟩ : ∃ xn, R.length = xn := ⟨_, rfl⟩
      have hxn10 : xn ≤ 10 := by rw [← hxn]; exact HPK.out
      rw [hxn] at hX hxc hfx
      rw [hxn]
      have hb67 : Below w6.heap.size w6 (w6.alloc (.cells #[.slice X xn xc, .slice Y yn yc] 186)) := bbox _
      have hs67 : (w6.alloc (.cells #[.slice X xn xc, .slice Y yn yc] 186)).heap.size = w6.heap.size + 1 := World.size_alloc _ _
      have hSt : St9 wr.heap.size (w6.heap.size + 1) w6.heap.size X xn xc R Y yn yc ws w1.heap.size (w6.alloc (.cells #[.slice X xn xc, .slice Y yn yc] 186)) L k lc ((List.range k).map fun col => trimL (P0 col)) Q qn qc qs :=
        ⟨by rw [hs67]; exact Nat.le_refl _, ⟨hszr, hb6.size, Nat.lt_succ_self _⟩, Blk.new w6 _ _, hX.upto hb67, fun h0 b off s e => ⟨hfx b off s e h0, by subst e; have := hX.lt h0; omega⟩, hY.upto hb67, fun h0 b off s e => ⟨hfy b off s e h0, by subst e; have := hY.lt h0; omega⟩,
          (HS.out.belowAll hb6).belowAll hb67, (hQ.belowAll hb6).belowAll hb67, fun b hb => .inl (HS.out.row b hb).2, fun b hb => .inl (World.ownsRow.lt hQ b hb).2⟩
      have hbz7 : Below w1.heap.size w1 (w6.alloc (.cells #[.slice X xn xc, .slice Y yn yc] 186)) := (hbz.trans (hb6.mono hszr)).trans (hb67.mono (Nat.le_trans hszr hb6.size))
      obtain ⟨D, hD⟩ : ∃ D, w6.heap.size = D := ⟨_, rfl⟩
      have hQlt : ∀ b, (Value.slice Q qn qc).ownBlock = some b → b < D := fun b hb => by have h1 := (World.ownsRow.lt hQ b hb).2; have h2 := hb6.size; omega
      obtain ⟨w7, hw7⟩ : ∃ v, w6.alloc (.cells #[.slice X xn xc, .slice Y yn yc] 186) = v := ⟨_, rfl⟩
      rw [hw7, hD] at hSt hs67
      rw [hw7] at hbz7
      rw [hw7, hD]
      clear hw7 hb67 hb6 hX hY hfx hfy HS hQ hCr hEr hAr hc0 hc1 hc2 hD
      have hS7 := hSt.drew.cells
      have hS7a := (hSt.alloc (.cells #[.slice X xn xc] 22)).drew.cells
      have hqb : qn + yn ≤ 1000000 := by omega
      have hcB7 : (w7.drew.alloc (.cells #[.slice X xn xc] 22)).cell? ⟨w7.heap.size, 0, none⟩ = some (.slice X xn xc) := by rw [World.cell?_alloc_at _ _ _ _ (by simp)]; rfl
      have hb7d : Below w1.heap.size w1 w7.drew := hbz7.trans (Below.refl _ w7).drew
      have hb7a := hb7d.alloc hb7d.size (.cells #[.slice X xn xc] 22)
      have hyn10 : yn ≤ 10 := by omega
      go_region_held3 (fun w' => w'.cell? ⟨D, 0, none⟩ = some (.slice X xn xc) ∧ w'.cell? ⟨D, 1, none⟩ = some (.slice Y yn yc)) (first | go_keep | exact hS7 | exact hS7a | exact hs8 | exact hs9 | exact hs10 | exact hs9a)
        (first
          | (refine step_st9_rows (w := w7.drew.alloc (.cells #[.slice X xn xc] 22)) rfl (.tmp 27) (.tmp 30) 45 rfl i9 _ Tryz.underlying45 hi9 hy0 hy1 hy2 rfl (hSt.drew.alloc _) (by first | rfl | simp [Act.eval]) (by omega) (by omega) w7.heap.size 1 (by first | rfl | simp [Act.eval]) hcB7 (by simp [World.size_alloc]) ?_; intro A3 c3 w8 hSt8 hb8; have hs8 := hSt8.cells; have hB8 := hb7a.trans hb8)
          | (refine step_st9_ints (w := w7.drew) rfl (.tmp 32) (.tmp 34) 22 rfl i0 _ Tryz.underlying22 hi0 hz0 hz1 hz2 rfl hSt.drew (by first | rfl | simp [Act.eval]) (by first | rfl | simp [Act.eval]) hqb ?_; intro A4 c4 w9 hSt9 hgr9 hb9; have hB9 := hb7d.trans hb9; have hs9 := hSt9.cells; have hs9a := (hSt9.alloc (.cells #[.slice X xn xc] 22)).cells)
          | (refine step_st9_ints (w := w7.drew.alloc (.cells #[.slice X xn xc] 22)) rfl (.tmp 32) (.tmp 34) 22 rfl i0 _ Tryz.underlying22 hi0 hz0 hz1 hz2 rfl (hSt.drew.alloc _) (by first | rfl | simp [Act.eval]) (by first | rfl | simp [Act.eval]) hqb ?_; intro A4 c4 w9 hSt9 hgr9 hb9; have hB9 := hb7a.trans hb9; have hs9 := hSt9.cells; have hs9a := (hSt9.alloc (.cells #[.slice X xn xc] 22)).cells)
          | (refine step_st9_rows (w := w9.alloc (.cells #[.slice X xn xc] 22)) rfl (.tmp 27) (.tmp 30) 45 rfl i9 _ Tryz.underlying45 hi9 hy0 hy1 hy2 rfl (hSt9.alloc _) (by first | rfl | simp [Act.eval]) (by omega) (by omega) w9.heap.size 1 (by first | rfl | simp [Act.eval]) (by rw [World.cell?_alloc_at _ _ _ _ rfl]; rfl) (by simp [World.size_alloc]) ?_; intro A3 c3 w10 hSt10 hb10; have hBf := (hB9.alloc hB9.size (.cells #[.slice X xn xc] 22)).trans hb10; have hs10 := hSt10.cells)
          | (refine step_st9_rows (w := w9) rfl (.tmp 27) (.tmp 30) 45 rfl i9 _ Tryz.underlying45 hi9 hy0 hy1 hy2 rfl hSt9 (by first | rfl | simp [Act.eval]) (by omega) (by omega) w7.heap.size 1 (by first | rfl | simp [Act.eval]) ((World.cell?_of_block (hgr9.block w7.heap.size (by simp [World.size_alloc]) (fun e => by have := hQlt _ e.symm; omega))).trans hcB7) (by have := hgr9.size; simp [World.size_alloc] at this; omega) ?_; intro A3 c3 w10 hSt10 hb10; have hBf := hB9.trans hb10; have hs10 := hSt10.cells)
          | (refine step_st9_ints (w := w8) rfl (.tmp 32) (.tmp 34) 22 rfl i0 _ Tryz.underlying22 hi0 hz0 hz1 hz2 rfl hSt8 (by first | rfl | simp [Act.eval]) (by first | rfl | simp [Act.eval]) hqb ?_; intro A4 c4 w10 hSt10 hgr10 hb10; have hBf := hB8.trans hb10; have hs10 := hSt10.cells))
      all_goals go_wp2
      all_goals go_roundw
      all_goals first
        | exact ⟨k + 1, A3, c3, A4, qn + yn, c4, qs ++ ws, by omega, rfl, rfl, by go_num, by omega, Lib.hid (by rw [HT.out]; exact hSt10.own1), hSt10.own2, hBf⟩
        | (simp [intOf]; omega)
    · obtain rfl : W = k := by omega
      have hM := HS.out
      have hap : (Value.slice L W lc).ownBlock = none ∨ (Value.slice L W lc).ownBlock ≠ (Value.slice Q qn qc).ownBlock := by
        obtain ⟨_, vs, hown, _⟩ := hM
        exact own_apart2 hown hQ types_row
      have hQrow := hQ.row
      have hqb : qn ≤ 1000 := by omega
      clear HS HCD
      go_wp2_with (first
        | (go_at_call 103; refine (sortI_ok _ qn qc Q qs _ hQ (by omega)).mono ?_; rintro e w20 ⟨rfl, ys, hQ20, hg20⟩
           have hM20 := hM.kept hg20 hap
           have hb20 := hbz.grown hg20 hszr hQrow)
        | (go_at_call 104; refine (compactI_ok _ qn qc Q ys _ hQ20 (by omega)).mono ?_; rintro e w21 ⟨m, zs, rfl, hm, hI21, hg21⟩
           have hM21 := hM20.kept hg21 hap
           have hb21 := hb20.grown hg21 hb20.size hQrow)
        | (go_at_call 78; refine (clone_any Q m qc zs _ hI21 (by omega)).mono ?_; rintro e w22 ⟨⟨A', c', rfl, hO22⟩, hb22⟩))
      go_ret3
      have hf := hb21.trans (hb22.mono hb21.size)
      exact ⟨⟨L, lc, A', m, c', zs, rfl, (hM21.belowAll hb22).mat.low (by omega), hO22.ints, fun b o s e h0 => by have h1 := hO22.row b (by rw [e]; rfl); have h2 := hb21.size; omega⟩, bnext hb1 hf⟩
end Go.Proofs.YtmcgnpdfpfgfpaaGreatDoor
