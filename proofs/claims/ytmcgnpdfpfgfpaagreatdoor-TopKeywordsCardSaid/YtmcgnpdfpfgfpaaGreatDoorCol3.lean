/-
  What curve's Decode hands back: the row of the answers. Conditions: all known rows are of one length and of elements, few enough of them are wrong.
-/
import Derived.Test.YtmcgnpdfpfgfpaaGreatDoorCol2
import Derived.Test.YtmcgnpdfpfgfpaaGreatDoorGCrv
import Derived.Test.YtmcgnpdfpfgfpaaGreatDoorUKey
namespace Go.Proofs.YtmcgnpdfpfgfpaaGreatDoor
open Go.RowKit
set_option linter.unusedVariables false

theorem colCoef_any (A : Option Addr) (n c : Nat) (xs : List Int) (i : Nat) (w : World) {B : Nat} (h : Ints w B A n xs) :
    Calls Tryz.prog 71 #[.slice A n c, .int .i64 i] w fun e w' => e = .returned (.int .i64 (cf xs i)) ∧ w = w' := by
  by_cases hi : i < n
  · have hii : (i : Int) < (n : Int) := by omega
    have hi0 : (0 : Int) ≤ (i : Int) := by omega
    obtain ⟨b, off, rfl, hb, hc⟩ := h.2 (by omega)
    have hcc := hc i hi
    clear hc
    go_enter Tryz.func71, Tryz.ntmps71
    go_wp2
    go_ret
    exact ⟨rfl, rfl⟩
  · have hii : ¬ (i : Int) < (n : Int) := by omega
    have hz : cf xs i = 0 := cf_out (by rw [h.len]; omega)
    have HZ := Lib.hid hz
    clear hz
    go_enter Tryz.func71, Tryz.ntmps71
    go_wp2
    go_ret
    refine ⟨?_, rfl⟩
    rw [HZ.out]
    rfl

/-- What curve's Decode hands back. -/
def CvdPost (ys : List Int) (W : Nat) (w : World) (e : Ending) (w' : World) : Prop :=
  (∃ (Rw : Option Addr) (rc : Nat) (Q : Option Addr) (qn qc : Nat) (qs : List Int), e = .returned (.tuple #[.agg #[.slice Rw W rc, .slice Q qn qc], .int .i64 0]) ∧ Ints w' w'.heap.size Rw W ys ∧ Frs w.heap.size Rw W ∧ Ints w' w'.heap.size Q qn qs) ∧ Below w.heap.size w w'

set_option maxRecDepth 100000 in
set_option maxHeartbeats 8000000 in
theorem cDecode_ok (p : Int) (S d W : Nat) (A : Option Addr) (c : Nat) (ks : List Bool) (rows : List (List Int)) (w : World) (hok : okP p = true) (hS : 2 ≤ S ∧ S ≤ 10) (hd : 1 ≤ d ∧ d < S) (hSp : (S : Int) < p) (hA : Ans w w.heap.size A S ks rows) (hW64 : W ≤ 64)
    (hel : ∀ i, i < S → ks.getD i false = true → (rows.getD i []).length = W ∧ allP p (rows.getD i []) = true) (hno : ∀ i, i < S → ks.getD i false = false → (rows.getD i []).length = 0) (hneed : d + 1 ≤ cntT ks) (hW : ErrW w)
    (P0 : Nat → List Int) (hP : ∀ col, col < W → allP p (P0 col) = true ∧ (P0 col).length ≤ d + 1 ∧ (wrL p (P0 col) (knL (colP rows col) ks)).length ≤ (cntT ks - (d + 1)) / 2) :
    Calls Tryz.prog 31 #[.agg #[.int .i64 p], .agg #[.int .i64 S, .int .i64 d], .int .i64 W, .slice A S c] w (CvdPost ((List.range W).map fun col => cf (P0 col) 0) W w) := by
  obtain ⟨i0, hi0, hz0, hz1, hz2⟩ := info_parts info_int
  obtain ⟨nd, hnd⟩ : ∃ nd, d + 1 = nd := ⟨_, rfl⟩
  have hdi : (d : Int) + 1 = (nd : Int) := by omega
  rw [hnd] at hneed hP
  have hb3 : Below w.heap.size w (((w.alloc (.cells #[.int .i64 p] 44)).alloc (.cells #[.int .i64 S, .int .i64 d] 54)).alloc (.cells #[.slice none 0 0, .slice none 0 0] 59)) := ballocs (ballocs (bbox _) _) _
  have hF3 := ((Blk.new w 44 #[.int .i64 p]).alloc (.cells #[.int .i64 S, .int .i64 d] 54)).alloc (.cells #[.slice none 0 0, .slice none 0 0] 59)
  have hP3 := (Blk.new1 w (.cells #[.int .i64 p] 44) 54 #[.int .i64 S, .int .i64 d]).alloc (.cells #[.slice none 0 0, .slice none 0 0] 59)
  have hR3 : Blk (((w.alloc (.cells #[.int .i64 p] 44)).alloc (.cells #[.int .i64 S, .int .i64 d] 54)).alloc (.cells #[.slice none 0 0, .slice none 0 0] 59)) (w.heap.size + 1 + 1) 59 #[.slice none 0 0, .slice none 0 0] := by
    have := Blk.new1 (w.alloc (.cells #[.int .i64 p] 44)) (.cells #[.int .i64 S, .int .i64 d] 54) 59 #[.slice none 0 0, .slice none 0 0]
    rwa [World.size_alloc] at this
  have hA3 := hA.upto hb3
  have hE3 := hW.below hb3
  obtain ⟨w3, hw3⟩ : ∃ v, ((w.alloc (.cells #[.int .i64 p] 44)).alloc (.cells #[.int .i64 S, .int .i64 d] 54)).alloc (.cells #[.slice none 0 0, .slice none 0 0] 59) = v := ⟨_, rfl⟩
  rw [hw3] at hb3 hF3 hP3 hR3 hA3 hE3
  have HCK := Lib.hid (fun w9 : World => cCheck_yes p S d w9 hok hS hd hSp)
  have HCC := Lib.hid (fun (w9 : World) (h9 : Ans w9 w9.heap.size A S ks rows) => colCheck_ok p W S nd A c ks rows w9 hok h9 (by omega) hW64 hel hneed)
  have HAL := Lib.hid (fun (w9 : World) (h9 : Ans w9 w9.heap.size A S ks rows) (hE : ErrW w9) => colAll_ok p W S nd A c ks rows w9 hok h9 hS.2 hSp hW64 hel hno (by omega) (by omega) hneed hE P0 hP)
  clear hok hel hno hneed hP hA hW
  have hc30 : w3.cell? ⟨w.heap.size, 0, none⟩ = some (.int .i64 p) := (hF3.cell 0).trans rfl
  have hc31 : w3.cell? ⟨w.heap.size + 1, 0, none⟩ = some (.int .i64 S) := (hP3.cell 0).trans rfl
  have hc32 : w3.cell? ⟨w.heap.size + 1, 1, none⟩ = some (.int .i64 d) := (hP3.cell 1).trans rfl
  go_enter Tryz.func31, Tryz.ntmps31
  go_upto_region 11 with (first
    | (go_at_call 67; refine (HCK.out _).mono ?_; rintro e w4 ⟨rfl, hb4⟩
       have hbb4 := bnext hb3 hb4
       have hF4 := hF3.below hb4 hF3.lt
       have hP4 := hP3.below hb4 hP3.lt
       have hR4 := hR3.below hb4 hR3.lt
       have hA4 := hA3.upto hb4
       have hE4 := hE3.below hb4
       have hc40 : w4.cell? ⟨w.heap.size, 0, none⟩ = some (.int .i64 p) := (hF4.cell 0).trans rfl
       have hc41 : w4.cell? ⟨w.heap.size + 1, 0, none⟩ = some (.int .i64 S) := (hP4.cell 0).trans rfl
       have hc42 : w4.cell? ⟨w.heap.size + 1, 1, none⟩ = some (.int .i64 d) := (hP4.cell 1).trans rfl)
    | (go_at_call 68; refine (HCC.out _ hA4).mono ?_; rintro e w5 ⟨rfl, hb5⟩
       have hba5 : Below w5.heap.size w5 (w5.alloc (.cells #[.int .i64 p, .int .i64 nd, .slice A S c] 147)) := bbox _
       have hbb6 := bnext (bnext hbb4 hb5) hba5
       have hC6 := Blk.new w5 147 #[.int .i64 p, .int .i64 nd, .slice A S c]
       have hF5 := hF4.below hb5 hF4.lt
       have hP5 := hP4.below hb5 hP4.lt
       have hR6 := (hR4.below hb5 hR4.lt).alloc (.cells #[.int .i64 p, .int .i64 nd, .slice A S c] 147)
       have hA6 := (hA4.upto hb5).upto hba5
       have hE6 := (hE4.below hb5).below hba5
       have hc50 : w5.cell? ⟨w.heap.size, 0, none⟩ = some (.int .i64 p) := (hF5.cell 0).trans rfl
       have hc52 : w5.cell? ⟨w.heap.size + 1, 1, none⟩ = some (.int .i64 d) := (hP5.cell 1).trans rfl
       have hc60 : (w5.alloc (.cells #[.int .i64 p, .int .i64 nd, .slice A S c] 147)).cell? ⟨w5.heap.size, 0, none⟩ = some (.int .i64 p) := (hC6.cell 0).trans rfl
       have hc61 : (w5.alloc (.cells #[.int .i64 p, .int .i64 nd, .slice A S c] 147)).cell? ⟨w5.heap.size, 1, none⟩ = some (.int .i64 nd) := (hC6.cell 1).trans rfl
       have hc62 : (w5.alloc (.cells #[.int .i64 p, .int .i64 nd, .slice A S c] 147)).cell? ⟨w5.heap.size, 2, none⟩ = some (.slice A S c) := (hC6.cell 2).trans rfl)
    | (go_at_call 69; refine (HAL.out _ hA6 hE6).mono ?_; rintro e w7 ⟨⟨L, lc, Q, qn, qc, qs, rfl, hM7, hQ7, hfq⟩, hb7⟩))
  have hB8 := Blk.new w7 59 #[.slice none 0 0, .slice Q qn qc]
  have hb8 : Below w7.heap.size w7 (w7.alloc (.cells #[.slice none 0 0, .slice Q qn qc] 59)) := bbox _
  have hbb7 := bnext hbb6 hb7
  have hR7 := hR6.below hb7 hR6.lt
  have hRl : w.heap.size + 1 + 1 < w7.heap.size := hR7.lt
  have hw56 : w.heap.size + 1 + 1 < w5.heap.size := (hR4.below hb5 hR4.lt).lt
  have HQF : Hid (Frs (w.heap.size + 1 + 1 + 1) Q qn) := Lib.hid fun b o s e h0 => by
    have := hfq b o s e h0
    simp [World.size_alloc] at this
    omega
  have HPS : Hid (∀ k, k < W → cf (((List.range W).map fun col => trimL (P0 col)).getD k []) 0 = cf (P0 k) 0) := Lib.hid fun k hk => by
    rw [List.getD_eq_getElem?_getD, List.getElem?_map, List.getElem?_range hk]
    show cf (trimL (P0 k)) 0 = _
    rw [cf_trimL]
  obtain ⟨Ps, hPs⟩ : ∃ Ps, ((List.range W).map fun col => trimL (P0 col)) = Ps := ⟨_, rfl⟩
  rw [hPs] at HPS hM7
  clear hPs HAL HCC HCK hfq hC6 hF5 hP5 hR6 hA6 hE6 hc50 hc52 hc60 hc61 hc62 hF4 hP4 hR4 hA4 hE4 hc40 hc41 hc42 hF3 hP3 hR3 hA3 hE3 hc30 hc31 hc32
  generalize hBe : w7.heap.size = B at *
  go_wp2
  go_loopw [60] (fun i wz => ∃ (k : Nat) (Rw : Option Addr) (rc : Nat), k ≤ W ∧ i = .int .i64 k ∧ Hid (Blk wz B 59 #[.slice Rw k rc, .slice Q qn qc]) ∧ OwnI wz (B + 1) 3 Rw k rc ((List.range k).map fun col => cf (P0 col) 0) ∧ Below B w7 wz) (fun i _ => W - (intOf i).toNat)
  case atStart => exact ⟨0, none, 0, Nat.zero_le _, rfl, Lib.hid hB8, OwnI.nil_, hb8⟩
  case round =>
    obtain ⟨k, Rw, rc, hk, rfl, HB, hO, hbz⟩ := hrel
    have hBlt := HB.out.lt
    by_cases hlt : k < W
    · have hkWi : (k : Int) < (W : Int) := by omega
      have hk0 : (0 : Int) ≤ (k : Int) := by omega
      obtain ⟨bL, oL, A1, n1, c1, rfl, _, hbL, hcL, hn1, hI1, _⟩ := (hM7.below hbz).at_ hlt
      have HT : Hid ((List.range (k + 1)).map (fun col => cf (P0 col) 0) = (List.range k).map (fun col => cf (P0 col) 0) ++ [cf (P0 k) 0]) := Lib.hid (by rw [List.range_succ, List.map_append]; rfl)
      have hco := colCoef_any A1 n1 c1 _ 0 wr.drew (show Ints wr.drew B A1 n1 (Ps.getD k []) from hI1)
      rw [HPS.out k hlt] at hco
      obtain ⟨x, hx⟩ : ∃ x, cf (P0 k) 0 = x := ⟨_, rfl⟩
      rw [hx] at hco HT
      have HCO := Lib.hid hco
      clear hco hx hI1
      go_upto_region 15 with fail
      have hH0d : wr.drew.cell? ⟨B, 0, none⟩ = some (.slice Rw k rc) := (HB.out.cell 0).trans rfl
      have hO5 : OwnI (wr.drew.alloc (.cells #[.int .i64 x] 3)) (B + 1) 3 Rw k rc _ := hO.drew.alloc _
      have hB5 := (HB.out.drew).alloc (.cells #[.int .i64 x] 3)
      have hH5 : (wr.drew.alloc (.cells #[.int .i64 x] 3)).cell? ⟨B, 0, none⟩ = some (.slice Rw k rc) := (hB5.cell 0).trans rfl
      have hI5 : Ints (wr.drew.alloc (.cells #[.int .i64 x] 3)) (wr.drew.alloc (.cells #[.int .i64 x] 3)).heap.size (some ⟨wr.heap.size, 0, none⟩) 1 [x] := Ints.oneAt _ _ _ _ (by simp)
      have hsz5 : B + 1 ≤ (wr.drew.alloc (.cells #[.int .i64 x] 3)).heap.size := by rw [World.size_alloc]; show B + 1 ≤ wr.heap.size + 1; omega
      have hb5d : Below B w7 (wr.drew.alloc (.cells #[.int .i64 x] 3)) := hbz.drew.alloc (by show B ≤ wr.heap.size; omega) _
      refine wp_region_M (S := fun w' => w'.cell? ⟨B, 0, none⟩ = some (.slice Rw k rc)) (n := 7) (by kernel_rfl) hH0d (fun inv hS => ?_)
      refine wpM_take (i := 0) (v := ?va0) rfl (by kernel_rfl) (by kernel_rfl) (by kernel_rfl) (fun _ _ _ h => h) (by kernel_rfl) (by kernel_rfl) (of_decide_eq_true (by kernel_rfl)) (by decide) inv (Or.inl ⟨by rfl, ?hya0⟩) hS ?resta0
      case hya0 => (intro w' hSw; (try dsimp only at hSw); go_simp; try with_reducible rfl)
      clear inv
      intro inv
      (try simp only [Act.put, List.setIfInBounds_toArray, List.set_cons_zero, List.set_cons_succ])
      refine wpM_take (i := 1) (v := ?va1) rfl (by kernel_rfl) (by kernel_rfl) (by kernel_rfl) (fun _ _ _ h => h) (by kernel_rfl) (by kernel_rfl) (of_decide_eq_true (by kernel_rfl)) (by decide) inv (Or.inl ⟨by rfl, ?hya1⟩) hS ?resta1
      case hya1 => (intro w' hSw; (try dsimp only at hSw); go_simp; try with_reducible rfl)
      clear inv
      intro inv
      (try simp only [Act.put, List.setIfInBounds_toArray, List.set_cons_zero, List.set_cons_succ])
      refine wpM_take (i := 2) (v := ?va2) rfl (by kernel_rfl) (by kernel_rfl) (by kernel_rfl) (fun _ _ _ h => h) (by kernel_rfl) (by kernel_rfl) (of_decide_eq_true (by kernel_rfl)) (by decide) inv (Or.inl ⟨by rfl, ?hya2⟩) hS ?resta2
      case hya2 => (intro w' hSw; (try dsimp only at hSw); go_simp; try with_reducible rfl)
      clear inv
      intro inv
      (try simp only [Act.put, List.setIfInBounds_toArray, List.set_cons_zero, List.set_cons_succ])
      refine wpM_one (k := 3) rfl (by kernel_rfl) (by decide) inv (fun K hK => ?_)
      clear inv hS
      go_simp
      go_at_call 71
      refine HCO.out.mono ?_
      rintro e w4 ⟨rfl, rfl⟩
      (try dsimp only)
      refine hK.out _ _ hH0d (fun inv hS => ?_)
      clear hK K
      (try simp only [Act.put, List.setIfInBounds_toArray, List.set_cons_zero, List.set_cons_succ])
      refine wpM_one (k := 4) rfl (by kernel_rfl) (by decide) inv (fun K hK => ?_)
      clear inv hS
      go_simp
      refine hK.out _ _ hH5 (fun inv hS => ?_)
      clear hK K
      (try simp only [Act.put, List.setIfInBounds_toArray, List.set_cons_zero, List.set_cons_succ])
      refine wpM_one (k := 5) rfl (by kernel_rfl) (by decide) inv (fun K hK => ?_)
      clear inv hS
      refine step_app (w := (wr.drew.alloc (.cells #[.int .i64 x] 3))) rfl (.tmp 65) (.tmp 68) 22 rfl (B + 1) 3 i0 _ Tryz.underlying22 hi0 hz0 hz1 hz2 rfl Rw k rc _ (by first | rfl | simp [Act.eval]) hO5 (some ⟨wr.heap.size, 0, none⟩) 1 1 [x] (by first | rfl | simp [Act.eval]) hI5 (k + 1) rfl (by omega) hsz5 ?_
      intro R9 c9 w9 hown9 hgr9 hbw9 hab9
      have hB9 := hB5.grown hgr9 (fun e => by have := (World.ownsRow.lt hO5 B e.symm).1; omega)
      have hH9 : w9.cell? ⟨B, 0, none⟩ = some (.slice Rw k rc) := (hB9.cell 0).trans rfl
      have hf9 := hB9.frozen 0
      have HBn := Lib.hid (hB9.set_ 0 (.slice R9 (k + 1) c9))
      have hb9 := (hb5d.trans (hbw9.mono (Nat.le_succ B))).setCell (p := ⟨B, 0, none⟩) (Nat.le_refl B) (.slice R9 (k + 1) c9)
      have hOn : OwnI (w9.setCell ⟨B, 0, none⟩ (.slice R9 (k + 1) c9)) (B + 1) 3 R9 (k + 1) c9 ((List.range (k + 1)).map fun col => cf (P0 col) 0) := by
        rw [HT.out]
        refine hown9.kept ((Step.refl B w9).set 0 _) ?_
        rcases hb0 : (Value.slice R9 (k + 1) c9).ownBlock with _ | b
        · exact .inl rfl
        · refine .inr (fun e => ?_)
          have h1 := (World.ownsRow.lt hown9 b hb0).1
          injection e with e
          omega
      clear hgr9 hbw9 hab9 hown9
      refine hK.out _ _ hH9 (fun inv hS => ?_)
      clear hK K
      (try simp only [Act.put, List.setIfInBounds_toArray, List.set_cons_zero, List.set_cons_succ])
      refine wpM_take (i := 6) (v := ?vb6) rfl (by kernel_rfl) (by kernel_rfl) (by kernel_rfl) (fun _ _ _ h => h) (by kernel_rfl) (by kernel_rfl) (of_decide_eq_true (by kernel_rfl)) (by decide) inv (Or.inl ⟨by rfl, ?hyb6⟩) hS ?restb6
      case hyb6 => (intro w' hSw; (try dsimp only at hSw); go_simp; try with_reducible rfl)
      clear inv
      intro inv
      (try simp only [Act.put, List.setIfInBounds_toArray, List.set_cons_zero, List.set_cons_succ])
      refine wpM_last rfl (by kernel_rfl) (by kernel_rfl) (fun K hK => ?_)
      clear inv hS
      go_simp
      refine hK.out _ _ ?_
      clear hK K
      go_wp2
      go_roundw
      case rel => exact ⟨k + 1, R9, c9, by omega, by go_num, HBn, hOn, hb9⟩
      case measure => simp [intOf]; omega
    · obtain rfl : W = k := by omega
      have hRz := hR7.below hbz hRl
      have hBz := HB.out
      have hq0 : wr.cell? ⟨B, 0, none⟩ = some (.slice Rw W rc) := (hBz.cell 0).trans rfl
      have hq1 : wr.cell? ⟨B, 1, none⟩ = some (.slice Q qn qc) := (hBz.cell 1).trans rfl
      have hz0 : wr.cell? ⟨w.heap.size + 1 + 1, 0, none⟩ = some (.slice none 0 0) := (hRz.cell 0).trans rfl
      have hf0 := hRz.frozen 0
      have hz1 : wr.cell? ⟨w.heap.size + 1 + 1, 1, none⟩ = some (.slice none 0 0) := (hRz.cell 1).trans rfl
      have hf1 := hRz.frozen 1
      have hFB := (hRz.set_ 0 (.slice Rw W rc)).set_ 1 (.slice Q qn qc)
      have hfin0 : ((wr.setCell ⟨w.heap.size + 1 + 1, 0, none⟩ (.slice Rw W rc)).setCell ⟨w.heap.size + 1 + 1, 1, none⟩ (.slice Q qn qc)).cell? ⟨w.heap.size + 1 + 1, 0, none⟩ = some (.slice Rw W rc) := (hFB.cell 0).trans rfl
      have hfin1 : ((wr.setCell ⟨w.heap.size + 1 + 1, 0, none⟩ (.slice Rw W rc)).setCell ⟨w.heap.size + 1 + 1, 1, none⟩ (.slice Q qn qc)).cell? ⟨w.heap.size + 1 + 1, 1, none⟩ = some (.slice Q qn qc) := (hFB.cell 1).trans rfl
      have hbf0 : Below w.heap.size w wr := hbb7.trans (hbz.mono (by omega))
      have hbf : Below w.heap.size w ((wr.setCell ⟨w.heap.size + 1 + 1, 0, none⟩ (.slice Rw W rc)).setCell ⟨w.heap.size + 1 + 1, 1, none⟩ (.slice Q qn qc)) := (hbf0.setCell (p := ⟨w.heap.size + 1 + 1, 0, none⟩) (by show w.heap.size ≤ w.heap.size + 1 + 1; omega) _).setCell (p := ⟨w.heap.size + 1 + 1, 1, none⟩) (by show w.heap.size ≤ w.heap.size + 1 + 1; omega) _
      have hJ1 := (hO.ints.setFar _ 0 (.slice Rw W rc) (fun b o s e h0 => (by have := hO.row b (by rw [e]; rfl); omega : b ≠ w.heap.size + 1 + 1))).setFar _ 1 (.slice Q qn qc) (fun b o s e h0 => (by have := hO.row b (by rw [e]; rfl); omega : b ≠ w.heap.size + 1 + 1))
      have hJ2 := ((((hQ7.below hbz).more (by omega : B ≤ wr.heap.size)).setFar _ 0 (.slice Rw W rc) (fun b o s e h0 => (by have := HQF.out b o s e h0; omega : b ≠ w.heap.size + 1 + 1))).setFar _ 1 (.slice Q qn qc) (fun b o s e h0 => (by have := HQF.out b o s e h0; omega : b ≠ w.heap.size + 1 + 1)))
      have HPO : CvdPost ((List.range W).map fun col => cf (P0 col) 0) W w (.returned (.tuple #[.agg #[.slice Rw W rc, .slice Q qn qc], .int .i64 0])) ((wr.setCell ⟨w.heap.size + 1 + 1, 0, none⟩ (.slice Rw W rc)).setCell ⟨w.heap.size + 1 + 1, 1, none⟩ (.slice Q qn qc)) :=
        ⟨⟨Rw, rc, Q, qn, qc, qs, rfl, by simpa [World.setCell] using hJ1, fun b o s e h0 => (by have := hO.row b (by rw [e]; rfl); omega), by simpa [World.setCell] using hJ2⟩, hbf⟩
      clear hFB hJ1 hJ2 hO hQ7
      go_wp2
      refine bodyPost_ret (v := .tuple #[.agg #[.slice Rw W rc, .slice Q qn qc], .int .i64 0]) (by simp [results, Tryz.results31, go_sem, hfin0, hfin1]) rfl HPO
end Go.Proofs.YtmcgnpdfpfgfpaaGreatDoor
