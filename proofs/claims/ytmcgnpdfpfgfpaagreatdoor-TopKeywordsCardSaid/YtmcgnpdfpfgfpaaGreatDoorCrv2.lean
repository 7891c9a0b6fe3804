/-
  What curve's Queries hands back for a valid plan and a tape of as many elements as are drawn. Conditions: the tape's list reads as its numbers.
-/
import Derived.Test.YtmcgnpdfpfgfpaaGreatDoorGCrv
import Derived.Test.YtmcgnpdfpfgfpaaGreatDoorPlain
import Derived.Test.YtmcgnpdfpfgfpaaGreatDoorGMem
import Derived.Test.YtmcgnpdfpfgfpaaGreatDoorMkRows
import Derived.Test.YtmcgnpdfpfgfpaaGreatDoorGSpl
import Derived.Deep.RegionLaw
import Derived.Deep.RegionHeld3
namespace Go.Proofs.YtmcgnpdfpfgfpaaGreatDoor
open Go.RowKit
set_option linter.unusedVariables false

theorem blk4c (w : World) (ta tb tc td : TypeId) (ca cb cc cd : Array Value) : ∃ W, (((w.alloc (.cells ca ta)).alloc (.cells cb tb)).alloc (.cells cc tc)).alloc (.cells cd td) = W ∧ W.heap.size = w.heap.size + 4 ∧ Below w.heap.size w W ∧
    Blk W w.heap.size ta ca ∧ Blk W (w.heap.size + 1) tb cb ∧ Blk W (w.heap.size + 1 + 1) tc cc ∧ Blk W (w.heap.size + 1 + 1 + 1) td cd := by
  refine ⟨_, rfl, by simp, ballocs (ballocs (ballocs (bbox _) _) _) _, (((Blk.new w ta ca).alloc _).alloc _).alloc _, ((Blk.new1 w _ tb cb).alloc _).alloc _, ?_, ?_⟩
  · have := Blk.new1 (w.alloc (.cells ca ta)) (.cells cb tb) tc cc
    rw [World.size_alloc] at this
    exact this.alloc _
  · have := Blk.new1 ((w.alloc (.cells ca ta)).alloc (.cells cb tb)) (.cells cc tc) td cd
    rwa [World.size_alloc, World.size_alloc] at this

theorem types_share : (135 : TypeId) ≠ 3 ∧ (135 : TypeId) ≠ 22 := by decide +kernel

/-- Shares stay where a growing row turns, and its slice is stored. -/
theorem OwnS.overGr {w w' : World} {base b2 g S k N c' n c : Nat} {bs : List (Option Addr × Nat × Nat)} {m : List (List Int)} {A A' : Option Addr} {us ys : List Int} (h : OwnS w b2 A n c us ys) (hG : GrW w base g S bs m) (hk : k < S)
    (hg : w.grownBy w' (Value.slice (bs.getD k (none, 0, 0)).1 (bs.getD k (none, 0, 0)).2.1 (bs.getD k (none, 0, 0)).2.2).ownBlock) : OwnS (w'.setCell ⟨g, k, none⟩ (.slice A' N c')) b2 A n c us ys := by
  have key : ∀ b, (Value.slice A n c).ownBlock = some b → A = some ⟨b, 0, none⟩ := fun b e => by
    rcases h.2.2.2 with ⟨hv, _⟩ | ⟨g2, cap, cur, hv, _⟩
    · rw [hv] at e; cases e
    · injection hv with h1
      rw [h1] at e
      have e2 : some g2 = some b := e
      injection e2 with e2
      rw [h1, e2]
  refine ⟨h.1, h.2.1, ?_⟩
  have h1 := World.ownsRow.kept h.2.2 hg (by
    rcases hb : (Value.slice A n c).ownBlock with _ | b
    · exact .inl rfl
    · refine .inr (fun e => ?_)
      have hA := key b hb
      rcases (hG.own k hk).at0 with h2 | ⟨b3, h2⟩
      · rw [h2] at e; cases e
      · have ho := hG.own k hk
        rw [h2] at ho e
        have e2 : some b = some b3 := e
        injection e2 with e2
        have hh := h.2.2
        rw [hA] at hh
        exact own_ne hh ho types_share.1 e2)
  refine World.ownsRow.kept h1 ((Step.refl g w').set k (.slice A' N c')) ?_
  rcases hb : (Value.slice A n c).ownBlock with _ | b
  · exact .inl rfl
  · refine .inr (fun e => ?_)
    have e2 : some b = some g := e
    injection e2 with e2
    have hA := key b hb
    have hh := h.2.2
    rw [hA] at hh
    exact own_ne hh hG.out types_share.2 e2

set_option maxRecDepth 100000 in
set_option maxHeartbeats 16000000 in
theorem cquer_ok (p : Int) (S d n i N tc : Nat) (T : Option Addr) (ds : List Int) (w : World) (hok : okP p = true) (hS : 2 ≤ S ∧ S ≤ 10) (hd : 1 ≤ d ∧ d < S) (hp : (S : Int) < p) (hn : 1 ≤ n ∧ n ≤ 1024) (hN : n * d = N) (hi : i < n) (hT : Ints w w.heap.size T N ds) (hds : allP p ds = true) :
    Calls Tryz.prog 25 #[.agg #[.int .i64 p], .agg #[.int .i64 S, .int .i64 d], .int .i64 n, .int .i64 i, .agg #[.slice T N tc, .int .i64 0]] w fun e w' =>
      (∃ (g : Nat) (bs : List (Option Addr × Nat × Nat)) (T' : Option Addr) (tc' : Nat) (av : Int), e = .returned (.tuple #[.slice (some ⟨g, 0, none⟩) S S, .agg #[.slice T' N tc', .int .i64 av], .int .i64 0]) ∧ GrW w' w.heap.size g S bs (qM p i d S ds n 0)) ∧ Below w.heap.size w w' := by
  obtain ⟨i0, hi0, hz0, hz1, hz2⟩ := info_parts info_int
  obtain ⟨i9, hi9, hy0, hy1, hy2⟩ := info_parts info_row
  have HO := Lib.hid hok
  have HDS := Lib.hid hds
  have HN : Hid (N ≤ 10240) := Lib.hid (by rw [← hN]; exact Nat.le_trans (Nat.mul_le_mul hn.2 (by omega : d ≤ 10)) (by omega))
  have hni : (n : Int) * (d : Int) = (N : Int) := by rw [← hN]; exact (Int.natCast_mul n d).symm
  have hNw : IntKind.i64.wrap (N : Int) = (N : Int) := IntWalk.i64_in _ (by have := HN.out; omega)
  have hi1 : ¬ (i : Int) < 0 := by omega
  have hi2 : ¬ (n : Int) ≤ (i : Int) := by omega
  have hi2N : ¬ n ≤ i := by omega
  have hi3 : decide (n ≤ i) = false := decide_eq_false (by omega)
  have HNM := Lib.hid hN
  obtain ⟨wx, hwx, hszx, hbx, x0, x1, x2, x3⟩ := blk4c w 44 54 75 75 #[.int .i64 p] #[.int .i64 S, .int .i64 d] #[.slice T N tc, .int .i64 0] #[.slice none 0 0, .int .i64 0]
  have hcx0 : wx.cell? ⟨w.heap.size, 0, none⟩ = some (.int .i64 p) := (x0.cell 0).trans rfl
  have hcx1 : wx.cell? ⟨w.heap.size + 1, 0, none⟩ = some (.int .i64 S) := (x1.cell 0).trans rfl
  have hcx2 : wx.cell? ⟨w.heap.size + 1, 1, none⟩ = some (.int .i64 d) := (x1.cell 1).trans rfl
  clear hok hds hN
  go_enter Tryz.func25, Tryz.ntmps25
  go_upto_region 9 with (first
    | (go_at_call 58; refine (ccheck_yes p S d n _ HO.out hS hd hp hn).mono ?_; rintro e w1 ⟨rfl, hb1⟩
       have hw1 := hbx.trans (hb1.mono hbx.size)
       have y0 := x0.below hb1 x0.lt
       have y1 := x1.below hb1 x1.lt
       have y2 := x2.below hb1 x2.lt
       have y3 := x3.below hb1 x3.lt
       have hsz1 := hb1.size
       rw [hszx] at hsz1
       have hT1 : Ints w1 w1.heap.size T N ds := (hT.below hw1).more hw1.size
       have hcy0 : w1.cell? ⟨w.heap.size, 0, none⟩ = some (.int .i64 p) := (y0.cell 0).trans rfl
       have hcy2 : w1.cell? ⟨w.heap.size + 1, 1, none⟩ = some (.int .i64 d) := (y1.cell 1).trans rfl
       have hcy3 : w1.cell? ⟨w.heap.size + 1 + 1, 0, none⟩ = some (.slice T N tc) := (y2.cell 0).trans rfl
       have hcy4 : w1.cell? ⟨w.heap.size + 1 + 1, 1, none⟩ = some (.int .i64 0) := (y2.cell 1).trans rfl
       clear hb1 hcx0 hcx1 hcx2)
    | (go_at_call 59; refine (draws_first T N tc N p ds _ hT1 (by have := HN.out; omega) (by have := okP_pos HO.out; omega) (Nat.le_refl _) (fun j hj => allP_getD HDS.out (by rw [hT1.len]; exact hj))).mono ?_; rintro e w2 ⟨⟨T2, tc2, D, dc, rfl, hoT2, hoD2⟩, hb2⟩
       have hw2 := hw1.trans (hb2.mono hw1.size)
       have z0 := y0.below hb2 y0.lt
       have z1 := y1.below hb2 y1.lt
       have z2 := y2.below hb2 y2.lt
       have z3 := y3.below hb2 y3.lt
       have hsz2 := hb2.size
       have HTK : Hid (ds.take N = ds) := Lib.hid (List.take_of_length_le (by rw [hT1.len]; exact Nat.le_refl _))
       rw [HTK.out] at hoD2
       clear hcy0 hcy2 hcy3 hcy4))
  have hp2 := okP_pos HO.out
  have hbx3 : Below w2.heap.size w2 (w2.alloc (.cells #[.slice T2 N tc2, .int .i64 N] 75)) := bbox _
  have hw3 := hw2.trans (hbx3.mono hw2.size)
  have u0 := z0.below hbx3 z0.lt
  have u1 := z1.below hbx3 z1.lt
  have u2 := z2.below hbx3 z2.lt
  have u3 := z3.below hbx3 z3.lt
  have hoD3 := hoD2.belowAll hbx3
  have hsz3 := hbx3.size
  obtain ⟨w3, hw3e⟩ : ∃ v, w2.alloc (.cells #[.slice T2 N tc2, .int .i64 N] 75) = v := ⟨_, rfl⟩
  rw [hw3e] at hw3 u0 u1 u2 u3 hoD3 hsz3
  rw [hw3e]
  clear hw3e hbx3 z0 z1 z2 z3 hoD2 hoT2 hb2 hw2 y0 y1 y2 y3 hw1 hT1 x0 x1 x2 x3 hwx hszx hbx
  have hcu1 : w3.cell? ⟨w.heap.size + 1, 0, none⟩ = some (.int .i64 S) := (u1.cell 0).trans rfl
  go_wp2_with (at_make
               refine wpList_make_full _ rfl _ _ 45 rfl w3.heap.size 22 i9 (.slice none 0 0) 1 Tryz.underlying45 hi9 hy0 hy1 .i64 .i64 S S S rfl rfl rfl rfl (by rw [hy2]; omega) (by unfold maxLen; omega) (Nat.le_refl _) ?_
               intro w4 hown4 hgr4
               rw [made_rows] at hown4
               have hG4 := GrW.start hown4
               have hb4 := (Below.refl w3.heap.size w3).grown hgr4 (Nat.le_refl _) (fun k hk => by cases hk)
               clear hown4 hgr4)
  go_loopw [61] (fun v61 wz => ∃ (j : Nat) (bs : List (Option Addr × Nat × Nat)), j ≤ n ∧ v61 = .int .i64 j ∧ GrW wz w3.heap.size w3.heap.size S bs (qM p i d S ds j 0) ∧ Below w3.heap.size w3 wz) (fun v61 _ => n - (intOf v61).toNat)
  case atStart => exact ⟨0, _, Nat.zero_le _, rfl, (by rw [qM_zero]; exact hG4), hb4⟩
  case round =>
  obtain ⟨j, bs, hj, rfl, hG, hbz⟩ := hrel
  obtain ⟨w5, hw5⟩ : ∃ v, v = wr := ⟨_, rfl⟩
  subst hw5
  have hbw5 := hw3.trans (hbz.mono hw3.size)
  by_cases hlt : j < n
  · have hji : (j : Int) < (n : Int) := by omega
    have hjw : IntKind.i64.wrap ((j : Int) + 1) = (j : Int) + 1 := IntWalk.i64_in _ (by omega)
    have v0 := u0.below hbz u0.lt
    have v1 := u1.below hbz u1.lt
    have hcf : w5.cell? ⟨w.heap.size, 0, none⟩ = some (.int .i64 p) := (v0.cell 0).trans rfl
    have hcp0 : w5.cell? ⟨w.heap.size + 1, 0, none⟩ = some (.int .i64 S) := (v1.cell 0).trans rfl
    have hcp1 : w5.cell? ⟨w.heap.size + 1, 1, none⟩ = some (.int .i64 d) := (v1.cell 1).trans rfl
    obtain ⟨lo, hlo⟩ : ∃ lo, j * d = lo := ⟨_, rfl⟩
    obtain ⟨up, hup⟩ : ∃ up, lo + d = up := ⟨_, rfl⟩
    have HUP : Hid (up ≤ N) := Lib.hid (by rw [← hup, ← hlo, ← HNM.out]; have := Nat.mul_le_mul_right d (show j + 1 ≤ n from hlt); rw [Nat.add_mul, Nat.one_mul] at this; exact this)
    have hup4 : up ≤ 10240 := Nat.le_trans HUP.out HN.out
    have hloi : (j : Int) * (d : Int) = (lo : Int) := by rw [← hlo]; exact (Int.natCast_mul j d).symm
    have hupi : ((j : Int) + 1) * (d : Int) = (up : Int) := by rw [← hup, Int.add_mul, hloi]; omega
    have hlow : IntKind.i64.wrap (lo : Int) = (lo : Int) := IntWalk.i64_in _ (by omega)
    have hupw : IntKind.i64.wrap (up : Int) = (up : Int) := IntWalk.i64_in _ (by omega)
    have hoD5 := hoD3.belowAll hbz
    have hDI := hoD5.ints
    have hDc := hoD5.cap
    have hSI := Lib.hid (hDI.sub_ hDc lo d (by have := HUP.out; omega))
    have hlo0 : (0 : Int) ≤ (lo : Int) := by omega
    have hlou : (lo : Int) ≤ (up : Int) := by omega
    have hlouN : lo ≤ up := by omega
    have hupc : (up : Int) ≤ (dc : Int) := by have := HUP.out; omega
    have hupcN : up ≤ dc := by have := HUP.out; omega
    have hdif : up - lo = d := by omega
    obtain ⟨A4, hA4, HI4⟩ : ∃ A4 : Option Addr, (if dc = lo then D else Option.map (fun x => x.add lo) D) = A4 ∧ Hid (∀ W, Below w5.heap.size w5 W → Ints W W.heap.size A4 d ((ds.drop lo).take d)) := by
      refine ⟨_, rfl, Lib.hid fun W hW => ?_⟩
      have := hSI.out
      rw [Nat.mul_one] at this
      exact this.upto hW
    have hCH : Hid (((ds.drop lo).take d).take d = (ds.drop (j * d)).take d) := Lib.hid (by rw [List.take_take, Nat.min_self, hlo])
    clear hlo hup hDI hSI
    have HK : Hid (∀ W, Below w5.heap.size w5 W → W.cell? ⟨w.heap.size, 0, none⟩ = some (.int .i64 p) ∧ W.cell? ⟨w.heap.size + 1, 0, none⟩ = some (.int .i64 S) ∧ W.cell? ⟨w.heap.size + 1, 1, none⟩ = some (.int .i64 d)) := Lib.hid fun W hW => ⟨((v0.below hW v0.lt).cell 0).trans rfl, ((v1.below hW v1.lt).cell 0).trans rfl, ((v1.below hW v1.lt).cell 1).trans rfl⟩
    by_cases hij : j = i
    · have hde : decide ((j : Int) = (i : Int)) = true := decide_eq_true (by omega)
      have hdeN : decide (j = i) = true := decide_eq_true hij
      have hbq : ((j : Int) == (i : Int)) = true := by simp; omega
      have hbqN : (j == i) = true := by simp; omega
      have HCF : Hid ((1 : Int) :: ((ds.drop lo).take d).take d = cvF i d ds j) := Lib.hid (by rw [hCH.out, cvF, if_pos hij])
      clear hij
      go_upto_region 16 with fail
      go_cut [20, 22] (fun s20 s22 wx => ∃ (A6 : Option Addr) (c6 : Nat), s20 = .slice A6 S c6 ∧ s22 = .int .i64 0 ∧ OwnS wx w5.heap.size A6 S c6 (ptsL S) (valsP p (cvF i d ds j) (ptsL S)) ∧ Below w5.heap.size w5 wx)
      case first =>
        have hbd : Below w5.heap.size w5 w5.drew := (Below.refl w5.heap.size w5).drew
        have hbda : Below w5.heap.size w5 (w5.alloc (.cells #[.slice none 0 0, .int .i64 0] 75)).drew := (bbox _).drew
        have HDN : Hid (∀ q, q < d → 0 ≤ ((ds.drop lo).take d).getD q 0 ∧ ((ds.drop lo).take d).getD q 0 < p) := Lib.hid fun q hq => allP_getD (allP_iff.2 fun x hx => allP_iff.1 HDS.out x (List.mem_of_mem_drop (List.mem_of_mem_take hx))) (by have := (HI4.out _ (Below.refl _ _)).len; omega)
        go_region_held3 (fun w' => w'.cell? ⟨w.heap.size, 0, none⟩ = some (.int .i64 p) ∧ w'.cell? ⟨w.heap.size + 1, 0, none⟩ = some (.int .i64 S) ∧ w'.cell? ⟨w.heap.size + 1, 1, none⟩ = some (.int .i64 d)) (first | exact HK.out _ hbd | exact HK.out _ hbda | exact HK.out _ hb7 | exact HK.out _ hb8 | exact HK.out _ (hb7.alloc hb7.size _))
          (first
            | (go_at_call 60; (refine (split_ok p _ d S A4 d _ ((ds.drop lo).take d) _ HO.out (by omega) (HI4.out _ (by first | exact hbd | exact hbda)) (by omega) (by omega) (Nat.le_refl _) HDN.out (by omega) hp).mono ?_); rintro e w7 ⟨⟨A7, c7, T7, tc7, rfl, hoS7⟩, hb7'⟩
               have hb7 : Below w5.heap.size w5 w7 := (by first | exact hbd.trans hb7' | exact hbda.trans (hb7'.mono hbda.size))
               rw [HCF.out] at hoS7
               first
                 | (have hq7 := (Blk.drew (Blk.new w5 75 #[.slice none 0 0, .int .i64 0])).below hb7' (Blk.drew (Blk.new w5 75 #[.slice none 0 0, .int .i64 0])).lt
                    have hc70 : w7.cell? ⟨w5.heap.size, 0, none⟩ = some (.slice none 0 0) := (hq7.cell 0).trans rfl
                    have hc71 : w7.cell? ⟨w5.heap.size, 1, none⟩ = some (.int .i64 0) := (hq7.cell 1).trans rfl
                    have hz70 : w7.frozen? ⟨w5.heap.size, 0, none⟩ = false := hq7.frozen 0
                    have hz71 : w7.frozen? ⟨w5.heap.size, 1, none⟩ = false := hq7.frozen 1
                    have hb8 : Below w5.heap.size w5 ((w7.setCell ⟨w5.heap.size, 0, none⟩ (.slice T7 d tc7)).setCell ⟨w5.heap.size, 1, none⟩ (.int .i64 d)) := below_two hb7 (Nat.le_refl _) _ _)
                 | skip))
        all_goals go_wp2
        all_goals go_meet
        · exact ⟨A7, c7, rfl, rfl, hoS7.belowAll (bbox _), hb7.alloc hb7.size _⟩
        · exact ⟨A7, c7, rfl, rfl, (hoS7.step (((Step.refl w5.heap.size w7).set 0 (.slice T7 d tc7)).set 1 (.int .i64 d)) (by simp [World.drew])).base (base' := w5.heap.size) (by simp [World.drew]), hb8⟩
      case rest =>
      obtain ⟨A6, c6, rfl, rfl, hoS, hb6⟩ := hcut
      obtain ⟨w6, hw6⟩ : ∃ v, v = wc := ⟨_, rfl⟩
      subst hw6
      have hG6 := hG.belowAll hb6
      have hb36 := hbz.trans (hb6.mono hbz.size)
      have hs36 := hb36.size
      have HVS : Hid (∀ k, k < S → (valsP p (cvF i d ds j) (ptsL S)).getD k 0 = valueP p ((k : Int) + 1) (cvF i d ds j)) := Lib.hid fun k hk => by
        rw [valsP_at p _ _ (by rw [ptsL_len]; exact hk), ptsL_at hk]
      have HVI : Hid (∀ k, 0 ≤ valueP p ((k : Int) + 1) (cvF i d ds j) ∧ valueP p ((k : Int) + 1) (cvF i d ds j) < p) := Lib.hid fun k => valueP_in hp2.1 _ _
      clear HCF hde hdeN hbq hbqN hG hDc hoD5 hlo0 hlou hupc hloi hupi hlow hupw hA4 HI4 HK HUP hCH v0 v1 hcf hcp0 hcp1 hlouN hupcN hdif hup4
      go_wp2_with fail
      go_loopw [96] (fun v96 wz => ∃ (k : Nat) (bs : List (Option Addr × Nat × Nat)), k ≤ S ∧ v96 = .int .i64 k ∧ GrW wz w3.heap.size w3.heap.size S bs (qM p i d S ds j k) ∧ OwnS wz w5.heap.size A6 S c6 (ptsL S) (valsP p (cvF i d ds j) (ptsL S)) ∧ Below w3.heap.size w3 wz) (fun v96 _ => S - (intOf v96).toNat)
      case atStart => exact ⟨0, _, Nat.zero_le _, rfl, hG6, hoS, hb36⟩
      case round =>
      obtain ⟨k, bs6, hk, rfl, hG, hoS, hbz⟩ := hrel
      by_cases hks : k < S
      · have hksi : (k : Int) < (S : Int) := by omega
        have hk0 : (0 : Int) ≤ (k : Int) := by omega
        obtain ⟨bS, oS, hAe, hbS, hcS⟩ := (hoS.sh).2.2 (by omega)
        subst hAe
        obtain ⟨hs0, hs1⟩ := hcS k hks
        rw [HVS.out k hks] at hs1
        obtain ⟨x, hx⟩ : ∃ x, valueP p ((k : Int) + 1) (cvF i d ds j) = x := ⟨_, rfl⟩
        have HX := Lib.hid hx
        rw [hx] at hs1
        rw [ptsL_at hks] at hs0
        clear hcS hx
        have hrl : ((qM p i d S ds j k).getD k []).length = j := by rw [qM_row_len p i d S ds j k hks, if_neg (by omega)]
        have hown := hG.own k hks
        have hnk := hown.len
        rw [hrl] at hnk
        go_upto_region 22 with fail
        rcases ht : bs6.getD k (none, 0, 0) with ⟨Ak, nk, ck⟩
        rw [ht] at hnk
        have hnk2 : nk = j := hnk.symm
        subst hnk2
        obtain ⟨wS, hwS⟩ : ∃ v, wr.alloc (.cells #[.int .i64 ((k : Int) + 1), .int .i64 x] 135) = v := ⟨_, rfl⟩
        have hGS : GrW wS w3.heap.size w3.heap.size S bs6 (qM p i d S ds nk k) := by rw [← hwS]; exact hG.alloc _
        have hbS : Below wr.heap.size wr wS := by rw [← hwS]; exact bbox _
        have hoSS : OwnS wS w5.heap.size (some ⟨bS, oS, none⟩) S c6 (ptsL S) (valsP p (cvF i d ds nk) (ptsL S)) := by rw [← hwS]; exact hoS.belowAll (bbox _)
        have hSs : wS.heap.size = wr.heap.size + 1 := by rw [← hwS]; simp
        have hbx1 : wS.drew.cell? ⟨wr.heap.size, 1, none⟩ = some (.int .i64 x) := by
          show wS.cell? _ = _
          rw [← hwS]
          exact ((Blk.new wr 135 #[.int .i64 ((k : Int) + 1), .int .i64 x]).cell 1).trans rfl
        rw [hwS]
        clear hwS
        have hcks := hGS.at_ hks
        rw [ht] at hcks
        have hckd : wS.drew.cell? ⟨w3.heap.size, k, none⟩ = some (.slice Ak nk ck) := hcks.1
        have hcfd : wS.drew.frozen? ⟨w3.heap.size, k, none⟩ = false := hcks.2
        have hGa : GrW (wS.drew.alloc (.cells #[.int .i64 x] 3)) w3.heap.size w3.heap.size S bs6 (qM p i d S ds nk k) := hGS.drew.alloc _
        have howna := hGa.own k hks
        rw [ht] at howna
        have hwl0 : w3.heap.size ≤ wS.drew.heap.size := by
          have h1 := hbz.size
          have h2 := hbS.size
          show w3.heap.size ≤ wS.heap.size
          omega
        have hwl : w3.heap.size ≤ (wS.drew.alloc (.cells #[.int .i64 x] 3)).heap.size := le_alloc hwl0 _
        have hGb : GrW (wS.alloc (.cells #[.int .i64 x] 3)).drew w3.heap.size w3.heap.size S bs6 (qM p i d S ds nk k) := (hGS.alloc _).drew
        have hckb := hGb.at_ hks
        rw [ht] at hckb
        have hckb1 : (wS.alloc (.cells #[.int .i64 x] 3)).drew.cell? ⟨w3.heap.size, k, none⟩ = some (.slice Ak nk ck) := hckb.1
        have hckb2 : (wS.alloc (.cells #[.int .i64 x] 3)).drew.frozen? ⟨w3.heap.size, k, none⟩ = false := hckb.2
        have hckc1 : (wS.drew.alloc (.cells #[.int .i64 x] 3)).cell? ⟨w3.heap.size, k, none⟩ = some (.slice Ak nk ck) := hckb.1
        have hoSa : OwnS (wS.drew.alloc (.cells #[.int .i64 x] 3)) w5.heap.size (some ⟨bS, oS, none⟩) S c6 (ptsL S) (valsP p (cvF i d ds nk) (ptsL S)) := OwnS.belowAll (w := wS.drew) hoSS (bbox _)
        have hbza : Below w3.heap.size w3 (wS.drew.alloc (.cells #[.int .i64 x] 3)) := (hbz.trans (hbS.mono hbz.size)).drew.alloc hwl0 _
        have HQ : Hid ((qM p i d S ds nk k).set k ((qM p i d S ds nk k).getD k [] ++ [x]) = qM p i d S ds nk (k + 1)) := Lib.hid (by rw [← HX.out]; exact qM_set p i d S ds nk k hks)
        clear hG hoS hnk hcks hs0 hs1 hown hoSS
        go_region_law (first
          | ((refine step_append_intsR (w := wS.drew.alloc (.cells #[.int .i64 x] 3)) rfl (.tmp 106) (.tmp 109) 22 rfl w3.heap.size 3 i0 _ Tryz.underlying22 hi0 hz0 hz1 hz2 rfl Ak nk ck _ (by simp [Act.eval]) howna (some ⟨wS.heap.size, 0, none⟩) 1 1 [x] (by simp [Act.eval]) (Ints.oneAt _ _ _ _ rfl) (nk + 1) rfl (by omega) hwl ?_); intro A3 c3 w7 hown7 hgr7 hb7 hab7
             have hat := hGa.at_grown hks (by rw [ht]; exact hgr7)
             rw [ht] at hat
             have hc7 : w7.cell? ⟨w3.heap.size, k, none⟩ = some (.slice Ak nk ck) := hat.1
             have hf7 : w7.frozen? ⟨w3.heap.size, k, none⟩ = false := hat.2))
        all_goals have hG7 := hGa.grown hks (by rw [ht]; exact hgr7) hown7 (by rw [ht]; exact hab7)
        all_goals rw [HQ.out] at hG7
        all_goals have hoS7 := OwnS.overGr (A' := A3) (N := nk + 1) (c' := c3) hoSa hGa hks (by rw [ht]; exact hgr7)
        all_goals have hbE := (hbza.trans hb7).setCell (p := ⟨w3.heap.size, k, none⟩) (Nat.le_refl _) (.slice A3 (nk + 1) c3)
        all_goals clear hGb hckb hckb1 hckb2 hckc1 hckd hcfd hbx1 hat hc7 hf7 hGS hGa howna hown7 hgr7 hb7 hab7 hoSa hbza
        all_goals go_wp2
        all_goals go_roundw
        all_goals first
          | exact ⟨k + 1, _, by omega, by go_num, hG7, hoS7, hbE⟩
          | (simp [intOf]; omega)
      · obtain rfl : k = S := by omega
        rw [qM_next] at hG
        go_wp2
        go_roundw
        case rel => exact ⟨j + 1, bs6, by omega, by go_num, hG, hbz⟩
        case measure => simp [intOf]; omega
    · have hde : decide ((j : Int) = (i : Int)) = false := decide_eq_false (by omega)
      have hdeN : decide (j = i) = false := decide_eq_false hij
      have hbq : ((j : Int) == (i : Int)) = false := by simp; omega
      have hbqN : (j == i) = false := by simp; omega
      have HCF : Hid ((0 : Int) :: ((ds.drop lo).take d).take d = cvF i d ds j) := Lib.hid (by rw [hCH.out, cvF, if_neg hij])
      clear hij
      go_upto_region 16 with fail
      go_cut [20, 22] (fun s20 s22 wx => ∃ (A6 : Option Addr) (c6 : Nat), s20 = .slice A6 S c6 ∧ s22 = .int .i64 0 ∧ OwnS wx w5.heap.size A6 S c6 (ptsL S) (valsP p (cvF i d ds j) (ptsL S)) ∧ Below w5.heap.size w5 wx)
      case first =>
        have hbd : Below w5.heap.size w5 w5.drew := (Below.refl w5.heap.size w5).drew
        have hbda : Below w5.heap.size w5 (w5.alloc (.cells #[.slice none 0 0, .int .i64 0] 75)).drew := (bbox _).drew
        have HDN : Hid (∀ q, q < d → 0 ≤ ((ds.drop lo).take d).getD q 0 ∧ ((ds.drop lo).take d).getD q 0 < p) := Lib.hid fun q hq => allP_getD (allP_iff.2 fun x hx => allP_iff.1 HDS.out x (List.mem_of_mem_drop (List.mem_of_mem_take hx))) (by have := (HI4.out _ (Below.refl _ _)).len; omega)
        go_region_held3 (fun w' => w'.cell? ⟨w.heap.size, 0, none⟩ = some (.int .i64 p) ∧ w'.cell? ⟨w.heap.size + 1, 0, none⟩ = some (.int .i64 S) ∧ w'.cell? ⟨w.heap.size + 1, 1, none⟩ = some (.int .i64 d)) (first | exact HK.out _ hbd | exact HK.out _ hbda | exact HK.out _ hb7 | exact HK.out _ hb8 | exact HK.out _ (hb7.alloc hb7.size _))
          (first
            | (go_at_call 60; (refine (split_ok p _ d S A4 d _ ((ds.drop lo).take d) _ HO.out (by omega) (HI4.out _ (by first | exact hbd | exact hbda)) (by omega) (by omega) (Nat.le_refl _) HDN.out (by omega) hp).mono ?_); rintro e w7 ⟨⟨A7, c7, T7, tc7, rfl, hoS7⟩, hb7'⟩
               have hb7 : Below w5.heap.size w5 w7 := (by first | exact hbd.trans hb7' | exact hbda.trans (hb7'.mono hbda.size))
               rw [HCF.out] at hoS7
               first
                 | (have hq7 := (Blk.drew (Blk.new w5 75 #[.slice none 0 0, .int .i64 0])).below hb7' (Blk.drew (Blk.new w5 75 #[.slice none 0 0, .int .i64 0])).lt
                    have hc70 : w7.cell? ⟨w5.heap.size, 0, none⟩ = some (.slice none 0 0) := (hq7.cell 0).trans rfl
                    have hc71 : w7.cell? ⟨w5.heap.size, 1, none⟩ = some (.int .i64 0) := (hq7.cell 1).trans rfl
                    have hz70 : w7.frozen? ⟨w5.heap.size, 0, none⟩ = false := hq7.frozen 0
                    have hz71 : w7.frozen? ⟨w5.heap.size, 1, none⟩ = false := hq7.frozen 1
                    have hb8 : Below w5.heap.size w5 ((w7.setCell ⟨w5.heap.size, 0, none⟩ (.slice T7 d tc7)).setCell ⟨w5.heap.size, 1, none⟩ (.int .i64 d)) := below_two hb7 (Nat.le_refl _) _ _)
                 | skip))
        all_goals go_wp2
        all_goals go_meet
        · exact ⟨A7, c7, rfl, rfl, hoS7.belowAll (bbox _), hb7.alloc hb7.size _⟩
        · exact ⟨A7, c7, rfl, rfl, (hoS7.step (((Step.refl w5.heap.size w7).set 0 (.slice T7 d tc7)).set 1 (.int .i64 d)) (by simp [World.drew])).base (base' := w5.heap.size) (by simp [World.drew]), hb8⟩
      case rest =>
      obtain ⟨A6, c6, rfl, rfl, hoS, hb6⟩ := hcut
      obtain ⟨w6, hw6⟩ : ∃ v, v = wc := ⟨_, rfl⟩
      subst hw6
      have hG6 := hG.belowAll hb6
      have hb36 := hbz.trans (hb6.mono hbz.size)
      have hs36 := hb36.size
      have HVS : Hid (∀ k, k < S → (valsP p (cvF i d ds j) (ptsL S)).getD k 0 = valueP p ((k : Int) + 1) (cvF i d ds j)) := Lib.hid fun k hk => by
        rw [valsP_at p _ _ (by rw [ptsL_len]; exact hk), ptsL_at hk]
      have HVI : Hid (∀ k, 0 ≤ valueP p ((k : Int) + 1) (cvF i d ds j) ∧ valueP p ((k : Int) + 1) (cvF i d ds j) < p) := Lib.hid fun k => valueP_in hp2.1 _ _
      clear HCF hde hdeN hbq hbqN hG hDc hoD5 hlo0 hlou hupc hloi hupi hlow hupw hA4 HI4 HK HUP hCH v0 v1 hcf hcp0 hcp1 hlouN hupcN hdif hup4
      go_wp2_with fail
      go_loopw [96] (fun v96 wz => ∃ (k : Nat) (bs : List (Option Addr × Nat × Nat)), k ≤ S ∧ v96 = .int .i64 k ∧ GrW wz w3.heap.size w3.heap.size S bs (qM p i d S ds j k) ∧ OwnS wz w5.heap.size A6 S c6 (ptsL S) (valsP p (cvF i d ds j) (ptsL S)) ∧ Below w3.heap.size w3 wz) (fun v96 _ => S - (intOf v96).toNat)
      case atStart => exact ⟨0, _, Nat.zero_le _, rfl, hG6, hoS, hb36⟩
      case round =>
      obtain ⟨k, bs6, hk, rfl, hG, hoS, hbz⟩ := hrel
      by_cases hks : k < S
      · have hksi : (k : Int) < (S : Int) := by omega
        have hk0 : (0 : Int) ≤ (k : Int) := by omega
        obtain ⟨bS, oS, hAe, hbS, hcS⟩ := (hoS.sh).2.2 (by omega)
        subst hAe
        obtain ⟨hs0, hs1⟩ := hcS k hks
        rw [HVS.out k hks] at hs1
        obtain ⟨x, hx⟩ : ∃ x, valueP p ((k : Int) + 1) (cvF i d ds j) = x := ⟨_, rfl⟩
        have HX := Lib.hid hx
        rw [hx] at hs1
        rw [ptsL_at hks] at hs0
        clear hcS hx
        have hrl : ((qM p i d S ds j k).getD k []).length = j := by rw [qM_row_len p i d S ds j k hks, if_neg (by omega)]
        have hown := hG.own k hks
        have hnk := hown.len
        rw [hrl] at hnk
        go_upto_region 22 with fail
        rcases ht : bs6.getD k (none, 0, 0) with ⟨Ak, nk, ck⟩
        rw [ht] at hnk
        have hnk2 : nk = j := hnk.symm
        subst hnk2
        obtain ⟨wS, hwS⟩ : ∃ v, wr.alloc (.cells #[.int .i64 ((k : Int) + 1), .int .i64 x] 135) = v := ⟨_, rfl⟩
        have hGS : GrW wS w3.heap.size w3.heap.size S bs6 (qM p i d S ds nk k) := by rw [← hwS]; exact hG.alloc _
        have hbS : Below wr.heap.size wr wS := by rw [← hwS]; exact bbox _
        have hoSS : OwnS wS w5.heap.size (some ⟨bS, oS, none⟩) S c6 (ptsL S) (valsP p (cvF i d ds nk) (ptsL S)) := by rw [← hwS]; exact hoS.belowAll (bbox _)
        have hSs : wS.heap.size = wr.heap.size + 1 := by rw [← hwS]; simp
        have hbx1 : wS.drew.cell? ⟨wr.heap.size, 1, none⟩ = some (.int .i64 x) := by
          show wS.cell? _ = _
          rw [← hwS]
          exact ((Blk.new wr 135 #[.int .i64 ((k : Int) + 1), .int .i64 x]).cell 1).trans rfl
        rw [hwS]
        clear hwS
        have hcks := hGS.at_ hks
        rw [ht] at hcks
        have hckd : wS.drew.cell? ⟨w3.heap.size, k, none⟩ = some (.slice Ak nk ck) := hcks.1
        have hcfd : wS.drew.frozen? ⟨w3.heap.size, k, none⟩ = false := hcks.2
        have hGa : GrW (wS.drew.alloc (.cells #[.int .i64 x] 3)) w3.heap.size w3.heap.size S bs6 (qM p i d S ds nk k) := hGS.drew.alloc _
        have howna := hGa.own k hks
        rw [ht] at howna
        have hwl0 : w3.heap.size ≤ wS.drew.heap.size := by
          have h1 := hbz.size
          have h2 := hbS.size
          show w3.heap.size ≤ wS.heap.size
          omega
        have hwl : w3.heap.size ≤ (wS.drew.alloc (.cells #[.int .i64 x] 3)).heap.size := le_alloc hwl0 _
        have hGb : GrW (wS.alloc (.cells #[.int .i64 x] 3)).drew w3.heap.size w3.heap.size S bs6 (qM p i d S ds nk k) := (hGS.alloc _).drew
        have hckb := hGb.at_ hks
        rw [ht] at hckb
        have hckb1 : (wS.alloc (.cells #[.int .i64 x] 3)).drew.cell? ⟨w3.heap.size, k, none⟩ = some (.slice Ak nk ck) := hckb.1
        have hckb2 : (wS.alloc (.cells #[.int .i64 x] 3)).drew.frozen? ⟨w3.heap.size, k, none⟩ = false := hckb.2
        have hckc1 : (wS.drew.alloc (.cells #[.int .i64 x] 3)).cell? ⟨w3.heap.size, k, none⟩ = some (.slice Ak nk ck) := hckb.1
        have hoSa : OwnS (wS.drew.alloc (.cells #[.int .i64 x] 3)) w5.heap.size (some ⟨bS, oS, none⟩) S c6 (ptsL S) (valsP p (cvF i d ds nk) (ptsL S)) := OwnS.belowAll (w := wS.drew) hoSS (bbox _)
        have hbza : Below w3.heap.size w3 (wS.drew.alloc (.cells #[.int .i64 x] 3)) := (hbz.trans (hbS.mono hbz.size)).drew.alloc hwl0 _
        have HQ : Hid ((qM p i d S ds nk k).set k ((qM p i d S ds nk k).getD k [] ++ [x]) = qM p i d S ds nk (k + 1)) := Lib.hid (by rw [← HX.out]; exact qM_set p i d S ds nk k hks)
        clear hG hoS hnk hcks hs0 hs1 hown hoSS
        go_region_law (first
          | ((refine step_append_intsR (w := wS.drew.alloc (.cells #[.int .i64 x] 3)) rfl (.tmp 106) (.tmp 109) 22 rfl w3.heap.size 3 i0 _ Tryz.underlying22 hi0 hz0 hz1 hz2 rfl Ak nk ck _ (by simp [Act.eval]) howna (some ⟨wS.heap.size, 0, none⟩) 1 1 [x] (by simp [Act.eval]) (Ints.oneAt _ _ _ _ rfl) (nk + 1) rfl (by omega) hwl ?_); intro A3 c3 w7 hown7 hgr7 hb7 hab7
             have hat := hGa.at_grown hks (by rw [ht]; exact hgr7)
             rw [ht] at hat
             have hc7 : w7.cell? ⟨w3.heap.size, k, none⟩ = some (.slice Ak nk ck) := hat.1
             have hf7 : w7.frozen? ⟨w3.heap.size, k, none⟩ = false := hat.2))
        all_goals have hG7 := hGa.grown hks (by rw [ht]; exact hgr7) hown7 (by rw [ht]; exact hab7)
        all_goals rw [HQ.out] at hG7
        all_goals have hoS7 := OwnS.overGr (A' := A3) (N := nk + 1) (c' := c3) hoSa hGa hks (by rw [ht]; exact hgr7)
        all_goals have hbE := (hbza.trans hb7).setCell (p := ⟨w3.heap.size, k, none⟩) (Nat.le_refl _) (.slice A3 (nk + 1) c3)
        all_goals clear hGb hckb hckb1 hckb2 hckc1 hckd hcfd hbx1 hat hc7 hf7 hGS hGa howna hown7 hgr7 hb7 hab7 hoSa hbza
        all_goals go_wp2
        all_goals go_roundw
        all_goals first
          | exact ⟨k + 1, _, by omega, by go_num, hG7, hoS7, hbE⟩
          | (simp [intOf]; omega)
      · obtain rfl : k = S := by omega
        rw [qM_next] at hG
        go_wp2
        go_roundw
        case rel => exact ⟨j + 1, bs6, by omega, by go_num, hG, hbz⟩
        case measure => simp [intOf]; omega
  · obtain rfl : j = n := by omega
    have v2 := u2.below hbz u2.lt
    have v3 := u3.below hbz u3.lt
    have hT5 := hT.upto hbw5
    have hc20 : w5.cell? ⟨w.heap.size + 1 + 1, 0, none⟩ = some (.slice T N tc) := (v2.cell 0).trans rfl
    have hNb := HN.out
    go_upto_region 27 with (
               at_builtin
               refine wpList_append_ints rfl _ _ 22 rfl w5.heap.size 3 i0 _ Tryz.underlying22 hi0 hz0 hz1 hz2 rfl none 0 0 [] rfl OwnI.nil_ _ T N tc ds rfl hT5 N (by omega) ds rfl (by omega) (Nat.le_refl _) ?_
               intro T8 tc8 w8 hown8 _ hb8 _
               have q2 := v2.below hb8 v2.lt
               have q3 := v3.below hb8 v3.lt
               have hc80 : w8.cell? ⟨w.heap.size + 1 + 1, 0, none⟩ = some (.slice T N tc) := (q2.cell 0).trans rfl
               have hc81 : w8.cell? ⟨w.heap.size + 1 + 1, 1, none⟩ = some (.int .i64 0) := (q2.cell 1).trans rfl
               have hz80 := q2.frozen 0
               have hz81 := q2.frozen 1)
    have q2' := blk_two (v0 := .slice T8 N tc8) (v1 := .int .i64 N) q2
    have q3' := (q3.far (p := ⟨w.heap.size + 1 + 1, 0, none⟩) (by show w.heap.size + 1 + 1 + 1 ≠ w.heap.size + 1 + 1; omega) (.slice T8 N tc8)).far (p := ⟨w.heap.size + 1 + 1, 1, none⟩) (by show w.heap.size + 1 + 1 + 1 ≠ w.heap.size + 1 + 1; omega) (.int .i64 N)
    have hG8 := hG.belowAll hb8
    have hS8 : Step (w.heap.size + 1 + 1) w8 ((w8.setCell ⟨w.heap.size + 1 + 1, 0, none⟩ (.slice T8 N tc8)).setCell ⟨w.heap.size + 1 + 1, 1, none⟩ (.int .i64 N)) := ((Step.refl _ w8).set 0 _).set 1 _
    have hgl := hG8.lo
    have hul := u3.lt
    have hG9 := hG8.step hS8 (by omega)
    have hbw8 := below_two (hbw5.trans (hb8.mono hbw5.size)) (g := w.heap.size + 1 + 1) (by omega) (.slice T8 N tc8) (.int .i64 N)
    clear hG8 hS8 q2 q3 hown8 hb8 hc80 hc81 hz80 hz81 hG v2 v3 hT5 hc20
    generalize (w8.setCell ⟨w.heap.size + 1 + 1, 0, none⟩ (.slice T8 N tc8)).setCell ⟨w.heap.size + 1 + 1, 1, none⟩ (.int .i64 N) = w9 at *
    have hcx0 : w9.cell? ⟨w.heap.size + 1 + 1, 0, none⟩ = some (.slice T8 N tc8) := (q2'.cell 0).trans rfl
    have hcx1 : w9.cell? ⟨w.heap.size + 1 + 1, 1, none⟩ = some (.int .i64 N) := (q2'.cell 1).trans rfl
    have hcr0 : w9.cell? ⟨w.heap.size + 1 + 1 + 1, 0, none⟩ = some (.slice none 0 0) := (q3'.cell 0).trans rfl
    have hcr1 : w9.cell? ⟨w.heap.size + 1 + 1 + 1, 1, none⟩ = some (.int .i64 0) := (q3'.cell 1).trans rfl
    have hfr0 : w9.frozen? ⟨w.heap.size + 1 + 1 + 1, 0, none⟩ = false := q3'.frozen 0
    have hfr1 : w9.frozen? ⟨w.heap.size + 1 + 1 + 1, 1, none⟩ = false := q3'.frozen 1
    go_region
    have hR := blk_two (v0 := .slice T8 N tc8) (v1 := .int .i64 N) q3'
    have hy0 := (hR.cell 0).trans rfl
    have hy1 := (hR.cell 1).trans rfl
    have hSR : Step (w.heap.size + 1 + 1 + 1) w9 ((w9.setCell ⟨w.heap.size + 1 + 1 + 1, 0, none⟩ (.slice T8 N tc8)).setCell ⟨w.heap.size + 1 + 1 + 1, 1, none⟩ (.int .i64 N)) := ((Step.refl _ w9).set 0 _).set 1 _
    have hGE := (hG9.step hSR (by omega)).drew.lower (base' := w.heap.size) (by omega)
    have hbE := (below_two hbw8 (g := w.heap.size + 1 + 1 + 1) (by omega) (.slice T8 N tc8) (.int .i64 N)).drew
    all_goals go_wp2
    exact bodyPost_ret (v := .tuple #[.slice (some ⟨w3.heap.size, 0, none⟩) S S, .agg #[.slice T8 N tc8, .int .i64 N], .int .i64 0]) (by simp [results, Tryz.results25, go_sem, hy0, hy1]) rfl ⟨⟨w3.heap.size, bs, T8, tc8, N, rfl, hGE⟩, hbE⟩
end Go.Proofs.YtmcgnpdfpfgfpaaGreatDoor
