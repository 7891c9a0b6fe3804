/-
  Words for memory and contracts of small functions of the second form. Conditions: those of each lemma.
-/
import Derived.Test.YtmcgnpdfpfgfpaaGreatDoorAwk
import Derived.Test.YtmcgnpdfpfgfpaaGreatDoorGMan
import Derived.Test.YtmcgnpdfpfgfpaaGreatDoorGBig
import Derived.Test.YtmcgnpdfpfgfpaaGreatDoorLst1
import Derived.Deep.QuietTactic
import Derived.BigQuiet
import Derived.Deep.RegionLaw
import Derived.Deep.DeepCutAuto
import Derived.Deep.RegionHeld3
/-! Read -/
namespace Go.Proofs.YtmcgnpdfpfgfpaaGreatDoor
open Go.RowKit
set_option linter.unusedVariables false

theorem ErrW.stepR {g : Nat} {w w' : World} (h : ErrW w) (hs : Step g w w') (hg : 0 < g) : ErrW w' :=
  ⟨(World.cell?_of_block (World.grownBy.block hs 0 h.2 (fun e => by injection e with e; omega))).trans h.1, Nat.lt_of_lt_of_le h.2 (World.grownBy.size hs)⟩

/-- What stays throughout a read: the deck, the field, the plan, the result's box, the rows, the one variable. -/
structure RdW (W : World) (g : Nat) (A : Option Addr) (n c : Nat) (xs : List Int) (q F B RS : Nat) (p : Int) (S d lo : Nat) (R : Option Addr) (nr : Nat) (rows : List (List Int)) : Prop where
  dk : Deck W g A n c xs q
  f : Blk W F 44 #[.int .i64 p]
  b : Blk W B 54 #[.int .i64 S, .int .i64 d]
  rs : Blk W RS 59 #[.slice none 0 0, .slice none 0 0]
  m : Mat W lo W.heap.size R nr rows
  er : ErrW W
  gs : g < F ∧ g < B ∧ g < RS ∧ g < lo ∧ 0 < g
section
variable {W W' : World} {g n c q F B RS S d lo nr : Nat} {A R : Option Addr} {xs : List Int} {p : Int} {rows : List (List Int)}
theorem RdW.below (h : RdW W g A n c xs q F B RS p S d lo R nr rows) (hb : Below W.heap.size W W') : RdW W' g A n c xs q F B RS p S d lo R nr rows := ⟨h.dk.belowAll hb, h.f.below hb h.f.lt, h.b.below hb h.b.lt, h.rs.below hb h.rs.lt, h.m.upto hb, h.er.below hb, h.gs⟩
theorem RdW.step {q' : Nat} (h : RdW W g A n c xs q F B RS p S d lo R nr rows) (hs : Step g W W') (hd : Deck W' g A n c xs q') : RdW W' g A n c xs q' F B RS p S d lo R nr rows :=
  ⟨hd, Step.block hs h.f (by have := h.gs; omega), Step.block hs h.b (by have := h.gs; omega), Step.block hs h.rs (by have := h.gs; omega), h.m.step hs h.gs.2.2.2.1, h.er.stepR hs h.gs.2.2.2.2, h.gs⟩
theorem RdW.cf (h : RdW W g A n c xs q F B RS p S d lo R nr rows) : W.cell? ⟨F, 0, none⟩ = some (.int .i64 p) := (h.f.cell 0).trans rfl
theorem RdW.cs (h : RdW W g A n c xs q F B RS p S d lo R nr rows) : W.cell? ⟨B, 0, none⟩ = some (.int .i64 S) := (h.b.cell 0).trans rfl
theorem RdW.cd (h : RdW W g A n c xs q F B RS p S d lo R nr rows) : W.cell? ⟨B, 1, none⟩ = some (.int .i64 d) := (h.b.cell 1).trans rfl
theorem RdW.three (h : RdW W g A n c xs q F B RS p S d lo R nr rows) : W.cell? ⟨F, 0, none⟩ = some (.int .i64 p) ∧ W.cell? ⟨B, 0, none⟩ = some (.int .i64 S) ∧ W.cell? ⟨B, 1, none⟩ = some (.int .i64 d) := ⟨h.cf, h.cs, h.cd⟩
theorem RdW.alloc (h : RdW W g A n c xs q F B RS p S d lo R nr rows) (o : Obj) : RdW (W.alloc o) g A n c xs q F B RS p S d lo R nr rows := h.below (bbox o)
end

/-- What read hands back. -/
def RdPost (g : Nat) (A : Option Addr) (n c : Nat) (xs : List Int) (ys : List Int) (W : Nat) (w : World) (e : Ending) (w' : World) : Prop :=
  ∃ (Rw : Option Addr) (rc : Nat) (Q : Option Addr) (qn qc : Nat) (O : Option Addr) (on oc q' : Nat), e = .returned (.tuple #[.agg #[.slice Rw W rc, .slice Q qn qc], .slice O on oc, .bool true]) ∧ Ints w' w'.heap.size Rw W ys ∧ Frs w.heap.size Rw W ∧ Deck w' g A n c xs q' ∧ Step g w w'

set_option maxRecDepth 100000 in
set_option maxHeartbeats 16000000 in
theorem read_ok (g : Nat) (A : Option Addr) (n c : Nat) (xs : List Int) (q8 : Nat) (p : Int) (S d Wd nr ri sil nw lo : Nat) (R : Option Addr) (rc : Nat) (rows : List (List Int)) (w : World) (h : Deck w g A n c xs q8) (hok : okP p = true) (hS : 2 ≤ S ∧ S ≤ 10) (hd : 1 ≤ d ∧ d < S) (hSp : (S : Int) < p) (hnr : 1 ≤ nr ∧ nr ≤ 1024) (hrin : ri < nr)
    (hR : Mat w lo w.heap.size R nr rows) (hlo : g < lo) (hrows : ∀ r ∈ rows, allP p r = true ∧ r.length = Wd) (hWd : 1 ≤ Wd ∧ Wd ≤ 64) (hbear : d + 1 + sil + 2 * nw ≤ S) (hE : ErrW w) (hg0 : 0 < g) :
    Calls Tryz.prog 15 #[.pointer (some ⟨g, 0, none⟩), .agg #[.int .i64 p], .agg #[.int .i64 S, .int .i64 d], .int .i64 Wd, .slice R nr rc, .int .i64 ri, .int .i64 sil, .int .i64 nw] w (RdPost g A n c xs (rows.getD ri []) Wd w) := by
  obtain ⟨i0, hi0, hz0, hz1, hz2⟩ := info_parts info_int
  obtain ⟨i9, hi9, hy0, hy1, hy2⟩ := info_parts info_row
  have hp65 := okP_pos hok
  have HO := Lib.hid hok
  have HROWS := Lib.hid hrows
  have hrl := hR.len
  have hgl := h.1.lt
  obtain ⟨N, hN⟩ : ∃ N, nr * d = N := ⟨_, rfl⟩
  have hN10 : N ≤ 10240 := by rw [← hN]; exact Nat.le_trans (Nat.mul_le_mul hnr.2 (by omega : d ≤ 10)) (by omega)
  have hb3 : Below w.heap.size w (((w.alloc (.cells #[.int .i64 p] 44)).alloc (.cells #[.int .i64 S, .int .i64 d] 54)).alloc (.cells #[.slice none 0 0, .slice none 0 0] 59)) := ballocs (ballocs (bbox _) _) _
  have hF3 := ((Blk.new w 44 #[.int .i64 p]).alloc (.cells #[.int .i64 S, .int .i64 d] 54)).alloc (.cells #[.slice none 0 0, .slice none 0 0] 59)
  have hP3 := (Blk.new1 w (.cells #[.int .i64 p] 44) 54 #[.int .i64 S, .int .i64 d]).alloc (.cells #[.slice none 0 0, .slice none 0 0] 59)
  have hR3 : Blk (((w.alloc (.cells #[.int .i64 p] 44)).alloc (.cells #[.int .i64 S, .int .i64 d] 54)).alloc (.cells #[.slice none 0 0, .slice none 0 0] 59)) (w.heap.size + 1 + 1) 59 #[.slice none 0 0, .slice none 0 0] := by
    have := Blk.new1 (w.alloc (.cells #[.int .i64 p] 44)) (.cells #[.int .i64 S, .int .i64 d] 54) 59 #[.slice none 0 0, .slice none 0 0]
    rwa [World.size_alloc] at this
  have hTL8 : RdW _ g A n c xs q8 w.heap.size (w.heap.size + 1) (w.heap.size + 1 + 1) p S d lo R nr rows := ⟨h.belowAll hb3, hF3, hP3, hR3, hR.upto hb3, hE.below hb3, by omega, by omega, by omega, hlo, hg0⟩
  obtain ⟨w8, hw8⟩ : ∃ v, ((w.alloc (.cells #[.int .i64 p] 44)).alloc (.cells #[.int .i64 S, .int .i64 d] 54)).alloc (.cells #[.slice none 0 0, .slice none 0 0] 59) = v := ⟨_, rfl⟩
  rw [hw8] at hb3 hTL8
  have hcf8 := hTL8.cf
  have hcs8 := hTL8.cs
  have hcd8 := hTL8.cd
  clear hF3 hP3 hR3 h hR hE hok hrows
  go_enter Tryz.func15, Tryz.ntmps15
  go_upto_region 2 with (go_at_call 24; refine (climits_ok p S d nr N _ HO.out hS hd hSp hnr hN).mono ?_; rintro e w9 ⟨⟨L, lc, rfl, hL9⟩, hb9⟩)
  have hTL9 := hTL8.below hb9
  have hbb9 := bnext hb3 hb9
  have hg8 := hTL8.dk.1.lt
  have hF0 : ∃ F, w.heap.size = F := ⟨_, rfl⟩
  obtain ⟨F, hF⟩ := hF0
  obtain ⟨B, hB⟩ : ∃ B, w.heap.size + 1 = B := ⟨_, rfl⟩
  obtain ⟨RS, hRS⟩ : ∃ RS, w.heap.size + 1 + 1 = RS := ⟨_, rfl⟩
  clear hw8 hcf8 hcs8 hcd8 hb9 hTL8 hb3
  rw [hRS, hB, hF] at hTL9
  rw [hRS, hB, hF]
  have HFE := Lib.hid hF
  have HBE := Lib.hid hB
  have HRE := Lib.hid hRS
  clear hF hB hRS
  have hgl9 := hTL9.dk.1.lt
  have hD9d := hTL9.dk.drew
  have hL9d : OwnI w9.drew w8.heap.size 3 L N lc (List.replicate N p) := hL9
  have HTL9 := Lib.hid hTL9
  have hq9 : w9.drew.cell? ⟨F, 0, none⟩ = some (.int .i64 p) ∧ w9.drew.cell? ⟨B, 0, none⟩ = some (.int .i64 S) ∧ w9.drew.cell? ⟨B, 1, none⟩ = some (.int .i64 d) := hTL9.three
  have hq9a : (w9.alloc (.cells #[.slice none 0 0, .int .i64 0] 75)).drew.cell? ⟨F, 0, none⟩ = some (.int .i64 p) ∧ (w9.alloc (.cells #[.slice none 0 0, .int .i64 0] 75)).drew.cell? ⟨B, 0, none⟩ = some (.int .i64 S) ∧ (w9.alloc (.cells #[.slice none 0 0, .int .i64 0] 75)).drew.cell? ⟨B, 1, none⟩ = some (.int .i64 d) := (hTL9.alloc (.cells #[.slice none 0 0, .int .i64 0] 75)).three
  have hD9a := hD9d.alloc (.cells #[.slice none 0 0, .int .i64 0] 75)
  have hL9a := hL9d.alloc (.cells #[.slice none 0 0, .int .i64 0] 75)
  have hB9a : Blk (w9.drew.alloc (.cells #[.slice none 0 0, .int .i64 0] 75)) w9.heap.size 75 #[.slice none 0 0, .int .i64 0] := Blk.new w9.drew _ _
  clear hTL9
  go_cut [21, 22, 23] (fun s13 _ s15 wx => ∃ (gq : Nat) (bs : List (Option Addr × Nat × Nat)) (q10 : Nat) (ds : List Int), s13 = .slice (some ⟨gq, 0, none⟩) S S ∧ s15 = .int .i64 0 ∧ GrW wx w9.heap.size gq S bs (qM p ri d S ds nr 0) ∧ allP p ds = true ∧ ds.length = N ∧ RdW wx g A n c xs q10 F B RS p S d lo R nr rows ∧ Step g w9 wx)
  case first =>
    go_region_held3 (fun w' => w'.cell? ⟨F, 0, none⟩ = some (.int .i64 p) ∧ w'.cell? ⟨B, 0, none⟩ = some (.int .i64 S) ∧ w'.cell? ⟨B, 1, none⟩ = some (.int .i64 d)) (first | go_keep | exact hq9 | exact hq9a | exact hq10 | exact hq10a | exact hq11 | exact hq12)
     (first
      | (go_simp; go_at_call 26; (refine (seed_any g A n c xs q8 p N L lc _ hD9a hp65 hL9a hg8 (by omega)).mono ?_); rintro e w10 ⟨D, dc, ds, q10, rfl, hO10, hds, hD10, hS10⟩
         have hS10a := hS10
         have hS10 : Step g w9 w10 := by
           have h0 : Step g w9 (w9.drew.alloc (.cells #[.slice none 0 0, .int .i64 0] 75)) := (Step.refl g w9).drew.alloc _
           exact h0.trans hS10
         have hq10 := (HTL9.out.step hS10 hD10).three
         have hI10 := hO10.ints
         have HDL := Lib.hid hO10.len
         have HDS := Lib.hid hds
         have hsz10 : w9.heap.size ≤ w10.heap.size := World.grownBy.size hS10
         have hgl10 := hD10.1.lt
         have hBT := Step.block hS10a hB9a (by omega)
         have hD10q := hD10
         clear hO10 hds)
      | (go_simp; go_at_call 26; (refine (seed_any g A n c xs q8 p N L lc _ hD9d hp65 hL9d hg8 (by omega)).mono ?_); rintro e w10 ⟨D, dc, ds, q10, rfl, hO10, hds, hD10, hS10⟩
         have hS10 : Step g w9 w10 := by
           obtain ⟨h1, h2, h3, h4, h5⟩ : World.grownBy w9.drew w10 (some g) := hS10
           exact ⟨h1, h2, h3, h4, h5⟩
         have hq10 := (HTL9.out.step hS10 hD10).three
         have hI10 := hO10.ints
         have HDL := Lib.hid hO10.len
         have HDS := Lib.hid hds
         have hsz10 : w9.heap.size ≤ w10.heap.size := World.grownBy.size hS10
         have hgl10 := hD10.1.lt
         have hD10q := hD10
         have hD10p := hD10.alloc (.cells #[.slice none 0 0, .int .i64 0] 75)
         have hI10a := hI10.upto (bbox (.cells #[.slice none 0 0, .int .i64 0] 75))
         have hBTa := Blk.new w10 75 #[.slice none 0 0, .int .i64 0]
         have hq10a := ((HTL9.out.step hS10 hD10).alloc (.cells #[.slice none 0 0, .int .i64 0] 75)).three
         have hNoT : True := trivial
         clear hO10 hds)
      | (go_simp; go_at_call 25; (refine (cquer_ok p S d nr ri N dc D ds _ HO.out (by omega) (by omega) (by omega) (by omega) hN hrin hI10 HDS.out).mono ?_); rintro e w11 ⟨⟨gq, bs, T', tc', av, rfl, hG11⟩, hb11⟩
         have hBT11 := hBT.below hb11 hBT.lt
         have hzT0 : w11.cell? ⟨w9.heap.size, 0, none⟩ = some (.slice none 0 0) := (hBT11.cell 0).trans rfl
         have hzT1 : w11.cell? ⟨w9.heap.size, 1, none⟩ = some (.int .i64 0) := (hBT11.cell 1).trans rfl
         have hfT0 := hBT11.frozen 0
         have hfT1 := hBT11.frozen 1
         have hSf := Lib.hid (((hS10.trans (Step.of_below hb11)).setNew (p := ⟨w9.heap.size, 0, none⟩) (by first | exact Nat.le_refl _ | exact hsz10) (.slice T' N tc')).setNew (p := ⟨w9.heap.size, 1, none⟩) (by first | exact Nat.le_refl _ | exact hsz10) (.int .i64 av))
         have hDf := ((hD10q.belowAll hb11).setCell (p := ⟨w9.heap.size, 0, none⟩) (by first | exact hgl9 | exact hgl10) (.slice T' N tc')).setCell (p := ⟨w9.heap.size, 1, none⟩) (by first | exact hgl9 | exact hgl10) (.int .i64 av)
         have hGf := Lib.hid ((hG11.step (((Step.refl (w9.heap.size) w11).set 0 (.slice T' N tc')).set 1 (.int .i64 av)) hBT.lt).lower hsz10)
         have hTLf := Lib.hid (HTL9.out.step hSf.out hDf)
         have hq12 := hTLf.out.three
         have hq11 := (HTL9.out.step (hS10.trans (Step.of_below hb11)) (hD10q.belowAll hb11)).three
         clear hBT11 hG11)
      | (go_simp; go_at_call 25; (refine (cquer_ok p S d nr ri N dc D ds _ HO.out (by omega) (by omega) (by omega) (by omega) hN hrin hI10a HDS.out).mono ?_); rintro e w11 ⟨⟨gq, bs, T', tc', av, rfl, hG11⟩, hb11⟩
         have hBT11 := hBTa.below hb11 hBTa.lt
         have hzT0 : w11.cell? ⟨w10.heap.size, 0, none⟩ = some (.slice none 0 0) := (hBT11.cell 0).trans rfl
         have hzT1 : w11.cell? ⟨w10.heap.size, 1, none⟩ = some (.int .i64 0) := (hBT11.cell 1).trans rfl
         have hfT0 := hBT11.frozen 0
         have hfT1 := hBT11.frozen 1
         have hSf := Lib.hid ((((hS10.alloc (.cells #[.slice none 0 0, .int .i64 0] 75)).trans (Step.of_below hb11)).setNew (p := ⟨w10.heap.size, 0, none⟩) (by first | exact Nat.le_refl _ | exact hsz10) (.slice T' N tc')).setNew (p := ⟨w10.heap.size, 1, none⟩) (by first | exact Nat.le_refl _ | exact hsz10) (.int .i64 av))
         have hDf := ((hD10p.belowAll hb11).setCell (p := ⟨w10.heap.size, 0, none⟩) (by first | exact hgl9 | exact hgl10) (.slice T' N tc')).setCell (p := ⟨w10.heap.size, 1, none⟩) (by first | exact hgl9 | exact hgl10) (.int .i64 av)
         have hGf := Lib.hid ((hG11.step (((Step.refl (w10.heap.size) w11).set 0 (.slice T' N tc')).set 1 (.int .i64 av)) hBTa.lt).lower (Nat.le_trans hsz10 (by rw [World.size_alloc]; exact Nat.le_succ _ : w10.heap.size ≤ (w10.alloc (.cells #[.slice none 0 0, .int .i64 0] 75)).heap.size)))
         have hTLf := Lib.hid (HTL9.out.step hSf.out hDf)
         have hq12 := hTLf.out.three
         have hq11 := (HTL9.out.step ((hS10.alloc (.cells #[.slice none 0 0, .int .i64 0] 75)).trans (Step.of_below hb11)) (hD10p.belowAll hb11)).three
         clear hBT11 hG11)
      | (go_simp; go_at_call 25; (refine (cquer_ok p S d nr ri N dc D ds _ HO.out (by omega) (by omega) (by omega) (by omega) hN hrin hI10 HDS.out).mono ?_); rintro e w11 ⟨⟨gq, bs, T', tc', av, rfl, hG11⟩, hb11⟩
         have hNT := hNoT
         have hbT := bbox (w0 := w11) (.cells #[.slice T' N tc', .int .i64 av] 75)
         have hGf := Lib.hid ((hG11.belowAll hbT).lower hsz10)
         have hSf := Lib.hid ((hS10.trans (Step.of_below hb11)).trans (Step.of_below hbT))
         have hTLf := Lib.hid (HTL9.out.step hSf.out ((hD10q.belowAll hb11).belowAll hbT))
         have hq12 := hTLf.out.three
         have hq11 := (HTL9.out.step (hS10.trans (Step.of_below hb11)) (hD10q.belowAll hb11)).three
         clear hG11))
    all_goals go_wp2
    all_goals go_meet
    all_goals exact ⟨gq, bs, q10, ds, rfl, rfl, hGf.out, HDS.out, HDL.out, hTLf.out, hSf.out⟩
  case rest =>
  obtain ⟨gq, bs, q10, ds, rfl, rfl, hG, hds, hdl, hTL, hSc⟩ := hcut
  obtain ⟨w12, hw12⟩ : ∃ v, v = wc := ⟨_, rfl⟩
  subst hw12
  rw [qM_done] at hG
  have hSt12 : Step g w w12 := (Step.of_below hbb9).trans hSc
  have hdl1 : ds.length = nr * d := by rw [hN]; exact hdl
  have HDL := Lib.hid hdl1
  have HTL := Lib.hid hTL
  have hgl12 := hTL.dk.1.lt
  have hbl12 : w.heap.size ≤ w12.heap.size := World.grownBy.size hSt12
  clear hTL HTL9 hq9 hq9a hD9a hL9a hB9a hD9d hL9d hL9 hgl9 hg8 hds hdl hSc hbb9 hdl1
  go_wp2_with fail
  go_loopw [24, 63] (fun s i wz => ∃ (k : Nat) (AN : Option Addr) (ac : Nat), k ≤ S ∧ s = .slice AN k ac ∧ i = .int .i64 k ∧ Hid (OwnM wz w12.heap.size w12.heap.size 22 AN k ac (anL p nr ri d S Wd ds rows k)) ∧ Below w12.heap.size w12 wz) (fun _ i _ => S - (intOf i).toNat)
  case atStart => exact ⟨0, none, 0, Nat.zero_le _, rfl, rfl, Lib.hid OwnM.nil_, Below.refl _ _⟩
  case round =>
  obtain ⟨k, AN, ac, hk, rfl, rfl, HAN, hbz⟩ := hrel
  have hTLz := HTL.out.below hbz
  have hcfz := hTLz.cf
  have hcsz := hTLz.cs
  have hcdz := hTLz.cd
  by_cases hlt : k < S
  · have hkSi : (k : Int) < (S : Int) := by omega
    have hk0 : (0 : Int) ≤ (k : Int) := by omega
    have hGz := hG.belowAll hbz
    have hcg := (hGz.at_ hlt).1
    have hOg := hGz.own k hlt
    have hgs : ((List.range S).map fun s : Nat => cvQ p nr ri d ds ((s : Int) + 1)).getD k [] = cvQ p nr ri d ds ((k : Int) + 1) := by
      rw [List.getD_eq_getElem?_getD, List.getElem?_map, List.getElem?_range hlt]; rfl
    rw [hgs] at hOg
    obtain ⟨⟨X, xn, xc⟩, hx⟩ : ∃ t, bs.getD k (none, 0, 0) = t := ⟨_, rfl⟩
    rw [hx] at hOg hcg
    dsimp only at hOg hcg
    have e0 : xn = nr := by rw [← hOg.len, cvQ_len]
    subst e0
    have hIx := hOg.ints
    have hMz := hTLz.m
    have HQA : Hid (allP p (cvQ p xn ri d ds ((k : Int) + 1)) = true) := Lib.hid (cvQ_all hp65.1 _ _ _ _ _)
    have HAS := Lib.hid (anL_succ p xn ri d S Wd ds rows k)
    obtain ⟨cq, hcq⟩ : ∃ cq, cvQ p xn ri d ds ((k : Int) + 1) = cq := ⟨_, rfl⟩
    rw [hcq] at hIx HQA HAS
    have hszz := hbz.size
    clear hx hOg hGz hgs hcq
    go_wp2_with (first
      | (go_at_call 27; refine (panswer_ok p X R xn Wd xc rc cq rows _ HO.out hIx hMz HQA.out HROWS.out (by omega) (by omega)).mono ?_; rintro e w14 ⟨⟨Y, yc, rfl, hY⟩, hb14⟩
         have hAN15 := (HAN.out.belowAll hb14).belowAll (bbox (.cells #[.slice Y Wd yc] 22))
         have hY15 := hY.ints.upto (bbox (.cells #[.slice Y Wd yc] 22))
         have hbz15 := (hbz.trans (hb14.mono hszz)).alloc (Nat.le_trans hszz hb14.size) (.cells #[.slice Y Wd yc] 22)
         have hN15 := Blk.new w14 22 #[.slice Y Wd yc]
         have hrowY : ∀ b, (Value.slice Y Wd yc).ownBlock = some b → wr.heap.size ≤ b := fun b hb => hY.row b hb)
      | (at_builtin
         refine wpList_append_rowH rfl _ _ 45 rfl w12.heap.size w12.heap.size 22 i9 _ Tryz.underlying45 hi9 hy0 hy1 hy2 rfl AN k ac _ rfl hAN15 w14.heap.size 1 Y Wd yc _ rfl ((hN15.cell 0).trans rfl) hN15.lt (by omega) hY15 (fun h0 b off s e => by have := hrowY b (by rw [e]; rfl); omega) (fun h0 b off s e e2 => by have h1 := hrowY b (by rw [e]; rfl); have h2 := (HAN.out.row b e2).2; omega) (k + 1) rfl (by omega) hbz15.size ?_
         intro A2 c2 w16 hAN16 hgr16 hb16 hab16
         have hbz16 := hbz15.trans hb16))
    go_roundw
    case rel => exact ⟨k + 1, A2, c2, by omega, rfl, by go_num, Lib.hid (by rw [HAS.out]; exact hAN16), hbz16⟩
    case measure => simp [intOf]; omega
  · obtain rfl : S = k := by omega
    have hAN := HAN.out
    have hStz : Step g w wr := hSt12.trans (Step.of_below hbz)
    have hDz := hTLz.dk
    have hANok : ∀ a ∈ anL p nr ri d S Wd ds rows S, allP p a = true ∧ a.length = Wd := anL_ok hp65.1 (fun x hx => (HROWS.out x hx).2)
    go_upto_region 15 with (go_at_call 28; refine (manswers_ok g A n c xs q10 p AN ac S Wd w12.heap.size (anL p nr ri d S Wd ds rows S) nw sil _ hDz HO.out (hAN.mat (Nat.le_refl _)) hgl12 hANok (by omega) (by omega) (by omega) (by omega)).mono ?_; rintro e w21 ⟨L', lc', ks, bsA, m, bd, O, oc, q21, rfl, hAW, hAF, hbd, hkc, hD21, hS21⟩)
    have hTL21 := hTLz.step hS21 hD21
    have hSt21 := hStz.trans hS21
    have hAns : Ans w21 w21.heap.size L' S ks m := hAW.ans (fun j hj => by
      rcases hkj : ks.getD j false with _ | _
      · rw [hAF.no j hj hkj]; omega
      · rw [(hAF.el j hj hkj).1]; omega)
    have hcv := cDecode_ok p S d Wd L' lc' ks m w21 HO.out hS hd hSp hAns (by omega) hAF.el hAF.no (by omega) hTL21.er (fun col => trimL (cvP p nr ri d ds rows col)) (fun col hcol => by
      obtain ⟨hRa, hRt, hRl⟩ := an_poly (r := ri) hp65.1 rows col HDL.out
      have hwr := an_wrong (c := col) hp65.1 HDL.out (fun x hx => (HROWS.out x hx).2) hcol hAF
      exact ⟨hRa, hRl, by omega⟩)
    have hys : ((List.range Wd).map fun col => cf (trimL (cvP p nr ri d ds rows col)) 0) = rows.getD ri [] := by
      have hrw := HROWS.out _ (getD_mem2 (l := rows) (d := []) (by omega : ri < rows.length))
      refine List.ext_getElem (by rw [List.length_map, List.length_range]; exact hrw.2.symm) fun j h1 h2 => ?_
      rw [List.getElem_map, List.getElem_range, cf_trimL, cv_zero hp65.1 HDL.out hrl hrin (fun x hx => HROWS.out x hx) (by rw [← hrw.2]; exact h2), List.getD_eq_getElem?_getD, List.getElem?_eq_getElem h2]; rfl
    rw [hys] at hcv
    have HCV := Lib.hid hcv
    have hcf21 := hTL21.cf
    have hcs21 := hTL21.cs
    have hcd21 := hTL21.cd
    have HTL21 := Lib.hid hTL21
    clear hAN hAW hAF hANok hcv hys hAns hStz hDz hS21 hD21 hTLz hcfz hcsz hcdz HAN hbz hG
    go_upto_region 16 with (go_at_call 31; refine HCV.out.mono ?_; rintro e w22 ⟨⟨Rw, rwc, Q, qn, qc, qs, rfl, hRw, hFrw, hQ⟩, hb22⟩)
    have hb23 := bbox (w0 := w22) (.cells #[.slice Rw Wd rwc, .slice Q qn qc] 59)
    have hX23 := Blk.new w22 59 #[.slice Rw Wd rwc, .slice Q qn qc]
    have hTL23 := (HTL21.out.below hb22).below hb23
    have hRw23 := hRw.upto hb23
    have hSt23 := (hSt21.trans (Step.of_below hb22)).trans (Step.of_below hb23)
    have hRSl : RS < w21.heap.size := HTL21.out.rs.lt
    have hwl21 : w.heap.size ≤ w21.heap.size := World.grownBy.size hSt21
    have hgRS : g < RS := HTL21.out.gs.2.2.1
    have hwRS : w.heap.size ≤ RS := by rw [← HRE.out]; omega
    have HFR := Lib.hid hFrw
    obtain ⟨w23, hw23⟩ : ∃ v, w22.alloc (.cells #[.slice Rw Wd rwc, .slice Q qn qc] 59) = v := ⟨_, rfl⟩
    have HW23 := Lib.hid hw23
    rw [hw23] at hX23 hTL23 hRw23 hSt23
    have hx0 : w23.cell? ⟨w22.heap.size, 0, none⟩ = some (.slice Rw Wd rwc) := (hX23.cell 0).trans rfl
    have hx1 : w23.cell? ⟨w22.heap.size, 1, none⟩ = some (.slice Q qn qc) := (hX23.cell 1).trans rfl
    have hRSb := hTL23.rs
    have hz0 : w23.cell? ⟨RS, 0, none⟩ = some (.slice none 0 0) := (hRSb.cell 0).trans rfl
    have hf0 := hRSb.frozen 0
    have hz1 : w23.cell? ⟨RS, 1, none⟩ = some (.slice none 0 0) := (hRSb.cell 1).trans rfl
    have hf1 := hRSb.frozen 1
    have hFB := (hRSb.set_ 0 (.slice Rw Wd rwc)).set_ 1 (.slice Q qn qc)
    have hfin0 : ((w23.setCell ⟨RS, 0, none⟩ (.slice Rw Wd rwc)).setCell ⟨RS, 1, none⟩ (.slice Q qn qc)).cell? ⟨RS, 0, none⟩ = some (.slice Rw Wd rwc) := (hFB.cell 0).trans rfl
    have hfin1 : ((w23.setCell ⟨RS, 0, none⟩ (.slice Rw Wd rwc)).setCell ⟨RS, 1, none⟩ (.slice Q qn qc)).cell? ⟨RS, 1, none⟩ = some (.slice Q qn qc) := (hFB.cell 1).trans rfl
    have hJ1 := (hRw23.setFar RS 0 (.slice Rw Wd rwc) (fun b o s e h0 => (by have := HFR.out b o s e h0; omega : b ≠ RS))).setFar RS 1 (.slice Q qn qc) (fun b o s e h0 => (by have := HFR.out b o s e h0; omega : b ≠ RS))
    have HPO : RdPost g A n c xs (rows.getD ri []) Wd w (.returned (.tuple #[.agg #[.slice Rw Wd rwc, .slice Q qn qc], .slice O (cntT bd) oc, .bool true])) ((w23.setCell ⟨RS, 0, none⟩ (.slice Rw Wd rwc)).setCell ⟨RS, 1, none⟩ (.slice Q qn qc)) :=
      ⟨Rw, rwc, Q, qn, qc, O, cntT bd, oc, q21, rfl, by simpa [World.setCell] using hJ1, fun b o s e h0 => (by have := HFR.out b o s e h0; omega), (hTL23.dk.setCell (p := ⟨RS, 0, none⟩) hgRS _).setCell (p := ⟨RS, 1, none⟩) hgRS _, (hSt23.setNew (p := ⟨RS, 0, none⟩) hwRS _).setNew (p := ⟨RS, 1, none⟩) hwRS _⟩
    clear hFB hJ1 hRw hRw23 hw23 hRSb hX23 hTL23
    rw [HW23.out]
    clear HW23
    go_wp2
    refine bodyPost_ret (v := .tuple #[.agg #[.slice Rw Wd rwc, .slice Q qn qc], .slice O (cntT bd) oc, .bool true]) (by simp [results, Tryz.results15, go_sem, hfin0, hfin1]) rfl HPO
end Go.Proofs.YtmcgnpdfpfgfpaaGreatDoor

/-! Fault -/
namespace Go.Proofs.YtmcgnpdfpfgfpaaGreatDoor
open Go.RowKit
set_option linter.unusedVariables false

/-- What faults hands back. -/
def FltPost (g : Nat) (A : Option Addr) (n c : Nat) (xs : List Int) (S d : Nat) (w : World) (e : Ending) (w' : World) : Prop :=
  ∃ (sil nw q' : Nat), e = .returned (.tuple #[.int .i64 sil, .int .i64 nw]) ∧ d + 1 + sil + 2 * nw ≤ S ∧ Deck w' g A n c xs q' ∧ Step g w w'

set_option maxRecDepth 100000 in
set_option maxHeartbeats 4000000 in
theorem faults_ok (g : Nat) (A : Option Addr) (n c : Nat) (xs : List Int) (q : Nat) (S d : Nat) (w : World) (h : Deck w g A n c xs q) (hS : S ≤ 10) (hd : d < S) :
    Calls Tryz.prog 14 #[.pointer (some ⟨g, 0, none⟩), .agg #[.int .i64 S, .int .i64 d]] w (FltPost g A n c xs S d w) := by
  have hgl := h.1.lt
  have hB1 := Blk.new w 54 #[.int .i64 S, .int .i64 d]
  have hb1 := bbox (w0 := w) (.cells #[.int .i64 S, .int .i64 d] 54)
  have hD1 := h.belowAll hb1
  obtain ⟨w1, hw1⟩ : ∃ v, w.alloc (.cells #[.int .i64 S, .int .i64 d] 54) = v := ⟨_, rfl⟩
  rw [hw1] at hB1 hb1 hD1
  have hc0 : w1.cell? ⟨w.heap.size, 0, none⟩ = some (.int .i64 S) := (hB1.cell 0).trans rfl
  have hc1 : w1.cell? ⟨w.heap.size, 1, none⟩ = some (.int .i64 d) := (hB1.cell 1).trans rfl
  obtain ⟨s1, hs1⟩ : ∃ s1, S - d = s1 := ⟨_, rfl⟩
  have hs1i : (S : Int) - (d : Int) = (s1 : Int) := by omega
  obtain ⟨s2, hs2⟩ : ∃ s2, s1 - 1 = s2 := ⟨_, rfl⟩
  have hs2i : (s1 : Int) - 1 = (s2 : Int) := by omega
  obtain ⟨hf, hhf⟩ : ∃ hf, s2 / 2 = hf := ⟨_, rfl⟩
  have hhi : (s2 : Int).tdiv 2 = (hf : Int) := by rw [Int.tdiv_eq_ediv_of_nonneg (by omega)]; omega
  obtain ⟨h1, hh1⟩ : ∃ h1, hf + 1 = h1 := ⟨_, rfl⟩
  have hh1i : (hf : Int) + 1 = (h1 : Int) := by omega
  go_enter Tryz.func14, Tryz.ntmps14
  go_upto_region 3 with (go_at_call 22; refine (next_any g A n c xs q h1 _ hD1 (by omega)).mono ?_; rintro e w2 ⟨r, q2, rfl, hr, _, hD2, hS2, hz2⟩
                         clear hz2
                         obtain ⟨nw, rfl⟩ : ∃ nw : Nat, r = nw := ⟨r.toNat, by have := hr (by omega); omega⟩
                         have hnw : nw < h1 := by have := hr (by omega); omega)
  obtain ⟨t1, ht1⟩ : ∃ t1, 2 * nw = t1 := ⟨_, rfl⟩
  have ht1i : (2 : Int) * (nw : Int) = (t1 : Int) := by omega
  obtain ⟨t2, ht2⟩ : ∃ t2, s2 - t1 = t2 := ⟨_, rfl⟩
  have ht2i : (s2 : Int) - (t1 : Int) = (t2 : Int) := by omega
  obtain ⟨t3, ht3⟩ : ∃ t3, t2 + 1 = t3 := ⟨_, rfl⟩
  have ht3i : (t2 : Int) + 1 = (t3 : Int) := by omega
  go_wp2_with (go_at_call 22; refine (next_any g A n c xs q2 t3 _ hD2 (by omega)).mono ?_; rintro e w3 ⟨r, q3, rfl, hr3, _, hD3, hS3, hz3⟩
               clear hz3
               obtain ⟨sil, rfl⟩ : ∃ sil : Nat, r = sil := ⟨r.toNat, by have := hr3 (by omega); omega⟩
               have hsil : sil < t3 := by have := hr3 (by omega); omega)
  go_ret2
  exact ⟨sil, nw, q3, rfl, by omega, hD3, ((Step.of_below hb1).trans hS2).trans hS3⟩
end Go.Proofs.YtmcgnpdfpfgfpaaGreatDoor
