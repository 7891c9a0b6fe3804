/-
  TopLists returns true: the walk of the law. Conditions: none beyond the reading of its arguments and of the variable errWrong.
-/
import Derived.Test.YtmcgnpdfpfgfpaaGreatDoorAwk
import Derived.Test.YtmcgnpdfpfgfpaaGreatDoorGMan
import Derived.Test.YtmcgnpdfpfgfpaaGreatDoorGBig
import Derived.Test.YtmcgnpdfpfgfpaaGreatDoorGLsC
import Derived.Deep.QuietTactic
import Derived.BigQuiet
import Derived.Deep.RegionLaw
import Derived.Deep.DeepCutAuto
import Derived.Deep.RegionHeld3
namespace Go.Proofs.YtmcgnpdfpfgfpaaGreatDoor
open Go.RowKit
set_option linter.unusedVariables false

theorem Ints.single {W : World} {b o : Nat} {x : Int} (hlt : b < W.heap.size) (h : W.cell? ⟨b, o, none⟩ = some (.int .i64 x)) : Ints W W.heap.size (some ⟨b, o, none⟩) 1 [x] := ⟨rfl, fun _ => ⟨b, o, rfl, hlt, fun j hj => by
  obtain rfl : j = 0 := by omega
  exact h⟩⟩
theorem rowQ_any (A : Option Addr) (n c : Nat) (xs : List Int) (W : World) (N : Nat) (h : Ints W W.heap.size A n xs) (hw : Wf64 xs) (hn : n ≤ 4611686018427387904) (qq : Nat) :
    Calls Tryz.prog 30 #[.slice A n c] (W.drewN (N + qq)) fun e w' => e = .returned (.int .i64 (dRow xs)) ∧ ∃ m, w' = W.drewN (N + m) :=
  (row_any A n c xs (W.drewN (N + qq)) (show Ints (W.drewN (N + qq)) W.heap.size A n xs from h) hw hn).mono fun e w' ⟨he, hww⟩ => ⟨he, qq, hww.symm⟩
theorem wf_one {x : Int} (h : -9223372036854775808 ≤ x ∧ x ≤ 9223372036854775807) : Wf64 [x] := fun y hy => by
  rw [List.mem_singleton.1 hy]; exact h

/-- What stays throughout: the deck, the field, the plan, the rows. -/
structure TLW (W : World) (g : Nat) (A : Option Addr) (n c : Nat) (xs : List Int) (q F B : Nat) (p : Int) (S base : Nat) (R : Option Addr) (nr rc : Nat) (rows : List (List Int)) : Prop where
  dk : Deck W g A n c xs q
  f : Blk W F 44 #[.int .i64 p]
  b : Blk W B 54 #[.int .i64 S, .int .i64 1]
  m : OwnM W base base 22 R nr rc rows
  gs : g < F ∧ g < B ∧ g < base
section
variable {W W' : World} {g n c q F B S base nr rc : Nat} {A R : Option Addr} {xs : List Int} {p : Int} {rows : List (List Int)}
theorem TLW.below (h : TLW W g A n c xs q F B p S base R nr rc rows) (hb : Below W.heap.size W W') : TLW W' g A n c xs q F B p S base R nr rc rows := ⟨h.dk.belowAll hb, h.f.below hb h.f.lt, h.b.below hb h.b.lt, h.m.belowAll hb, h.gs⟩
theorem TLW.step {q' : Nat} (h : TLW W g A n c xs q F B p S base R nr rc rows) (hs : Step g W W') (hd : Deck W' g A n c xs q') : TLW W' g A n c xs q' F B p S base R nr rc rows :=
  ⟨hd, Step.block hs h.f (by have := h.gs; omega), Step.block hs h.b (by have := h.gs; omega), h.m.step hs h.gs.2.2 h.gs.2.2, h.gs⟩
theorem TLW.cf (h : TLW W g A n c xs q F B p S base R nr rc rows) : W.cell? ⟨F, 0, none⟩ = some (.int .i64 p) := (h.f.cell 0).trans rfl
theorem TLW.cs (h : TLW W g A n c xs q F B p S base R nr rc rows) : W.cell? ⟨B, 0, none⟩ = some (.int .i64 S) := (h.b.cell 0).trans rfl
theorem TLW.cd (h : TLW W g A n c xs q F B p S base R nr rc rows) : W.cell? ⟨B, 1, none⟩ = some (.int .i64 1) := (h.b.cell 1).trans rfl
theorem TLW.three (h : TLW W g A n c xs q F B p S base R nr rc rows) : W.cell? ⟨F, 0, none⟩ = some (.int .i64 p) ∧ W.cell? ⟨B, 0, none⟩ = some (.int .i64 S) ∧ W.cell? ⟨B, 1, none⟩ = some (.int .i64 1) := ⟨h.cf, h.cs, h.cd⟩
theorem TLW.alloc (h : TLW W g A n c xs q F B p S base R nr rc rows) (o : Obj) : TLW (W.alloc o) g A n c xs q F B p S base R nr rc rows := h.below (bbox o)
end

set_option maxRecDepth 100000 in
set_option maxHeartbeats 16000000 in
theorem topLists_walk (A : Option Addr) (n c : Nat) (zs : List Int) (ix : Int) (w : World) (w0 : IsRow .i64 w A n c zs) (hix : 0 ≤ ix ∧ ix < 256) (hW : ErrW w) :
    Calls Tryz.prog 4 #[.slice A n c, .int .u8 ix] w fun e w' => e = .returned (.bool true) ∧ Below w.heap.size w w' := by
  obtain ⟨i0, hi0, hz0, hz1, hz2⟩ := info_parts info_int
  obtain ⟨i9, hi9, hy0, hy1, hy2⟩ := info_parts info_row
  obtain ⟨h, hw⟩ := w0.ints
  generalize zs.take n = xs at h hw
  clear w0
  by_cases hn : n ≤ 500
  · have hd : decide (n ≤ 500) = true := by simpa using hn
    go_enter Tryz.func4, Tryz.ntmps4
    go_upto_region 6 with (first
      | (go_at_call 5; refine (awake_any _ hW).mono ?_; rintro e w1 ⟨rfl, hb1⟩
         have hE1 := hW.below hb1)
      | (go_at_call 6; refine (few_any A n c _).mono ?_; rintro e w' ⟨rfl, rfl⟩)
      | (go_at_call 7; refine (new_any A n c xs _ (h.upto hb1) hn).mono ?_; rintro e w2 ⟨⟨g, rfl, hge, hD2⟩, hb2⟩
         have hbb2 := bnext hb1 hb2
         have hg : w.heap.size ≤ g := by rw [hge]; exact hb1.size
         clear hge hb1 hb2 hE1))
    go_upto_region 7 with (go_at_call 21; refine (big_any g A n c xs _ 7 _ hD2 (by omega)).mono ?_; rintro e w3 ⟨p, q3, rfl, hkn, hp7, hD3, hS3⟩)
    have hbb3 := ballocs (Step.below hbb2 hS3 hbb2.size hg) (.cells #[.int .i64 p] 44)
    have hF3 := Blk.new w3 44 #[.int .i64 p]
    have hD3a := hD3.alloc (.cells #[.int .i64 p] 44)
    have hgF := hD3.1.lt
    obtain ⟨F, hF⟩ : ∃ F, w3.heap.size = F := ⟨_, rfl⟩
    obtain ⟨w4, hw4⟩ : ∃ W, w3.alloc (.cells #[.int .i64 p] 44) = W := ⟨_, rfl⟩
    rw [hw4] at hbb3 hF3 hD3a
    rw [hF] at hF3 hgF
    rw [hw4, hF]
    clear hw4 hF hD3 hS3 hbb2 hD2
    go_upto_region 8 with (go_at_call 22; (with_reducible refine (next_any g A n c xs q3 4 _ hD3a (by omega)).mono ?_); rintro e w5 ⟨s4, q5, rfl, hs4, _, hD5, hS5, hz5⟩
                           clear hz5
                           obtain ⟨S, rfl⟩ : ∃ S : Nat, s4 = (S : Int) - 4 := ⟨(s4 + 4).toNat, by have := hs4 (by omega); omega⟩
                           have hSr : 4 ≤ S ∧ S ≤ 7 := by have := hs4 (by omega); omega
                           have hs4e : (4 : Int) + ((S : Int) - 4) = (S : Int) := by omega
                           have hs4w : IntKind.i64.wrap (4 + ((S : Int) - 4)) = (S : Int) := by rw [hs4e]; exact IntWalk.i64_in _ (by omega))
    have hgw3 : w.heap.size ≤ w4.heap.size := hbb3.size
    have hbb5 := ballocs (Step.below hbb3 hS5 hgw3 hg) (.cells #[.int .i64 S, .int .i64 1] 54)
    have hF5 := (Step.block hS5 hF3 (by omega)).alloc (.cells #[.int .i64 S, .int .i64 1] 54)
    have hB5 := Blk.new w5 54 #[.int .i64 S, .int .i64 1]
    have hD5a := hD5.alloc (.cells #[.int .i64 S, .int .i64 1] 54)
    have hgB := hD5.1.lt
    obtain ⟨B, hB⟩ : ∃ B, w5.heap.size = B := ⟨_, rfl⟩
    obtain ⟨w6, hw6⟩ : ∃ W, w5.alloc (.cells #[.int .i64 S, .int .i64 1] 54) = W := ⟨_, rfl⟩
    rw [hw6] at hbb5 hF5 hB5 hD5a
    rw [hB] at hB5 hgB
    rw [hw6, hB]
    clear hw6 hB hD5 hS5 hbb3 hD3a hF3 hs4 hs4e hs4w hgw3
    go_upto_region 9 with (go_at_call 22; (with_reducible refine (next_any g A n c xs q5 4 _ hD5a (by omega)).mono ?_); rintro e w7 ⟨n4, q7, rfl, hn4, _, hD7, hS7, hz7⟩
                           clear hz7
                           obtain ⟨nr, rfl⟩ : ∃ nr : Nat, n4 = (nr : Int) - 1 := ⟨(n4 + 1).toNat, by have := hn4 (by omega); omega⟩
                           have hnr : 1 ≤ nr ∧ nr ≤ 4 := by have := hn4 (by omega); omega
                           have hn4e : (1 : Int) + ((nr : Int) - 1) = (nr : Int) := by omega
                           have hn4w : IntKind.i64.wrap (1 + ((nr : Int) - 1)) = (nr : Int) := by rw [hn4e]; exact IntWalk.i64_in _ (by omega))
    have hgw5 : w.heap.size ≤ w6.heap.size := hbb5.size
    have hbb7 := Step.below hbb5 hS7 hgw5 hg
    have hF7 := Step.block hS7 hF5 (by omega)
    have hB7 := Step.block hS7 hB5 (by omega)
    clear hn4 hn4e hn4w hF5 hB5 hS7 hbb5 hD5a hgw5
    have hp65 : 2 ≤ p ∧ p ≤ 65521 := okP_pos (okP_known hkn)
    have HO : Hid (okP p = true) := Lib.hid (okP_known hkn)
    have hcf7 : w7.cell? ⟨F, 0, none⟩ = some (.int .i64 p) := (hF7.cell 0).trans rfl
    go_upto_region 10 with (go_at_call 23; refine (rows_any g A n c xs q7 p nr 1 _ hD7 hp65 (by omega) (by omega)).mono ?_; rintro e w8 ⟨R, rc, rows, q8, rfl, hM8, hrows, hD8, hS8⟩)
    have hTL8 : TLW w8 g A n c xs q8 F B p S w7.heap.size R nr rc rows := ⟨hD8, Step.block hS8 hF7 (by omega), Step.block hS8 hB7 (by omega), hM8, hgF, hgB, hD7.1.lt⟩
    have hbb8 := Step.below hbb7 hS8 hbb7.size hg
    have HROWS := Lib.hid hrows
    have hrl : rows.length = nr := hM8.len
    clear hF7 hB7 hD7 hM8 hD8 hrows hbb7 hcf7 hkn hS8
    generalize w7.heap.size = base at *
    obtain ⟨ri, hri, hrin⟩ : ∃ ri : Nat, ix % (nr : Int) = (ri : Int) ∧ ri < nr := ⟨(ix % (nr : Int)).toNat, by have := Int.emod_nonneg ix (b := (nr : Int)) (by omega); omega, by have h1 := Int.emod_nonneg ix (b := (nr : Int)) (by omega); have h2 := Int.emod_lt_of_pos ix (b := (nr : Int)) (by omega); omega⟩
    have htm : ix.tmod (nr : Int) = (ri : Int) := by rw [Int.tmod_eq_emod_of_nonneg hix.1]; exact hri
    have hixw : IntKind.i64.wrap ix = ix := IntWalk.i64_in _ (by omega)
    have hnr0 : ¬ (nr : Int) = 0 := by omega
    go_upto_region 11 with fail
    have hcf8 := hTL8.cf
    have hcs8 := hTL8.cs
    have hcd8 := hTL8.cd
    go_upto_region 12 with (go_at_call 24; refine (climits_ok p S 1 nr nr _ HO.out (by omega) (by omega) (by omega) (by omega) (by omega)).mono ?_; rintro e w9 ⟨⟨L, lc, rfl, hL9⟩, hb9⟩)
    have hTL9 := hTL8.below hb9
    have hbb9 := bnext hbb8 hb9
    have hg8 := hTL8.dk.1.lt
    clear hcf8 hcs8 hcd8 hb9 hTL8 hbb8 hri htm hixw
    have hgl89 : w8.heap.size ≤ w9.heap.size := by
      by_cases h0 : 0 < nr
      · obtain ⟨gl, _, h1, h2⟩ := hL9.form h0
        omega
      · omega
    have hD9d := hTL9.dk.drew
    have hL9d : OwnI w9.drew w8.heap.size 3 L nr lc (List.replicate nr p) := hL9
    have HTL9 := Lib.hid hTL9
    have hq9 : w9.drew.cell? ⟨F, 0, none⟩ = some (.int .i64 p) ∧ w9.drew.cell? ⟨B, 0, none⟩ = some (.int .i64 S) ∧ w9.drew.cell? ⟨B, 1, none⟩ = some (.int .i64 1) := hTL9.three
    have hq9a : (w9.alloc (.cells #[.slice none 0 0, .int .i64 0] 75)).drew.cell? ⟨F, 0, none⟩ = some (.int .i64 p) ∧ (w9.alloc (.cells #[.slice none 0 0, .int .i64 0] 75)).drew.cell? ⟨B, 0, none⟩ = some (.int .i64 S) ∧ (w9.alloc (.cells #[.slice none 0 0, .int .i64 0] 75)).drew.cell? ⟨B, 1, none⟩ = some (.int .i64 1) := (hTL9.alloc (.cells #[.slice none 0 0, .int .i64 0] 75)).three
    have hD9a := hD9d.alloc (.cells #[.slice none 0 0, .int .i64 0] 75)
    have hL9a := hL9d.alloc (.cells #[.slice none 0 0, .int .i64 0] 75)
    have hB9a : Blk (w9.drew.alloc (.cells #[.slice none 0 0, .int .i64 0] 75)) w9.heap.size 75 #[.slice none 0 0, .int .i64 0] := Blk.new w9.drew _ _
    have hgl9 := hTL9.dk.1.lt
    go_cut [13, 14, 15] (fun s13 _ s15 wx => ∃ (gq : Nat) (bs : List (Option Addr × Nat × Nat)) (q10 : Nat) (ds : List Int), s13 = .slice (some ⟨gq, 0, none⟩) S S ∧ s15 = .int .i64 0 ∧ GrW wx w9.heap.size gq S bs (qM p ri 1 S ds nr 0) ∧ allP p ds = true ∧ ds.length = nr ∧ TLW wx g A n c xs q10 F B p S base R nr rc rows ∧ Step g w9 wx)
    case first =>
      go_region_held3 (fun w' => w'.cell? ⟨F, 0, none⟩ = some (.int .i64 p) ∧ w'.cell? ⟨B, 0, none⟩ = some (.int .i64 S) ∧ w'.cell? ⟨B, 1, none⟩ = some (.int .i64 1)) (first | go_keep | exact hq9 | exact hq9a | exact hq10 | exact hq10a | exact hq11 | exact hq12)
       (first
        | (go_simp; go_at_call 26; (refine (seed_any g A n c xs q8 p nr L lc _ hD9a hp65 hL9a hg8 (by omega)).mono ?_); rintro e w10 ⟨D, dc, ds, q10, rfl, hO10, hds, hD10, hS10⟩
           have hS10a := hS10
           have hS10 : Step g w9 w10 := by
             have h0 : Step g w9 (w9.drew.alloc (.cells #[.slice none 0 0, .int .i64 0] 75)) := (Step.refl g w9).drew.alloc _
             exact h0.trans hS10
           have hq10 := (HTL9.out.step hS10 hD10).three
           have hI10 := hO10.ints
           have HDL := Lib.hid hO10.len
           have HDS := Lib.hid hds
           have hsz10 : w9.heap.size ≤ w10.heap.size := World.grownBy.size hS10
           have hgl10 := hD10.1.lt
           have hBT := Step.block hS10a hB9a (by omega)
           have hD10q := hD10
           clear hO10 hds)
        | (go_simp; go_at_call 26; (refine (seed_any g A n c xs q8 p nr L lc _ hD9d hp65 hL9d hg8 (by omega)).mono ?_); rintro e w10 ⟨D, dc, ds, q10, rfl, hO10, hds, hD10, hS10⟩
           have hS10 : Step g w9 w10 := by
             obtain ⟨h1, h2, h3, h4, h5⟩ : World.grownBy w9.drew w10 (some g) := hS10
             exact ⟨h1, h2, h3, h4, h5⟩
           have hq10 := (HTL9.out.step hS10 hD10).three
           have hI10 := hO10.ints
           have HDL := Lib.hid hO10.len
           have HDS := Lib.hid hds
           have hsz10 : w9.heap.size ≤ w10.heap.size := World.grownBy.size hS10
           have hgl10 := hD10.1.lt
           have hD10q := hD10
           have hD10p := hD10.alloc (.cells #[.slice none 0 0, .int .i64 0] 75)
           have hI10a := hI10.upto (bbox (.cells #[.slice none 0 0, .int .i64 0] 75))
           have hBTa := Blk.new w10 75 #[.slice none 0 0, .int .i64 0]
           have hq10a := ((HTL9.out.step hS10 hD10).alloc (.cells #[.slice none 0 0, .int .i64 0] 75)).three
           have hNoT : True := trivial
           clear hO10 hds)
        | (go_simp; go_at_call 25; (refine (cquer_ok p S 1 nr ri nr dc D ds _ HO.out (by omega) (by omega) (by omega) (by omega) (by omega) hrin hI10 HDS.out).mono ?_); rintro e w11 ⟨⟨gq, bs, T', tc', av, rfl, hG11⟩, hb11⟩
           have hBT11 := hBT.below hb11 hBT.lt
           have hzT0 : w11.cell? ⟨w9.heap.size, 0, none⟩ = some (.slice none 0 0) := (hBT11.cell 0).trans rfl
           have hzT1 : w11.cell? ⟨w9.heap.size, 1, none⟩ = some (.int .i64 0) := (hBT11.cell 1).trans rfl
           have hfT0 := hBT11.frozen 0
           have hfT1 := hBT11.frozen 1
           have hSf := Lib.hid (((hS10.trans (Step.of_below hb11)).setNew (p := ⟨w9.heap.size, 0, none⟩) (by first | exact Nat.le_refl _ | exact hsz10) (.slice T' nr tc')).setNew (p := ⟨w9.heap.size, 1, none⟩) (by first | exact Nat.le_refl _ | exact hsz10) (.int .i64 av))
           have hDf := ((hD10q.belowAll hb11).setCell (p := ⟨w9.heap.size, 0, none⟩) (by first | exact hgl9 | exact hgl10) (.slice T' nr tc')).setCell (p := ⟨w9.heap.size, 1, none⟩) (by first | exact hgl9 | exact hgl10) (.int .i64 av)
           have hGf := Lib.hid ((hG11.step (((Step.refl (w9.heap.size) w11).set 0 (.slice T' nr tc')).set 1 (.int .i64 av)) hBT.lt).lower hsz10)
           have hTLf := Lib.hid (HTL9.out.step hSf.out hDf)
           have hq12 := hTLf.out.three
           have hq11 := (HTL9.out.step (hS10.trans (Step.of_below hb11)) (hD10q.belowAll hb11)).three
           clear hBT11 hG11)
        | (go_simp; go_at_call 25; (refine (cquer_ok p S 1 nr ri nr dc D ds _ HO.out (by omega) (by omega) (by omega) (by omega) (by omega) hrin hI10a HDS.out).mono ?_); rintro e w11 ⟨⟨gq, bs, T', tc', av, rfl, hG11⟩, hb11⟩
           have hBT11 := hBTa.below hb11 hBTa.lt
           have hzT0 : w11.cell? ⟨w10.heap.size, 0, none⟩ = some (.slice none 0 0) := (hBT11.cell 0).trans rfl
           have hzT1 : w11.cell? ⟨w10.heap.size, 1, none⟩ = some (.int .i64 0) := (hBT11.cell 1).trans rfl
           have hfT0 := hBT11.frozen 0
           have hfT1 := hBT11.frozen 1
           have hSf := Lib.hid ((((hS10.alloc (.cells #[.slice none 0 0, .int .i64 0] 75)).trans (Step.of_below hb11)).setNew (p := ⟨w10.heap.size, 0, none⟩) (by first | exact Nat.le_refl _ | exact hsz10) (.slice T' nr tc')).setNew (p := ⟨w10.heap.size, 1, none⟩) (by first | exact Nat.le_refl _ | exact hsz10) (.int .i64 av))
           have hDf := ((hD10p.belowAll hb11).setCell (p := ⟨w10.heap.size, 0, none⟩) (by first | exact hgl9 | exact hgl10) (.slice T' nr tc')).setCell (p := ⟨w10.heap.size, 1, none⟩) (by first | exact hgl9 | exact hgl10) (.int .i64 av)
           have hGf := Lib.hid ((hG11.step (((Step.refl (w10.heap.size) w11).set 0 (.slice T' nr tc')).set 1 (.int .i64 av)) hBTa.lt).lower (Nat.le_trans hsz10 (by rw [World.size_alloc]; exact Nat.le_succ _ : w10.heap.size ≤ (w10.alloc (.cells #[.slice none 0 0, .int .i64 0] 75)).heap.size)))
           have hTLf := Lib.hid (HTL9.out.step hSf.out hDf)
           have hq12 := hTLf.out.three
           have hq11 := (HTL9.out.step ((hS10.alloc (.cells #[.slice none 0 0, .int .i64 0] 75)).trans (Step.of_below hb11)) (hD10p.belowAll hb11)).three
           clear hBT11 hG11)
        | (go_simp; go_at_call 25; (refine (cquer_ok p S 1 nr ri nr dc D ds _ HO.out (by omega) (by omega) (by omega) (by omega) (by omega) hrin hI10 HDS.out).mono ?_); rintro e w11 ⟨⟨gq, bs, T', tc', av, rfl, hG11⟩, hb11⟩
           have hNT := hNoT
           have hbT := bbox (w0 := w11) (.cells #[.slice T' nr tc', .int .i64 av] 75)
           have hGf := Lib.hid ((hG11.belowAll hbT).lower hsz10)
           have hSf := Lib.hid ((hS10.trans (Step.of_below hb11)).trans (Step.of_below hbT))
           have hTLf := Lib.hid (HTL9.out.step hSf.out ((hD10q.belowAll hb11).belowAll hbT))
           have hq12 := hTLf.out.three
           have hq11 := (HTL9.out.step (hS10.trans (Step.of_below hb11)) (hD10q.belowAll hb11)).three
           clear hG11))
      all_goals go_wp2
      all_goals go_meet
      all_goals exact ⟨gq, bs, q10, ds, rfl, rfl, hGf.out, HDS.out, HDL.out, hTLf.out, hSf.out⟩
    case rest =>
    obtain ⟨gq, bs, q10, ds, rfl, rfl, hG, hds, hdl, hTL, hSc⟩ := hcut
    obtain ⟨w12, hw12⟩ : ∃ v, v = wc := ⟨_, rfl⟩
    subst hw12
    rw [qM_done] at hG
    have hbb12 := Step.below hbb9 hSc hbb9.size hg
    have HDS := Lib.hid hds
    have HDL := Lib.hid hdl
    have HTL := Lib.hid hTL
    have hgl12 := hTL.dk.1.lt
    clear hTL HTL9 hq9 hq9a hD9a hL9a hB9a hD9d hL9d hL9 hgl9 hg8 hds hdl hSc hbb9
    go_wp2_with fail
    go_loopw [16, 85] (fun s i wz => ∃ (k : Nat) (AN : Option Addr) (ac : Nat), k ≤ S ∧ s = .slice AN k ac ∧ i = .int .i64 k ∧ Hid (OwnM wz w12.heap.size w12.heap.size 22 AN k ac (anL p nr ri 1 S 1 ds rows k)) ∧ Below w12.heap.size w12 wz) (fun _ i _ => S - (intOf i).toNat)
    case atStart => exact ⟨0, none, 0, Nat.zero_le _, rfl, rfl, Lib.hid OwnM.nil_, Below.refl _ _⟩
    case round =>
    obtain ⟨k, AN, ac, hk, rfl, rfl, HAN, hbz⟩ := hrel
    have hTLz := HTL.out.below hbz
    have hcfz := hTLz.cf
    have hcsz := hTLz.cs
    by_cases hlt : k < S
    · have hkSi : (k : Int) < (S : Int) := by omega
      have hk0 : (0 : Int) ≤ (k : Int) := by omega
      have hGz := hG.belowAll hbz
      have hcg := (hGz.at_ hlt).1
      have hOg := hGz.own k hlt
      have hgs : ((List.range S).map fun s : Nat => cvQ p nr ri 1 ds ((s : Int) + 1)).getD k [] = cvQ p nr ri 1 ds ((k : Int) + 1) := by
        rw [List.getD_eq_getElem?_getD, List.getElem?_map, List.getElem?_range hlt]; rfl
      rw [hgs] at hOg
      obtain ⟨⟨X, xn, xc⟩, hx⟩ : ∃ t, bs.getD k (none, 0, 0) = t := ⟨_, rfl⟩
      rw [hx] at hOg hcg
      dsimp only at hOg hcg
      have e0 : xn = nr := by rw [← hOg.len, cvQ_len]
      subst e0
      have hIx := hOg.ints
      have hMz := hTLz.m.mat (Nat.le_refl _)
      have HQA : Hid (allP p (cvQ p xn ri 1 ds ((k : Int) + 1)) = true) := Lib.hid (cvQ_all hp65.1 _ _ _ _ _)
      have HAS := Lib.hid (anL_succ p xn ri 1 S 1 ds rows k)
      have HC1 : Hid ((combP p (cvQ p xn ri 1 ds ((k : Int) + 1)) rows 1).length = 1) := Lib.hid (combP_len p _ _ _ (fun x hx => (HROWS.out x hx).2))
      obtain ⟨cq, hcq⟩ : ∃ cq, cvQ p xn ri 1 ds ((k : Int) + 1) = cq := ⟨_, rfl⟩
      rw [hcq] at hIx HQA HAS HC1
      have hszz := hbz.size
      clear hx hOg hGz hgs hcq
      go_wp2_with (first
        | (go_at_call 27; refine (panswer_ok p X R xn 1 xc rc cq rows _ HO.out hIx hMz HQA.out HROWS.out (by omega) (by omega)).mono ?_; rintro e w14 ⟨⟨Y, yc, rfl, hY⟩, hb14⟩
           have hAN15 := (HAN.out.belowAll hb14).belowAll (bbox (.cells #[.slice Y 1 yc] 22))
           have hY15 := hY.ints.upto (bbox (.cells #[.slice Y 1 yc] 22))
           have hbz15 := (hbz.trans (hb14.mono hszz)).alloc (Nat.le_trans hszz hb14.size) (.cells #[.slice Y 1 yc] 22)
           have hN15 := Blk.new w14 22 #[.slice Y 1 yc]
           have hrowY : ∀ b, (Value.slice Y 1 yc).ownBlock = some b → wr.heap.size ≤ b := fun b hb => hY.row b hb)
        | (at_builtin
           refine wpList_append_rowH rfl _ _ 45 rfl w12.heap.size w12.heap.size 22 i9 _ Tryz.underlying45 hi9 hy0 hy1 hy2 rfl AN k ac _ rfl hAN15 w14.heap.size 1 Y 1 yc _ rfl ((hN15.cell 0).trans rfl) hN15.lt (by omega) hY15 (fun h0 b off s e => by have := hrowY b (by rw [e]; rfl); omega) (fun h0 b off s e e2 => by have h1 := hrowY b (by rw [e]; rfl); have h2 := (HAN.out.row b e2).2; omega) (k + 1) rfl (by omega) hbz15.size ?_
           intro A2 c2 w16 hAN16 hgr16 hb16 hab16
           have hbz16 := hbz15.trans hb16))
      go_roundw
      case rel => exact ⟨k + 1, A2, c2, by omega, rfl, by go_num, Lib.hid (by rw [HAS.out]; exact hAN16), hbz16⟩
      case measure => simp [intOf]; omega
    · obtain rfl : S = k := by omega
      have hAN := HAN.out
      have hbbz := bnext hbb12 hbz
      obtain ⟨s1, hs1⟩ : ∃ s1, S - 1 = s1 := ⟨_, rfl⟩
      have hs1i : (S : Int) - 1 = (s1 : Int) := by omega
      have hglz : g < wr.heap.size := hTLz.dk.1.lt
      go_upto_region 25 with (go_at_call 22; refine (next_any g A n c xs q10 s1 _ hTLz.dk (by omega)).mono ?_; rintro e w20 ⟨rw20, q20, rfl, hr20, _, hD20, hS20, hz20⟩
                              clear hz20
                              obtain ⟨nw, rfl⟩ : ∃ nw : Nat, rw20 = nw := ⟨rw20.toNat, by have := hr20 (by omega); omega⟩
                              have hnw : nw < s1 := by have := hr20 (by omega); omega
                              have hTL20 := hTLz.step hS20 hD20
                              have hAN20 := hAN.step hS20 hgl12 hgl12
                              have hcf20 := hTL20.cf)
      have hbb20 := Step.below hbbz hS20 hbbz.size hg
      have hANok : ∀ a ∈ anL p nr ri 1 S 1 ds rows S, allP p a = true ∧ a.length = 1 := anL_ok hp65.1 (fun x hx => (HROWS.out x hx).2)
      go_upto_region 26 with (go_at_call 28; refine (manswers_ok g A n c xs q20 p AN ac S 1 w12.heap.size (anL p nr ri 1 S 1 ds rows S) nw 0 _ hD20 HO.out (hAN20.mat (Nat.le_refl _)) hgl12 hANok (by omega) (by omega) (by omega) (by omega)).mono ?_; rintro e w21 ⟨L, lc', ks, bsA, m, bd, O, oc, q21, rfl, hAW, hAF, hbd, hkc, hD21, hS21⟩)
      have hTL21 := hTL20.step hS21 hD21
      have hbb21 := Step.below hbb20 hS21 hbb20.size hg
      have hkT : ks = List.replicate S true := by
        have := all_true ks (by rw [hAF.len.1]; exact hkc)
        rw [hAF.len.1] at this
        exact this
      have hkt : ∀ j, j < S → ks.getD j false = true := fun j hj => by rw [hkT, List.getD_eq_getElem?_getD, List.getElem?_replicate, if_pos hj]; rfl
      have hAns : Ans w21 w21.heap.size L S ks m := hAW.ans (fun j hj => by rw [(hAF.el j hj (hkt j hj)).1]; omega)
      have hml : m.length = S := hAF.len.2.1
      have HEL : Hid (∀ j, j < S → (m.getD j []).length = 1 ∧ allP p (m.getD j []) = true) := Lib.hid fun j hj => hAF.el j hj (hkt j hj)
      have HKT := Lib.hid hkt
      have HAF := Lib.hid hAF
      have HKE := Lib.hid hkT
      obtain ⟨cb, hcb⟩ : ∃ cb, cntT bd = cb := ⟨_, rfl⟩
      have HCB := Lib.hid hcb
      rw [hcb] at hbd
      rw [hcb]
      clear hAN hAN20 hAW hAF hkT hkt hD20 hD21 hS20 hS21 hTL20 hcf20 hTLz hcfz hcsz HAN hbz hG hbbz hbb20 hbb12 hkc hANok hr20 hcb hglz
      go_wp2_with fail
      go_loopw [24, 118] (fun s i wz => ∃ (k : Nat) (WD : Option Addr) (wc' : Nat), k ≤ S ∧ s = .slice WD k wc' ∧ i = .int .i64 k ∧ Hid (OwnC wz w21.heap.size WD k wc' ((colP m 0).take k) (List.replicate k true)) ∧ Below w21.heap.size w21 wz) (fun _ i _ => S - (intOf i).toNat)
      case atStart => exact ⟨0, none, 0, Nat.zero_le _, rfl, rfl, Lib.hid OwnC.nil_, Below.refl _ _⟩
      case round =>
      obtain ⟨k, WD, wc', hk, rfl, rfl, HWD, hbz⟩ := hrel
      have hcml : (colP m 0).length = S := by rw [colP_len]; exact hml
      by_cases hlt : k < S
      · have hkSi : (k : Int) < (S : Int) := by omega
        have hk0 : (0 : Int) ≤ (k : Int) := by omega
        obtain ⟨b, off, A', n', c', rfl, hbl, h0, h1, hn', hI⟩ := (hAns.upto hbz).at_ hlt
        rw [HKT.out k hlt] at h0
        have hn1 : n' = 1 := by rw [← hI.len]; exact (HEL.out k hlt).1
        subst hn1
        have HT := Lib.hid (take_succ_getD (colP m 0) k (by omega))
        rw [colP_at m 0 (by omega)] at HT
        have HRP : Hid (List.replicate (k + 1) true = List.replicate k true ++ [true]) := Lib.hid (List.replicate_succ' ..)
        have hB4 := Blk.new wr 85 #[.bool true, .slice A' 1 c']
        have hb4 := bbox (w0 := wr) (.cells #[.bool true, .slice A' 1 c'] 85)
        have hI4 := hI.upto hb4
        obtain ⟨b2, o2, rfl, hb2, hc2⟩ := hI4.2 (by omega)
        have hcx := hc2 0 (by omega)
        obtain ⟨x, hx⟩ : ∃ x, (m.getD k []).getD 0 0 = x := ⟨_, rfl⟩
        rw [hx] at hcx HT
        rw [Nat.add_zero] at hcx
        have hWD4 := HWD.out.belowAll hb4
        have hbz4 := hbz.trans (hb4.mono hbz.size)
        have HW4 : Hid _ := Lib.hid (rfl : wr.alloc (.cells #[.bool true, .slice (some ⟨b2, o2, none⟩) 1 c'] 85) = _)
        clear HW4
        obtain ⟨w4', hw4'⟩ : ∃ v, wr.alloc (.cells #[.bool true, .slice (some ⟨b2, o2, none⟩) 1 c'] 85) = v := ⟨_, rfl⟩
        have HW4 := Lib.hid hw4'
        rw [hw4'] at hB4 hcx hWD4 hbz4
        clear hw4' hI hI4 hc2 hx hb4
        go_upto_region 30 with fail
        rw [HW4.out]
        clear HW4
        have hq0 : w4'.cell? ⟨wr.heap.size, 0, none⟩ = some (.bool true) := (hB4.cell 0).trans rfl
        have hq1 : w4'.cell? ⟨wr.heap.size, 1, none⟩ = some (.slice (some ⟨b2, o2, none⟩) 1 c') := (hB4.cell 1).trans rfl
        have hN5 := Blk.new w4' 87 #[.int .i64 x, .bool true]
        have hWD5 := hWD4.belowAll (bbox (.cells #[.int .i64 x, .bool true] 87))
        have hbz5 := hbz4.alloc hbz4.size (.cells #[.int .i64 x, .bool true] 87)
        clear hWD4
        go_wp2_with ((at_builtin; refine wpList_append_cell rfl _ _ 83 rfl Tryz.underlying83 w21.heap.size WD k wc' _ _ rfl hWD5 w4'.heap.size 1 x true rfl ((hN5.cell 0).trans rfl) ((hN5.cell 1).trans rfl) (by omega) hbz5.size ?_; intro L2 lc2 w10' hS10' hb10'; have hbz10' := hbz5.trans hb10'))
        go_roundw
        case rel => exact ⟨k + 1, L2, lc2, by omega, rfl, by go_num, Lib.hid (by rw [HT.out, HRP.out]; exact hS10'), hbz10'⟩
        case measure => simp [intOf]; omega
      · obtain rfl : S = k := by omega
        have hWD := HWD.out
        rw [List.take_of_length_le (by omega)] at hWD
        have hcapW : S ≤ wc' := by
          rcases hWD.2.2.2 with ⟨_, h0⟩ | ⟨g3, cap3, cur3, e3, _, _, h3, _⟩
          · omega
          · injection e3 with _ _ e3; omega
        have hTLz := hTL21.below hbz
        have hbbz := bnext hbb21 hbz
        have hdl1 : ds.length = nr * 1 := by rw [Nat.mul_one]; exact HDL.out
        obtain ⟨hRa, hRt, hRl⟩ := an_poly (r := ri) hp65.1 rows 0 hdl1
        have hwr := an_wrong (c := 0) hp65.1 hdl1 (fun x hx => (HROWS.out x hx).2) (by omega) HAF.out
        rw [HKE.out, HCB.out] at hwr
        have hkl : (knL (colP m 0) (List.replicate S true)).length = S := by rw [knL_cnt (by rw [List.length_replicate]; omega), cntT_yes]
        have hag := agrK_wrL p (trimL (cvP p nr ri 1 ds rows 0)) (knL (colP m 0) (List.replicate S true))
        rw [hkl] at hag
        have hR0 : cf (trimL (cvP p nr ri 1 ds rows 0)) 0 = (rows.getD ri []).getD 0 0 := by rw [cf_trimL]; exact cv_zero hp65.1 hdl1 hrl hrin (fun x hx => HROWS.out x hx) (by omega)
        obtain ⟨PR, hPR⟩ : ∃ PR, trimL (cvP p nr ri 1 ds rows 0) = PR := ⟨_, rfl⟩
        rw [hPR] at hRa hRt hRl hwr hag hR0
        obtain ⟨ag, hag2⟩ : ∃ ag, S - cb = ag := ⟨_, rfl⟩
        have hagi : (S : Int) - (cb : Int) = (ag : Int) := by omega
        have hkn : knOk p (colP m 0) (List.replicate S true) := knOk_col (N := S) (W := 1) List.length_replicate hml (by omega) (fun i hi _ => HEL.out i hi)
        have hvs : allP p (colP m 0) = true := allP_iff.2 fun x hx => by
          obtain ⟨r, hr, rfl⟩ := List.mem_map.1 hx
          obtain ⟨j, hj, rfl⟩ := List.getElem_of_mem hr
          have h1 := HEL.out j (by omega)
          rw [List.getD_eq_getElem?_getD, List.getElem?_eq_getElem hj] at h1
          simp only [Option.getD_some] at h1
          exact allP_getD h1.2 (by omega)
        have hch : chB 2 S < 50 := by
          rcases (by omega : S = 4 ∨ S = 5 ∨ S = 6 ∨ S = 7) with e | e | e | e <;> rw [e] <;> decide
        have HLD := Lib.hid (lDecode_ok p 2 ag WD S wc' (colP m 0) (List.replicate S true) _ HO.out (by omega) (by omega) hkn hvs (by omega) hcapW hWD.cel hch (by omega) (by omega) (by omega) PR hRa hRt hRl (by omega) (by omega))
        have HRN := Lib.hid (show PR.length ≤ 2 from hRl)
        have HPA : Hid (allP p PR = true ∧ Trimd PR ∧ ag ≤ agrK p PR (knL (colP m 0) (List.replicate S true)) ∧ 2 ≤ agrK p PR (knL (colP m 0) (List.replicate S true)) ∧ cf PR 0 = (rows.getD ri []).getD 0 0) := Lib.hid ⟨hRa, hRt, by omega, by omega, hR0⟩
        have hcfz := hTLz.cf
        have hcsz := hTLz.cs
        clear hPR hRa hRt hRl hwr hag hR0 hkn hvs hch hkl hcapW hWD HWD hAns hbz hTL21 hbb21 HDL HDS HAF HTL HEL HKE HKT HCB
        go_upto_region 37 with (go_at_call 29; refine HLD.out.mono ?_; rintro e w30 ⟨FD, fm, fc, found, rfl, hfm, hMF, hin, hcov, hb30⟩)
        have hTL30 := hTLz.below hb30
        have hbb30 := bnext hbbz hb30
        obtain ⟨R0, hR0⟩ : ∃ R0, (rows.getD ri []).getD 0 0 = R0 := ⟨_, rfl⟩
        have hrow := HROWS.out _ (getD_mem2 (l := rows) (d := []) (by omega : ri < rows.length))
        have hR0b : 0 ≤ R0 ∧ R0 < p := by rw [← hR0]; exact allP_getD hrow.1 (by omega)
        have hex : ∃ f ∈ found, cf f 0 = R0 := by
          obtain ⟨r, hr, he⟩ := hcov PR HPA.out.1 HPA.out.2.1 HRN.out HPA.out.2.2.1 HPA.out.2.2.2.1
          exact ⟨r, hr, by rw [← he 0, HPA.out.2.2.2.2, hR0]⟩
        have HEX := Lib.hid hex
        have HIN := Lib.hid hin
        have hfl := hMF.len
        have HRL : Hid ((rows.getD ri []).length = 1) := Lib.hid hrow.2
        have HR0 := Lib.hid hR0
        clear hin hcov hR0 hrow hex HLD HRN HPA hTLz hbbz hb30 hcfz hcsz
        go_wp2
        go_loopw [29, 30, 155] (fun a b i wz => ∃ (k hN : Nat) (th : Bool), k ≤ fm ∧ a = .bool th ∧ b = .int .i64 hN ∧ i = .int .i64 k ∧ hN ≤ k ∧ Hid (hitN R0 found k = hN) ∧ Hid (th = decide (1 ≤ hN)) ∧ Below w30.heap.size w30 wz) (fun _ _ i _ => fm - (intOf i).toNat)
        case atStart => exact ⟨0, 0, false, Nat.zero_le _, rfl, rfl, rfl, Nat.le_refl _, Lib.hid (hitN_zero R0 found), Lib.hid rfl, Below.refl _ _⟩
        case round =>
        obtain ⟨k, hN, th, hk, rfl, rfl, rfl, hNk, HH, HTH, hbz⟩ := hrel
        by_cases hlt : k < fm
        · have hkf : (k : Int) < (fm : Int) := by omega
          have hk0 : (0 : Int) ≤ (k : Int) := by omega
          have hMr := (hTL30.below hbz).m.mat (Nat.le_refl _)
          obtain ⟨bR, oR, A1, n1, c1, hRe, _, hbR, hcR, hn1, hI1, _⟩ := hMr.at_ hrin
          have hn11 : n1 = 1 := by rw [← hI1.len]; exact HRL.out
          subst hRe hn11
          obtain ⟨b1, o1, hAe, hb1l, hc1⟩ := hI1.2 (by omega)
          subst hAe
          have hcr0 := hc1 0 (by omega)
          rw [HR0.out, Nat.add_zero] at hcr0
          clear hc1 hI1 hMr
          obtain ⟨bF, oF, X, xn, xc, hFe, _, hbF, hcF, hxn, hIX, _⟩ := (hMF.upto hbz).at_ hlt
          subst hFe
          have hgf : found.getD k [] ∈ found := getD_mem2 (by omega)
          have HXE := Lib.hid (HIN.out _ hgf)
          have HHS := Lib.hid (hitN_succ R0 found k (by omega))
          obtain ⟨fx, hfx⟩ : ∃ fx, found.getD k [] = fx := ⟨_, rfl⟩
          rw [hfx] at hIX HXE HHS
          clear hgf hfx
          have hN31 := Blk.new wr 3 #[.int .i64 0]
          have hb31 := bbox (w0 := wr) (.cells #[.int .i64 0] 3)
          obtain ⟨w31, hw31⟩ : ∃ v, wr.alloc (.cells #[.int .i64 0] 3) = v := ⟨_, rfl⟩
          have HW31 := Lib.hid hw31
          rw [hw31] at hN31 hb31
          clear hw31
          have hN31 := Blk.new wr 3 #[.int .i64 0]
          have hb31 := bbox (w0 := wr) (.cells #[.int .i64 0] 3)
          obtain ⟨w31, hw31⟩ : ∃ v, wr.alloc (.cells #[.int .i64 0] 3) = v := ⟨_, rfl⟩
          have HW31 := Lib.hid hw31
          rw [hw31] at hN31 hb31
          clear hw31
          have hN31 := Blk.new wr 3 #[.int .i64 0]
          have hb31 := bbox (w0 := wr) (.cells #[.int .i64 0] 3)
          obtain ⟨w31, hw31⟩ : ∃ v, wr.alloc (.cells #[.int .i64 0] 3) = v := ⟨_, rfl⟩
          have HW31 := Lib.hid hw31
          rw [hw31] at hN31 hb31
          clear hw31
          have hN31 := Blk.new wr 3 #[.int .i64 0]
          have hb31 := bbox (w0 := wr) (.cells #[.int .i64 0] 3)
          obtain ⟨w31, hw31⟩ : ∃ v, wr.alloc (.cells #[.int .i64 0] 3) = v := ⟨_, rfl⟩
          have HW31 := Lib.hid hw31
          rw [hw31] at hN31 hb31
          clear hw31
          have hN31 := Blk.new wr 3 #[.int .i64 0]
          have hb31 := bbox (w0 := wr) (.cells #[.int .i64 0] 3)
          obtain ⟨w31, hw31⟩ : ∃ v, wr.alloc (.cells #[.int .i64 0] 3) = v := ⟨_, rfl⟩
          have HW31 := Lib.hid hw31
          rw [hw31] at hN31 hb31
          clear hw31
          have hN31 := Blk.new wr 3 #[.int .i64 0]
          have hb31 := bbox (w0 := wr) (.cells #[.int .i64 0] 3)
          obtain ⟨w31, hw31⟩ : ∃ v, wr.alloc (.cells #[.int .i64 0] 3) = v := ⟨_, rfl⟩
          have HW31 := Lib.hid hw31
          rw [hw31] at hN31 hb31
          clear hw31
          have hN31 := Blk.new wr 3 #[.int .i64 0]
          have hb31 := bbox (w0 := wr) (.cells #[.int .i64 0] 3)
          obtain ⟨w31, hw31⟩ : ∃ v, wr.alloc (.cells #[.int .i64 0] 3) = v := ⟨_, rfl⟩
          have HW31 := Lib.hid hw31
          rw [hw31] at hN31 hb31
          clear hw31
          have hN31 := Blk.new wr 3 #[.int .i64 0]
          have hb31 := bbox (w0 := wr) (.cells #[.int .i64 0] 3)
          obtain ⟨w31, hw31⟩ : ∃ v, wr.alloc (.cells #[.int .i64 0] 3) = v := ⟨_, rfl⟩
          have HW31 := Lib.hid hw31
          rw [hw31] at hN31 hb31
          clear hw31
          go_upto_region 42 with fail
          rw [HW31.out]
          clear HW31
          have hq31 : w31.cell? ⟨wr.heap.size, 0, none⟩ = some (.int .i64 0) := (hN31.cell 0).trans rfl
          have hf31 := hN31.frozen 0
          have hri0 : (0 : Int) ≤ (ri : Int) := by omega
          have hrin2 : (ri : Int) < (nr : Int) := by omega
          have hp2 : p ≤ 65521 := hp65.2
          by_cases hx0 : 0 < xn
          · have hx0i : (0 : Int) < (xn : Int) := by omega
            obtain ⟨bX, oX, hXe, hbXl, hcX⟩ := hIX.2 hx0
            subst hXe
            have hcx0 := (hb31.cell (p := ⟨bX, oX + 0, none⟩) hbXl).trans (hcX 0 hx0)
            rw [Nat.add_zero] at hcx0
            obtain ⟨y, hye⟩ : ∃ y, cf fx 0 = y := ⟨_, rfl⟩
            rw [show fx.getD 0 0 = y from hye] at hcx0
            have hyb : 0 ≤ y ∧ y < p := by rw [← hye]; exact allP_getD HXE.out.1 (by rw [hIX.len]; exact hx0)
            have hBX := hN31.set_ 0 (.int .i64 y)
            have hbX := hb31.setCell (p := ⟨wr.heap.size, 0, none⟩) (Nat.le_refl _) (.int .i64 y)
            obtain ⟨WX, hWX⟩ : ∃ v, w31.setCell ⟨wr.heap.size, 0, none⟩ (.int .i64 y) = v := ⟨_, rfl⟩
            have HWX := Lib.hid hWX
            rw [hWX] at hBX hbX
            clear hWX hcX
            go_upto_region 44 with fail
            rw [HWX.out]
            clear HWX hcx0 hq31 hf31
            have hyx : WX.cell? ⟨wr.heap.size, 0, none⟩ = some (.int .i64 y) := (hBX.cell 0).trans rfl
            have hIy : Ints WX WX.heap.size (some ⟨wr.heap.size, 0, none⟩) 1 [y] := Ints.single hBX.lt hyx
            have hcRx : WX.cell? ⟨bR, oR + ri, none⟩ = some (.slice (some ⟨b1, o1, none⟩) 1 c1) := (hbX.cell (p := ⟨bR, oR + ri, none⟩) hbR).trans hcR
            have hc0x : WX.cell? ⟨b1, o1, none⟩ = some (.int .i64 R0) := (hbX.cell (p := ⟨b1, o1, none⟩) hb1l).trans hcr0
            have hI0x : Ints WX WX.heap.size (some ⟨b1, o1, none⟩) 1 [R0] := Ints.single (Nat.lt_of_lt_of_le hb1l hbX.size) hc0x
            have hbzX := hbz.trans (hbX.mono hbz.size)
            have hDD := dRow_one hp2 hyb hR0b
            obtain ⟨d1, hd1⟩ : ∃ d, dRow [y] = d := ⟨_, rfl⟩
            obtain ⟨d2, hd2⟩ : ∃ d, dRow [R0] = d := ⟨_, rfl⟩
            rw [hd1, hd2] at hDD
            have HD1 := Lib.hid hd1
            have HD2 := Lib.hid hd2
            clear hd1 hd2
            by_cases hyR : y = R0
            · have hdd : d1 = d2 := hDD.2 hyR
              subst hdd
              subst hyR
              have HH2 : Hid (hitN y found (k + 1) = hN + 1) := Lib.hid (by rw [HHS.out, HH.out, hye, if_pos rfl])
              clear hDD
              cases th
              · go_quiet (fail)
                go_upto_region 45 with fail
                have hq1 := rowQ_any (some ⟨wr.heap.size, 0, none⟩) 1 1 [y] WX nq hIy (wf_one (by omega)) (by omega)
                have hq2 := rowQ_any (some ⟨b1, o1, none⟩) 1 c1 [y] WX nq hI0x (wf_one (by omega)) (by omega)
                rw [HD1.out] at hq1
                rw [HD2.out] at hq2
                have HQ1 := Lib.hid hq1
                have HQ2 := Lib.hid hq2
                clear hq1 hq2
                go_quiet (first
                  | (go_at_call 30; with_reducible exact HQ1.out _)
                  | (go_at_call 30; with_reducible exact HQ2.out _))
                go_upto_region 47 with fail
                go_quiet (fail)
                go_wp2
                go_roundw
                case rel => exact ⟨k + 1, hN + 1, true, by omega, rfl, by go_num, by go_num, by omega, HH2, Lib.hid (by simp), below_drewN hbzX _⟩
                case measure => simp [intOf]; omega
              · go_quiet (fail)
                go_upto_region 45 with fail
                have hq1 := rowQ_any (some ⟨wr.heap.size, 0, none⟩) 1 1 [y] WX nq hIy (wf_one (by omega)) (by omega)
                have hq2 := rowQ_any (some ⟨b1, o1, none⟩) 1 c1 [y] WX nq hI0x (wf_one (by omega)) (by omega)
                rw [HD1.out] at hq1
                rw [HD2.out] at hq2
                have HQ1 := Lib.hid hq1
                have HQ2 := Lib.hid hq2
                clear hq1 hq2
                go_quiet (first
                  | (go_at_call 30; with_reducible exact HQ1.out _)
                  | (go_at_call 30; with_reducible exact HQ2.out _))
                go_upto_region 47 with fail
                go_quiet (fail)
                go_wp2
                go_roundw
                case rel => exact ⟨k + 1, hN + 1, true, by omega, rfl, by go_num, by go_num, by omega, HH2, Lib.hid (by simp), below_drewN hbzX _⟩
                case measure => simp [intOf]; omega
            · have hdd : (d1 == d2) = false := by simp; exact fun e => hyR (hDD.1 e)
              have hyb2 : (y == R0) = false := by simp; exact hyR
              have HH2 : Hid (hitN R0 found (k + 1) = hN) := Lib.hid (by rw [HHS.out, HH.out, hye, if_neg hyR]; rfl)
              clear hDD
              cases th
              · go_quiet (fail)
                go_upto_region 45 with fail
                have hq1 := rowQ_any (some ⟨wr.heap.size, 0, none⟩) 1 1 [y] WX nq hIy (wf_one (by omega)) (by omega)
                have hq2 := rowQ_any (some ⟨b1, o1, none⟩) 1 c1 [R0] WX nq hI0x (wf_one (by omega)) (by omega)
                rw [HD1.out] at hq1
                rw [HD2.out] at hq2
                have HQ1 := Lib.hid hq1
                have HQ2 := Lib.hid hq2
                clear hq1 hq2
                go_quiet (first
                  | (go_at_call 30; with_reducible exact HQ1.out _)
                  | (go_at_call 30; with_reducible exact HQ2.out _))
                go_wp2
                go_roundw
                case rel => exact ⟨k + 1, hN, false, by omega, rfl, rfl, by go_num, by omega, HH2, HTH, below_drewN hbzX _⟩
                case measure => simp [intOf]; omega
              · go_quiet (fail)
                go_upto_region 45 with fail
                have hq1 := rowQ_any (some ⟨wr.heap.size, 0, none⟩) 1 1 [y] WX nq hIy (wf_one (by omega)) (by omega)
                have hq2 := rowQ_any (some ⟨b1, o1, none⟩) 1 c1 [R0] WX nq hI0x (wf_one (by omega)) (by omega)
                rw [HD1.out] at hq1
                rw [HD2.out] at hq2
                have HQ1 := Lib.hid hq1
                have HQ2 := Lib.hid hq2
                clear hq1 hq2
                go_quiet (first
                  | (go_at_call 30; with_reducible exact HQ1.out _)
                  | (go_at_call 30; with_reducible exact HQ2.out _))
                go_wp2
                go_roundw
                case rel => exact ⟨k + 1, hN, true, by omega, rfl, rfl, by go_num, by omega, HH2, HTH, below_drewN hbzX _⟩
                case measure => simp [intOf]; omega
          · have hx0i : ¬ (0 : Int) < (xn : Int) := by omega
            obtain ⟨y, hye⟩ : ∃ y, cf fx 0 = y := ⟨_, rfl⟩
            have hy0 : y = 0 := by rw [← hye]; exact cf_out (by rw [hIX.len]; omega)
            have hyb : 0 ≤ y ∧ y < p := by omega
            have hbX := hb31
            obtain ⟨WX, hWX⟩ : ∃ v, v = w31 := ⟨_, rfl⟩
            subst hWX
            go_upto_region 44 with fail
            rw [← hy0] at hq31
            clear hy0
            have hyx : WX.cell? ⟨wr.heap.size, 0, none⟩ = some (.int .i64 y) := hq31
            have hIy : Ints WX WX.heap.size (some ⟨wr.heap.size, 0, none⟩) 1 [y] := Ints.single hN31.lt hyx
            have hcRx : WX.cell? ⟨bR, oR + ri, none⟩ = some (.slice (some ⟨b1, o1, none⟩) 1 c1) := (hbX.cell (p := ⟨bR, oR + ri, none⟩) hbR).trans hcR
            have hc0x : WX.cell? ⟨b1, o1, none⟩ = some (.int .i64 R0) := (hbX.cell (p := ⟨b1, o1, none⟩) hb1l).trans hcr0
            have hI0x : Ints WX WX.heap.size (some ⟨b1, o1, none⟩) 1 [R0] := Ints.single (Nat.lt_of_lt_of_le hb1l hbX.size) hc0x
            have hbzX := hbz.trans (hbX.mono hbz.size)
            have hDD := dRow_one hp2 hyb hR0b
            obtain ⟨d1, hd1⟩ : ∃ d, dRow [y] = d := ⟨_, rfl⟩
            obtain ⟨d2, hd2⟩ : ∃ d, dRow [R0] = d := ⟨_, rfl⟩
            rw [hd1, hd2] at hDD
            have HD1 := Lib.hid hd1
            have HD2 := Lib.hid hd2
            clear hd1 hd2
            by_cases hyR : y = R0
            · have hdd : d1 = d2 := hDD.2 hyR
              subst hdd
              subst hyR
              have HH2 : Hid (hitN y found (k + 1) = hN + 1) := Lib.hid (by rw [HHS.out, HH.out, hye, if_pos rfl])
              clear hDD
              cases th
              · go_quiet (fail)
                go_upto_region 45 with fail
                have hq1 := rowQ_any (some ⟨wr.heap.size, 0, none⟩) 1 1 [y] WX nq hIy (wf_one (by omega)) (by omega)
                have hq2 := rowQ_any (some ⟨b1, o1, none⟩) 1 c1 [y] WX nq hI0x (wf_one (by omega)) (by omega)
                rw [HD1.out] at hq1
                rw [HD2.out] at hq2
                have HQ1 := Lib.hid hq1
                have HQ2 := Lib.hid hq2
                clear hq1 hq2
                go_quiet (first
                  | (go_at_call 30; with_reducible exact HQ1.out _)
                  | (go_at_call 30; with_reducible exact HQ2.out _))
                go_upto_region 47 with fail
                go_quiet (fail)
                go_wp2
                go_roundw
                case rel => exact ⟨k + 1, hN + 1, true, by omega, rfl, by go_num, by go_num, by omega, HH2, Lib.hid (by simp), below_drewN hbzX _⟩
                case measure => simp [intOf]; omega
              · go_quiet (fail)
                go_upto_region 45 with fail
                have hq1 := rowQ_any (some ⟨wr.heap.size, 0, none⟩) 1 1 [y] WX nq hIy (wf_one (by omega)) (by omega)
                have hq2 := rowQ_any (some ⟨b1, o1, none⟩) 1 c1 [y] WX nq hI0x (wf_one (by omega)) (by omega)
                rw [HD1.out] at hq1
                rw [HD2.out] at hq2
                have HQ1 := Lib.hid hq1
                have HQ2 := Lib.hid hq2
                clear hq1 hq2
                go_quiet (first
                  | (go_at_call 30; with_reducible exact HQ1.out _)
                  | (go_at_call 30; with_reducible exact HQ2.out _))
                go_upto_region 47 with fail
                go_quiet (fail)
                go_wp2
                go_roundw
                case rel => exact ⟨k + 1, hN + 1, true, by omega, rfl, by go_num, by go_num, by omega, HH2, Lib.hid (by simp), below_drewN hbzX _⟩
                case measure => simp [intOf]; omega
            · have hdd : (d1 == d2) = false := by simp; exact fun e => hyR (hDD.1 e)
              have hyb2 : (y == R0) = false := by simp; exact hyR
              have HH2 : Hid (hitN R0 found (k + 1) = hN) := Lib.hid (by rw [HHS.out, HH.out, hye, if_neg hyR]; rfl)
              clear hDD
              cases th
              · go_quiet (fail)
                go_upto_region 45 with fail
                have hq1 := rowQ_any (some ⟨wr.heap.size, 0, none⟩) 1 1 [y] WX nq hIy (wf_one (by omega)) (by omega)
                have hq2 := rowQ_any (some ⟨b1, o1, none⟩) 1 c1 [R0] WX nq hI0x (wf_one (by omega)) (by omega)
                rw [HD1.out] at hq1
                rw [HD2.out] at hq2
                have HQ1 := Lib.hid hq1
                have HQ2 := Lib.hid hq2
                clear hq1 hq2
                go_quiet (first
                  | (go_at_call 30; with_reducible exact HQ1.out _)
                  | (go_at_call 30; with_reducible exact HQ2.out _))
                go_wp2
                go_roundw
                case rel => exact ⟨k + 1, hN, false, by omega, rfl, rfl, by go_num, by omega, HH2, HTH, below_drewN hbzX _⟩
                case measure => simp [intOf]; omega
              · go_quiet (fail)
                go_upto_region 45 with fail
                have hq1 := rowQ_any (some ⟨wr.heap.size, 0, none⟩) 1 1 [y] WX nq hIy (wf_one (by omega)) (by omega)
                have hq2 := rowQ_any (some ⟨b1, o1, none⟩) 1 c1 [R0] WX nq hI0x (wf_one (by omega)) (by omega)
                rw [HD1.out] at hq1
                rw [HD2.out] at hq2
                have HQ1 := Lib.hid hq1
                have HQ2 := Lib.hid hq2
                clear hq1 hq2
                go_quiet (first
                  | (go_at_call 30; with_reducible exact HQ1.out _)
                  | (go_at_call 30; with_reducible exact HQ2.out _))
                go_wp2
                go_roundw
                case rel => exact ⟨k + 1, hN, true, by omega, rfl, rfl, by go_num, by omega, HH2, HTH, below_drewN hbzX _⟩
                case measure => simp [intOf]; omega
        · obtain rfl : fm = k := by omega
          have hH1 : 1 ≤ hN := by rw [← HH.out]; exact hitN_pos (by omega) HEX.out
          have hth : th = true := by rw [HTH.out]; exact decide_eq_true hH1
          subst hth
          have hH1i : (1 : Int) ≤ (hN : Int) := by omega
          go_wp2
          go_ret
          exact ⟨rfl, bnext hbb30 hbz⟩
  · have hd : decide (n ≤ 500) = false := by simpa using hn
    go_enter Tryz.func4, Tryz.ntmps4
    go_wp2_with (first
      | (go_at_call 5; refine (awake_any _ hW).mono ?_; rintro e w1 ⟨rfl, hb1⟩)
      | (go_at_call 6; refine (few_any A n c _).mono ?_; rintro e w' ⟨rfl, rfl⟩))
    go_ret
    exact ⟨rfl, hb1⟩
end Go.Proofs.YtmcgnpdfpfgfpaaGreatDoor
