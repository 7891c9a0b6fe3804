/-
  TapeDraws returns true: the walk of the law. Conditions: none beyond the reading of its arguments.
-/
import Derived.Test.YtdklcgpjdajkmaaTapeS
import Derived.Test.YtdklcgpjdajkmaaTapeE
import Derived.Test.YtdklcgpjdajkmaaMTape
import Derived.Test.YtdklcgpjdajkmaaTBoth
import Derived.Deep.QuietTactic
import Derived.BigQuiet
import Derived.Lib.QuietBelow
namespace Go.Proofs.Ytdklcgpjdajkmaa
open Go.RowKit
set_option linter.unusedVariables false

theorem OwnI.stepOver {g base n c : Nat} {e : TypeId} {A : Option Addr} {xs : List Int} {w w' : World} (h : OwnI w base e A n c xs) (hs : Step g w w') (hne : ∀ b, (Value.slice A n c).ownBlock = some b → b ≠ g) : OwnI w' base e A n c xs :=
  h.kept hs (by
    cases hq : (Value.slice A n c).ownBlock with
    | none => exact .inl rfl
    | some b => exact .inr (fun e => hne b hq (by injection e)))

set_option maxHeartbeats 8000000 in
set_option maxRecDepth 100000 in
theorem tapeDraws_walk (A : Option Addr) (n c : Nat) (zs : List Int) (R : Option Addr) (rm rc : Nat) (rz : List Int) (ra n0 c0 : Int) (w : World) (w0 : IsRow .i64 w A n c zs) (w1 : IsRow .i64 w R rm rc rz) (w2 : (Lit.int .i64 n0).wf = true) (w3 : (Lit.int .i64 c0).wf = true) :
    Calls Try.prog 3 #[.slice A n c, .agg #[.slice R rm rc, .int .i64 ra], .int .i64 n0, .int .i64 c0] w fun e w' => e = .returned (.bool true) ∧ Below w.heap.size w w' := by
  have hc0 := wf64_of w3
  have hn0 := wf64_of w2
  obtain ⟨i0, hi0, hz0, hz1, hz2⟩ := info_parts info_int
  obtain ⟨h, hw⟩ := w0.ints
  generalize zs.take n = xs at h hw
  obtain ⟨hR, hRw⟩ := w1.ints
  generalize rz.take rm = rs at hR hRw
  clear w0 w1 w2 w3
  have hb0 : Below w.heap.size w (w.alloc (.cells #[.slice R rm rc, .int .i64 ra] 24)) := bbox _
  have hB0 := Blk.new w 24 #[.slice R rm rc, .int .i64 ra]
  obtain ⟨W, hW⟩ : ∃ W, w.alloc (.cells #[.slice R rm rc, .int .i64 ra] 24) = W := ⟨_, rfl⟩
  rw [hW] at hb0 hB0
  have hlW := hB0.lt
  by_cases hn : n ≤ 500
  · have hd : decide (n ≤ 500) = true := by simpa using hn
    by_cases hrm : rm ≤ 1000
    · have hrm1 : ¬ (1000 : Int) < (rm : Int) := by omega
      go_enter Try.func3, Try.ntmps3
      go_wp2_with (first
        | (go_at_call 10; refine (sane02_any _).mono ?_; rintro e w1 ⟨rfl, hb1⟩
           have hbb1 := bnext hb0 hb1
           have hB1 := hB0.below hb1 hlW
           have hx0 : w1.cell? ⟨w.heap.size, 0, none⟩ = some (.slice R rm rc) := (hB1.cell 0).trans rfl
           have hx1 : w1.cell? ⟨w.heap.size, 1, none⟩ = some (.int .i64 ra) := (hB1.cell 1).trans rfl)
        | (go_at_call 11; refine (few_any A n c _).mono ?_; rintro e w' ⟨rfl, rfl⟩)
        | (go_at_call 12; refine (new_any A n c xs _ (h.upto hbb1) hn).mono ?_; rintro e w2 ⟨⟨g, rfl, hge, hD2⟩, hb2⟩
           have hbb2 := bnext hbb1 hb2
           have hB2 := hB1.below hb2 hB1.lt
           have hg : w.heap.size < g := by rw [hge]; exact hB1.lt
           clear hge)
        | (go_at_call 14; refine (limits_any g A n c xs _ _ hD2).mono ?_; rintro e w3 ⟨L, lm, lc, ll, q3, rfl, hL3, hLs, hD3, hS3⟩
           have hbb3 := Step.below hbb2 hS3 hbb2.size (by omega)
           have hB3 := Step.block hS3 hB2 (by omega)
           have hL3l := hL3.len
           have hLg : ∀ b off s, L = some ⟨b, off, s⟩ → 0 < lm → b ≠ g := fun b off s e hp => by
             obtain ⟨g1, e1, h1, h2⟩ := hL3.form hp
             rw [e1] at e; injection e with e; injection e with e; have := hD2.1.lt; omega)
        | (go_at_call 13; refine (mtape_any g A n c xs q3 L lm lc ll _ hD3 hL3.ints (fun i hi => by have := hLs.2 (ll.getD i 0) (by rw [List.getD_eq_getElem?_getD, List.getElem?_eq_getElem (by omega)]; exact List.getElem_mem _); omega) (by have := hLs.1; omega) hLg).mono ?_; rintro e w4 ⟨X, k, xc, ts, q4, rfl, hX4, hk1, hk2, _, hD4, hS4⟩
           have hbb4 := Step.below hbb3 hS4 hbb3.size (by omega)
           have hB4 := Step.block hS4 hB3 (by omega)
           have hk9 : k ≤ 100 := by have := hLs.1; omega
           have hBX5 := Blk.new w4 24 #[.slice X k xc, .int .i64 0]
           have hB5 := hB4.alloc (.cells #[.slice X k xc, .int .i64 0] 24)
           have hD5 := hD4.alloc (.cells #[.slice X k xc, .int .i64 0] 24)
           have hX5 := hX4.alloc (.cells #[.slice X k xc, .int .i64 0] 24)
           have hXb : ∀ b, (Value.slice X k xc).ownBlock = some b → b < w4.heap.size := fun b hb => (World.ownsRow.lt hX4 b hb).2
           have hbb5 := ballocs hbb4 (.cells #[.slice X k xc, .int .i64 0] 24)
           have hx50 : (w4.alloc (.cells #[.slice X k xc, .int .i64 0] 24)).cell? ⟨w4.heap.size, 0, none⟩ = some (.slice X k xc) := (hBX5.cell 0).trans rfl
           have hx51 : (w4.alloc (.cells #[.slice X k xc, .int .i64 0] 24)).cell? ⟨w4.heap.size, 1, none⟩ = some (.int .i64 0) := (hBX5.cell 1).trans rfl)
        | (go_at_call 15; refine (rcopy_any X k xc 0 ts _ hX5.ints (by omega)).mono ?_; rintro e w6 ⟨⟨L6, c6, rfl, hL6⟩, hb6⟩
           have hbb6 := bnext hbb5 hb6
           have hB6 := hB5.below hb6 hB5.lt
           have hBX6 := hBX5.below hb6 hBX5.lt
           have hD6 := hD5.belowAll hb6
           have hX6 := hX5.belowAll hb6
           have hLb : ∀ b, (Value.slice L6 k c6).ownBlock = some b → b < w6.heap.size := fun b hb => (World.ownsRow.lt hL6 b hb).2
           have hBL7 := Blk.new w6 24 #[.slice L6 k c6, .int .i64 0]
           have hB7 := hB6.alloc (.cells #[.slice L6 k c6, .int .i64 0] 24)
           have hBX7 := hBX6.alloc (.cells #[.slice L6 k c6, .int .i64 0] 24)
           have hD7 := hD6.alloc (.cells #[.slice L6 k c6, .int .i64 0] 24)
           have hX7 := hX6.alloc (.cells #[.slice L6 k c6, .int .i64 0] 24)
           have hL7 := hL6.alloc (.cells #[.slice L6 k c6, .int .i64 0] 24)
           have hbb7 := ballocs hbb6 (.cells #[.slice L6 k c6, .int .i64 0] 24)
           have hx70 : (w6.alloc (.cells #[.slice L6 k c6, .int .i64 0] 24)).cell? ⟨w4.heap.size, 0, none⟩ = some (.slice X k xc) := (hBX7.cell 0).trans rfl
           have hg4 : g < w4.heap.size := hD4.1.lt
           have hg3 : g < w3.heap.size := hD3.1.lt
           have h46 : w4.heap.size < w6.heap.size := hBX6.lt
           have hw4 : w.heap.size < w4.heap.size := hB4.lt)
        | (go_at_call 16; (with_reducible refine (next_any g A n c xs q4 (k + 2) _ hD7 (by omega)).mono ?_); rintro e w8 ⟨y1, q8, rfl, hy1, hy10, hD8, hS8, hz8⟩
           have hy1b := hy1 (by omega)
           clear hy1 hy10 hz8)
        | (go_at_call 16; refine (next_any g A n c xs q8 2 _ hD8 (by omega)).mono ?_; rintro e w9 ⟨y2, q9, rfl, hy2, hy20, hD9, hS9', hz9⟩
           have hy2b := hy2 (by omega)
           have hS9 := hS8.trans hS9'
           have hbb9 := Step.below hbb7 hS9 hbb7.size (by omega)
           have hB9 := Step.block hS9 hB7 (by omega)
           have hBX9 := Step.block hS9 hBX7 (by omega)
           have hBL9 := Step.block hS9 hBL7 (by omega)
           have hX9 := hX7.step hS9 hg3
           have hL9 := hL7.step hS9 (by simp; omega)
           obtain ⟨al, hal⟩ : ∃ al, y1 - y2 = al := ⟨_, rfl⟩
           have hwr : IntKind.i64.wrap al = al := IntWalk.i64_in _ (by omega)
           have hS10 := (Step.refl w6.heap.size w9).set 1 (.int .i64 al)
           have hB10 := Step.block hS10 hB9 (by omega)
           have hBX10 := Step.block hS10 hBX9 (by omega)
           have hBL10 := hBL9.set_ 1 (.int .i64 al)
           have hX10 := hX9.stepOver hS10 (fun b hb => by have := hXb b hb; omega)
           have hL10 := hL9.stepOver hS10 (fun b hb => by have := hLb b hb; omega)
           have hbb10 := hbb9.setCell (p := ⟨w6.heap.size, 1, none⟩) (by show w.heap.size ≤ w6.heap.size; omega) (.int .i64 al)
           have hq1 : w9.cell? ⟨w6.heap.size, 1, none⟩ = some (.int .i64 0) := (hBL9.cell 1).trans rfl
           have hf1 := hBL9.frozen 1
           obtain ⟨W10, hW10⟩ : ∃ W10, w9.setCell ⟨w6.heap.size, 1, none⟩ (.int .i64 al) = W10 := ⟨_, rfl⟩
           rw [hW10] at hB10 hBX10 hBL10 hX10 hL10 hbb10
           have hr0 : W10.cell? ⟨w.heap.size, 0, none⟩ = some (.slice R rm rc) := (hB10.cell 0).trans rfl
           have hr1 : W10.cell? ⟨w.heap.size, 1, none⟩ = some (.int .i64 ra) := (hB10.cell 1).trans rfl
           have hr2 : W10.cell? ⟨w4.heap.size, 0, none⟩ = some (.slice X k xc) := (hBX10.cell 0).trans rfl
           have hr3 : W10.cell? ⟨w4.heap.size, 1, none⟩ = some (.int .i64 0) := (hBX10.cell 1).trans rfl
           have hr4 : W10.cell? ⟨w6.heap.size, 0, none⟩ = some (.slice L6 k c6) := (hBL10.cell 0).trans rfl
           have hr5 : W10.cell? ⟨w6.heap.size, 1, none⟩ = some (.int .i64 al) := (hBL10.cell 1).trans rfl
           clear hy2 hy20 hz9 hS8 hS9' hS9 hD8 hD9 hL9 hX9 hBL9 hBX9 hB9 hbb9 hL7 hX7 hD7 hBX7 hB7 hBL7 hbb7 hx70 hX6 hD6 hBX6 hB6 hbb6 hb6 hx50 hx51 hX5 hD5 hB5 hBX5 hbb5 hD4 hS4 hB4 hbb4 hX4 hD3 hS3 hB3 hbb3 hL3 hLs hLg hL3l hD2 hB2 hbb2 hb2))
      have hN0 := Blk.new W10 24 #[.slice R rm rc, .int .i64 ra, .slice X k xc, .int .i64 0, .slice L6 k c6, .int .i64 al]
      have hbb11 := ballocs hbb10 (.cells #[.slice R rm rc, .int .i64 ra, .slice X k xc, .int .i64 0, .slice L6 k c6, .int .i64 al] 24)
      have hRi := hR.upto hbb11
      have hXi := (hX10.alloc (.cells #[.slice R rm rc, .int .i64 ra, .slice X k xc, .int .i64 0, .slice L6 k c6, .int .i64 al] 24)).ints
      have hLi := (hL10.alloc (.cells #[.slice R rm rc, .int .i64 ra, .slice X k xc, .int .i64 0, .slice L6 k c6, .int .i64 al] 24)).ints
      have hBX11 := hBX10.alloc (.cells #[.slice R rm rc, .int .i64 ra, .slice X k xc, .int .i64 0, .slice L6 k c6, .int .i64 al] 24)
      have hN0l := hN0.lt
      have hw10 := hbb10.size
      obtain ⟨gT, hgT⟩ : ∃ gT, W10.heap.size = gT := ⟨_, rfl⟩
      rw [hgT] at hN0 hN0l hw10
      obtain ⟨W11, hW11⟩ : ∃ W11, W10.alloc (.cells #[.slice R rm rc, .int .i64 ra, .slice X k xc, .int .i64 0, .slice L6 k c6, .int .i64 al] 24) = W11 := ⟨_, rfl⟩
      rw [hW11] at hN0 hbb11 hRi hXi hLi hBX11 hN0l
      have TRI : ∀ j, j < 3 → ∃ (Y : Option Addr) (ym yc : Nat) (ya : Int) (ys : List Int), W11.cell? ⟨gT, j * 2, none⟩ = some (.slice Y ym yc) ∧ W11.cell? ⟨gT, j * 2 + 1, none⟩ = some (.int .i64 ya) ∧ Ints W11 W11.heap.size Y ym ys ∧ ym ≤ 1000 := by
        intro j hj
        have : j = 0 ∨ j = 1 ∨ j = 2 := by omega
        rcases this with rfl | rfl | rfl
        · exact ⟨R, rm, rc, ra, rs, (hN0.cell 0).trans rfl, (hN0.cell 1).trans rfl, hRi, hrm⟩
        · exact ⟨X, k, xc, 0, ts, (hN0.cell 2).trans rfl, (hN0.cell 3).trans rfl, hXi, by omega⟩
        · exact ⟨L6, k, c6, al, ts, (hN0.cell 4).trans rfl, (hN0.cell 5).trans rfl, hLi, by omega⟩
      have TRI := Lib.hid TRI
      have hxT0 : W11.cell? ⟨w4.heap.size, 0, none⟩ = some (.slice X k xc) := (hBX11.cell 0).trans rfl
      have hxT1 : W11.cell? ⟨w4.heap.size, 1, none⟩ = some (.int .i64 0) := (hBX11.cell 1).trans rfl
      have hx4 := hBX11.lt
      clear hR hRw hX10 hL10 hBL10 hBX10 hB10 hr0 hr1 hr2 hr3 hr4 hr5 hS10 hq1 hf1 hal hwr hy1b hy2b hL6 hXb hLb hb1 hbb1 hB1 hx0 hx1 hb0 hB0
      rw [hW11]
      rw [hgT]
      go_loopw [68] (fun i wr => ∃ j : Nat, j ≤ 3 ∧ i = .int .i64 j ∧ Below W11.heap.size W11 wr) (fun i _ => 3 - (intOf i).toNat)
      case atStart => exact ⟨0, by omega, rfl, Below.refl _ _⟩
      case round =>
        obtain ⟨j, hj3, rfl, hB⟩ := hrel
        by_cases hj : j < 3
        · obtain ⟨Y, ym, yc, ya, ys, hy0, hy1, hYi, hym⟩ := TRI.out j hj
          have hjl : (j : Int) < 3 := by omega
          have hj0 : (0 : Int) ≤ (j : Int) := by omega
          have hv0 := (hB.cell (p := ⟨gT, j * 2, none⟩) hN0l).trans hy0
          have hv1 := (hB.cell (p := ⟨gT, j * 2 + 1, none⟩) hN0l).trans hy1
          obtain ⟨lv, HLV⟩ : ∃ lv, Hid (leftV ym ya = lv) := ⟨_, Lib.hid rfl⟩
          obtain ⟨le, HLE⟩ : ∃ le, Hid (leftE ym ya = le) := ⟨_, Lib.hid rfl⟩
          obtain ⟨sb, HSB⟩ : ∃ sb, Hid ((ya == 0 && ys == ts) = sb) := ⟨_, Lib.hid rfl⟩
          have hBy1 := Blk.new wr 24 #[.slice Y ym yc, .int .i64 ya]
          have hB1 := ballocs hB (.cells #[.slice Y ym yc, .int .i64 ya] 24)
          have hy10 : (wr.alloc (.cells #[.slice Y ym yc, .int .i64 ya] 24)).cell? ⟨wr.heap.size, 0, none⟩ = some (.slice Y ym yc) := (hBy1.cell 0).trans rfl
          have hy11 : (wr.alloc (.cells #[.slice Y ym yc, .int .i64 ya] 24)).cell? ⟨wr.heap.size, 1, none⟩ = some (.int .i64 ya) := (hBy1.cell 1).trans rfl
          go_wp2_with (first
            | (go_at_call 17; refine (left_all Y ym yc ya _).mono ?_; rintro e w2 ⟨rfl, hb2⟩; rw [HLV.out, HLE.out]
               have hB2 := bnext hB1 hb2
               have hBy2 := hBy1.below hb2 (by simp)
               have hy20 : w2.cell? ⟨wr.heap.size, 0, none⟩ = some (.slice Y ym yc) := (hBy2.cell 0).trans rfl
               have hy21 : w2.cell? ⟨wr.heap.size, 1, none⟩ = some (.int .i64 ya) := (hBy2.cell 1).trans rfl)
            | (go_at_call 18; refine (rleft_any Y ym yc ya _).mono ?_; rintro e w3 ⟨rfl, hb3⟩; rw [HLV.out, HLE.out]
               have hB3 := bnext hB2 hb3
               have hBy3 := hBy2.below hb3 hBy2.lt))
          have hz30 := cell_regrown (show w3.cell? ⟨wr.heap.size, 0, none⟩ = some (.slice Y ym yc) from (hBy3.cell 0).trans rfl)
          have hz31 := cell_regrown (show w3.cell? ⟨wr.heap.size, 1, none⟩ = some (.int .i64 ya) from (hBy3.cell 1).trans rfl)
          have hz32 := cell_regrown ((hB3.cell (p := ⟨w4.heap.size, 0, none⟩) hx4).trans hxT0)
          have hz33 := cell_regrown ((hB3.cell (p := ⟨w4.heap.size, 1, none⟩) hx4).trans hxT1)
          have CS := Lib.hid (show ∀ d os, Calls Try.prog 19 #[.agg #[.slice Y ym yc, .int .i64 ya], .agg #[.slice X k xc, .int .i64 0]] (Go.Sort.grow (redrawn w3 d) os) fun e' w'' => e' = .returned (.bool sb) ∧ ∃ p : Regrown, w'' = Go.Sort.grow (redrawn w3 p.d) p.os from fun d os => by
            have hb := hB3.trans ((below_regrown w3 d os).mono hB3.size)
            have := tsame_any Y X ym k yc xc ya 0 ys ts _ (hYi.upto hb) (hXi.upto hb) (by omega) (by omega)
            rw [HSB.out] at this
            exact Calls.regrown_of this)
          have CT := Lib.hid (show ∀ d os, Calls Try.prog 20 #[.agg #[.slice Y ym yc, .int .i64 ya], .agg #[.slice X k xc, .int .i64 0]] (Go.Sort.grow (redrawn w3 d) os) fun e' w'' => e' = .returned (.bool sb) ∧ ∃ p : Regrown, w'' = Go.Sort.grow (redrawn w3 p.d) p.os from fun d os => by
            have hb := hB3.trans ((below_regrown w3 d os).mono hB3.size)
            have := rsame_any Y X ym k yc xc ya 0 ys ts _ (hYi.upto hb) (hXi.upto hb) (by omega) (by omega)
            rw [HSB.out] at this
            exact Calls.regrown_of this)
          refine wp_region_quiet_below (by kernel_rfl) (by kernel_rfl) ?_
          repeat (go_big_quiet_step (first | exact CS.out _ _ | exact CT.out _ _))
          refine wpQuiet_nil ?_
          intro w14 hw14
          have hb14 : Below w3.heap.size w3 w14 := by obtain ⟨p, rfl⟩ := hw14; exact below_regrown w3 p.d p.os
          have hB14 := bnext hB3 hb14
          have hBy14 := hBy3.below hb14 hBy3.lt
          clear hw14 hb14 CS CT hz30 hz31 hz32 hz33 hBy2 hy20 hy21 hy10 hy11 hBy1 hB1 hb2 hB2 hB3 hb3 hBy3 HSB HLV HLE hv0 hv1 hy0 hy1
          have hmw : IntKind.i64.wrap (1 + n0 % 7) = 1 + n0 % 7 := IntWalk.i64_in _ (by omega)
          go_wp2_with (go_at_call 21; refine (mod_any n0 7 _ (by omega) (by omega)).mono ?_; rintro e w15 ⟨rfl, rfl⟩)
          have hM0 := Blk.new w14 3 #[.int .i64 n0, .int .i64 (1 + n0 % 7), .int .i64 2147483647]
          have hB15 := ballocs hB14 (.cells #[.int .i64 n0, .int .i64 (1 + n0 % 7), .int .i64 2147483647] 3)
          have hBy15 := hBy14.alloc (.cells #[.int .i64 n0, .int .i64 (1 + n0 % 7), .int .i64 2147483647] 3)
          have hM0l := hM0.lt
          obtain ⟨gM, hgM⟩ : ∃ gM, w14.heap.size = gM := ⟨_, rfl⟩
          rw [hgM] at hM0 hM0l
          obtain ⟨W15, hW15⟩ : ∃ W15, w14.alloc (.cells #[.int .i64 n0, .int .i64 (1 + n0 % 7), .int .i64 2147483647] 3) = W15 := ⟨_, rfl⟩
          rw [hW15] at hM0 hB15 hBy15 hM0l
          obtain ⟨gY, hgY⟩ : ∃ gY, wr.heap.size = gY := ⟨_, rfl⟩
          rw [hgY] at hBy15
          have TRM : ∀ j, j < 3 → ∃ mv : Int, W15.cell? ⟨gM, j, none⟩ = some (.int .i64 mv) := by
            intro j hj
            have : j = 0 ∨ j = 1 ∨ j = 2 := by omega
            rcases this with rfl | rfl | rfl
            · exact ⟨_, (hM0.cell 0).trans rfl⟩
            · exact ⟨_, (hM0.cell 1).trans rfl⟩
            · exact ⟨_, (hM0.cell 2).trans rfl⟩
          have TRM := Lib.hid TRM
          have hYi15 := hYi.upto hB15
          clear hM0 hBy14 hB14
          rw [hW15]
          rw [hgM, hgY]
          go_loopw [105] (fun i wr => ∃ j : Nat, j ≤ 3 ∧ i = .int .i64 j ∧ Below W15.heap.size W15 wr) (fun i _ => 3 - (intOf i).toNat)
          case atStart => exact ⟨0, by omega, rfl, Below.refl _ _⟩
          case round =>
            obtain ⟨j2, hj23, rfl, hC⟩ := hrel
            by_cases hj2 : j2 < 3
            · obtain ⟨mv, hmv⟩ := TRM.out j2 hj2
              have hj2l : (j2 : Int) < 3 := by omega
              have hj20 : (0 : Int) ≤ (j2 : Int) := by omega
              have hmv' := (hC.cell (p := ⟨gM, j2, none⟩) hM0l).trans hmv
              have hBy16 := hBy15.below hC hBy15.lt
              have hYi16 := hYi15.upto hC
              have hy160 : wr.cell? ⟨gY, 0, none⟩ = some (.slice Y ym yc) := (hBy16.cell 0).trans rfl
              have hy161 : wr.cell? ⟨gY, 1, none⟩ = some (.int .i64 ya) := (hBy16.cell 1).trans rfl
              obtain ⟨um, us, uat, x1, er, hum, HD1⟩ := draw_both ym ya mv ys (by omega)
              have HSM : Hid ((uat == uat && us == us) = true) := Lib.hid (by simp)
              go_wp2_with (first
                | (go_at_call 22; refine ((HD1 Y yc _ hYi16).1).mono ?_; rintro e w17 ⟨U, uc, rfl, hU, hb17⟩
                   have hC17 := ballocs (bnext hC hb17) (.cells #[.slice U um uc, .int .i64 uat] 24)
                   have hBy17 := (hBy16.below hb17 hBy16.lt).alloc (.cells #[.slice U um uc, .int .i64 uat] 24)
                   have hBu17 := Blk.new w17 24 #[.slice U um uc, .int .i64 uat]
                   have hYi17 := (hYi16.upto hb17).upto (bbox (.cells #[.slice U um uc, .int .i64 uat] 24))
                   have hUi17 := hU.upto (bbox (.cells #[.slice U um uc, .int .i64 uat] 24))
                   have hy170 : (w17.alloc (.cells #[.slice U um uc, .int .i64 uat] 24)).cell? ⟨gY, 0, none⟩ = some (.slice Y ym yc) := (hBy17.cell 0).trans rfl
                   have hy171 : (w17.alloc (.cells #[.slice U um uc, .int .i64 uat] 24)).cell? ⟨gY, 1, none⟩ = some (.int .i64 ya) := (hBy17.cell 1).trans rfl
                   clear hb17 hU)
                | (go_at_call 23; refine ((HD1 Y yc _ hYi17).2).mono ?_; rintro e w18 ⟨V, vc, rfl, hV, hb18⟩
                   have hC18 := ballocs (bnext hC17 hb18) (.cells #[.slice V um vc, .int .i64 uat] 24)
                   have hBy18 := (hBy17.below hb18 hBy17.lt).alloc (.cells #[.slice V um vc, .int .i64 uat] 24)
                   have hBu18 := (hBu17.below hb18 hBu17.lt).alloc (.cells #[.slice V um vc, .int .i64 uat] 24)
                   have hBv18 := Blk.new w18 24 #[.slice V um vc, .int .i64 uat]
                   have hUi18 := (hUi17.upto hb18).upto (bbox (.cells #[.slice V um vc, .int .i64 uat] 24))
                   have hVi18 := hV.upto (bbox (.cells #[.slice V um vc, .int .i64 uat] 24))
                   have hq0 : (w18.alloc (.cells #[.slice V um vc, .int .i64 uat] 24)).cell? ⟨w17.heap.size, 0, none⟩ = some (.slice U um uc) := (hBu18.cell 0).trans rfl
                   have hq1 : (w18.alloc (.cells #[.slice V um vc, .int .i64 uat] 24)).cell? ⟨w17.heap.size, 1, none⟩ = some (.int .i64 uat) := (hBu18.cell 1).trans rfl
                   have hq2 : (w18.alloc (.cells #[.slice V um vc, .int .i64 uat] 24)).cell? ⟨w18.heap.size, 0, none⟩ = some (.slice V um vc) := (hBv18.cell 0).trans rfl
                   have hq3 : (w18.alloc (.cells #[.slice V um vc, .int .i64 uat] 24)).cell? ⟨w18.heap.size, 1, none⟩ = some (.int .i64 uat) := (hBv18.cell 1).trans rfl
                   clear hb18 hV)
                | (go_at_call 20; refine (rsame_any U V um um uc vc uat uat us us _ hUi18 hVi18 (by omega) (by omega)).mono ?_; rintro e w19 ⟨rfl, hb19⟩; rw [HSM.out]
                   have hC19 := bnext hC18 hb19
                   have hBy19 := hBy18.below hb19 hBy18.lt
                   have hy190 : w19.cell? ⟨gY, 0, none⟩ = some (.slice Y ym yc) := (hBy19.cell 0).trans rfl
                   have hy191 : w19.cell? ⟨gY, 1, none⟩ = some (.int .i64 ya) := (hBy19.cell 1).trans rfl
                   clear hb19 hq0 hq1 hq2 hq3 hBu18 hBv18 hUi18 hVi18 hC18 hBy18 hy170 hy171 hC17 hBy17 hBu17 hYi17 hUi17))
              have hBy20 := hBy19.alloc (.cells #[.int .i64 c0, .int .i64 (c0 % 6), .int .i64 ym] 3)
              have hy192 : (w19.alloc (.cells #[.int .i64 c0, .int .i64 (c0 % 6), .int .i64 ym] 3)).cell? ⟨gY, 0, none⟩ = some (.slice Y ym yc) := (hBy20.cell 0).trans rfl
              go_region_held3 (fun w' => w'.cell? ⟨gY, 0, none⟩ = some (.slice Y ym yc))
                (first | exact hy190 | exact hy192)
                (first | (go_at_call 21; refine (mod_any c0 6 _ (by omega) (by omega)).mono ?_; rintro e w20 ⟨rfl, rfl⟩))
              clear hy190 hy191 hy192
              rename_i K hk hHeld
              clear hHeld
              refine hk _ _ ?_
              go_wp2_with fail
              have hP0 := Blk.drew (Blk.new w19 3 #[.int .i64 c0, .int .i64 (c0 % 6), .int .i64 ym])
              have hC20 := (ballocs hC19 (.cells #[.int .i64 c0, .int .i64 (c0 % 6), .int .i64 ym] 3)).drew
              have hBy21 := Blk.drew hBy20
              have hP0l := hP0.lt
              obtain ⟨gP, hgP⟩ : ∃ gP, w19.heap.size = gP := ⟨_, rfl⟩
              rw [hgP] at hP0 hP0l
              obtain ⟨W20, hW20⟩ : ∃ W20, (w19.alloc (.cells #[.int .i64 c0, .int .i64 (c0 % 6), .int .i64 ym] 3)).drew = W20 := ⟨_, rfl⟩
              rw [hW20] at hP0 hC20 hBy21 hP0l
              have TRC : ∀ j, j < 3 → ∃ cv : Int, W20.cell? ⟨gP, j, none⟩ = some (.int .i64 cv) ∧ cv ≤ 9223372036854775807 := by
                intro j hj
                have : j = 0 ∨ j = 1 ∨ j = 2 := by omega
                rcases this with rfl | rfl | rfl
                · exact ⟨_, (hP0.cell 0).trans rfl, by omega⟩
                · exact ⟨_, (hP0.cell 1).trans rfl, by omega⟩
                · exact ⟨_, (hP0.cell 2).trans rfl, by omega⟩
              have TRC := Lib.hid TRC
              have hYi20 := hYi15.upto hC20
              clear hP0 hBy19 hC19 hBy20 HSM HD1
              rw [hW20]
              rw [hgP]
              go_loopw [145] (fun i wr => ∃ j : Nat, j ≤ 3 ∧ i = .int .i64 j ∧ Below W20.heap.size W20 wr) (fun i _ => 3 - (intOf i).toNat)
              case atStart => exact ⟨0, by omega, rfl, Below.refl _ _⟩
              case round =>
                obtain ⟨j3, hj33, rfl, hE⟩ := hrel
                by_cases hj3 : j3 < 3
                · obtain ⟨cv, hcv, hcvb⟩ := TRC.out j3 hj3
                  have hj3l : (j3 : Int) < 3 := by omega
                  have hj30 : (0 : Int) ≤ (j3 : Int) := by omega
                  have hcv' := (hE.cell (p := ⟨gP, j3, none⟩) hP0l).trans hcv
                  have hBy22 := hBy21.below hE hBy21.lt
                  have hYi22 := hYi20.upto hE
                  have hy220 : wr.cell? ⟨gY, 0, none⟩ = some (.slice Y ym yc) := (hBy22.cell 0).trans rfl
                  have hy221 : wr.cell? ⟨gY, 1, none⟩ = some (.int .i64 ya) := (hBy22.cell 1).trans rfl
                  obtain ⟨um, us, uat, dn, ds, er, hum, hdn, HD2⟩ := draws_both ym ya mv cv ys hYi22.len (by omega) hcvb
                  have HSM : Hid ((uat == uat && us == us) = true) := Lib.hid (by simp)
                  have HSD : Hid ((ds == ds) = true) := Lib.hid (by simp)
                  go_wp2_with (first
                    | (go_at_call 24; refine ((HD2 Y yc _ hYi22).1).mono ?_; rintro e w23 ⟨U, uc, D, dc, rfl, hU, hD, hb23⟩
                       have hE23 := ballocs (bnext hE hb23) (.cells #[.slice U um uc, .int .i64 uat] 24)
                       have hBy23 := (hBy22.below hb23 hBy22.lt).alloc (.cells #[.slice U um uc, .int .i64 uat] 24)
                       have hBu23 := Blk.new w23 24 #[.slice U um uc, .int .i64 uat]
                       have hYi23 := (hYi22.upto hb23).upto (bbox (.cells #[.slice U um uc, .int .i64 uat] 24))
                       have hUi23 := hU.upto (bbox (.cells #[.slice U um uc, .int .i64 uat] 24))
                       have hDi23 := hD.upto (bbox (.cells #[.slice U um uc, .int .i64 uat] 24))
                       have hy230 : (w23.alloc (.cells #[.slice U um uc, .int .i64 uat] 24)).cell? ⟨gY, 0, none⟩ = some (.slice Y ym yc) := (hBy23.cell 0).trans rfl
                       have hy231 : (w23.alloc (.cells #[.slice U um uc, .int .i64 uat] 24)).cell? ⟨gY, 1, none⟩ = some (.int .i64 ya) := (hBy23.cell 1).trans rfl
                       clear hb23 hU hD)
                    | (go_at_call 25; refine ((HD2 Y yc _ hYi23).2).mono ?_; rintro e w24 ⟨V, vc, E, ec, rfl, hV, hEi, hb24⟩
                       have hE24 := ballocs (bnext hE23 hb24) (.cells #[.slice V um vc, .int .i64 uat] 24)
                       have hBu24 := (hBu23.below hb24 hBu23.lt).alloc (.cells #[.slice V um vc, .int .i64 uat] 24)
                       have hBv24 := Blk.new w24 24 #[.slice V um vc, .int .i64 uat]
                       have hUi24 := (hUi23.upto hb24).upto (bbox (.cells #[.slice V um vc, .int .i64 uat] 24))
                       have hDi24 := (hDi23.upto hb24).upto (bbox (.cells #[.slice V um vc, .int .i64 uat] 24))
                       have hVi24 := hV.upto (bbox (.cells #[.slice V um vc, .int .i64 uat] 24))
                       have hEi24 := hEi.upto (bbox (.cells #[.slice V um vc, .int .i64 uat] 24))
                       have hq0 : (w24.alloc (.cells #[.slice V um vc, .int .i64 uat] 24)).cell? ⟨w23.heap.size, 0, none⟩ = some (.slice U um uc) := (hBu24.cell 0).trans rfl
                       have hq1 : (w24.alloc (.cells #[.slice V um vc, .int .i64 uat] 24)).cell? ⟨w23.heap.size, 1, none⟩ = some (.int .i64 uat) := (hBu24.cell 1).trans rfl
                       have hq2 : (w24.alloc (.cells #[.slice V um vc, .int .i64 uat] 24)).cell? ⟨w24.heap.size, 0, none⟩ = some (.slice V um vc) := (hBv24.cell 0).trans rfl
                       have hq3 : (w24.alloc (.cells #[.slice V um vc, .int .i64 uat] 24)).cell? ⟨w24.heap.size, 1, none⟩ = some (.int .i64 uat) := (hBv24.cell 1).trans rfl
                       clear hb24 hV hEi)
                    | (go_at_call 26; refine (ints_any D E dn dn dc ec ds ds _ hDi24 hEi24 (by omega) (by omega)).mono ?_; rintro e w25 ⟨rfl, q25, rfl⟩; rw [HSD.out]
                       have hE25 := below_drewN hE24 q25)
                    | (go_at_call 20; refine (rsame_any U V um um uc vc uat uat us us _ (hUi24.drewN q25) (hVi24.drewN q25) (by omega) (by omega)).mono ?_; rintro e w26 ⟨rfl, hb26⟩; rw [HSM.out]
                       have hE26 := bnext hE25 hb26))
                  go_roundw
                  case rel => exact ⟨j3 + 1, by omega, by go_num, hE26⟩
                  case measure => simp [intOf]; omega
                · have hj3l : ¬ (j3 : Int) < 3 := by omega
                  have hC26 := hC20.trans (hE.mono hC20.size)
                  go_wp2
                  go_roundw
                  case rel => exact ⟨j2 + 1, by omega, by go_num, hC26⟩
                  case measure => simp [intOf]; omega
            · have hj2l : ¬ (j2 : Int) < 3 := by omega
              have hB26 := hB15.trans (hC.mono hB15.size)
              go_wp2
              go_roundw
              case rel => exact ⟨j + 1, by omega, by go_num, hB26⟩
              case measure => simp [intOf]; omega
        · have hjl : ¬ (j : Int) < 3 := by omega
          go_wp2
          go_ret
          exact ⟨rfl, hbb11.trans (hB.mono hbb11.size)⟩
    · have hrm1 : (1000 : Int) < (rm : Int) := by omega
      go_enter Try.func3, Try.ntmps3
      go_wp2_with (first
        | (go_at_call 10; refine (sane02_any _).mono ?_; rintro e w1 ⟨rfl, hb1⟩
           have hbb1 := bnext hb0 hb1
           have hB1 := hB0.below hb1 hlW
           have hx0 : w1.cell? ⟨w.heap.size, 0, none⟩ = some (.slice R rm rc) := (hB1.cell 0).trans rfl
           have hx1 : w1.cell? ⟨w.heap.size, 1, none⟩ = some (.int .i64 ra) := (hB1.cell 1).trans rfl)
        | (go_at_call 11; refine (few_any A n c _).mono ?_; rintro e w' ⟨rfl, rfl⟩))
      go_ret
      exact ⟨rfl, hbb1⟩
  · have hd : decide (n ≤ 500) = false := by simpa using hn
    go_enter Try.func3, Try.ntmps3
    go_wp2_with (first
      | (go_at_call 10; refine (sane02_any _).mono ?_; rintro e w1 ⟨rfl, hb1⟩
         have hbb1 := bnext hb0 hb1)
      | (go_at_call 11; refine (few_any A n c _).mono ?_; rintro e w' ⟨rfl, rfl⟩))
    go_ret
    exact ⟨rfl, hbb1⟩
end Go.Proofs.Ytdklcgpjdajkmaa
