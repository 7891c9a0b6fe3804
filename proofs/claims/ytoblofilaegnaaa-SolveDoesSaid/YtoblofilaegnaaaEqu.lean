/-
  What the maker of equations hands back: valid equations. Conditions: the deck's list reads as its numbers and is short.
-/
import Derived.Test.YtoblofilaegnaaaEqA
import Derived.Test.YtoblofilaegnaaaLead
import Derived.Test.YtoblofilaegnaaaFld
import Derived.Test.YtoblofilaegnaaaOrder
import Derived.Deep.RegionLaw
import Derived.Deep.RegionHeld3
import Derived.Deep.DeepCutAuto
import Derived.Deep.QuietTactic
import Derived.BigQuiet
namespace Go.Proofs.Ytoblofilaegnaaa
open Go.RowKit
set_option linter.unusedVariables false

/-- What Equations leaves. -/
def EquPost (g : Nat) (A : Option Addr) (n c : Nat) (xs : List Int) (w : World) (e : Ending) (w' : World) : Prop :=
  ∃ (p : Int) (r k nc : Nat) (C : Option Addr) (cc : Nat) (D : Option Addr) (cd : Nat) (cells right : List Int) (q' : Nat), e = .returned (.agg #[.int .i64 p, .int .i64 r, .int .i64 k, .slice C nc cc, .slice D r cd]) ∧ isKnown p ∧ r ≤ 4 ∧ k ≤ 5 ∧ EqOk p r k cells right ∧ r * k = nc ∧
    OwnI w' w.heap.size 3 C nc cc cells ∧ OwnI w' w.heap.size 3 D r cd right ∧ Deck w' g A n c xs q' ∧ Step g w w'

theorem eq_int_types : (106 : TypeId) ≠ 3 := by decide +kernel
theorem allP_set {p : Int} {l : List Int} (h : allP p l = true) (i : Nat) {x : Int} (hx : 0 ≤ x ∧ x < p) : allP p (l.set i x) = true := allP_iff.2 fun y hy => by
  rcases List.mem_or_eq_of_mem_set hy with h1 | h1
  · exact allP_iff.1 h y h1
  · rw [h1]; exact hx

theorem Two.step {g base n1 c1 n2 c2 : Nat} {e : TypeId} {A1 A2 : Option Addr} {xs ys : List Int} {w w' : World} (h : Two w base e A1 n1 c1 xs A2 n2 c2 ys) (hs : Step g w w') (hg : g < base) : Two w' base e A1 n1 c1 xs A2 n2 c2 ys := ⟨h.1.step hs hg, h.2.1.step hs hg, h.2.2⟩

theorem Two.set2 {base n1 c1 n2 c2 gD : Nat} {e : TypeId} {A1 : Option Addr} {xs ys : List Int} {w : World} (h : Two w base e A1 n1 c1 xs (some ⟨gD, 0, none⟩) n2 c2 ys) (j : Nat) (x : Int) : Two (w.setCell ⟨gD, j, none⟩ (.int .i64 x)) base e A1 n1 c1 xs (some ⟨gD, 0, none⟩) n2 c2 (ys.set j x) :=
  ⟨OwnI.kept h.1 ((Step.refl gD w).set j _) (.inr (fun e => h.2.2 gD e rfl)), h.2.1.stored j x, h.2.2⟩
theorem Two.drewN_ {base n1 c1 n2 c2 q : Nat} {e : TypeId} {A1 A2 : Option Addr} {xs ys : List Int} {w : World} (h : Two w base e A1 n1 c1 xs A2 n2 c2 ys) : Two (w.drewN q) base e A1 n1 c1 xs A2 n2 c2 ys := h

set_option maxHeartbeats 1600000 in
set_option maxRecDepth 100000 in
theorem equ_any (g : Nat) (A : Option Addr) (n c : Nat) (xs : List Int) (q : Nat) (w : World) (h : Deck w g A n c xs q) :
    Calls Try.prog 94 #[.pointer (some ⟨g, 0, none⟩)] w (EquPost g A n c xs w) := by
  have hg := h.1.lt
  go_enter Try.func94, Try.ntmps94
  go_wp2_with (first
    | (go_at_call 19; refine (field_any g A n c xs _ _ (by exact h.alloc _)).mono ?_; rintro e w1 ⟨p, q1, rfl, hkn, hD1, hS1⟩
       have HK := Lib.hid hkn
       have hp := okP_pos (okP_known hkn)
       have hS1' : Step g w w1 := ((Step.of_below (bbox _))).trans hS1
       have hR1 := Step.block hS1 (Blk.new w 106 #[.int .i64 0, .int .i64 0, .int .i64 0, .slice none 0 0, .slice none 0 0]) (by omega)
       clear hkn)
    | (go_at_call 20; (with_reducible refine (next_any g A n c xs q1 5 _ hD1 (by omega)).mono ?_); rintro e w2 ⟨r1, q2, rfl, hr1, _, hD2, hS2, hz2⟩
       obtain ⟨r, rfl⟩ : ∃ s : Nat, r1 = s := ⟨r1.toNat, by have := hr1 (by omega); omega⟩
       have hr4 : r ≤ 4 := by have := hr1 (by omega); omega
       have hS2' := hS1'.trans hS2
       have hR2 := Step.block hS2 hR1 (by omega)
       clear hr1 hz2)
    | (go_at_call 20; (with_reducible refine (next_any g A n c xs q2 6 _ hD2 (by omega)).mono ?_); rintro e w3 ⟨r2, q3, rfl, hr2, _, hD3, hS3, hz3⟩
       obtain ⟨k, rfl⟩ : ∃ s : Nat, r2 = s := ⟨r2.toNat, by have := hr2 (by omega); omega⟩
       have hk5 : k ≤ 5 := by have := hr2 (by omega); omega
       have hS3' := hS2'.trans hS3
       have hR3 := Step.block hS3 hR2 (by omega)
       have hl3 := hR3.lt
       clear hr2 hz3))
  obtain ⟨nc, hnc⟩ : ∃ nc, r * k = nc := ⟨_, rfl⟩
  have hmul : (r : Int) * (k : Int) = (nc : Int) := by rw [← hnc]; simp
  have hwn : IntKind.i64.wrap (nc : Int) = (nc : Int) := IntWalk.i64_in _ (by have : nc ≤ 20 := (by rw [← hnc]; exact Nat.mul_le_mul hr4 hk5); omega)
  have hnc20 : nc ≤ 20 := by rw [← hnc]; exact Nat.mul_le_mul hr4 hk5
  have hgB := hD3.1.lt
  have hws := hS3'.size
  have hE0 := Blk.new w3 106 #[.int .i64 p, .int .i64 r, .int .i64 k, .slice none 0 0, .slice none 0 0]
  have hDW := hD3.alloc (.cells #[.int .i64 p, .int .i64 r, .int .i64 k, .slice none 0 0, .slice none 0 0] 106)
  have hRW := hR3.alloc (.cells #[.int .i64 p, .int .i64 r, .int .i64 k, .slice none 0 0, .slice none 0 0] 106)
  have hSW := hS3'.alloc (.cells #[.int .i64 p, .int .i64 r, .int .i64 k, .slice none 0 0, .slice none 0 0] 106)
  obtain ⟨W, hW⟩ : ∃ W, w3.alloc (.cells #[.int .i64 p, .int .i64 r, .int .i64 k, .slice none 0 0, .slice none 0 0] 106) = W := ⟨_, rfl⟩
  have hsW : W.heap.size = w3.heap.size + 1 := by rw [← hW]; simp
  rw [hW] at hE0 hDW hSW hRW ⊢
  obtain ⟨B3, hB3⟩ : ∃ b, w3.heap.size = b := ⟨_, rfl⟩
  rw [hB3] at hE0 hsW hgB hws hl3 ⊢
  have HNC := Lib.hid hnc
  clear hB3 hW hnc hD3 hD2 hD1 hS1 hS2 hS3 hS1' hS2' hS3' h
  have h00 : W.cell? ⟨B3, 0, none⟩ = some (.int .i64 p) := (hE0.cell 0).trans rfl
  have h01 : W.cell? ⟨B3, 1, none⟩ = some (.int .i64 r) := (hE0.cell 1).trans rfl
  have h02 : W.cell? ⟨B3, 2, none⟩ = some (.int .i64 k) := (hE0.cell 2).trans rfl
  have hDWd := hDW.drew
  go_cut [3] (fun s wx => ∃ (C : Option Addr) (cc : Nat) (D : Option Addr) (cd : Nat) (cells right : List Int) (q' : Nat), s = .pointer (some ⟨B3, 0, none⟩) ∧ Blk wx B3 106 #[.int .i64 p, .int .i64 r, .int .i64 k, .slice C nc cc, .slice D r cd] ∧ Hid (Two wx (B3 + 1) 3 C nc cc cells D r cd right) ∧ Hid (allP p cells = true ∧ allP p right = true) ∧ Deck wx g A n c xs q' ∧ Step g w wx ∧ Blk wx w.heap.size 106 #[.int .i64 0, .int .i64 0, .int .i64 0, .slice none 0 0, .slice none 0 0])
  case first =>
    go_region_held3 (fun w' => w'.cell? ⟨B3, 0, none⟩ = some (.int .i64 p) ∧ w'.cell? ⟨B3, 1, none⟩ = some (.int .i64 r) ∧ w'.cell? ⟨B3, 2, none⟩ = some (.int .i64 k)) (first | exact ⟨h00, h01, h02⟩ | exact ⟨h40, h41, h42⟩ | exact ⟨h50, h51, h52⟩ | exact ⟨(hq3.cell 0).trans rfl, (hq3.cell 1).trans rfl, (hq3.cell 2).trans rfl⟩ | exact ⟨(hq4.cell 0).trans rfl, (hq4.cell 1).trans rfl, (hq4.cell 2).trans rfl⟩ | exact ⟨(hq34.cell 0).trans rfl, (hq34.cell 1).trans rfl, (hq34.cell 2).trans rfl⟩) (first
      | (go_at_call 22; (with_reducible refine (elements_any g A n c xs q3 p nc _ hDWd hp (by omega)).mono ?_); rintro e w4 ⟨C, cc, cells, q4, rfl, hC4, hA4, hD4, hS4⟩; have hS4 := Step.undrew hS4; have hE4 := Step.block hS4 hE0 (by omega); have hR4 := Step.block hS4 hRW (by omega); have HA4 := Lib.hid hA4; have h40 : w4.cell? ⟨B3, 0, none⟩ = some (.int .i64 p) := (hE4.cell 0).trans rfl; have h41 : w4.cell? ⟨B3, 1, none⟩ = some (.int .i64 r) := (hE4.cell 1).trans rfl; have h42 : w4.cell? ⟨B3, 2, none⟩ = some (.int .i64 k) := (hE4.cell 2).trans rfl; have hs4 : W.heap.size ≤ w4.heap.size := World.grownBy.size hS4; have hSW4 : Step g w w4 := hSW.trans hS4; have hC4' : OwnI w4 (B3 + 1) 3 C nc cc cells := hC4.base (by show B3 + 1 ≤ W.heap.size; omega); clear hA4 hS4 hC4)
      | (go_at_call 22; (with_reducible refine (elements_any g A n c xs q4 p r _ hD4 hp (by omega)).mono ?_); rintro e w5 ⟨D, cd, right, q5, rfl, hC5, hA5, hD5, hS5⟩; have hE5 := Step.block hS5 hE4 (by omega); have hR5 := Step.block hS5 hR4 (by omega); have HA5 := Lib.hid (And.intro HA4.out hA5); have hSW5 : Step g w w5 := hSW4.trans hS5; have h50 : w5.cell? ⟨B3, 0, none⟩ = some (.int .i64 p) := (hE5.cell 0).trans rfl; have h51 : w5.cell? ⟨B3, 1, none⟩ = some (.int .i64 r) := (hE5.cell 1).trans rfl; have h52 : w5.cell? ⟨B3, 2, none⟩ = some (.int .i64 k) := (hE5.cell 2).trans rfl; have hq3 := hE5.set_ 3 (.slice C nc cc); have hq4 := hE5.set_ 4 (.slice D r cd); have hq34 := (hE5.set_ 3 (.slice C nc cc)).set_ 4 (.slice D r cd); have hf3 := hE5.frozen 3; have hf4 := hE5.frozen 4; have h53 : w5.cell? ⟨B3, 3, none⟩ = some (.slice none 0 0) := (hE5.cell 3).trans rfl; have h54 : w5.cell? ⟨B3, 4, none⟩ = some (.slice none 0 0) := (hE5.cell 4).trans rfl
         have hT5 : Two w5 (B3 + 1) 3 C nc cc cells D r cd right := ⟨hC4'.step hS5 (by omega), hC5.base (by show B3 + 1 ≤ w4.heap.size; omega), fun b h1 h2 => by have h3 := (World.ownsRow.lt hC4' b h1).2; have h4 := (World.ownsRow.lt hC5 b h2).1; have h5 : w4.heap.size ≤ b := h4; omega⟩
         have HT5 := Lib.hid hT5; clear hA5 hS5 hT5 hC5))
    all_goals go_wp2
    all_goals go_meet
    case rel => exact ⟨C, cc, D, cd, cells, right, q5, rfl, (hE5.set_ 3 (.slice C nc cc)).set_ 4 (.slice D r cd), Lib.hid ((HT5.out.step ((Step.refl B3 w5).set 3 (.slice C nc cc)) (Nat.lt_succ_self _)).step ((Step.refl B3 _).set 4 (.slice D r cd)) (Nat.lt_succ_self _)), HA5, (hD5.setCell (p := ⟨B3, 3, none⟩) hgB _).setCell (p := ⟨B3, 4, none⟩) hgB _, (hSW5.setNew (p := ⟨B3, 3, none⟩) hws _).setNew (p := ⟨B3, 4, none⟩) hws _, (hR5.far (p := ⟨B3, 3, none⟩) (Nat.ne_of_lt hl3) _).far (p := ⟨B3, 4, none⟩) (Nat.ne_of_lt hl3) _⟩
  case rest =>
  obtain ⟨C, cc, D, cd, cells, right, q', rfl, hE, HT, HA, hD, hS, hR⟩ := hcut
  clear hE0 hDW hSW h00 h01 h02
  have hc0 : wc.cell? ⟨B3, 0, none⟩ = some (.int .i64 p) := (hE.cell 0).trans rfl
  have hc1 : wc.cell? ⟨B3, 1, none⟩ = some (.int .i64 r) := (hE.cell 1).trans rfl
  have hc2 : wc.cell? ⟨B3, 2, none⟩ = some (.int .i64 k) := (hE.cell 2).trans rfl
  have hc3 : wc.cell? ⟨B3, 3, none⟩ = some (.slice C nc cc) := (hE.cell 3).trans rfl
  have hc4 : wc.cell? ⟨B3, 4, none⟩ = some (.slice D r cd) := (hE.cell 4).trans rfl
  have HL : Hid (cells.length = nc ∧ right.length = r) := Lib.hid ⟨HT.out.1.len, HT.out.2.1.len⟩
  go_upto_region 3 with fail
  go_cut [3, 34] (fun s s34 wx => ∃ (b : Bool) (q' : Nat), s = .pointer (some ⟨B3, 0, none⟩) ∧ s34 = .bool b ∧ Blk wx B3 106 #[.int .i64 p, .int .i64 r, .int .i64 k, .slice C nc cc, .slice D r cd] ∧ Hid (Two wx (B3 + 1) 3 C nc cc cells D r cd right) ∧ Deck wx g A n c xs q' ∧ Step g w wx ∧ Blk wx w.heap.size 106 #[.int .i64 0, .int .i64 0, .int .i64 0, .slice none 0 0, .slice none 0 0])
  case first =>
    go_wp2_with (first
      | (go_at_call 20; (with_reducible refine (next_any g A n c xs q' 3 _ hD (by omega)).mono ?_); rintro e w6 ⟨r6, q6, rfl, hr6, _, hD6, hS6, hz6⟩
         obtain ⟨s6, rfl⟩ : ∃ s : Nat, r6 = s := ⟨r6.toNat, by have := hr6 (by omega); omega⟩
         have hE6 := Step.block hS6 hE (by omega)
         have hR6 := Step.block hS6 hR (by omega)
         have hSW6 : Step g w w6 := hS.trans hS6
         have HT6 := Lib.hid (HT.out.step hS6 (by omega))
         clear hr6 hz6 hS6))
    go_meet
    case rel => exact ⟨_, q6, rfl, rfl, hE6, HT6, hD6, hSW6, hR6⟩
  case rest =>
  clear hc0 hc1 hc2 hc3 hc4 hE HT hD hS hR
  obtain ⟨b, q6, rfl, rfl, hE, HT, hD, hS, hR⟩ := hcut
  rcases b with _ | _
  · have HEQ : Hid (EqOk p r k cells right) := Lib.hid ⟨okP_known HK.out, by omega, by omega, by rw [HL.out.1, HNC.out], HL.out.2, HA.out.1, HA.out.2⟩
    have hchE0 : wc.cell? ⟨B3, 0, none⟩ = some (.int .i64 p) := (hE.cell 0).trans rfl
    have hchE1 : wc.cell? ⟨B3, 1, none⟩ = some (.int .i64 r) := (hE.cell 1).trans rfl
    have hchE2 : wc.cell? ⟨B3, 2, none⟩ = some (.int .i64 k) := (hE.cell 2).trans rfl
    have hchE3 : wc.cell? ⟨B3, 3, none⟩ = some (.slice C nc cc) := (hE.cell 3).trans rfl
    have hchE4 : wc.cell? ⟨B3, 4, none⟩ = some (.slice D r cd) := (hE.cell 4).trans rfl
    have hz0 : wc.cell? ⟨w.heap.size, 0, none⟩ = some (.int .i64 0) := (hR.cell 0).trans rfl
    have hf0 := hR.frozen 0
    have hz1 : wc.cell? ⟨w.heap.size, 1, none⟩ = some (.int .i64 0) := (hR.cell 1).trans rfl
    have hf1 := hR.frozen 1
    have hz2 : wc.cell? ⟨w.heap.size, 2, none⟩ = some (.int .i64 0) := (hR.cell 2).trans rfl
    have hf2 := hR.frozen 2
    have hz3 : wc.cell? ⟨w.heap.size, 3, none⟩ = some (.slice none 0 0) := (hR.cell 3).trans rfl
    have hf3 := hR.frozen 3
    have hz4 : wc.cell? ⟨w.heap.size, 4, none⟩ = some (.slice none 0 0) := (hR.cell 4).trans rfl
    have hf4 := hR.frozen 4
    have hFB := (((((hR.set_ 0 (.int .i64 p)).set_ 1 (.int .i64 r)).set_ 2 (.int .i64 k)).set_ 3 (.slice C nc cc)).set_ 4 (.slice D r cd))
    have hfin0 : (((((wc.setCell ⟨w.heap.size, 0, none⟩ (.int .i64 p)).setCell ⟨w.heap.size, 1, none⟩ (.int .i64 r)).setCell ⟨w.heap.size, 2, none⟩ (.int .i64 k)).setCell ⟨w.heap.size, 3, none⟩ (.slice C nc cc)).setCell ⟨w.heap.size, 4, none⟩ (.slice D r cd)).cell? ⟨w.heap.size, 0, none⟩ = some (.int .i64 p) := (hFB.cell 0).trans rfl
    have hfin1 : (((((wc.setCell ⟨w.heap.size, 0, none⟩ (.int .i64 p)).setCell ⟨w.heap.size, 1, none⟩ (.int .i64 r)).setCell ⟨w.heap.size, 2, none⟩ (.int .i64 k)).setCell ⟨w.heap.size, 3, none⟩ (.slice C nc cc)).setCell ⟨w.heap.size, 4, none⟩ (.slice D r cd)).cell? ⟨w.heap.size, 1, none⟩ = some (.int .i64 r) := (hFB.cell 1).trans rfl
    have hfin2 : (((((wc.setCell ⟨w.heap.size, 0, none⟩ (.int .i64 p)).setCell ⟨w.heap.size, 1, none⟩ (.int .i64 r)).setCell ⟨w.heap.size, 2, none⟩ (.int .i64 k)).setCell ⟨w.heap.size, 3, none⟩ (.slice C nc cc)).setCell ⟨w.heap.size, 4, none⟩ (.slice D r cd)).cell? ⟨w.heap.size, 2, none⟩ = some (.int .i64 k) := (hFB.cell 2).trans rfl
    have hfin3 : (((((wc.setCell ⟨w.heap.size, 0, none⟩ (.int .i64 p)).setCell ⟨w.heap.size, 1, none⟩ (.int .i64 r)).setCell ⟨w.heap.size, 2, none⟩ (.int .i64 k)).setCell ⟨w.heap.size, 3, none⟩ (.slice C nc cc)).setCell ⟨w.heap.size, 4, none⟩ (.slice D r cd)).cell? ⟨w.heap.size, 3, none⟩ = some (.slice C nc cc) := (hFB.cell 3).trans rfl
    have hfin4 : (((((wc.setCell ⟨w.heap.size, 0, none⟩ (.int .i64 p)).setCell ⟨w.heap.size, 1, none⟩ (.int .i64 r)).setCell ⟨w.heap.size, 2, none⟩ (.int .i64 k)).setCell ⟨w.heap.size, 3, none⟩ (.slice C nc cc)).setCell ⟨w.heap.size, 4, none⟩ (.slice D r cd)).cell? ⟨w.heap.size, 4, none⟩ = some (.slice D r cd) := (hFB.cell 4).trans rfl
    have HTF := Lib.hid (((((HT.out.step ((Step.refl w.heap.size _).set 0 (.int .i64 p)) (by omega)).step ((Step.refl w.heap.size _).set 1 (.int .i64 r)) (by omega)).step ((Step.refl w.heap.size _).set 2 (.int .i64 k)) (by omega)).step ((Step.refl w.heap.size _).set 3 (.slice C nc cc)) (by omega)).step ((Step.refl w.heap.size _).set 4 (.slice D r cd)) (by omega))
    clear hFB
    go_wp2
    refine bodyPost_ret (v := .agg #[.int .i64 p, .int .i64 r, .int .i64 k, .slice C nc cc, .slice D r cd]) (by simp [results, Try.results94, go_sem, hfin0, hfin1, hfin2, hfin3, hfin4]) rfl ⟨p, r, k, nc, C, cc, D, cd, cells, right, q6, rfl, HK.out, hr4, hk5, HEQ.out, HNC.out, HTF.out.1.base (by omega), HTF.out.2.1.base (by omega), (((((hD.setCell (p := ⟨w.heap.size, 0, none⟩) hg _).setCell (p := ⟨w.heap.size, 1, none⟩) hg _).setCell (p := ⟨w.heap.size, 2, none⟩) hg _).setCell (p := ⟨w.heap.size, 3, none⟩) hg _).setCell (p := ⟨w.heap.size, 4, none⟩) hg _), (((((hS.setNew (p := ⟨w.heap.size, 0, none⟩) (Nat.le_refl _) _).setNew (p := ⟨w.heap.size, 1, none⟩) (Nat.le_refl _) _).setNew (p := ⟨w.heap.size, 2, none⟩) (Nat.le_refl _) _).setNew (p := ⟨w.heap.size, 3, none⟩) (Nat.le_refl _) _).setNew (p := ⟨w.heap.size, 4, none⟩) (Nat.le_refl _) _)⟩
  · have HB7 : Hid (∀ gD, D = some ⟨gD, 0, none⟩ → gD < wc.heap.size) := Lib.hid fun gD e => by
      have h1 := HT.out.2.1
      rw [e] at h1
      exact (World.ownsRow.lt h1 gD rfl).2
    have hwc := hE.lt
    have hc0 : wc.cell? ⟨B3, 0, none⟩ = some (.int .i64 p) := (hE.cell 0).trans rfl
    have hc1 : wc.cell? ⟨B3, 1, none⟩ = some (.int .i64 r) := (hE.cell 1).trans rfl
    have hc2 : wc.cell? ⟨B3, 2, none⟩ = some (.int .i64 k) := (hE.cell 2).trans rfl
    have hc3 : wc.cell? ⟨B3, 3, none⟩ = some (.slice C nc cc) := (hE.cell 3).trans rfl
    have hc4 : wc.cell? ⟨B3, 4, none⟩ = some (.slice D r cd) := (hE.cell 4).trans rfl
    go_wp2_with (first
      | (go_at_call 22; (with_reducible refine (elements_any g A n c xs q6 p k _ hD hp (by omega)).mono ?_); rintro e w7 ⟨X, xc, ys, q7, rfl, hX7, hA7, hD7, hS7⟩
         have hE7 := Step.block hS7 hE (by omega)
         have hR7 := Step.block hS7 hR (by omega)
         have hSW7 : Step g w w7 := hS.trans hS7
         have HT7 := Lib.hid (HT.out.step hS7 (by omega))
         have HA7 := Lib.hid hA7
         have hc74 : w7.cell? ⟨B3, 4, none⟩ = some (.slice D r cd) := (hE7.cell 4).trans rfl
         clear hA7 hS7))
    obtain ⟨B7, hB7⟩ : ∃ b, wc.heap.size = b := ⟨_, rfl⟩
    rw [hB7] at HB7 hX7 hwc
    have HYL := Lib.hid hX7.len
    clear hc0 hc1 hc2 hc3 hc4 hE HT hD hS hR hB7
    go_loopw [44] (fun v wx => ∃ (i : Nat) (rt : List Int), i ≤ r ∧ v = .int .i64 i ∧ Blk wx B3 106 #[.int .i64 p, .int .i64 r, .int .i64 k, .slice C nc cc, .slice D r cd] ∧ Hid (Two wx (B3 + 1) 3 C nc cc cells D r cd rt) ∧ Hid (allP p rt = true) ∧ OwnI wx B7 3 X k xc ys ∧ Deck wx g A n c xs q7 ∧ Step g w wx ∧ Blk wx w.heap.size 106 #[.int .i64 0, .int .i64 0, .int .i64 0, .slice none 0 0, .slice none 0 0]) (fun v _ => r - (intOf v).toNat)
    case atStart => exact ⟨0, right, Nat.zero_le _, rfl, hE7, HT7, Lib.hid HA.out.2, hX7, hD7, hSW7, hR7⟩
    case round =>
      obtain ⟨i, rt, hi, rfl, hE, HT, HAR, hX, hD, hS, hR⟩ := hrel
      by_cases hlt : i < r
      · obtain ⟨gD, hgD, hgD1, hgD2⟩ := HT.out.2.1.form (by omega)
        subst hgD
        have hgB7 := HB7.out gD rfl
        have hfD := HT.out.2.1.frozenAt i
        have hcD := HT.out.2.1.cellAt hlt
        have h1 : (i : Int) < (r : Int) := by omega
        have h0 : (0 : Int) ≤ (i : Int) := by omega
        have hc0 : wr.cell? ⟨B3, 0, none⟩ = some (.int .i64 p) := (hE.cell 0).trans rfl
        have hc1 : wr.cell? ⟨B3, 1, none⟩ = some (.int .i64 r) := (hE.cell 1).trans rfl
        have hc2 : wr.cell? ⟨B3, 2, none⟩ = some (.int .i64 k) := (hE.cell 2).trans rfl
        have hc3 : wr.cell? ⟨B3, 3, none⟩ = some (.slice C nc cc) := (hE.cell 3).trans rfl
        have hc4 : wr.cell? ⟨B3, 4, none⟩ = some (.slice (some ⟨gD, 0, none⟩) r cd) := (hE.cell 4).trans rfl
        have hrl := row_le (c := k) hlt
        rw [HNC.out] at hrl
        obtain ⟨l0, hl0⟩ : ∃ l, i * k = l := ⟨_, rfl⟩
        rw [hl0] at hrl
        have hw1 : (i : Int) * (k : Int) = (l0 : Int) := by rw [← hl0]; simp
        have hw1' : IntKind.i64.wrap (l0 : Int) = (l0 : Int) := IntWalk.i64_in _ (by omega)
        clear hl0
        go_wp2_with fail
        go_loopw [6, 49] (fun s j wx => ∃ (m : Nat) (z : Int) (nq : Nat), m ≤ k ∧ j = .int .i64 m ∧ s = .int .i64 z ∧ 0 ≤ z ∧ z < p ∧ wx = wr.drewN nq) (fun _ j _ => k - (intOf j).toNat)
        case atStart => exact ⟨0, 0, 0, Nat.zero_le _, rfl, rfl, by omega, by omega, rfl⟩
        case round =>
          rename_i wo _
          obtain ⟨m, z, nq, hm, rfl, rfl, hz0, hz1, rfl⟩ := hrel
          by_cases hltm : m < k
          · obtain ⟨gC, hgC, _, _⟩ := HT.out.1.form (by omega)
            obtain ⟨gX, hgX, _, _⟩ := hX.form (by omega)
            subst hgC hgX
            obtain ⟨l, hl⟩ : ∃ l, l0 + m = l := ⟨_, rfl⟩
            have hlc : l < nc := by omega
            have hcC := HT.out.1.cellAt hlc
            have hcX := hX.cellAt hltm
            have hvC := allP_getD HA.out.1 (k := l) (by rw [HL.out.1]; exact hlc)
            have hvX := allP_getD HA7.out (k := m) (by rw [HYL.out]; exact hltm)
            generalize cells.getD l 0 = u at *
            generalize ys.getD m 0 = v at *
            obtain ⟨pr, hpr⟩ : ∃ pr, u * v = pr := ⟨_, rfl⟩
            have hpr0 : 0 ≤ pr := by rw [← hpr]; exact Int.mul_nonneg hvC.1 hvX.1
            have hpr1 : pr ≤ 65521 * 65521 := by rw [← hpr]; exact Int.mul_le_mul (by omega) (by omega) hvX.1 (by omega)
            have hw2 : (l0 : Int) + (m : Int) = (l : Int) := by omega
            have hw2' : IntKind.i64.wrap (l : Int) = (l : Int) := IntWalk.i64_in _ (by omega)
            have hw3 : IntKind.i64.wrap pr = pr := IntWalk.i64_in _ (by omega)
            have hw4 : IntKind.i64.wrap (z + pr) = z + pr := IntWalk.i64_in _ (by omega)
            have hp0 : ¬ p = 0 := by omega
            have ht : (z + pr).tmod p = (z + pr) % p := Int.tmod_eq_emod_of_nonneg (by omega)
            have hin := emod_in hp.1 (z + pr)
            have h1m : (m : Int) < (k : Int) := by omega
            have h0m : (0 : Int) ≤ (m : Int) := by omega
            have h1l : (l : Int) < (nc : Int) := by omega
            have h0l : (0 : Int) ≤ (l : Int) := by omega
            clear hl
            generalize (z + pr) % p = z2 at *
            go_wp2
            go_quiet (fail)
            go_wp2
            go_roundw
            case rel => exact ⟨m + 1, z2, _, by omega, by go_num, rfl, hin.1, hin.2, by first | rfl | exact World.drewN_drewN _ _ _⟩
            case measure => simp [intOf]; omega
          · obtain rfl : m = k := by omega
            have hT2 := (HT.out.drewN_ (q := nq)).set2 i z
            have HT2 := Lib.hid hT2
            have hX2 := OwnI.kept (hX.drewN nq) ((Step.refl gD (wr.drewN nq)).set i (.int .i64 z)) (.inr (fun e => by have := hX.row gD e; omega))
            have hE2 := (hE.drewN nq).far (p := ⟨gD, i, none⟩) (show B3 ≠ gD by omega) (.int .i64 z)
            have hR2 := (hR.drewN nq).far (p := ⟨gD, i, none⟩) (show w.heap.size ≠ gD by omega) (.int .i64 z)
            have hD2 := (hD.drewN nq).setCell (p := ⟨gD, i, none⟩) (show g < gD by omega) (.int .i64 z)
            have hS2 := (hS.drewN nq).setNew (p := ⟨gD, i, none⟩) (show w.heap.size ≤ gD by omega) (.int .i64 z)
            go_wp2
            go_roundw
            case rel => exact ⟨i + 1, rt.set i z, by omega, by go_num, hE2, HT2, Lib.hid (allP_set HAR.out i ⟨hz0, hz1⟩), hX2, hD2, hS2, hR2⟩
            case measure => simp [intOf]; omega
      · obtain rfl : i = r := by omega
        have HEQ : Hid (EqOk p i k cells rt) := Lib.hid ⟨okP_known HK.out, by omega, by omega, by rw [HL.out.1, HNC.out], HT.out.2.1.len, HA.out.1, HAR.out⟩
        have hc0 : wr.cell? ⟨B3, 0, none⟩ = some (.int .i64 p) := (hE.cell 0).trans rfl
        have hc1 : wr.cell? ⟨B3, 1, none⟩ = some (.int .i64 i) := (hE.cell 1).trans rfl
        have hc2 : wr.cell? ⟨B3, 2, none⟩ = some (.int .i64 k) := (hE.cell 2).trans rfl
        have hc3 : wr.cell? ⟨B3, 3, none⟩ = some (.slice C nc cc) := (hE.cell 3).trans rfl
        have hc4 : wr.cell? ⟨B3, 4, none⟩ = some (.slice D i cd) := (hE.cell 4).trans rfl
        have hz0 : wr.cell? ⟨w.heap.size, 0, none⟩ = some (.int .i64 0) := (hR.cell 0).trans rfl
        have hf0 := hR.frozen 0
        have hz1 : wr.cell? ⟨w.heap.size, 1, none⟩ = some (.int .i64 0) := (hR.cell 1).trans rfl
        have hf1 := hR.frozen 1
        have hz2 : wr.cell? ⟨w.heap.size, 2, none⟩ = some (.int .i64 0) := (hR.cell 2).trans rfl
        have hf2 := hR.frozen 2
        have hz3 : wr.cell? ⟨w.heap.size, 3, none⟩ = some (.slice none 0 0) := (hR.cell 3).trans rfl
        have hf3 := hR.frozen 3
        have hz4 : wr.cell? ⟨w.heap.size, 4, none⟩ = some (.slice none 0 0) := (hR.cell 4).trans rfl
        have hf4 := hR.frozen 4
        have hFB := (((((hR.set_ 0 (.int .i64 p)).set_ 1 (.int .i64 i)).set_ 2 (.int .i64 k)).set_ 3 (.slice C nc cc)).set_ 4 (.slice D i cd))
        have hfin0 : (((((wr.setCell ⟨w.heap.size, 0, none⟩ (.int .i64 p)).setCell ⟨w.heap.size, 1, none⟩ (.int .i64 i)).setCell ⟨w.heap.size, 2, none⟩ (.int .i64 k)).setCell ⟨w.heap.size, 3, none⟩ (.slice C nc cc)).setCell ⟨w.heap.size, 4, none⟩ (.slice D i cd)).cell? ⟨w.heap.size, 0, none⟩ = some (.int .i64 p) := (hFB.cell 0).trans rfl
        have hfin1 : (((((wr.setCell ⟨w.heap.size, 0, none⟩ (.int .i64 p)).setCell ⟨w.heap.size, 1, none⟩ (.int .i64 i)).setCell ⟨w.heap.size, 2, none⟩ (.int .i64 k)).setCell ⟨w.heap.size, 3, none⟩ (.slice C nc cc)).setCell ⟨w.heap.size, 4, none⟩ (.slice D i cd)).cell? ⟨w.heap.size, 1, none⟩ = some (.int .i64 i) := (hFB.cell 1).trans rfl
        have hfin2 : (((((wr.setCell ⟨w.heap.size, 0, none⟩ (.int .i64 p)).setCell ⟨w.heap.size, 1, none⟩ (.int .i64 i)).setCell ⟨w.heap.size, 2, none⟩ (.int .i64 k)).setCell ⟨w.heap.size, 3, none⟩ (.slice C nc cc)).setCell ⟨w.heap.size, 4, none⟩ (.slice D i cd)).cell? ⟨w.heap.size, 2, none⟩ = some (.int .i64 k) := (hFB.cell 2).trans rfl
        have hfin3 : (((((wr.setCell ⟨w.heap.size, 0, none⟩ (.int .i64 p)).setCell ⟨w.heap.size, 1, none⟩ (.int .i64 i)).setCell ⟨w.heap.size, 2, none⟩ (.int .i64 k)).setCell ⟨w.heap.size, 3, none⟩ (.slice C nc cc)).setCell ⟨w.heap.size, 4, none⟩ (.slice D i cd)).cell? ⟨w.heap.size, 3, none⟩ = some (.slice C nc cc) := (hFB.cell 3).trans rfl
        have hfin4 : (((((wr.setCell ⟨w.heap.size, 0, none⟩ (.int .i64 p)).setCell ⟨w.heap.size, 1, none⟩ (.int .i64 i)).setCell ⟨w.heap.size, 2, none⟩ (.int .i64 k)).setCell ⟨w.heap.size, 3, none⟩ (.slice C nc cc)).setCell ⟨w.heap.size, 4, none⟩ (.slice D i cd)).cell? ⟨w.heap.size, 4, none⟩ = some (.slice D i cd) := (hFB.cell 4).trans rfl
        have HTF := Lib.hid (((((HT.out.step ((Step.refl w.heap.size _).set 0 (.int .i64 p)) (by omega)).step ((Step.refl w.heap.size _).set 1 (.int .i64 i)) (by omega)).step ((Step.refl w.heap.size _).set 2 (.int .i64 k)) (by omega)).step ((Step.refl w.heap.size _).set 3 (.slice C nc cc)) (by omega)).step ((Step.refl w.heap.size _).set 4 (.slice D i cd)) (by omega))
        clear hFB
        go_wp2
        refine bodyPost_ret (v := .agg #[.int .i64 p, .int .i64 i, .int .i64 k, .slice C nc cc, .slice D i cd]) (by simp [results, Try.results94, go_sem, hfin0, hfin1, hfin2, hfin3, hfin4]) rfl ⟨p, i, k, nc, C, cc, D, cd, cells, rt, q7, rfl, HK.out, hr4, hk5, HEQ.out, HNC.out, HTF.out.1.base (by omega), HTF.out.2.1.base (by omega), (((((hD.setCell (p := ⟨w.heap.size, 0, none⟩) hg _).setCell (p := ⟨w.heap.size, 1, none⟩) hg _).setCell (p := ⟨w.heap.size, 2, none⟩) hg _).setCell (p := ⟨w.heap.size, 3, none⟩) hg _).setCell (p := ⟨w.heap.size, 4, none⟩) hg _), (((((hS.setNew (p := ⟨w.heap.size, 0, none⟩) (Nat.le_refl _) _).setNew (p := ⟨w.heap.size, 1, none⟩) (Nat.le_refl _) _).setNew (p := ⟨w.heap.size, 2, none⟩) (Nat.le_refl _) _).setNew (p := ⟨w.heap.size, 3, none⟩) (Nat.le_refl _) _).setNew (p := ⟨w.heap.size, 4, none⟩) (Nat.le_refl _) _)⟩
end Go.Proofs.Ytoblofilaegnaaa
