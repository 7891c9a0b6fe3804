/-
  Words for memory and contracts of small functions of the second form. Conditions: those of each lemma.
-/
import Derived.Test.YtmcgnpdfpfgfpaaGreatDoorPlain
import Derived.Test.YtmcgnpdfpfgfpaaGreatDoorGSha
import Derived.Test.YtmcgnpdfpfgfpaaGreatDoorGBas
import Derived.Test.YtmcgnpdfpfgfpaaGreatDoorGUni
import Derived.Deep.RegionHeld3
import Derived.BigQuiet
/-! Share1 -/
namespace Go.Proofs.YtmcgnpdfpfgfpaaGreatDoor
open Go.RowKit
open Go.Maps
set_option linter.unusedVariables false

theorem Sh.below {w w' : World} {B : Nat} {A : Option Addr} {n : Nat} {us ys : List Int} (h : Sh w B A n us ys) (hb : Below B w w') : Sh w' B A n us ys :=
  ⟨h.1, h.2.1, fun hn => by
    obtain ⟨b, off, e, hl, hc⟩ := h.2.2 hn
    exact ⟨b, off, e, hl, fun j hj => ⟨(hb.cell (p := ⟨b, off + j * 2, none⟩) hl).trans (hc j hj).1, (hb.cell (p := ⟨b, off + j * 2 + 1, none⟩) hl).trans (hc j hj).2⟩⟩⟩
theorem Sh.more {w : World} {B B' : Nat} {A : Option Addr} {n : Nat} {us ys : List Int} (h : Sh w B A n us ys) (hB : B ≤ B') : Sh w B' A n us ys :=
  ⟨h.1, h.2.1, fun hn => by
    obtain ⟨b, off, e, hl, hc⟩ := h.2.2 hn
    exact ⟨b, off, e, by omega, hc⟩⟩
theorem Sh.upto {w0 w' : World} {A : Option Addr} {n : Nat} {us ys : List Int} (h : Sh w0 w0.heap.size A n us ys) (hb : Below w0.heap.size w0 w') : Sh w' w'.heap.size A n us ys := (h.below hb).more hb.size
set_option maxRecDepth 100000 in
theorem shares_any (p : Int) (C M : Option Addr) (n c m d : Nat) (cs us : List Int) (w : World) (hp : 2 ≤ p ∧ p ≤ 65521) (hC : Ints w w.heap.size C n cs) (hM : Ints w w.heap.size M m us) (hca : allP p cs = true) (hua : allP p us = true) (hn : n ≤ 1000) (hm : m ≤ 1000) :
    Calls Tryz.prog 91 #[.int .i64 p, .slice C n c, .slice M m d] w fun e w' => (∃ A' c', e = .returned (.slice A' m c') ∧ OwnS w' w.heap.size A' m c' us (valsP p cs us)) ∧ Below w.heap.size w w' := by
  have HC := Lib.hid hca
  have HU := Lib.hid hua
  have HL := Lib.hid hM.len
  clear hca hua
  go_enter Tryz.func91, Tryz.ntmps91
  go_wp2
  go_loopw [7, 12] (fun v7 v12 wz => ∃ (k : Nat) (L : Option Addr) (lc : Nat), k ≤ m ∧ v7 = .slice L k lc ∧ v12 = .int .i64 k ∧ OwnS wz w.heap.size L k lc (us.take k) (valsP p cs (us.take k)) ∧ Below w.heap.size w wz) (fun _ v12 _ => m - (intOf v12).toNat)
  case atStart => exact ⟨0, none, 0, Nat.zero_le _, rfl, rfl, OwnS.nil_, Below.refl _ _⟩
  case round =>
    obtain ⟨k, L, lc, hk, rfl, rfl, hS, hb⟩ := hrel
    by_cases hlt : k < m
    · obtain ⟨b1, o1, rfl, hb1, hc1⟩ := hM.2 (by omega)
      have hcx := (hb.cell (p := ⟨b1, o1 + k, none⟩) hb1).trans (hc1 k hlt)
      clear hc1
      have hxe := allP_getD HU.out (k := k) (by rw [HL.out]; exact hlt)
      have HT := Lib.hid (take_succ_getD us k (by rw [HL.out]; exact hlt))
      generalize us.getD k 0 = x at *
      obtain ⟨v, HV⟩ : ∃ v, Hid (valueP p x cs = v) := ⟨_, Lib.hid rfl⟩
      have HTV : Hid (valsP p cs (us.take (k + 1)) = valsP p cs (us.take k) ++ [v]) := Lib.hid (by rw [HT.out, valsP_snoc, HV.out])
      go_wp2_with (first
        | (go_at_call 117; refine (value_any p x C n c cs _ hp hxe (hC.upto hb) HC.out (by omega)).mono ?_; rintro e w8 ⟨rfl, hb8⟩
           rw [HV.out]
           have hbz8 := bnext hb hb8
           have hS9 := (hS.belowAll hb8).belowAll (bbox (.cells #[.int .i64 x, .int .i64 v] 135))
           have hN9 := Blk.new w8 135 #[.int .i64 x, .int .i64 v]
           have hbz9 := ballocs hbz8 (.cells #[.int .i64 x, .int .i64 v] 135))
        | (at_builtin
           refine wpList_append_share rfl _ _ 27 rfl Tryz.underlying27 w.heap.size L k lc (us.take k) _ rfl hS9 w8.heap.size 1 x v rfl ((hN9.cell 0).trans rfl) ((hN9.cell 1).trans rfl) (by omega) hbz9.size ?_
           intro L2 lc2 w10 hS10 hb10
           have hbz10 := hbz9.trans hb10))
      go_roundw
      case rel => exact ⟨k + 1, L2, lc2, by omega, rfl, by go_num, by rw [HTV.out, HT.out]; exact hS10, hbz10⟩
      case measure => simp [intOf]; omega
    · obtain rfl : k = m := by omega
      rw [List.take_of_length_le (by rw [HL.out]; omega)] at hS
      go_wp2
      go_ret
      exact ⟨⟨L, lc, rfl, hS⟩, hb⟩

theorem threshold_any (n : Int) (w : World) : Calls Tryz.prog 90 #[.int .i64 n] w fun e w' => e = .returned (.bool (decide (0 ≤ n ∧ n ≤ 9))) ∧ w = w' := by
  go_enter Tryz.func90, Tryz.ntmps90
  go_wp2
  all_goals go_ret
  all_goals exact ⟨ret_bool (by rw [Bool.eq_iff_iff]; simp; try omega), rfl⟩
end Go.Proofs.YtmcgnpdfpfgfpaaGreatDoor

/-! Tape -/
namespace Go.Proofs.YtmcgnpdfpfgfpaaGreatDoor
open Go.RowKit
set_option linter.unusedVariables false

theorem limit_any (n : Int) (w : World) :
    Calls Tryz.prog 88 #[.int .i64 n] w fun e w' => e = .returned (.bool (limT n)) ∧ w = w' := by
  go_enter Tryz.func88, Tryz.ntmps88
  go_wp2
  all_goals go_ret
  all_goals exact ⟨ret_bool (by unfold limT; rw [Bool.eq_iff_iff]; simp; try omega), rfl⟩

theorem valid_any (A : Option Addr) (m c : Nat) (a : Int) (w : World) :
    Calls Tryz.prog 87 #[.agg #[.slice A m c, .int .i64 a]] w fun e w' => e = .returned (.bool (validT m a)) ∧ Below w.heap.size w w' := by
  go_enter Tryz.func87, Tryz.ntmps87
  go_wp2
  all_goals go_ret
  all_goals exact ⟨ret_bool (by unfold validT; rw [Bool.eq_iff_iff]; simp; try omega), bbox _⟩

/-- next: one number of a drawing. -/
theorem tnext_any (gd : Nat) (A : Option Addr) (m c a : Nat) (v : Value) (n : Int) (xs : List Int) (w : World) (hB : Blk w gd 169 #[.slice A m c, .int .i64 a, v]) (hI : Ints w gd A m xs) (ha : a ≤ m) (hm : m ≤ 16384) :
    Calls Tryz.prog 116 #[.pointer (some ⟨gd, 0, none⟩), .int .i64 n] w fun e w' =>
      e = .returned (.tuple #[.int .i64 (nextV xs n a), .int .i64 (nextE xs n a)]) ∧ Blk w' gd 169 #[.slice A m c, .int .i64 (if nextE xs n a = 0 then (a + 1 : Nat) else a), v] ∧ Step gd w w' ∧ w'.heap.size = w.heap.size := by
  have hc0 : w.cell? ⟨gd, 0, none⟩ = some (.slice A m c) := (hB.cell 0).trans rfl
  have hc1 : w.cell? ⟨gd, 1, none⟩ = some (.int .i64 a) := (hB.cell 1).trans rfl
  have hf1 := hB.frozen 1
  have HL := Lib.hid hI.len
  by_cases hal : a = m
  · subst hal
    have HE : Hid (nextE xs n a = 3) := Lib.hid (by unfold nextE; rw [if_pos (by rw [HL.out])])
    have HV : Hid (nextV xs n a = 0) := Lib.hid (by unfold nextV; rw [HE.out]; rfl)
    rw [HE.out, HV.out]
    go_enter Tryz.func116, Tryz.ntmps116
    go_wp2
    go_quiet (fail)
    go_wp2
    go_ret2
    exact ⟨rfl, Blk.drewN hB _, (Step.refl gd w).drewN _, rfl⟩
  obtain ⟨b, off, rfl, hb, hcell⟩ := hI.2 (by omega)
  have hcq := hcell a (by omega)
  clear hcell
  by_cases hbad : xs.getD a 0 < 0 ∨ n ≤ xs.getD a 0
  · have HE : Hid (nextE xs n a = 8) := Lib.hid (by unfold nextE; rw [if_neg (by rw [HL.out]; exact hal), if_pos hbad])
    have HV : Hid (nextV xs n a = 0) := Lib.hid (by unfold nextV; rw [HE.out]; rfl)
    rw [HE.out, HV.out]
    generalize xs.getD a 0 = x at *
    go_enter Tryz.func116, Tryz.ntmps116
    go_wp2
    go_quiet (fail)
    go_wp2
    go_quiet (fail)
    go_wp2
    all_goals go_ret2
    all_goals first
      | exact ⟨rfl, Blk.drewN hB _, ((Step.refl gd w).drewN _), rfl⟩
      | (exfalso; omega)
  · have HE : Hid (nextE xs n a = 0) := Lib.hid (by unfold nextE; rw [if_neg (by rw [HL.out]; exact hal), if_neg hbad])
    have HV : Hid (nextV xs n a = xs.getD a 0) := Lib.hid (by unfold nextV; rw [HE.out]; rfl)
    rw [HE.out, HV.out]
    generalize xs.getD a 0 = x at *
    go_enter Tryz.func116, Tryz.ntmps116
    go_wp2
    go_quiet (fail)
    go_wp2
    go_quiet (fail)
    go_wp2
    all_goals go_ret2
    all_goals first
      | exact ⟨rfl, Blk.drewN (hB.set_ 1 (.int .i64 ((a : Int) + 1))) _, ((Step.refl gd w).set 1 _).drewN _, by simp [World.setCell]⟩
      | (exfalso; omega)

theorem nextE_lt {xs : List Int} {n : Int} {a m : Nat} (hl : xs.length = m) (ha : a ≤ m) (h : nextE xs n a = 0) : a < m := by
  rcases Nat.lt_or_ge a m with h1 | h1
  · exact h1
  · exfalso
    unfold nextE at h
    rw [if_pos (by omega)] at h
    cases h

set_option maxHeartbeats 800000 in
set_option maxRecDepth 100000 in
/-- draw. -/
theorem draw_any (gd : Nat) (A : Option Addr) (m c a : Nat) (n : Int) (cnt : Nat) (xs : List Int) (w : World) (hB : Blk w gd 169 #[.slice A m c, .int .i64 a, .slice none 0 0]) (hI : Ints w gd A m xs) (ha : a ≤ m) (hm : m ≤ 16384) (hc : (cnt : Int) ≤ 9223372036854775807) :
    Calls Tryz.prog 89 #[.pointer (some ⟨gd, 0, none⟩), .int .i64 n, .int .i64 cnt] w fun e w' =>
      e = .returned (.int .i64 (drawE xs n a cnt)) ∧ (drawE xs n a cnt = 0 → ∃ D dc, Blk w' gd 169 #[.slice A m c, .int .i64 (a + cnt : Nat), .slice D cnt dc] ∧ OwnI w' (gd + 1) 3 D cnt dc ((xs.drop a).take cnt)) ∧ Step gd w w' := by
  obtain ⟨i0, hi0, hz0, hz1, hz2⟩ := info_parts info_int
  have HL := Lib.hid hI.len
  obtain ⟨er, HE⟩ : ∃ er, Hid (drawE xs n a cnt = er) := ⟨_, Lib.hid rfl⟩
  rw [HE.out]
  go_enter Tryz.func89, Tryz.ntmps89
  go_wp2
  go_loopw [7] (fun i wr => ∃ (k : Nat) (D : Option Addr) (dc : Nat), k ≤ cnt ∧ a + k ≤ m ∧ i = .int .i64 k ∧ Blk wr gd 169 #[.slice A m c, .int .i64 (a + k : Nat), .slice D k dc] ∧ OwnI wr w.heap.size 3 D k dc ((xs.drop a).take k) ∧
    Step gd w wr ∧ Hid (drawE xs n (a + k) (cnt - k) = er)) (fun i _ => cnt - (intOf i).toNat)
  case atStart => exact ⟨0, none, 0, Nat.zero_le _, ha, rfl, hB, OwnI.nil_, Step.refl _ _, HE⟩
  case round =>
    obtain ⟨k, D, dc, hk, hak, rfl, hBr, hown, hS, HD⟩ := hrel
    have hlr := hBr.lt
    have hlw := hB.lt
    by_cases hlt : k < cnt
    · have hIr : Ints wr gd A m xs := hI.keep fun p hp => World.cell?_of_block (World.grownBy.block hS p.block (by omega) (fun e => by injection e; omega))
      by_cases he : nextE xs n (a + k) = 0
      · have hlm := nextE_lt HL.out hak he
        have HV : Hid (nextV xs n (a + k) = xs.getD (a + k) 0) := Lib.hid (by unfold nextV; rw [if_pos he])
        have HT := Lib.hid (drop_take_succ xs a k (by rw [HL.out]; exact hlm))
        have HN : Hid (drawE xs n (a + (k + 1)) (cnt - (k + 1)) = er) := Lib.hid (by rw [← HD.out, drawE_step xs n a hlt, if_pos he])
        have HE0 := Lib.hid he
        clear he
        obtain ⟨x, HX⟩ : ∃ x, Hid (xs.getD (a + k) 0 = x) := ⟨_, Lib.hid rfl⟩
        go_wp2_with (first
          | (go_at_call 116; refine (tnext_any gd A m c (a + k) _ n xs _ hBr hIr hak hm).mono ?_; rintro e w1 ⟨rfl, hB1, hS1, hz1⟩
             rw [HE0.out, if_pos rfl] at hB1
             rw [HE0.out, HV.out, HX.out]
             have hl1 : w.heap.size ≤ w1.heap.size := World.grownBy.size (hS.trans hS1)
             have hc2 : w1.cell? ⟨gd, 2, none⟩ = some (.slice D k dc) := (hB1.cell 2).trans rfl
             have hown1 := hown.step hS1 (by omega)
             clear hz1)
          | (at_builtin
             refine wpList_append_ints rfl _ _ _ rfl w.heap.size 3 i0 _ Tryz.underlying22 hi0 hz0 hz1 hz2 rfl D k dc _ rfl (hown1.alloc _) _ _ 1 1 [x] rfl (Ints.one _ _ _) (k + 1) rfl _ rfl (by omega) (le_alloc hl1 _) ?_
             intro A2 c2 w2 hown2 _ hbw2 _
             have hb2 : Below w.heap.size w1 w2 := ((Below.refl _ w1).alloc hl1 _).trans hbw2
             have hB2 := hB1.below hb2 hlw
             have hf2 := hB2.frozen 2
             have hx2 : w2.cell? ⟨gd, 2, none⟩ = some (.slice D k dc) := (hB2.cell 2).trans rfl
             have hS2 : Step gd w w2 := (hS.trans hS1).thenBelow hb2))
        go_roundw
        case rel => exact ⟨k + 1, A2, c2, by omega, by omega, by go_num, hB2.set_ 2 _, by rw [HT.out, HX.out]; exact hown2.step ((Step.refl gd w2).set 2 _) hlw, hS2.set 2 _, HN⟩
        case measure => simp [intOf]; omega
      · have HN : Hid (nextE xs n (a + k) = er) := Lib.hid (by rw [← HD.out, drawE_step xs n a hlt, if_neg he])
        have hz := nextE_cases xs n (a + k)
        obtain ⟨vv, HV⟩ : ∃ vv, Hid (nextV xs n (a + k) = vv) := ⟨_, Lib.hid rfl⟩
        rw [HN.out] at hz he
        have hne : (er != 0) = true := by simpa using he
        go_wp2_with (go_at_call 116; refine (tnext_any gd A m c (a + k) _ n xs _ hBr hIr hak hm).mono ?_; rintro e w1 ⟨rfl, hB1, hS1, hz1⟩
                     rw [HN.out, HV.out]
                     clear hz1 hB1)
        go_ret
        exact ⟨rfl, fun h => absurd h he, hS.trans hS1⟩
    · have hkc : k = cnt := by omega
      subst hkc
      go_wp2
      go_ret
      refine ⟨ret_int ?_, fun _ => ⟨D, dc, hBr, hown.base hlw⟩, hS⟩
      have := HD.out
      rw [Nat.sub_self] at this
      exact this

theorem validT_iff {m : Nat} {a : Int} : validT m a = true ↔ m ≤ 16384 ∧ 0 ≤ a ∧ a ≤ m := by simp [validT]

theorem blk_pair {w w1 : World} {o : Obj} {t : TypeId} {cs : Array Value} (hb : Below ((w.alloc o).alloc (.cells cs t)).heap.size ((w.alloc o).alloc (.cells cs t)) w1) : Blk w1 (w.heap.size + 1) t cs := by
  have h := (Blk.new (w.alloc o) t cs).below hb (by simp)
  rwa [World.size_alloc] at h
theorem blk_one {w w1 : World} {o : Obj} {t : TypeId} {cs : Array Value} (hb : Below ((w.alloc (.cells cs t)).alloc o).heap.size ((w.alloc (.cells cs t)).alloc o) w1) : Blk w1 w.heap.size t cs :=
  ((Blk.new w t cs).alloc o).below hb (by simp; omega)
/-- Two cells written into a new block of two. -/
theorem blk_two {w1 : World} {g : Nat} {t : TypeId} {u0 u1 v0 v1 : Value} (h : Blk w1 g t #[u0, u1]) : Blk ((w1.setCell ⟨g, 0, none⟩ v0).setCell ⟨g, 1, none⟩ v1) g t #[v0, v1] := (h.set_ 0 v0).set_ 1 v1
theorem below_two {w0 w1 : World} {B g : Nat} (h : Below B w0 w1) (hg : B ≤ g) (v0 v1 : Value) : Below B w0 ((w1.setCell ⟨g, 0, none⟩ v0).setCell ⟨g, 1, none⟩ v1) := (h.setCell hg v0).setCell hg v1

/-- What Draws leaves. -/
def DrawsPost (m : Nat) (a n count : Int) (xs : List Int) (w : World) (e : Ending) (w' : World) : Prop :=
  (drawsE xs m a n count ≠ 0 → e = .returned (.tuple #[.agg #[.slice none 0 0, .int .i64 0], .slice none 0 0, .int .i64 (drawsE xs m a n count)])) ∧
  (drawsE xs m a n count = 0 → ∃ A' c' D dc, e = .returned (.tuple #[.agg #[.slice A' m c', .int .i64 (a + count)], .slice D count.toNat dc, .int .i64 0]) ∧ OwnI w' w.heap.size 3 A' m c' xs ∧ OwnI w' w.heap.size 3 D count.toNat dc ((xs.drop a.toNat).take count.toNat)) ∧
  Below w.heap.size w w'

set_option maxHeartbeats 800000 in
set_option maxRecDepth 100000 in
theorem draws_any (A : Option Addr) (m c : Nat) (a n count : Int) (xs : List Int) (w : World) (h : Ints w w.heap.size A m xs) (hc : count ≤ 9223372036854775807) :
    Calls Tryz.prog 59 #[.agg #[.slice A m c, .int .i64 a], .int .i64 n, .int .i64 count] w (DrawsPost m a n count xs w) := by
  by_cases hv : validT m a = true
  · have HV := Lib.hid hv
    by_cases hl : limT n = false ∨ count < 0
    · have HE : Hid (drawsE xs m a n count = 1) := Lib.hid (by unfold drawsE; rw [if_neg (by simp [hv]), if_pos hl])
      unfold DrawsPost
      rw [HE.out]
      cases hlb : limT n
      · have HLB := Lib.hid hlb
        clear hv hl hlb
        go_enter Tryz.func59, Tryz.ntmps59
        go_wp2_with (first
          | (go_at_call 87; refine (valid_any A m c a _).mono ?_; rintro e w1 ⟨rfl, hb1⟩; rw [HV.out]
             have hbb1 := bnext (ballocs (bbox (.cells #[.slice A m c, .int .i64 a] 75)) (.cells #[.slice none 0 0, .int .i64 0] 75)) hb1
             have hR := blk_pair hb1
             have hO := blk_one hb1
             have hx0 : w1.cell? ⟨w.heap.size + 1, 0, none⟩ = some (.slice none 0 0) := (hR.cell 0).trans rfl
             have hx1 : w1.cell? ⟨w.heap.size + 1, 1, none⟩ = some (.int .i64 0) := (hR.cell 1).trans rfl
             have hz0 := hR.frozen 0
             have hz1 := hR.frozen 1)
          | (go_at_call 88; refine (limit_any n _).mono ?_; rintro e w2 ⟨rfl, rfl⟩; rw [HLB.out]))
        have hB' := blk_two (v0 := .slice none 0 0) (v1 := .int .i64 0) hR
        have hy0 := (hB'.cell 0).trans rfl
        have hy1 := (hB'.cell 1).trans rfl
        exact bodyPost_ret (v := .tuple #[.agg #[.slice none 0 0, .int .i64 0], .slice none 0 0, .int .i64 1]) (by simp [results, Tryz.results59, go_sem, hy0, hy1]) rfl ⟨fun _ => rfl, fun h => (by cases h), below_two hbb1 (by omega) _ _⟩
      · have HLB := Lib.hid hlb
        have hcn : count < 0 := by rcases hl with h0 | h0; · rw [hlb] at h0; cases h0
                                   · exact h0
        clear hv hl hlb
        go_enter Tryz.func59, Tryz.ntmps59
        go_wp2_with (first
          | (go_at_call 87; refine (valid_any A m c a _).mono ?_; rintro e w1 ⟨rfl, hb1⟩; rw [HV.out]
             have hbb1 := bnext (ballocs (bbox (.cells #[.slice A m c, .int .i64 a] 75)) (.cells #[.slice none 0 0, .int .i64 0] 75)) hb1
             have hR := blk_pair hb1
             have hO := blk_one hb1
             have hx0 : w1.cell? ⟨w.heap.size + 1, 0, none⟩ = some (.slice none 0 0) := (hR.cell 0).trans rfl
             have hx1 : w1.cell? ⟨w.heap.size + 1, 1, none⟩ = some (.int .i64 0) := (hR.cell 1).trans rfl
             have hz0 := hR.frozen 0
             have hz1 := hR.frozen 1)
          | (go_at_call 88; refine (limit_any n _).mono ?_; rintro e w2 ⟨rfl, rfl⟩; rw [HLB.out]))
        have hB' := blk_two (v0 := .slice none 0 0) (v1 := .int .i64 0) hR
        have hy0 := (hB'.cell 0).trans rfl
        have hy1 := (hB'.cell 1).trans rfl
        exact bodyPost_ret (v := .tuple #[.agg #[.slice none 0 0, .int .i64 0], .slice none 0 0, .int .i64 1]) (by simp [results, Tryz.results59, go_sem, hy0, hy1]) rfl ⟨fun _ => rfl, fun h => (by cases h), below_two hbb1 (by omega) _ _⟩
    · have hlb : limT n = true := by
        cases hlb : limT n
        · exact absurd (Or.inl hlb) hl
        · rfl
      have hcn : 0 ≤ count := by omega
      have hvd := validT_iff.1 hv
      have hdr : drawsE xs m a n count = drawE xs n a.toNat count.toNat := by unfold drawsE; rw [if_neg (by simp [hv]), if_neg hl]
      have HLB := Lib.hid hlb
      clear hl hlb hv
      obtain ⟨cnt, rfl⟩ : ∃ k : Nat, count = k := ⟨count.toNat, by omega⟩
      obtain ⟨a, rfl⟩ : ∃ k : Nat, a = k := ⟨a.toNat, by omega⟩
      rw [Int.toNat_natCast, Int.toNat_natCast] at hdr
      unfold DrawsPost
      rw [hdr, Int.toNat_natCast, Int.toNat_natCast]
      obtain ⟨er, HE⟩ : ∃ er, Hid (drawE xs n a cnt = er) := ⟨_, Lib.hid rfl⟩
      rw [HE.out]
      clear hdr
      by_cases her : er = 0
      · subst her
        go_enter Tryz.func59, Tryz.ntmps59
        go_wp2_with (first
        | (go_at_call 87; refine (valid_any A m c a _).mono ?_; rintro e w1 ⟨rfl, hb1⟩; rw [HV.out]
           have hbb1 := bnext (ballocs (bbox (.cells #[.slice A m c, .int .i64 a] 75)) (.cells #[.slice none 0 0, .int .i64 0] 75)) hb1
           have hR := blk_pair hb1
           have hO := blk_one hb1
           have hx0 : w1.cell? ⟨w.heap.size, 0, none⟩ = some (.slice A m c) := (hO.cell 0).trans rfl
           have hx1 : w1.cell? ⟨w.heap.size, 1, none⟩ = some (.int .i64 a) := (hO.cell 1).trans rfl)
        | (go_at_call 88; refine (limit_any n _).mono ?_; rintro e w2 ⟨rfl, rfl⟩; rw [HLB.out])
        | (go_at_call 89; refine (draw_any w1.heap.size A m c a n cnt xs _ (Blk.new _ _ _) ((h.upto hbb1).alloc (Nat.le_refl _) _) (by omega) (by omega) (by omega)).mono ?_; rintro e w3 ⟨rfl, hok, hS3⟩
           rw [HE.out] at hok
           rw [HE.out]
           have hbb3 := Step.below (ballocs hbb1 (.cells #[.slice A m c, .int .i64 a, .slice none 0 0] 169)) hS3 (by simp; have := hbb1.size; omega) hbb1.size
           have hR3 := Step.block hS3 (hR.alloc _) (by have := hR.lt; omega)
           have hO3 := Step.block hS3 (hO.alloc _) (by have := hO.lt; omega)
           have hy0 : w3.cell? ⟨w.heap.size + 1, 0, none⟩ = some (.slice none 0 0) := (hR3.cell 0).trans rfl
           have hy1 : w3.cell? ⟨w.heap.size + 1, 1, none⟩ = some (.int .i64 0) := (hR3.cell 1).trans rfl
           have hu0 : w3.cell? ⟨w.heap.size, 0, none⟩ = some (.slice A m c) := (hO3.cell 0).trans rfl
           have hz0 := hR3.frozen 0
           have hz1 := hR3.frozen 1))
        obtain ⟨D, dc, hBd, hown⟩ := hok (by trivial)
        have hd1 : w3.cell? ⟨w1.heap.size, 1, none⟩ = some (.int .i64 ((a : Int) + (cnt : Int))) := (hBd.cell 1).trans rfl
        have hd2 : w3.cell? ⟨w1.heap.size, 2, none⟩ = some (.slice D cnt dc) := (hBd.cell 2).trans rfl
        have hI3 : Ints w3 w3.heap.size A m xs := (h.below hbb3).more hbb3.size
        have hm16 : m ≤ 17592186044416 := by omega
        clear hok
        go_region_held3 (fun w' => w'.cell? ⟨w1.heap.size, 1, none⟩ = some (.int .i64 ((a : Int) + (cnt : Int))) ∧ w'.cell? ⟨w1.heap.size, 2, none⟩ = some (.slice D cnt dc) ∧ w'.cell? ⟨w.heap.size, 0, none⟩ = some (.slice A m c))
          (first | (refine ⟨?_, ?_, ?_⟩ <;> first | exact hd1 | exact hd2 | exact hu0 | exact hd1' | exact hd2' | exact hu0' | exact (hBd5.cell 1).trans rfl | exact (hBd5.cell 2).trans rfl | exact (hO5.cell 0).trans rfl))
          (first
            | (go_at_call 78; refine (clone_any A m c xs _ (by exact hI3) hm16).mono ?_; rintro e w4 ⟨⟨A4, c4, rfl, hI4⟩, hb4⟩
               have hbb4 := bnext hbb3.drew hb4
               have hR4 := (Blk.drew hR3).below hb4 hR3.lt
               have hown4 := hown.drew.belowAll hb4
               have hd1' : w4.cell? ⟨w1.heap.size, 1, none⟩ = some (.int .i64 ((a : Int) + (cnt : Int))) := (hb4.cell (p := ⟨w1.heap.size, 1, none⟩) hBd.lt).trans hd1
               have hd2' : w4.cell? ⟨w1.heap.size, 2, none⟩ = some (.slice D cnt dc) := (hb4.cell (p := ⟨w1.heap.size, 2, none⟩) hBd.lt).trans hd2
               have hu0' : w4.cell? ⟨w.heap.size, 0, none⟩ = some (.slice A m c) := (hb4.cell (p := ⟨w.heap.size, 0, none⟩) hO3.lt).trans hu0
               have hy0' : w4.cell? ⟨w.heap.size + 1, 0, none⟩ = some (.slice none 0 0) := (hR4.cell 0).trans rfl
               have hy1' : w4.cell? ⟨w.heap.size + 1, 1, none⟩ = some (.int .i64 0) := (hR4.cell 1).trans rfl
               have hz0' := hR4.frozen 0
               have hz1' := hR4.frozen 1
               have hR5 := blk_two (v0 := .slice A4 m c4) (v1 := .int .i64 ((a : Int) + (cnt : Int))) hR4
               have hBd5 := (((Blk.drew hBd).below hb4 hBd.lt).far (p := ⟨w.heap.size + 1, 0, none⟩) (by simp; have := hR.lt; omega) (.slice A4 m c4)).far (p := ⟨w.heap.size + 1, 1, none⟩) (by simp; have := hR.lt; omega) (.int .i64 ((a : Int) + (cnt : Int)))
               have hO5 := (((Blk.drew hO3).below hb4 hO3.lt).far (p := ⟨w.heap.size + 1, 0, none⟩) (by simp) (.slice A4 m c4)).far (p := ⟨w.heap.size + 1, 1, none⟩) (by simp) (.int .i64 ((a : Int) + (cnt : Int)))))
        go_wp2
        have hS5 := ((Step.refl (w.heap.size + 1) w4).set 0 (.slice A4 m c4)).set 1 (.int .i64 ((a : Int) + (cnt : Int)))
        have hr1 := hR.lt
        have hsz := World.grownBy.size hS3
        have hsz' : w1.heap.size < w3.heap.size := by simp at hsz; omega
        have hI5 := (hI4.step hS5 (by show w.heap.size + 1 < w3.heap.size; omega)).base (by show w.heap.size ≤ w3.heap.size; omega)
        have hD5 := hown4.step hS5 (by omega)
        have hy0 := (hR5.cell 0).trans rfl
        have hy1 := (hR5.cell 1).trans rfl
        exact bodyPost_ret (v := .tuple #[.agg #[.slice A4 m c4, .int .i64 ((a : Int) + (cnt : Int))], .slice D cnt dc, .int .i64 0]) (by simp [results, Tryz.results59, go_sem, hy0, hy1]) rfl
          ⟨fun h => absurd rfl h, fun _ => ⟨A4, c4, D, dc, rfl, hI5, hD5.base (by omega)⟩, below_two hbb4 (by omega) _ _⟩
      · have hne : (er != 0) = true := by simpa using her
        go_enter Tryz.func59, Tryz.ntmps59
        go_wp2_with (first
        | (go_at_call 87; refine (valid_any A m c a _).mono ?_; rintro e w1 ⟨rfl, hb1⟩; rw [HV.out]
           have hbb1 := bnext (ballocs (bbox (.cells #[.slice A m c, .int .i64 a] 75)) (.cells #[.slice none 0 0, .int .i64 0] 75)) hb1
           have hR := blk_pair hb1
           have hO := blk_one hb1
           have hx0 : w1.cell? ⟨w.heap.size, 0, none⟩ = some (.slice A m c) := (hO.cell 0).trans rfl
           have hx1 : w1.cell? ⟨w.heap.size, 1, none⟩ = some (.int .i64 a) := (hO.cell 1).trans rfl)
        | (go_at_call 88; refine (limit_any n _).mono ?_; rintro e w2 ⟨rfl, rfl⟩; rw [HLB.out])
        | (go_at_call 89; refine (draw_any w1.heap.size A m c a n cnt xs _ (Blk.new _ _ _) ((h.upto hbb1).alloc (Nat.le_refl _) _) (by omega) (by omega) (by omega)).mono ?_; rintro e w3 ⟨rfl, hok, hS3⟩
           rw [HE.out] at hok
           rw [HE.out]
           have hbb3 := Step.below (ballocs hbb1 (.cells #[.slice A m c, .int .i64 a, .slice none 0 0] 169)) hS3 (by simp; have := hbb1.size; omega) hbb1.size
           have hR3 := Step.block hS3 (hR.alloc _) (by have := hR.lt; omega)
           have hO3 := Step.block hS3 (hO.alloc _) (by have := hO.lt; omega)
           have hy0 : w3.cell? ⟨w.heap.size + 1, 0, none⟩ = some (.slice none 0 0) := (hR3.cell 0).trans rfl
           have hy1 : w3.cell? ⟨w.heap.size + 1, 1, none⟩ = some (.int .i64 0) := (hR3.cell 1).trans rfl
           have hu0 : w3.cell? ⟨w.heap.size, 0, none⟩ = some (.slice A m c) := (hO3.cell 0).trans rfl
           have hz0 := hR3.frozen 0
           have hz1 := hR3.frozen 1))
        have hB' := blk_two (v0 := .slice none 0 0) (v1 := .int .i64 0) hR3
        have hy0 := (hB'.cell 0).trans rfl
        have hy1 := (hB'.cell 1).trans rfl
        exact bodyPost_ret (v := .tuple #[.agg #[.slice none 0 0, .int .i64 0], .slice none 0 0, .int .i64 er]) (by simp [results, Tryz.results59, go_sem, hy0, hy1]) rfl ⟨fun _ => rfl, fun h => absurd h her, below_two hbb3 (by omega) _ _⟩
  · have hv' : validT m a = false := by simpa using hv
    have HE : Hid (drawsE xs m a n count = 2) := Lib.hid (by unfold drawsE; rw [if_pos hv'])
    have HV := Lib.hid hv'
    unfold DrawsPost
    rw [HE.out]
    clear hv hv'
    go_enter Tryz.func59, Tryz.ntmps59
    go_wp2_with (first
      | (go_at_call 87; refine (valid_any A m c a _).mono ?_; rintro e w1 ⟨rfl, hb1⟩; rw [HV.out]
         have hbb1 := bnext (ballocs (bbox (.cells #[.slice A m c, .int .i64 a] 75)) (.cells #[.slice none 0 0, .int .i64 0] 75)) hb1
         have hR := blk_pair hb1
         have hO := blk_one hb1
         have hx0 : w1.cell? ⟨w.heap.size + 1, 0, none⟩ = some (.slice none 0 0) := (hR.cell 0).trans rfl
         have hx1 : w1.cell? ⟨w.heap.size + 1, 1, none⟩ = some (.int .i64 0) := (hR.cell 1).trans rfl
         have hz0 := hR.frozen 0
         have hz1 := hR.frozen 1))
    have hB' := blk_two (v0 := .slice none 0 0) (v1 := .int .i64 0) hR
    have hy0 := (hB'.cell 0).trans rfl
    have hy1 := (hB'.cell 1).trans rfl
    exact bodyPost_ret (v := .tuple #[.agg #[.slice none 0 0, .int .i64 0], .slice none 0 0, .int .i64 2]) (by simp [results, Tryz.results59, go_sem, hy0, hy1]) rfl ⟨fun _ => rfl, fun h => (by cases h), below_two hbb1 (by omega) _ _⟩
end Go.Proofs.YtmcgnpdfpfgfpaaGreatDoor

/-! Split -/
namespace Go.Proofs.YtmcgnpdfpfgfpaaGreatDoor
open Go.RowKit
set_option linter.unusedVariables false

/-- Draws where the first numbers may be drawn. -/
theorem draws_first (A : Option Addr) (m c cnt : Nat) (n : Int) (xs : List Int) (w : World) (h : Ints w w.heap.size A m xs) (hm : m ≤ 16384) (hn : 1 ≤ n ∧ n ≤ 2147483647) (hc : cnt ≤ m) (hx : ∀ j, j < cnt → 0 ≤ xs.getD j 0 ∧ xs.getD j 0 < n) :
    Calls Tryz.prog 59 #[.agg #[.slice A m c, .int .i64 0], .int .i64 n, .int .i64 cnt] w fun e w' =>
      (∃ A' c' D dc, e = .returned (.tuple #[.agg #[.slice A' m c', .int .i64 cnt], .slice D cnt dc, .int .i64 0]) ∧ OwnI w' w.heap.size 3 A' m c' xs ∧ OwnI w' w.heap.size 3 D cnt dc (xs.take cnt)) ∧ Below w.heap.size w w' := by
  have hE : drawsE xs m 0 n cnt = 0 := by
    unfold drawsE
    rw [if_neg (by simp [validT]; omega), if_neg (by simp [limT]; omega), Int.toNat_natCast]
    exact (drawE_ok cnt 0 (by omega)).2 ⟨by rw [h.len]; omega, fun j _ h2 => hx j (by omega)⟩
  refine (draws_any A m c 0 n cnt xs w h (by omega)).mono ?_
  rintro e w' ⟨_, hyes, hb⟩
  obtain ⟨A', c', D, dc, he, h1, h2⟩ := hyes hE
  rw [Int.toNat_natCast] at he h2
  rw [Int.zero_add] at he
  exact ⟨⟨A', c', D, dc, he, h1, by simpa using h2⟩, hb⟩

set_option maxRecDepth 100000 in
set_option maxHeartbeats 1600000 in
theorem split_ok (p secret : Int) (th cnt : Nat) (T : Option Addr) (n c : Nat) (ds : List Int) (w : World) (hok : okP p = true) (hse : 0 ≤ secret ∧ secret < p) (hT : Ints w w.heap.size T n ds) (hn : n ≤ 16384) (hth : th ≤ 9) (hthn : th ≤ n) (hds : ∀ i, i < th → 0 ≤ ds.getD i 0 ∧ ds.getD i 0 < p)
    (hcnt : 1 ≤ cnt ∧ cnt ≤ 100) (hcp : (cnt : Int) < p) :
    Calls Tryz.prog 60 #[.agg #[.int .i64 p], .int .i64 secret, .int .i64 th, .int .i64 cnt, .agg #[.slice T n c, .int .i64 0]] w fun e w' =>
      (∃ A' c' T' tc, e = .returned (.tuple #[.slice A' cnt c', .agg #[.slice T' n tc, .int .i64 th], .int .i64 0]) ∧ OwnS w' w.heap.size A' cnt c' (ptsL cnt) (valsP p (secret :: ds.take th) (ptsL cnt))) ∧ Below w.heap.size w w' := by
  obtain ⟨i0, hi0, hz0, hz1, hz2⟩ := info_parts info_int
  have hp := okP_pos hok
  have HO := Lib.hid hok
  have HSI : Hid (inP p secret = true) := Lib.hid (inP_iff.2 hse)
  have HTH : Hid (decide ((0 : Int) ≤ (th : Int) ∧ (th : Int) ≤ 9) = true) := Lib.hid (decide_eq_true (by omega))
  have HDS := Lib.hid hds
  have hc1 : ¬ ((cnt : Int) < 1) := by omega
  have hc1N : ¬ cnt < 1 := by omega
  have hc2 : ¬ (p ≤ (cnt : Int)) := by omega
  have hc3 : ¬ ((512 : Int) < (cnt : Int)) := by omega
  have hc3N : ¬ 512 < cnt := by omega
  have hb0 : Below w.heap.size w (((w.alloc (.cells #[.int .i64 p] 44)).alloc (.cells #[.slice T n c, .int .i64 0] 75)).alloc (.cells #[.slice none 0 0, .int .i64 0] 75)) := ballocs (ballocs (bbox _) _) _
  have hF0 := ((Blk.new w 44 #[.int .i64 p]).alloc (.cells #[.slice T n c, .int .i64 0] 75)).alloc (.cells #[.slice none 0 0, .int .i64 0] 75)
  have hB0 := (Blk.new (w.alloc (.cells #[.int .i64 p] 44)) 75 #[.slice T n c, .int .i64 0]).alloc (.cells #[.slice none 0 0, .int .i64 0] 75)
  have hR0 := Blk.new ((w.alloc (.cells #[.int .i64 p] 44)).alloc (.cells #[.slice T n c, .int .i64 0] 75)) 75 #[.slice none 0 0, .int .i64 0]
  simp only [World.size_alloc] at hB0 hR0
  clear hok hds
  go_enter Tryz.func60, Tryz.ntmps60
  go_wp2_with (first
    | (go_at_call 39; refine (of_yes p _ HO.out).mono ?_; rintro e w1 ⟨rfl, hb1⟩
       have hbb1 := bnext hb0 hb1
       have hF1 := hF0.below hb1 hF0.lt
       have hB1 := hB0.below hb1 hB0.lt
       have hR1 := hR0.below hb1 hR0.lt
       have hf10 : w1.cell? ⟨w.heap.size, 0, none⟩ = some (.int .i64 p) := (hF1.cell 0).trans rfl
       have hb10 : w1.cell? ⟨w.heap.size + 1, 0, none⟩ = some (.slice T n c) := (hB1.cell 0).trans rfl
       have hb11 : w1.cell? ⟨w.heap.size + 1, 1, none⟩ = some (.int .i64 0) := (hB1.cell 1).trans rfl
       have hT1 := hT.upto hbb1
       clear hb1)
    | (go_at_call 82; (refine (has_any p secret _).mono ?_); rintro e w' ⟨rfl, rfl⟩; rw [HSI.out])
    | (go_at_call 90; refine (threshold_any th _).mono ?_; rintro e w' ⟨rfl, rfl⟩; rw [HTH.out])
    | (go_at_call 59; refine (draws_first T n c th p ds _ hT1 hn (by omega) hthn HDS.out).mono ?_; rintro e w2 ⟨⟨T2, tc2, D, dc, rfl, hoT2, hoD2⟩, hb2⟩
       have hbb2 := bnext hbb1 hb2
       have hF2 := hF1.below hb2 hF1.lt
       have hB2 := hB1.below hb2 hB1.lt
       have hR2 := hR1.below hb2 hR1.lt
       have hb20 : w2.cell? ⟨w.heap.size + 1, 0, none⟩ = some (.slice T n c) := (hB2.cell 0).trans rfl
       have hb21 : w2.cell? ⟨w.heap.size + 1, 1, none⟩ = some (.int .i64 0) := (hB2.cell 1).trans rfl
       have hz0 := hB2.frozen 0
       have hz1' := hB2.frozen 1
       have hrl := hR1.lt))
  have hB3 := blk_two (v0 := .slice T2 n tc2) (v1 := .int .i64 th) hB2
  have hS3 := ((Step.refl (w.heap.size + 1) w2).set 0 (.slice T2 n tc2)).set 1 (.int .i64 th)
  have hR3 := Step.block hS3 hR2 (by omega)
  have hoD3 := (hoD2.step hS3 (by omega)).ints
  have hbb3 := below_two hbb2 (g := w.heap.size + 1) (Nat.le_succ _) (.slice T2 n tc2) (.int .i64 th)
  clear hb10 hb11 hb20 hb21 hf10 hz0 hz1' hB0 hB1 hB2 hF0 hF1 hF2 hR0 hR1 hR2 hb0 hbb1 hbb2 hS3 hoD2 hoT2 hb2 hT1
  generalize (w2.setCell ⟨w.heap.size + 1, 0, none⟩ (.slice T2 n tc2)).setCell ⟨w.heap.size + 1, 1, none⟩ (.int .i64 th) = w3 at *
  go_loopw [17, 67] (fun v17 v67 wz => ∃ (k : Nat) (L : Option Addr) (lc : Nat), k ≤ cnt ∧ v17 = .slice L k lc ∧ v67 = .int .i64 k ∧ OwnI wz w3.heap.size 3 L k lc (ptsL k) ∧ Below w3.heap.size w3 wz) (fun _ v67 _ => cnt - (intOf v67).toNat)
  case atStart => exact ⟨0, none, 0, Nat.zero_le _, rfl, rfl, OwnI.nil_, Below.refl _ _⟩
  case round =>
    obtain ⟨k, L, lc, hk, rfl, rfl, hoL, hbz⟩ := hrel
    by_cases hlt : k < cnt
    · have hkc : (k : Int) < (cnt : Int) := by omega
      have HPS := Lib.hid (ptsL_succ k)
      go_wp2_with (at_builtin
                   refine wpList_append_ints rfl _ _ _ rfl w3.heap.size 3 i0 _ Tryz.underlying22 hi0 hz0 hz1 hz2 rfl L k lc (ptsL k) rfl (hoL.alloc _) _ _ 1 1 [(k : Int) + 1] rfl (Ints.one _ _ _) (k + 1) rfl (ptsL k ++ [(k : Int) + 1]) rfl (by omega) (le_alloc hbz.size _) ?_
                   intro L2 lc2 w4 hoL2 _ hb4 _
                   have hbz4 := (hbz.alloc hbz.size (.cells #[.int .i64 ((k : Int) + 1)] 3)).trans hb4)
      go_roundw
      case rel => exact ⟨k + 1, L2, lc2, by omega, rfl, by go_num, by rw [HPS.out]; exact hoL2, hbz4⟩
      case measure => simp [intOf]; omega
    · obtain rfl : k = cnt := by omega
      have hBz := hB3.below hbz hB3.lt
      have hRz := hR3.below hbz hR3.lt
      have hbw := bnext hbb3 hbz
      have hDz := (hoD3.upto hbz).drew
      have hLz := hoL.ints.drew
      have hBl := hBz.lt
      have hRl := hRz.lt
      have hsr : wr.drew.cell? ⟨w.heap.size + 1, 0, none⟩ = some (.slice T2 n tc2) ∧ wr.drew.cell? ⟨w.heap.size + 1, 1, none⟩ = some (.int .i64 th) := ⟨(hBz.cell 0).trans rfl, (hBz.cell 1).trans rfl⟩
      have hbl : Below wr.heap.size wr.drew (wr.drew.alloc (.cells #[.int .i64 secret] 3)) := (Below.refl wr.heap.size wr.drew).alloc (show wr.heap.size ≤ wr.drew.heap.size from Nat.le_refl _) _
      have HSK : Hid (∀ wx, Below wr.heap.size wr.drew wx → wx.cell? ⟨w.heap.size + 1, 0, none⟩ = some (.slice T2 n tc2) ∧ wx.cell? ⟨w.heap.size + 1, 1, none⟩ = some (.int .i64 th)) := Lib.hid fun wx hx => ⟨(((Blk.drew hBz).below hx hBl).cell 0).trans rfl, (((Blk.drew hBz).below hx hBl).cell 1).trans rfl⟩
      have hlit : OwnI (wr.drew.alloc (.cells #[.int .i64 secret] 3)) wr.heap.size 3 (some ⟨wr.heap.size, 0, none⟩) 1 1 [secret] := OwnI.made (Nat.le_refl _) (Blk.new wr.drew 3 #[.int .i64 secret]) rfl (by unfold maxLen; omega)
      have HCA : Hid (allP p (secret :: ds.take th) = true) := Lib.hid (allP_iff.2 fun x hx => by
        rcases List.mem_cons.1 hx with h1 | h1
        · rw [h1]; exact hse
        · obtain ⟨j, hj, _, rfl⟩ := take_mem h1
          exact HDS.out j hj)
      have HPA := Lib.hid (ptsL_allP hcp)
      go_wp2_with fail
      go_region_held3 (fun w' => w'.cell? ⟨w.heap.size + 1, 0, none⟩ = some (.slice T2 n tc2) ∧ w'.cell? ⟨w.heap.size + 1, 1, none⟩ = some (.int .i64 th)) (first | exact hsr | exact HSK.out _ hbl | exact HSK.out _ hbl5 | exact HSK.out _ hbl6 | exact hs7)
        (first
          | ((refine step_append_ints (w := wr.drew.alloc (.cells #[.int .i64 secret] 3)) rfl (.tmp 78) (.tmp 79) 22 rfl wr.heap.size 3 i0 _ Tryz.underlying22 hi0 hz0 hz1 hz2 rfl (some ⟨wr.heap.size, 0, none⟩) 1 1 [secret] (by simp [Act.eval]) hlit wr.heap.size D th dc (ds.take th) (by simp [Act.eval]) (hDz.below hbl) (1 + th) rfl (secret :: ds.take th) rfl (by omega) hbl.size ?_); intro A5 c5 w5 hown5 _ hb5
             have hbl5 := hbl.trans hb5
             have hL5 := (hLz.below hbl5).more hbl5.size)
          | (go_at_call 91; refine (shares_any p A5 L (1 + th) c5 k lc (secret :: ds.take th) (ptsL k) _ hp hown5.ints hL5 HCA.out HPA.out (by omega) (by omega)).mono ?_; rintro e w6 ⟨⟨A6, c6, rfl, hoS6⟩, hb6⟩
             have hbl6 := hbl5.trans (hb6.mono hbl5.size)
             have hR6 := (Blk.drew hRz).below hbl6 hRl
             have hr0 : w6.cell? ⟨w.heap.size + 1 + 1, 0, none⟩ = some (.slice none 0 0) := (hR6.cell 0).trans rfl
             have hr1 : w6.cell? ⟨w.heap.size + 1 + 1, 1, none⟩ = some (.int .i64 0) := (hR6.cell 1).trans rfl
             have hg0 := hR6.frozen 0
             have hg1 := hR6.frozen 1
             have hB6 := (Blk.drew hBz).below hbl6 hBl
             have hB7 := (hB6.far (p := ⟨w.heap.size + 1 + 1, 0, none⟩) (by simp) (.slice T2 n tc2)).far (p := ⟨w.heap.size + 1 + 1, 1, none⟩) (by simp) (.int .i64 th)
             have hs7 : ((w6.setCell ⟨w.heap.size + 1 + 1, 0, none⟩ (.slice T2 n tc2)).setCell ⟨w.heap.size + 1 + 1, 1, none⟩ (.int .i64 th)).cell? ⟨w.heap.size + 1, 0, none⟩ = some (.slice T2 n tc2) ∧ ((w6.setCell ⟨w.heap.size + 1 + 1, 0, none⟩ (.slice T2 n tc2)).setCell ⟨w.heap.size + 1 + 1, 1, none⟩ (.int .i64 th)).cell? ⟨w.heap.size + 1, 1, none⟩ = some (.int .i64 th) := ⟨(hB7.cell 0).trans rfl, (hB7.cell 1).trans rfl⟩))
      all_goals go_wp2
      all_goals have hR7 := blk_two (v0 := .slice T2 n tc2) (v1 := .int .i64 th) hR6
      all_goals have hy0 := (hR7.cell 0).trans rfl
      all_goals have hy1 := (hR7.cell 1).trans rfl
      all_goals have hwr := hbw.size
      all_goals have hl5 := hbl5.size
      all_goals have hl5' : wr.heap.size ≤ w5.heap.size := hl5
      all_goals have hoS7 := ((hoS6.step (((Step.refl (w.heap.size + 1 + 1) w6).set 0 (.slice T2 n tc2)).set 1 (.int .i64 th)) (by omega)).base (base' := w.heap.size) (by omega))
      all_goals have hbE := below_two (hbw.drew.trans (hbl6.mono hbw.size)) (g := w.heap.size + 1 + 1) (by omega) (.slice T2 n tc2) (.int .i64 th)
      all_goals exact bodyPost_ret (v := .tuple #[.slice A6 k c6, .agg #[.slice T2 n tc2, .int .i64 th], .int .i64 0]) (by simp [results, Tryz.results60, go_sem, hy0, hy1]) rfl ⟨⟨A6, c6, T2, tc2, rfl, hoS7⟩, hbE⟩
end Go.Proofs.YtmcgnpdfpfgfpaaGreatDoor
