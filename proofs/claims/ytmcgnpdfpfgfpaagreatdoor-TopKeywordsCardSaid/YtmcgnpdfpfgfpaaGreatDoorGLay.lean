/-
  Words for memory and contracts of small functions of the second form. Conditions: those of each lemma.
-/
import Derived.Test.YtmcgnpdfpfgfpaaGreatDoorGen
import Derived.Test.YtmcgnpdfpfgfpaaGreatDoorGCrv
import Derived.Deep.QuietTactic
import Derived.Deep.RegionHeld3
import Derived.Test.YtmcgnpdfpfgfpaaGreatDoorGHsh
import Derived.OrdersIn
import Derived.Orders
import Derived.CallsIn
import Derived.RangeFuncCalls
import Derived.TacticsIn
import Derived.Shelf.Abstract
import Derived.Shelf.RegionOpen
import Derived.WalkKit
import Derived.OwnWalkIn
import Derived.TacticsInMore
import Derived.LoopNIn
import Derived.LoopIn
import Derived.Test.YtmcgnpdfpfgfpaaGreatDoorPlain
import Derived.Test.YtmcgnpdfpfgfpaaGreatDoorGBas
/-! LyA -/
namespace Go.Proofs.YtmcgnpdfpfgfpaaGreatDoor
open Go.RowKit
set_option linter.unusedVariables false

theorem digits_ok (w : World) : Calls Tryz.prog 48 #[.int .i64 257] w fun e w' => e = .returned (.int .i64 1) ∧ w = w' := by
  go_enter Tryz.func48, Tryz.ntmps48
  go_wp2
  go_loop [3, 4] (fun v3 v4 => v3 = .int .i64 1 ∧ v4 = .int .i64 257) (fun _ _ => 0)
  case atStart => exact ⟨rfl, rfl⟩
  case round =>
  obtain ⟨rfl, rfl⟩ := hrel
  go_wp2
  go_ret
  exact ⟨rfl, rfl⟩

theorem wide_ok (n : Nat) (w : World) (h1 : 1 ≤ n) (h2 : n ≤ 64) : Calls Tryz.prog 40 #[.int .i64 n] w fun e w' => e = .returned (.bool true) ∧ w = w' := by
  have h1i : (1 : Int) ≤ (n : Int) := by omega
  have h2i : (n : Int) ≤ 64 := by omega
  go_enter Tryz.func40, Tryz.ntmps40
  go_wp2
  go_ret
  exact ⟨rfl, rfl⟩

theorem needed_ok (slots L : Nat) (w : World) (h1 : 1 ≤ slots) (h2 : slots ≤ 4) (hL : L = slots * 37) : Calls Tryz.prog 41 #[.int .i64 257, .int .i64 40, .int .i64 L] w fun e w' => e = .returned (.int .i64 slots) ∧ w = w' := by
  subst hL
  obtain rfl | rfl | rfl | rfl : slots = 1 ∨ slots = 2 ∨ slots = 3 ∨ slots = 4 := by omega
  all_goals
    go_enter Tryz.func41, Tryz.ntmps41
    go_wp2_with (go_at_call 48; refine (digits_ok _).mono ?_; rintro e w2 ⟨rfl, rfl⟩)
    go_ret
    exact ⟨rfl, rfl⟩
end Go.Proofs.YtmcgnpdfpfgfpaaGreatDoor

/-! LyB -/
namespace Go.Proofs.YtmcgnpdfpfgfpaaGreatDoor
open Go.RowKit
set_option linter.unusedVariables false

/-- Places of records of 'slots' rows each, one behind the other. -/
def Plcs (w : World) (B : Nat) (A : Option Addr) (nb slots : Nat) : Prop :=
  0 < nb → ∃ b off, A = some ⟨b, off, none⟩ ∧ b < B ∧ ∀ i, i < nb → w.cell? ⟨b, off + i * 3, none⟩ = some (.int .i64 ((i * slots : Nat) : Int)) ∧ w.cell? ⟨b, off + i * 3 + 1, none⟩ = some (.int .i64 slots) ∧ w.cell? ⟨b, off + i * 3 + 2, none⟩ = some (.int .i64 ((slots * 37 : Nat) : Int))
theorem Plcs.upto {w w0 : World} {A : Option Addr} {nb slots : Nat} (h : Plcs w0 w0.heap.size A nb slots) (hb : Below w0.heap.size w0 w) : Plcs w w.heap.size A nb slots := fun hn => by
  obtain ⟨b, off, e, hl, hc⟩ := h hn
  refine ⟨b, off, e, Nat.lt_of_lt_of_le hl hb.size, fun i hi => ?_⟩
  obtain ⟨h1, h2, h3⟩ := hc i hi
  exact ⟨(hb.cell (p := ⟨b, off + i * 3, none⟩) hl).trans h1, (hb.cell (p := ⟨b, off + i * 3 + 1, none⟩) hl).trans h2, (hb.cell (p := ⟨b, off + i * 3 + 2, none⟩) hl).trans h3⟩

set_option maxRecDepth 100000 in
set_option maxHeartbeats 4000000 in
theorem lcheck_ok (A : Option Addr) (nb c slots T : Nat) (w : World) (h1 : 1 ≤ slots) (h2 : slots ≤ 4) (hnb : nb ≤ 64) (hT : nb * slots = T) (hP : Plcs w w.heap.size A nb slots) :
    Calls Tryz.prog 46 #[.agg #[.int .i64 40, .slice A nb c], .int .i64 T] w fun e w' => e = .returned (.int .i64 0) ∧ Below w.heap.size w w' := by
  have HT := Lib.hid hT
  have hTl : T ≤ 256 := by rw [← hT]; exact Nat.mul_le_mul hnb h2
  clear hT
  have hb0 := bbox (w0 := w) (.cells #[.int .i64 40, .slice A nb c] 48)
  have hB0 := Blk.new w 48 #[.int .i64 40, .slice A nb c]
  have hnbi : ¬ (256 : Int) < (nb : Int) := by omega
  go_enter Tryz.func46, Tryz.ntmps46
  go_upto_region 5 with (go_at_call 40; refine (wide_ok 40 _ (by omega) (by omega)).mono ?_; rintro e w2 ⟨rfl, rfl⟩)
  go_wp2_with fail
  go_loopw [5, 21] (fun v5 v21 wx => ∃ i : Nat, i ≤ nb ∧ v5 = .int .i64 ((i * slots : Nat) : Int) ∧ v21 = .int .i64 i ∧ Below w.heap.size w wx) (fun _ v21 _ => nb - (intOf v21).toNat)
  case atStart => exact ⟨0, Nat.zero_le _, by rw [Nat.zero_mul]; rfl, rfl, hb0⟩
  case round =>
  clear hB0 hb0
  obtain ⟨i, hi, rfl, rfl, hbx⟩ := hrel
  by_cases hin : i < nb
  · have hii : (i : Int) < (nb : Int) := by omega
    have hi0 : (0 : Int) ≤ (i : Int) := by omega
    obtain ⟨b, off, rfl, hbl, hc⟩ := hP (by omega)
    obtain ⟨hc0, hc1, hc2⟩ := hc i hin
    have hd0 := (hbx.cell (p := ⟨b, off + i * 3, none⟩) hbl).trans hc0
    have hd1 := (hbx.cell (p := ⟨b, off + i * 3 + 1, none⟩) hbl).trans hc1
    have hd2 := (hbx.cell (p := ⟨b, off + i * 3 + 2, none⟩) hbl).trans hc2
    have hr1 : (i + 1) * slots ≤ nb * slots := Nat.mul_le_mul_right _ hin
    have hr2 : (i + 1) * slots = i * slots + slots := Nat.succ_mul _ _
    rw [hr2, HT.out] at hr1
    have HR2 := Lib.hid hr2
    clear hr2 hc hc0 hc1 hc2
    obtain ⟨r, hr⟩ : ∃ r, i * slots = r := ⟨_, rfl⟩
    rw [hr] at hd0 hr1 HR2
    rw [hr]
    obtain ⟨L, hL⟩ : ∃ L, slots * 37 = L := ⟨_, rfl⟩
    have hL2 : L ≤ 1024 := by omega
    rw [hL] at hd2
    clear hr hL
    have hq0 : ¬ ((L : Int) < 0) := by omega
    have hq1 : ¬ ((1024 : Int) < (L : Int)) := by omega
    have hq2 : ¬ ((slots : Int) < 1) := by omega
    have hq3 : ¬ ((1024 : Int) < (slots : Int)) := by omega
    have hq4 : ¬ ((T : Int) - (r : Int) < (slots : Int)) := by omega
    have hne : ((r : Int) != (r : Int)) = false := by simp
    go_wp2
    go_roundw
    case rel => exact ⟨i + 1, by omega, by rw [HR2.out]; go_num, by go_num, hbx.alloc hbx.size _⟩
    case measure => simp [intOf]; omega
  · obtain rfl : nb = i := by omega
    rw [HT.out]
    have hne : ((T : Int) != (T : Int)) = false := by simp
    go_wp2
    go_ret
    exact ⟨rfl, hbx⟩
end Go.Proofs.YtmcgnpdfpfgfpaaGreatDoor

/-! LyC -/
namespace Go.Proofs.YtmcgnpdfpfgfpaaGreatDoor
open Go.RowKit
set_option linter.unusedVariables false

theorem most1_ok (slots : Nat) (a0 a2 b0 b2 : Int) (w : World) : Calls Tryz.prog 55 #[.agg #[.int .i64 a0, .int .i64 slots, .int .i64 a2], .agg #[.int .i64 b0, .int .i64 slots, .int .i64 b2]] w fun e w' => e = .returned (.int .i64 1) ∧ Below w.heap.size w w' := by
  have hb := (bbox (w0 := w) (.cells #[.int .i64 a0, .int .i64 slots, .int .i64 a2] 109))
  have hb2 := hb.alloc hb.size (.cells #[.int .i64 b0, .int .i64 slots, .int .i64 b2] 109)
  have hn : ¬ (slots : Int) < (slots : Int) := by omega
  go_enter Tryz.func55, Tryz.ntmps55
  go_wp2
  go_ret
  exact ⟨rfl, hb2⟩

set_option maxRecDepth 100000 in
set_option maxHeartbeats 4000000 in
theorem maxf_ok (A : Option Addr) (nb c slots : Nat) (w : World) (hn0 : 0 < nb) (hnb : nb ≤ 64) (hP : Plcs w w.heap.size A nb slots) :
    Calls Tryz.prog 54 #[.slice A nb c, .func (.func 55) #[] #[]] w fun e w' => ∃ x y : Int, e = .returned (.agg #[.int .i64 x, .int .i64 slots, .int .i64 y]) ∧ Below w.heap.size w w' := by
  have hn1 : ¬ (nb : Int) < 1 := by omega
  obtain ⟨b, off, rfl, hbl, hc⟩ := hP hn0
  obtain ⟨hc0, hc1, hc2⟩ := hc 0 hn0
  simp only [Nat.zero_mul, Nat.add_zero] at hc0 hc1 hc2
  obtain ⟨a, ha⟩ : ∃ a : Int, ((0 : Nat) : Int) = a := ⟨_, rfl⟩
  rw [ha] at hc0
  obtain ⟨L, hL⟩ : ∃ L : Int, ((slots * 37 : Nat) : Int) = L := ⟨_, rfl⟩
  rw [hL] at hc2 hc
  have hn0i : (0 : Int) < (nb : Int) := by omega
  have hbA := bbox (w0 := w) (.cells #[.int .i64 0, .int .i64 0, .int .i64 0] 109)
  have hbB := hbA.alloc hbA.size (.cells #[.int .i64 a, .int .i64 slots, .int .i64 L] 109)
  have hNA : Blk ((w.alloc (.cells #[.int .i64 0, .int .i64 0, .int .i64 0] 109)).alloc (.cells #[.int .i64 a, .int .i64 slots, .int .i64 L] 109)) w.heap.size 109 #[.int .i64 0, .int .i64 0, .int .i64 0] := (Blk.new w _ _).alloc _
  have hNB : Blk ((w.alloc (.cells #[.int .i64 0, .int .i64 0, .int .i64 0] 109)).alloc (.cells #[.int .i64 a, .int .i64 slots, .int .i64 L] 109)) (w.heap.size + 1) 109 #[.int .i64 a, .int .i64 slots, .int .i64 L] := by
    have h := Blk.new (w.alloc (.cells #[.int .i64 0, .int .i64 0, .int .i64 0] 109)) 109 #[.int .i64 a, .int .i64 slots, .int .i64 L]
    rwa [World.size_alloc] at h
  have HC := Lib.hid hc
  clear ha hL hc
  go_enter Tryz.func54, Tryz.ntmps54
  go_wp2_with fail
  go_loopw [6] (fun v6 wx => ∃ (i : Nat) (x y : Int), 1 ≤ i ∧ i ≤ nb ∧ v6 = .int .i64 i ∧ Blk wx w.heap.size 109 #[.int .i64 0, .int .i64 0, .int .i64 0] ∧ Blk wx (w.heap.size + 1) 109 #[.int .i64 x, .int .i64 slots, .int .i64 y] ∧ Below w.heap.size w wx) (fun v6 _ => nb - (intOf v6).toNat)
  case atStart => exact ⟨1, a, L, Nat.le_refl _, hn0, rfl, hNA, hNB, hbB⟩
  case round =>
  clear hNA hNB hbA hbB
  obtain ⟨i, x, y, hi1, hi, rfl, hA, hB, hbx⟩ := hrel
  by_cases hin : i < nb
  · have hii : (i : Int) < (nb : Int) := by omega
    have hi0 : (0 : Int) ≤ (i : Int) := by omega
    obtain ⟨hc0, hc1, hc2⟩ := HC.out i hin
    have hd0 := (hbx.cell (p := ⟨b, off + i * 3, none⟩) hbl).trans hc0
    have hd1 := (hbx.cell (p := ⟨b, off + i * 3 + 1, none⟩) hbl).trans hc1
    have hd2 := (hbx.cell (p := ⟨b, off + i * 3 + 2, none⟩) hbl).trans hc2
    obtain ⟨r, hr⟩ : ∃ r : Int, ((i * slots : Nat) : Int) = r := ⟨_, rfl⟩
    rw [hr] at hd0
    clear hr hc0 hc1 hc2
    have he0 : wr.cell? ⟨w.heap.size + 1, 0, none⟩ = some (.int .i64 x) := (hB.cell 0).trans rfl
    have he1 : wr.cell? ⟨w.heap.size + 1, 1, none⟩ = some (.int .i64 slots) := (hB.cell 1).trans rfl
    have he2 : wr.cell? ⟨w.heap.size + 1, 2, none⟩ = some (.int .i64 y) := (hB.cell 2).trans rfl
    have hlt := hbx.size
    have hltb := hB.lt
    go_upto_region 7 with fail
    go_region_held3 (fun w' => (w'.cell? ⟨b, off + i * 3, none⟩ = some (.int .i64 r) ∧ w'.cell? ⟨b, off + i * 3 + 1, none⟩ = some (.int .i64 slots) ∧ w'.cell? ⟨b, off + i * 3 + 2, none⟩ = some (.int .i64 L)) ∧ w'.cell? ⟨w.heap.size + 1, 0, none⟩ = some (.int .i64 x) ∧ w'.cell? ⟨w.heap.size + 1, 1, none⟩ = some (.int .i64 slots) ∧ w'.cell? ⟨w.heap.size + 1, 2, none⟩ = some (.int .i64 y)) (first | exact ⟨⟨hd0, hd1, hd2⟩, he0, he1, he2⟩ | exact hS2)
      (first
        | (go_at_call 55
           refine (most1_ok slots r L x y _).mono ?_
           rintro e w2 ⟨rfl, hb2⟩
           have hS2 : (w2.cell? ⟨b, off + i * 3, none⟩ = some (.int .i64 r) ∧ w2.cell? ⟨b, off + i * 3 + 1, none⟩ = some (.int .i64 slots) ∧ w2.cell? ⟨b, off + i * 3 + 2, none⟩ = some (.int .i64 L)) ∧ w2.cell? ⟨w.heap.size + 1, 0, none⟩ = some (.int .i64 x) ∧ w2.cell? ⟨w.heap.size + 1, 1, none⟩ = some (.int .i64 slots) ∧ w2.cell? ⟨w.heap.size + 1, 2, none⟩ = some (.int .i64 y) := ⟨⟨(hb2.cell (p := ⟨b, off + i * 3, none⟩) (show b < wr.heap.size by omega)).trans hd0, (hb2.cell (p := ⟨b, off + i * 3 + 1, none⟩) (show b < wr.heap.size by omega)).trans hd1, (hb2.cell (p := ⟨b, off + i * 3 + 2, none⟩) (show b < wr.heap.size by omega)).trans hd2⟩, (hb2.cell (p := ⟨w.heap.size + 1, 0, none⟩) hltb).trans he0, (hb2.cell (p := ⟨w.heap.size + 1, 1, none⟩) hltb).trans he1, (hb2.cell (p := ⟨w.heap.size + 1, 2, none⟩) hltb).trans he2⟩))
    have hb2' : Below wr.heap.size wr w2 := ⟨hb2.os, hb2.tape, hb2.output, hb2.size, hb2.block⟩
    have hA2 : Blk w2 w.heap.size _ _ := hA.below hb2' hA.lt
    have hB2 : Blk w2 (w.heap.size + 1) _ _ := hB.below hb2' hB.lt
    have hbx2 := hbx.trans (hb2'.mono hbx.size)
    obtain ⟨⟨hx0, hx1, hx2⟩, hy0, hy1, hy2⟩ := hS2
    have hf0 := hB2.frozen 0
    have hf1 := hB2.frozen 1
    have hf2 := hB2.frozen 2
    have hB3 : Blk (((w2.setCell ⟨w.heap.size + 1, 0, none⟩ (.int .i64 r)).setCell ⟨w.heap.size + 1, 1, none⟩ (.int .i64 slots)).setCell ⟨w.heap.size + 1, 2, none⟩ (.int .i64 L)) (w.heap.size + 1) 109 #[.int .i64 r, .int .i64 slots, .int .i64 L] := ((hB2.set_ 0 (.int .i64 r)).set_ 1 (.int .i64 slots)).set_ 2 (.int .i64 L)
    have hA3 : Blk (((w2.setCell ⟨w.heap.size + 1, 0, none⟩ (.int .i64 r)).setCell ⟨w.heap.size + 1, 1, none⟩ (.int .i64 slots)).setCell ⟨w.heap.size + 1, 2, none⟩ (.int .i64 L)) w.heap.size _ _ := ((hA2.far (p := ⟨w.heap.size + 1, 0, none⟩) (by show w.heap.size ≠ w.heap.size + 1; omega) (.int .i64 r)).far (p := ⟨w.heap.size + 1, 1, none⟩) (by show w.heap.size ≠ w.heap.size + 1; omega) (.int .i64 slots)).far (p := ⟨w.heap.size + 1, 2, none⟩) (by show w.heap.size ≠ w.heap.size + 1; omega) (.int .i64 L)
    have hb3 := ((hbx2.setCell (p := ⟨w.heap.size + 1, 0, none⟩) (Nat.le_succ _) (.int .i64 r)).setCell (p := ⟨w.heap.size + 1, 1, none⟩) (Nat.le_succ _) (.int .i64 slots)).setCell (p := ⟨w.heap.size + 1, 2, none⟩) (Nat.le_succ _) (.int .i64 L)
    have HA3 := Lib.hid hA3
    have HB3 := Lib.hid hB3
    have HBB := Lib.hid hb3
    clear hA2 hB2 hA3 hB3 hb3 hb2 hb2' hbx2 he0 he1 he2 hd0 hd1 hd2 hA hB
    go_wp2
    go_roundw
    case rel => exact ⟨i + 1, r, L, by omega, by omega, by go_num, HA3.out, HB3.out, HBB.out⟩
    case measure => simp [intOf]; omega
  · obtain rfl : nb = i := by omega
    have he0 : wr.cell? ⟨w.heap.size + 1, 0, none⟩ = some (.int .i64 x) := (hB.cell 0).trans rfl
    have he1 : wr.cell? ⟨w.heap.size + 1, 1, none⟩ = some (.int .i64 slots) := (hB.cell 1).trans rfl
    have he2 : wr.cell? ⟨w.heap.size + 1, 2, none⟩ = some (.int .i64 y) := (hB.cell 2).trans rfl
    have ha0 : wr.cell? ⟨w.heap.size, 0, none⟩ = some (.int .i64 0) := (hA.cell 0).trans rfl
    have ha1 : wr.cell? ⟨w.heap.size, 1, none⟩ = some (.int .i64 0) := (hA.cell 1).trans rfl
    have ha2 : wr.cell? ⟨w.heap.size, 2, none⟩ = some (.int .i64 0) := (hA.cell 2).trans rfl
    have hf0 := hA.frozen 0
    have hf1 := hA.frozen 1
    have hf2 := hA.frozen 2
    have HBX := Lib.hid (((hbx.setCell (p := ⟨w.heap.size, 0, none⟩) (Nat.le_refl _) (.int .i64 x)).setCell (p := ⟨w.heap.size, 1, none⟩) (Nat.le_refl _) (.int .i64 slots)).setCell (p := ⟨w.heap.size, 2, none⟩) (Nat.le_refl _) (.int .i64 y))
    have hA4 : Blk (((wr.setCell ⟨w.heap.size, 0, none⟩ (.int .i64 x)).setCell ⟨w.heap.size, 1, none⟩ (.int .i64 slots)).setCell ⟨w.heap.size, 2, none⟩ (.int .i64 y)) w.heap.size 109 #[.int .i64 x, .int .i64 slots, .int .i64 y] := ((hA.set_ 0 (.int .i64 x)).set_ 1 (.int .i64 slots)).set_ 2 (.int .i64 y)
    have HZ0 := Lib.hid ((hA4.cell 0).trans rfl : (((wr.setCell ⟨w.heap.size, 0, none⟩ (.int .i64 x)).setCell ⟨w.heap.size, 1, none⟩ (.int .i64 slots)).setCell ⟨w.heap.size, 2, none⟩ (.int .i64 y)).cell? ⟨w.heap.size, 0, none⟩ = some (.int .i64 x))
    have HZ1 := Lib.hid ((hA4.cell 1).trans rfl : (((wr.setCell ⟨w.heap.size, 0, none⟩ (.int .i64 x)).setCell ⟨w.heap.size, 1, none⟩ (.int .i64 slots)).setCell ⟨w.heap.size, 2, none⟩ (.int .i64 y)).cell? ⟨w.heap.size, 1, none⟩ = some (.int .i64 slots))
    have HZ2 := Lib.hid ((hA4.cell 2).trans rfl : (((wr.setCell ⟨w.heap.size, 0, none⟩ (.int .i64 x)).setCell ⟨w.heap.size, 1, none⟩ (.int .i64 slots)).setCell ⟨w.heap.size, 2, none⟩ (.int .i64 y)).cell? ⟨w.heap.size, 2, none⟩ = some (.int .i64 y))
    clear hA4
    go_wp2
    have hz0 := HZ0.out
    have hz1 := HZ1.out
    have hz2 := HZ2.out
    refine bodyPost_ret (v := .agg #[.int .i64 x, .int .i64 slots, .int .i64 y]) (by simp [results, Tryz.results54, go_sem, hz0, hz1, hz2]) rfl ⟨x, y, rfl, HBX.out⟩

set_option maxRecDepth 100000 in
set_option maxHeartbeats 4000000 in
theorem most_ok (A : Option Addr) (nb c slots : Nat) (w : World) (hn0 : 0 < nb) (hnb : nb ≤ 64) (hP : Plcs w w.heap.size A nb slots) :
    Calls Tryz.prog 20 #[.agg #[.int .i64 40, .slice A nb c]] w fun e w' => e = .returned (.int .i64 slots) ∧ Below w.heap.size w w' := by
  have hb0 := bbox (w0 := w) (.cells #[.int .i64 40, .slice A nb c] 48)
  have hP0 := hP.upto hb0
  have hne : ((nb : Int) == 0) = false := beq_eq_false_iff_ne.2 (by omega)
  have hnz : ¬ nb = 0 := by omega
  have hfld : ∀ (w2 : World) (x y : Int), (Instr.field 109 (.agg #[.int .i64 x, .int .i64 slots, .int .i64 y]) 1).run Tryz.prog w2 = .ok (.int .i64 slots) w2 := fun _ _ _ => by kernel_rfl
  go_enter Tryz.func20, Tryz.ntmps20
  go_wp2_with (go_at_call 54
               refine (maxf_ok A nb c slots _ hn0 hnb hP0).mono ?_
               rintro e w2 ⟨x, y, rfl, hb2⟩)
  go_ret
  exact ⟨rfl, bnext hb0 hb2⟩
end Go.Proofs.YtmcgnpdfpfgfpaaGreatDoor

/-! LyD -/
namespace Go.Proofs.YtmcgnpdfpfgfpaaGreatDoor
open Go.RowKit
set_option linter.unusedVariables false

set_option maxRecDepth 100000 in
set_option maxHeartbeats 4000000 in
theorem asked_ok (A : Option Addr) (nb c slots T b : Nat) (w : World) (h1 : 1 ≤ slots) (h2 : slots ≤ 4) (hnb : nb ≤ 64) (hT : nb * slots = T) (hb : b < nb) (hP : Plcs w w.heap.size A nb slots) :
    Calls Tryz.prog 13 #[.agg #[.int .i64 40, .slice A nb c], .int .i64 T, .int .i64 b] w fun e w' => ∃ A2 c2, e = .returned (.tuple #[.slice A2 slots c2, .int .i64 0]) ∧ OwnI w' w.heap.size 3 A2 slots c2 ((List.range slots).map fun k => ((b * slots + k : Nat) : Int)) ∧ Below w.heap.size w w' := by
  obtain ⟨i0, hi0, hz0, hz1, hz2⟩ := info_parts info_int
  have HT := Lib.hid hT
  have hTl : T ≤ 256 := by rw [← hT]; exact Nat.mul_le_mul hnb h2
  have hn0 : 0 < nb := by omega
  have hr1 : (b + 1) * slots ≤ nb * slots := Nat.mul_le_mul_right _ hb
  rw [Nat.succ_mul, hT] at hr1
  obtain ⟨bP, off, rfl, hbl, hc⟩ := hP hn0
  obtain ⟨hc0, hc1, hc2⟩ := hc b hb
  obtain ⟨r, hr⟩ : ∃ r, b * slots = r := ⟨_, rfl⟩
  rw [hr] at hc0 hr1
  rw [hr]
  obtain ⟨L, hL⟩ : ∃ L, slots * 37 = L := ⟨_, rfl⟩
  rw [hL] at hc2
  clear hT hr hc hL
  have hb0 := bbox (w0 := w) (.cells #[.int .i64 40, .slice (some ⟨bP, off, none⟩) nb c] 48)
  have hB0 := Blk.new w 48 #[.int .i64 40, .slice (some ⟨bP, off, none⟩) nb c]
  have hP0 := hP.upto hb0
  have hbi : (b : Int) < (nb : Int) := by omega
  have hbi0 : ¬ (b : Int) < 0 := by omega
  have hbi1 : (0 : Int) ≤ (b : Int) := by omega
  have hbi2 : ¬ (nb : Int) ≤ (b : Int) := by omega
  go_enter Tryz.func13, Tryz.ntmps13
  go_upto_region 4 with (go_at_call 46
                         refine (lcheck_ok (some ⟨bP, off, none⟩) nb c slots T _ h1 h2 hnb HT.out hP0).mono ?_
                         rintro e w1 ⟨rfl, hb1⟩)
  have hB1 := hB0.below hb1 hB0.lt
  have hbw1 := bnext hb0 hb1
  have hy0 : w1.cell? ⟨w.heap.size, 0, none⟩ = some (.int .i64 40) := (hB1.cell 0).trans rfl
  have hy1 : w1.cell? ⟨w.heap.size, 1, none⟩ = some (.slice (some ⟨bP, off, none⟩) nb c) := (hB1.cell 1).trans rfl
  have hd0 := (hbw1.cell (p := ⟨bP, off + b * 3, none⟩) hbl).trans hc0
  have hd1 := (hbw1.cell (p := ⟨bP, off + b * 3 + 1, none⟩) hbl).trans hc1
  have hd2 := (hbw1.cell (p := ⟨bP, off + b * 3 + 2, none⟩) hbl).trans hc2
  have hb2 := bbox (w0 := w1) (.cells #[.int .i64 r, .int .i64 slots, .int .i64 L] 109)
  have hN2 := Blk.new w1 109 #[.int .i64 r, .int .i64 slots, .int .i64 L]
  have hB2 := hB1.below hb2 hB1.lt
  have hbw2 := bnext hbw1 hb2
  have hP2 := hP.upto hbw2
  have hz0' : (w1.alloc (.cells #[.int .i64 r, .int .i64 slots, .int .i64 L] 109)).cell? ⟨w.heap.size, 0, none⟩ = some (.int .i64 40) := (hB2.cell 0).trans rfl
  have hz1' : (w1.alloc (.cells #[.int .i64 r, .int .i64 slots, .int .i64 L] 109)).cell? ⟨w.heap.size, 1, none⟩ = some (.slice (some ⟨bP, off, none⟩) nb c) := (hB2.cell 1).trans rfl
  go_upto_region 9 with (go_at_call 20
                         refine (most_ok (some ⟨bP, off, none⟩) nb c slots _ hn0 hnb hP2).mono ?_
                         rintro e w3 ⟨rfl, hb3⟩)
  have hN3 := hN2.below hb3 hN2.lt
  have hbw3 := bnext hbw2 hb3
  clear hz0' hz1' hN2 hP2 hB2 hb2 hb3
  go_wp2_with fail
  go_loopw [10, 34] (fun v10 v34 wx => ∃ (k : Nat) (A2 : Option Addr) (c2 : Nat), k ≤ slots ∧ v10 = .slice A2 k c2 ∧ v34 = .int .i64 k ∧ OwnI wx w3.heap.size 3 A2 k c2 ((List.range k).map fun k => ((r + k : Nat) : Int)) ∧ Below w3.heap.size w3 wx) (fun _ v34 _ => slots - (intOf v34).toNat)
  case atStart => exact ⟨0, none, 0, Nat.zero_le _, rfl, rfl, OwnI.nil_, Below.refl _ _⟩
  case round =>
  obtain ⟨k, A2, c2, hk, rfl, rfl, hA, hbz⟩ := hrel
  by_cases hkn : k < slots
  · have hki : (k : Int) < (slots : Int) := by omega
    have hk0 : (0 : Int) ≤ (k : Int) := by omega
    have hNx := hN3.below hbz hN3.lt
    have hf0 : wr.cell? ⟨w1.heap.size, 0, none⟩ = some (.int .i64 r) := (hNx.cell 0).trans rfl
    have hf1 : wr.cell? ⟨w1.heap.size, 1, none⟩ = some (.int .i64 slots) := (hNx.cell 1).trans rfl
    have hmin : min (k : Int) ((slots : Int) - 1) = (k : Int) := by omega
    have hA1 := hA.alloc (.cells #[.int .i64 ((r : Int) + (k : Int))] 3)
    have hl1 := hbz.size
    have HTK : Hid ((List.range (k + 1)).map (fun k => ((r + k : Nat) : Int)) = (List.range k).map (fun k => ((r + k : Nat) : Int)) ++ [(r : Int) + (k : Int)]) := Lib.hid (by rw [List.range_succ, List.map_append]; simp)
    go_wp2_with (at_builtin
                 refine wpList_append_ints rfl _ _ 22 rfl w3.heap.size 3 i0 _ Tryz.underlying22 hi0 hz0 hz1 hz2 rfl A2 k c2 _ rfl hA1 _ _ 1 1 [(r : Int) + (k : Int)] rfl (Ints.oneAt _ _ _ _ (by simp)) (k + 1) rfl _ rfl (by omega) (le_alloc hl1 _) ?_
                 intro A7 c7 w7 hown7 hgr7 hb7 hab7)
    go_roundw
    case rel => exact ⟨k + 1, A7, c7, by omega, rfl, by go_num, by rw [HTK.out]; exact hown7, (hbz.alloc hl1 _).trans hb7⟩
    case measure => simp [intOf]; omega
  · obtain rfl : slots = k := by omega
    go_wp2
    go_ret2
    exact ⟨A2, c2, rfl, hA.base hbw3.size, bnext hbw3 hbz⟩
end Go.Proofs.YtmcgnpdfpfgfpaaGreatDoor

/-! Brg -/
namespace Go.Proofs.YtmcgnpdfpfgfpaaGreatDoor
set_option linter.unusedVariables false

theorem opIn_of {l0 n : Nat} {P : Program} {o : Oper} {a : Act} {w : World} {K K' : Act → World → Prop} {Q : Exit → Act → World → Prop} (hd : ∀ c, o.op ≠ .defer c) (hrow : ∀ row args w', (execOp a.eval o).run P w ≠ .ok (.row row args) w')
    (hK : ∀ a w, K a w → K' a w) (h : o.wp P a w K Q) : o.wpIn (Fence.wide.inRound l0) n P a w K' Q := by
  refine ⟨fun _ _ => trivial, ?_⟩
  rw [show (Fence.wide.inRound l0).round = some l0 from rfl, Oper.semAt_some l0 _ o hd]
  unfold Oper.wp at h
  revert h hrow
  generalize (execOp a.eval o).run P w = r
  intro hrow h
  match r, hrow, h with
  | .ok (.value v) w', _, h => exact hK _ _ h
  | .ok .skip w', _, h => exact hK _ _ h
  | .ok (.defer d) w', _, h => exact hK _ _ h
  | .ok (.enter f args) w', _, h =>
    refine ⟨fun h0 => (by cases h0), CallsIn.inRound l0 (callsIn_wide.2 (h.mono fun e w2 h2 => ?_))⟩
    cases e with
    | returned v => exact hK _ _ h2
    | panicked chain => exact h2
    | outgrown => exact h2
  | .ok (.row row args) w', hrow, _ => exact absurd rfl (hrow row args w')
  | .halt (.panic v) w', _, h => exact h
theorem anyIn_of {l0 n : Nat} {P : Program} {ops : Array Oper} {Q : Exit → Act → World → Prop} (hd : ∀ o ∈ ops, ∀ c, o.op ≠ .defer c) (hrow : ∀ o ∈ ops, ∀ a w row args w', (execOp (Act.eval a) o).run P w ≠ .ok (.row row args) w')
    (hQ : ¬ LetsOut Q) : ∀ (f : Nat) (l : Array Bool) (a : Act) (w : World), wpAny P .any ops Q f l a w → wpAnyIn (Fence.wide.inRound l0) n P .any ops Q f l a w
  | 0, _, _, _, h => h
  | f + 1, l, a, w, h => by
    refine ⟨h.1, fun i hi => ?_⟩
    have h1 := h.2 i hi
    unfold wpOp at h1
    unfold wpOpIn
    cases ho : ops[i]? with
    | none => rw [ho] at h1; exact anyIn_of hd hrow hQ f _ a w h1
    | some o =>
      rw [ho] at h1
      have hm : o ∈ ops := Array.mem_of_getElem? ho
      by_cases hw : Region.wanted o (yielded ops a.tmps) = true
      · simp only [hw, if_true] at h1 ⊢
        rcases h1 with h1 | h1
        · exact opIn_of (hd o hm) (fun row args w' => hrow o hm a w row args w') (fun a w h => anyIn_of hd hrow hQ f _ a w h) h1
        · exact absurd h1.2 hQ
      · simp only [hw] at h1 ⊢
        exact ⟨fun _ _ => trivial, anyIn_of hd hrow hQ f _ _ w h1⟩
end Go.Proofs.YtmcgnpdfpfgfpaaGreatDoor

/-! Chk1 -/
namespace Go.Proofs.YtmcgnpdfpfgfpaaGreatDoor
open Go.RowKit Go.Shelf
set_option linter.unusedVariables false
attribute [local go_sem] Oper.semAt_some

theorem chunk_any (A : Option Addr) (m c wd : Nat) (w : World) (h1 : 1 ≤ wd) (h2 : wd ≤ 1000000) :
    Calls Tryz.prog 49 #[.slice A m c, .int .i64 wd] w fun e w' => e = .returned (.func (.func 83) #[] #[.pointer (some ⟨w.heap.size, 0, none⟩), .pointer (some ⟨w.heap.size + 1, 0, none⟩)]) ∧ w' = (w.alloc (.cells #[.slice A m c] 22)).alloc (.cells #[.int .i64 wd] 3) := by
  have hn : ¬ (wd : Int) < 1 := by omega
  go_enter Tryz.func49, Tryz.ntmps49
  go_wp2
  go_ret
  exact ⟨rfl, rfl⟩

set_option maxRecDepth 100000 in
set_option maxHeartbeats 2000000 in
/-- The closure of Chunk: it hands on stretch k, k from 0 on. -/
theorem chunk1_in (n : Nat) (hn : 1 ≤ n) (l B1 B2 n₁ gs R wd c b off : Nat) (hR0 : R ≤ 100000) (h1 : 1 ≤ wd) (h2 : wd ≤ 1000) (hc : R * wd ≤ c) (J Jx : List Nat → World → Prop) {Bj : Nat} (hJ : AbidesFrom Bj J)
    (hY : ∀ (k : Nat) W, J (List.range k) W → k < R → YieldAt Fence.wide (n - 1) Tryz.prog l #[.slice (some ⟨b, off + k * wd, none⟩) wd wd] W fun e W' =>
      (e = .returned (.bool true) ∧ J (List.range k ++ [k]) W' ∧ KeepsB n₁ gs W W') ∨ (e = .returned (.bool false) ∧ Jx (List.range k ++ [k]) W'))
    (W : World) (hB10 : B1 < n₁) (hB11 : B1 ≠ gs) (hB20 : B2 < n₁) (hB21 : B2 ≠ gs) (hB1 : W.cell? ⟨B1, 0, none⟩ = some (.slice (some ⟨b, off, none⟩) (R * wd) c)) (hB2 : W.cell? ⟨B2, 0, none⟩ = some (.int .i64 wd)) (h0 : J [] W) :
    CallsIn Fence.wide n Tryz.prog 83 #[.func (.yield l) #[] #[], .pointer (some ⟨B1, 0, none⟩), .pointer (some ⟨B2, 0, none⟩)] W fun e W' => (∃ v, e = .returned v) ∧
      ((J (List.range R) W') ∨ (∃ k, Jx (List.range k) W')) := by
  obtain ⟨m, hm⟩ : ∃ m, R * wd = m := ⟨_, rfl⟩
  have HM := Lib.hid hm
  have hml : m ≤ 100000000 := by rw [← hm]; exact Nat.mul_le_mul hR0 h2
  rw [hm] at hc hB1
  clear hm
  refine callsIn_of_wp Tryz.func83 rfl trivial ?_ rfl
  simp only [Tryz.ntmps83, List.size_toArray, List.length_cons, List.length_nil, Nat.reduceAdd, Nat.reduceSub, Array.replicate_succ, Array.replicate_zero, List.push_toArray, List.append_toArray, List.nil_append, List.cons_append]
  gi_wp2
  gi_loopw [4] (fun i wr => ∃ k : Nat, k ≤ R ∧ i = .int .i64 ((k * wd : Nat) : Int) ∧ J (List.range k) wr ∧ KeepsB n₁ gs W wr)
    (fun i _ => m - (intOf i).toNat)
  case atStart => exact ⟨0, Nat.zero_le _, by rw [Nat.zero_mul]; rfl, h0, KeepsB.refl _ _ _⟩
  case round =>
    obtain ⟨k, hk, rfl, hJs, hnx⟩ := hrel
    have hcv1 := (hnx.cell (b := B1) (o := 0) hB10 hB11).trans hB1
    have hcv2 := (hnx.cell (b := B2) (o := 0) hB20 hB21).trans hB2
    by_cases hlt : k < R
    · have hq1 : (k + 1) * wd ≤ R * wd := Nat.mul_le_mul_right _ hlt
      have hq2 : (k + 1) * wd = k * wd + wd := Nat.succ_mul _ _
      rw [hq2, HM.out] at hq1
      have HQ2 := Lib.hid hq2
      clear hq2
      have hJd : J (List.range k) wr.drew := hJ _ wr wr.drew none hJs ⟨rfl, rfl, rfl, Nat.le_refl _, fun _ _ _ => rfl⟩ (fun r e => by cases e)
      obtain ⟨fn, tmps, assign, body, hy, hR⟩ := hY k _ hJd hlt
      obtain ⟨q, hq⟩ : ∃ q, k * wd = q := ⟨_, rfl⟩
      rw [hq] at hq1 HQ2 hy ⊢
      clear hq hJs hJd
      have hqi : (q : Int) < (m : Int) := by omega
      have hq0 : (0 : Int) ≤ (q : Int) := by omega
      have hqc : (q : Int) + (wd : Int) ≤ (c : Int) := by omega
      have hmx : Tryz.prog.follows .mixedOrders = true := by kernel_rfl
      have hmin : min (wd : Int) (((m - q : Nat)) : Int) = (wd : Int) := by omega
      have hmn2 : ¬ ((m - q : Nat) : Int) < (wd : Int) := by omega
      have hqw : IntKind.i64.wrap ((q : Int) + (wd : Int)) = (q : Int) + (wd : Int) := IntWalk.i64_in _ (by omega)
      gi_wp2
      gi_region_o
      gi_wp2
      refine hR.mono ?_
      rintro e W3 (⟨rfl, hJ3, hk3⟩ | ⟨rfl, hJx3⟩)
      · have hkd : KeepsB n₁ gs W W3 := (hnx.trans (KeepsB.refl n₁ gs wr.drew)).trans hk3
        have hcw2 := (hkd.cell (b := B2) (o := 0) hB20 hB21).trans hB2
        gi_wp2
        go_roundw
        case rel => exact ⟨k + 1, hlt, by rw [HQ2.out]; go_num, by rw [List.range_succ]; exact hJ3, hkd⟩
        case measure => simp [intOf]; omega
      · gi_wp2
        refine bodyPost_ret (results_none rfl _ _ _) rfl ?_
        exact ⟨⟨_, rfl⟩, .inr ⟨k + 1, by rw [List.range_succ]; exact hJx3⟩⟩
    · have hkR : k = R := by omega
      subst hkR
      rw [HM.out]
      have hqi : ¬ (m : Int) < (m : Int) := by omega
      gi_wp2
      go_end0
      exact ⟨⟨_, rfl⟩, .inl hJs⟩
end Go.Proofs.YtmcgnpdfpfgfpaaGreatDoor
