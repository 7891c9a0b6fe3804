/-
  What the second form's reduce hands back for valid equations: their reduced form. Conditions: the lists read as their numbers.
-/
import Derived.Test.YtoblofilaegnaaaRefM
import Derived.Test.YtoblofilaegnaaaSCheck
import Derived.Test.YtoblofilaegnaaaStepA
import Derived.Test.YtoblofilaegnaaaPolyB
import Derived.Test.YtoblofilaegnaaaRInv
import Derived.Deep.RegionHeldLaw
import Derived.StillTailTactics
import Derived.Deep.DeepCutAuto
import Derived.Deep.QuietTactic
import Derived.BigQuiet
namespace Go.Proofs.Ytoblofilaegnaaa
open Go.RowKit
set_option linter.unusedVariables false

/-- Equations whose lists lie below block B. -/
structure EqL (w : World) (B : Nat) (p : Int) (r c nc : Nat) (C : Option Addr) (cc : Nat) (D : Option Addr) (cd : Nat) (cells right : List Int) : Prop where
  ok : EqOk p r c cells right
  ln : r * c = nc
  hC : Ints w B C nc cells
  hD : Ints w B D r right
  cap : nc ≤ cc
theorem EqL.below {w w' : World} {B B' : Nat} {p : Int} {r c nc : Nat} {C : Option Addr} {cc : Nat} {D : Option Addr} {cd : Nat} {cells right : List Int} (h : EqL w B p r c nc C cc D cd cells right) (hb : Below B' w w') (hB : B ≤ B') : EqL w' B p r c nc C cc D cd cells right :=
  ⟨h.ok, h.ln, h.hC.below (hb.mono hB), h.hD.below (hb.mono hB), h.cap⟩
theorem Below_undrew {B : Nat} {a b : World} (h : Below B a.drew b) : Below B a b := ⟨h.os, h.tape, h.output, h.size, h.block⟩

theorem RInv.skips {p : Int} {lead : List Nat} {m : List (List Int)} (hl : m.length ≤ lead.length) : ∀ (d k : Nat), RInv p k lead m → RInv p (k + d) lead m
  | 0, k, h => h
  | d + 1, k, h => (RInv.skips hl d k h).skip (fun i h1 h2 => absurd h2 (by omega))

theorem RefW.belowAt {w w' : World} {base wd n cap B : Nat} {R : Option Addr} {bs : List (Nat × Nat)} {m : List (List Int)} (h : RefW w base wd R n cap bs m) (hb : Below B w w') (hR : ∀ g, R = some ⟨g, 0, none⟩ → g < B) (hr : ∀ j, j < n → (bs.getD j (0, 0)).1 < B) : RefW w' base wd R n cap bs m :=
  ⟨⟨h.out.1, by
    rcases h.out.2 with h0 | ⟨g, cap, cur, hv, hg, hh, r⟩
    · exact .inl h0
    · refine .inr ⟨g, cap, cur, hv, hg, ?_, r⟩
      rw [hb.block g (by injection hv with h1; exact hR g h1)]; exact hh⟩,
   ⟨h.rws.ln, h.rws.apart, fun j hj => (h.rws.own j hj).below hb fun k hk => by
      have h1 : (bs.getD j (0, 0)).1 = k := by injection hk
      rw [← h1]; exact hr j (by rw [← h.ln]; exact hj)⟩, h.ln⟩
theorem lead_map (lead : List Nat) (k : Nat) : (lead ++ [k]).map Int.ofNat = lead.map Int.ofNat ++ [(k : Int)] := by simp

/-- What reduce leaves. -/
def RRedPost (p : Int) (c r : Nat) (m0 : List (List Int)) (w : World) (e : Ending) (w' : World) : Prop :=
  ∃ (R : Option Addr) (cap : Nat) (bs : List (Nat × Nat)) (m : List (List Int)) (L : Option Addr) (lc : Nat) (lead : List Nat), e = .returned (.tuple #[.slice R r cap, .slice L lead.length lc]) ∧ RefW w' (w.heap.size + 1) (c + 1) R r cap bs m ∧ OwnI w' (w.heap.size + 1) 3 L lead.length lc (lead.map Int.ofNat) ∧ Red p c m0 m lead ∧ Below w.heap.size w w'

set_option maxHeartbeats 8000000 in
set_option maxRecDepth 100000 in
theorem rreduce_ok {p : Int} {r c nc cc cd : Nat} {C D : Option Addr} {cells right : List Int} {w : World} (h : EqW w p r c nc C cc D cd cells right) :
    Calls Try.prog 158 #[eqV p r c C nc cc D r cd] w (RRedPost p c r (augM r c cells right) w) := by
  obtain ⟨i0, hi0, hz0, hz1, hz2⟩ := info_parts info_int
  obtain ⟨i1, hi1, hy0, hy1, hy2⟩ := info_parts info_rowR
  have hb0 : Below w.heap.size w (w.alloc (.cells (eqC p r c C nc cc D r cd) 106)) := bbox _
  have HE : Hid (EqL (w.alloc (.cells (eqC p r c C nc cc D r cd) 106)) w.heap.size p r c nc C cc D cd cells right) := Lib.hid ⟨h.ok, h.ln, h.hC.below hb0, h.hD.below hb0, h.cap⟩
  have HB0 := Lib.hid (Blk.new w 106 (eqC p r c C nc cc D r cd))
  have HL := Lib.hid h.ln
  have hc32 := h.ok.c32
  have hr32 := h.ok.r32
  have hp := okP_pos h.ok.ok
  have hcap := h.cap
  have HC := Lib.hid h.ok
  have hnc2 : nc ≤ 1024 := by
    have h1 : r * c ≤ 32 * 32 := Nat.mul_le_mul hr32 hc32
    rw [h.ln] at h1; exact h1
  clear h
  have ha0 : (w.alloc (.cells (eqC p r c C nc cc D r cd) 106)).cell? ⟨w.heap.size, 0, none⟩ = some (.int .i64 p) := (HB0.out.cell 0).trans rfl
  go_enter Try.func158, Try.ntmps158
  go_wp2_with fail
  obtain ⟨B1, hB1⟩ : ∃ b, w.heap.size = b := ⟨_, rfl⟩
  obtain ⟨W1, hW1⟩ : ∃ W, w.alloc (.cells (eqC p r c C nc cc D r cd) 106) = W := ⟨_, rfl⟩
  rw [hW1] at HE HB0 hb0 ⊢
  have hs1 : B1 < W1.heap.size := by rw [← hB1]; exact HB0.out.lt
  rw [hB1] at HB0 HE ⊢
  clear hW1 ha0
  go_loopw [5, 6] (fun v i wx => ∃ (q : Nat) (R : Option Addr) (cap : Nat) (bs : List (Nat × Nat)), q ≤ r ∧ i = .int .i64 q ∧ v = .slice R q cap ∧ Hid (RefW wx (B1 + 1) (c + 1) R q cap bs ((augM r c cells right).take q)) ∧ Hid (Blk wx B1 106 #[.int .i64 p, .int .i64 r, .int .i64 c, .slice C nc cc, .slice D r cd]) ∧ Hid (EqL wx B1 p r c nc C cc D cd cells right) ∧ Below B1 w wx) (fun _ i _ => r - (intOf i).toNat)
  case atStart => exact ⟨0, none, 0, [], Nat.zero_le _, rfl, rfl, Lib.hid RefW.nil_, HB0, HE, by rw [← hB1]; exact hb0⟩
  case round =>
    obtain ⟨q, R, cap, bs, hq, rfl, rfl, HR, HB, HE1, hb⟩ := hrel
    have hr1 : wr.cell? ⟨B1, 1, none⟩ = some (.int .i64 r) := (HB.out.cell 1).trans rfl
    by_cases hlt : q < r
    · have hr2 : wr.cell? ⟨B1, 2, none⟩ = some (.int .i64 c) := (HB.out.cell 2).trans rfl
      have hr3 : wr.cell? ⟨B1, 3, none⟩ = some (.slice C nc cc) := (HB.out.cell 3).trans rfl
      have hr4 : wr.cell? ⟨B1, 4, none⟩ = some (.slice D r cd) := (HB.out.cell 4).trans rfl
      have hrle := row_le (c := c) hlt
      rw [HL.out] at hrle
      obtain ⟨l, hl⟩ : ∃ l, q * c = l := ⟨_, rfl⟩
      rw [hl] at hrle
      have hw1 : (q : Int) * (c : Int) = (l : Int) := by rw [← hl]; simp
      have hw2 : ((q : Int) + 1) * (c : Int) = ((l + c : Nat) : Int) := by rw [← hl, Int.add_mul]; simp
      have HI := Lib.hid ((HE1.out.hC.more (Nat.le_of_lt HB.out.lt)).sub_ hcap l c hrle)
      have HRow : Hid ((augM r c cells right).getD q [] = (cells.drop l).take c ++ [right.getD q 0]) := Lib.hid (by rw [← hl]; exact augM_at _ _ _ _ hlt)
      have HTK : Hid ((augM r c cells right).take (q + 1) = (augM r c cells right).take q ++ [(augM r c cells right).getD q []]) := Lib.hid (take_snoc_row _ q (by rw [augM_len]; exact hlt))
      obtain ⟨yq, hyq⟩ : ∃ y, right.getD q 0 = y := ⟨_, rfl⟩
      rw [hyq] at HRow
      obtain ⟨rw0, hrw0⟩ : ∃ z, (cells.drop l).take c = z := ⟨_, rfl⟩
      rw [hrw0] at HRow HI
      rw [HRow.out] at HTK
      obtain ⟨bD, oD, hDe, hbD, hcD⟩ := HE1.out.hD.2 (by omega)
      subst hDe
      have hcq := hcD q hlt
      have hbD1 : bD < B1 := hbD
      have hbD : bD < wr.heap.size := Nat.lt_trans hbD HB.out.lt
      rw [hyq] at hcq
      have h1 : (q : Int) < (r : Int) := by omega
      have h0 : (0 : Int) ≤ (q : Int) := by omega
      obtain ⟨e, he⟩ : ∃ e, l + c = e := ⟨_, rfl⟩
      have hem : e - l = c := by omega
      rw [he] at hw2 hrle
      obtain ⟨A4, hA4, HI4⟩ : ∃ A4 : Option Addr, (if cc = l then C else Option.map (fun x => x.add l) C) = A4 ∧ Hid (Ints wr wr.heap.size A4 c rw0) := by
        refine ⟨_, rfl, ?_⟩
        have := HI
        rwa [Nat.mul_one] at this
      have s1 : (0 : Int) ≤ (l : Int) := by omega
      have s2 : (l : Int) ≤ (e : Int) := by omega
      have s3 : (e : Int) ≤ (cc : Int) := by omega
      have s4 : IntKind.i64.wrap (l : Int) = (l : Int) := IntWalk.i64_in _ (by omega)
      have s5 : IntKind.i64.wrap (e : Int) = (e : Int) := IntWalk.i64_in _ (by omega)
      have s6 : IntKind.i64.wrap ((q : Int) + 1) = (q : Int) + 1 := IntWalk.i64_in _ (by omega)
      have hlB := HB.out.lt
      have HDC : Hid (∀ w', Below (B1 + 1) wr w' → w'.cell? ⟨bD, oD + q, none⟩ = some (.int .i64 yq)) := Lib.hid fun w' hb => (hb.cell (p := ⟨bD, oD + q, none⟩) (show bD < B1 + 1 by omega)).trans hcq
      have HEK : Hid (∀ w', Below (B1 + 1) wr w' → EqL w' B1 p r c nc C cc (some ⟨bD, oD, none⟩) cd cells right) := Lib.hid fun w' hb => HE1.out.below hb (Nat.le_succ _)
      clear hcD hrw0 hyq hl he HI
      go_wp2_with fail
      have hS0 : wr.drew.cell? ⟨B1, 3, none⟩ = some (.slice C nc cc) ∧ wr.drew.cell? ⟨B1, 2, none⟩ = some (.int .i64 c) ∧ wr.drew.cell? ⟨B1, 4, none⟩ = some (.slice (some ⟨bD, oD, none⟩) r cd) ∧ wr.drew.cell? ⟨bD, oD + q, none⟩ = some (.int .i64 yq) := ⟨hr3, hr2, hr4, hcq⟩
      have hId : Ints wr.drew wr.drew.heap.size A4 c rw0 := HI4.out
      have hled : wr.heap.size ≤ wr.drew.heap.size := Nat.le_refl _
      have hbB : B1 + 1 ≤ wr.heap.size := hlB
      have hIdb0 := HI4.out.upto (bbox (w0 := wr) (.cells #[.int .i64 yq] 3))
      have hIdb : Ints (wr.alloc (.cells #[.int .i64 yq] 3)).drew (wr.alloc (.cells #[.int .i64 yq] 3)).drew.heap.size A4 c rw0 := hIdb0
      have hledb : wr.heap.size ≤ (wr.alloc (.cells #[.int .i64 yq] 3)).drew.heap.size := (bbox (w0 := wr) (.cells #[.int .i64 yq] 3)).size
      have hIyb : Ints (wr.alloc (.cells #[.int .i64 yq] 3)) (wr.alloc (.cells #[.int .i64 yq] 3)).heap.size (some ⟨wr.heap.size, 0, none⟩) 1 [yq] := Ints.oneAt _ _ _ _ rfl
      have hbxb : Below wr.heap.size wr (wr.alloc (.cells #[.int .i64 yq] 3)) := bbox (.cells #[.int .i64 yq] 3)
      have hS6 : (wr.alloc (.cells #[.int .i64 yq] 3)).drew.cell? ⟨B1, 3, none⟩ = some (.slice C nc cc) ∧ (wr.alloc (.cells #[.int .i64 yq] 3)).drew.cell? ⟨B1, 2, none⟩ = some (.int .i64 c) ∧ (wr.alloc (.cells #[.int .i64 yq] 3)).drew.cell? ⟨B1, 4, none⟩ = some (.slice (some ⟨bD, oD, none⟩) r cd) ∧ (wr.alloc (.cells #[.int .i64 yq] 3)).drew.cell? ⟨bD, oD + q, none⟩ = some (.int .i64 yq) := ⟨(hbxb.cell (p := ⟨B1, 3, none⟩) hlB).trans hr3, (hbxb.cell (p := ⟨B1, 2, none⟩) hlB).trans hr2, (hbxb.cell (p := ⟨B1, 4, none⟩) hlB).trans hr4, (hbxb.cell (p := ⟨bD, oD + q, none⟩) hbD).trans hcq⟩
      go_region_held_law (fun w' => w'.cell? ⟨B1, 3, none⟩ = some (.slice C nc cc) ∧ w'.cell? ⟨B1, 2, none⟩ = some (.int .i64 c) ∧ w'.cell? ⟨B1, 4, none⟩ = some (.slice (some ⟨bD, oD, none⟩) r cd) ∧ w'.cell? ⟨bD, oD + q, none⟩ = some (.int .i64 yq)) (first | with_reducible exact hS0 | with_reducible exact hS1 | with_reducible exact hS2 | with_reducible exact hS3 | with_reducible exact hS4 | with_reducible exact hS5 | with_reducible exact hS6 | go_keep) (first
        | ((refine step_append_intsR (w := wr.drew) rfl (.const (.slice none 0 0)) (.tmp 37) 22 rfl wr.heap.size 3 i0 _ Try.underlying22 hi0 hz0 hz1 hz2 rfl none 0 0 [] rfl OwnI.nil_ A4 c (cc - l) rw0 (by first | rfl | simp [Act.eval]) hId c (Nat.zero_add _) (by omega) hled ?_); intro A5 c5 w5 hown5 hgr5 hbw5 hab5
           have hbw5 := Below_undrew hbw5
           have hS1 : w5.cell? ⟨B1, 3, none⟩ = some (.slice C nc cc) ∧ w5.cell? ⟨B1, 2, none⟩ = some (.int .i64 c) ∧ w5.cell? ⟨B1, 4, none⟩ = some (.slice (some ⟨bD, oD, none⟩) r cd) ∧ w5.cell? ⟨bD, oD + q, none⟩ = some (.int .i64 yq) := ⟨(hbw5.cell (p := ⟨B1, 3, none⟩) hlB).trans hr3, (hbw5.cell (p := ⟨B1, 2, none⟩) hlB).trans hr2, (hbw5.cell (p := ⟨B1, 4, none⟩) hlB).trans hr4, (hbw5.cell (p := ⟨bD, oD + q, none⟩) hbD).trans hcq⟩
           have hbx6 : Below wr.heap.size wr (w5.alloc (.cells #[.int .i64 yq] 3)) := hbw5.trans (bbox (.cells #[.int .i64 yq] 3) |>.mono hbw5.size)
           have hS2 : (w5.alloc (.cells #[.int .i64 yq] 3)).cell? ⟨B1, 3, none⟩ = some (.slice C nc cc) ∧ (w5.alloc (.cells #[.int .i64 yq] 3)).cell? ⟨B1, 2, none⟩ = some (.int .i64 c) ∧ (w5.alloc (.cells #[.int .i64 yq] 3)).cell? ⟨B1, 4, none⟩ = some (.slice (some ⟨bD, oD, none⟩) r cd) ∧ (w5.alloc (.cells #[.int .i64 yq] 3)).cell? ⟨bD, oD + q, none⟩ = some (.int .i64 yq) := ⟨(hbx6.cell (p := ⟨B1, 3, none⟩) hlB).trans hr3, (hbx6.cell (p := ⟨B1, 2, none⟩) hlB).trans hr2, (hbx6.cell (p := ⟨B1, 4, none⟩) hlB).trans hr4, (hbx6.cell (p := ⟨bD, oD + q, none⟩) hbD).trans hcq⟩
           have hown6 := hown5.alloc (.cells #[.int .i64 yq] 3)
           have hI6 : Ints (w5.alloc (.cells #[.int .i64 yq] 3)) (w5.alloc (.cells #[.int .i64 yq] 3)).heap.size (some ⟨w5.heap.size, 0, none⟩) 1 [yq] := Ints.oneAt _ _ _ _ rfl
           have hle6 : wr.heap.size ≤ (w5.alloc (.cells #[.int .i64 yq] 3)).heap.size := hbx6.size
           clear hgr5 hab5)
        | ((refine step_append_intsR (w := w5.alloc (.cells #[.int .i64 yq] 3)) rfl (.tmp 38) (.tmp 44) 22 rfl wr.heap.size 3 i0 _ Try.underlying22 hi0 hz0 hz1 hz2 rfl A5 c c5 ([] ++ rw0) (by first | rfl | simp [Act.eval]) hown6 (some ⟨w5.heap.size, 0, none⟩) 1 1 [yq] (by first | rfl | simp [Act.eval]) hI6 (c + 1) rfl (by omega) hle6 ?_); intro A7 c7 w7 hown7 hgr7 hbw7 hab7
           obtain ⟨b7, hb7e, hb71, hb72⟩ := hown7.form (Nat.succ_pos c)
           subst hb7e
           have hbx7 := hbx6.trans hbw7
           have hS3 : w7.cell? ⟨B1, 3, none⟩ = some (.slice C nc cc) ∧ w7.cell? ⟨B1, 2, none⟩ = some (.int .i64 c) ∧ w7.cell? ⟨B1, 4, none⟩ = some (.slice (some ⟨bD, oD, none⟩) r cd) ∧ w7.cell? ⟨bD, oD + q, none⟩ = some (.int .i64 yq) := ⟨(hbx7.cell (p := ⟨B1, 3, none⟩) hlB).trans hr3, (hbx7.cell (p := ⟨B1, 2, none⟩) hlB).trans hr2, (hbx7.cell (p := ⟨B1, 4, none⟩) hlB).trans hr4, (hbx7.cell (p := ⟨bD, oD + q, none⟩) hbD).trans hcq⟩
           have hown7' : OwnI w7 (B1 + 1) 3 (some ⟨b7, 0, none⟩) (c + 1) c7 (rw0 ++ [yq]) := hown7.base hbB
           have HR7 := Lib.hid (HR.out.below hbx7)
           have hbx8 : Below wr.heap.size wr (w7.alloc (.cells #[.slice (some ⟨b7, 0, none⟩) (c + 1) c7] 22)) := hbx7.trans (bbox (.cells #[.slice (some ⟨b7, 0, none⟩) (c + 1) c7] 22) |>.mono hbx7.size)
           have hS4 : (w7.alloc (.cells #[.slice (some ⟨b7, 0, none⟩) (c + 1) c7] 22)).cell? ⟨B1, 3, none⟩ = some (.slice C nc cc) ∧ (w7.alloc (.cells #[.slice (some ⟨b7, 0, none⟩) (c + 1) c7] 22)).cell? ⟨B1, 2, none⟩ = some (.int .i64 c) ∧ (w7.alloc (.cells #[.slice (some ⟨b7, 0, none⟩) (c + 1) c7] 22)).cell? ⟨B1, 4, none⟩ = some (.slice (some ⟨bD, oD, none⟩) r cd) ∧ (w7.alloc (.cells #[.slice (some ⟨b7, 0, none⟩) (c + 1) c7] 22)).cell? ⟨bD, oD + q, none⟩ = some (.int .i64 yq) := ⟨(hbx8.cell (p := ⟨B1, 3, none⟩) hlB).trans hr3, (hbx8.cell (p := ⟨B1, 2, none⟩) hlB).trans hr2, (hbx8.cell (p := ⟨B1, 4, none⟩) hlB).trans hr4, (hbx8.cell (p := ⟨bD, oD + q, none⟩) hbD).trans hcq⟩
           have HR8 := Lib.hid (HR.out.below hbx8)
           have hown8 := hown7'.alloc (.cells #[.slice (some ⟨b7, 0, none⟩) (c + 1) c7] 22)
           have hrd8 := Reads.box1 w7 (.slice (some ⟨b7, 0, none⟩) (c + 1) c7) 22
           have hle8 : B1 + 1 ≤ (w7.alloc (.cells #[.slice (some ⟨b7, 0, none⟩) (c + 1) c7] 22)).heap.size := Nat.le_trans hbB hbx8.size
           have HN8 : Hid (∀ j, j < ((augM r c cells right).take q).length → (bs.getD j (0, 0)).1 ≠ b7) := Lib.hid fun j hj e => by have := (HR.out.rws.row hj).2; omega
           clear hown7 hgr7 hbw7 hab7)
        | ((refine step_append_intsR (w := (wr.alloc (.cells #[.int .i64 yq] 3)).drew) rfl (.const (.slice none 0 0)) (.tmp 37) 22 rfl wr.heap.size 3 i0 _ Try.underlying22 hi0 hz0 hz1 hz2 rfl none 0 0 [] rfl OwnI.nil_ A4 c (cc - l) rw0 (by first | rfl | simp [Act.eval]) hIdb c (Nat.zero_add _) (by omega) hledb ?_); intro A5 c5 w6 hown6 hgr6 hbw6 hab6
           have hbx6 : Below wr.heap.size wr w6 := (bbox (.cells #[.int .i64 yq] 3)).trans (Below_undrew hbw6)
           have hS2 : w6.cell? ⟨B1, 3, none⟩ = some (.slice C nc cc) ∧ w6.cell? ⟨B1, 2, none⟩ = some (.int .i64 c) ∧ w6.cell? ⟨B1, 4, none⟩ = some (.slice (some ⟨bD, oD, none⟩) r cd) ∧ w6.cell? ⟨bD, oD + q, none⟩ = some (.int .i64 yq) := ⟨(hbx6.cell (p := ⟨B1, 3, none⟩) hlB).trans hr3, (hbx6.cell (p := ⟨B1, 2, none⟩) hlB).trans hr2, (hbx6.cell (p := ⟨B1, 4, none⟩) hlB).trans hr4, (hbx6.cell (p := ⟨bD, oD + q, none⟩) hbD).trans hcq⟩
           have hI6 : Ints w6 w6.heap.size (some ⟨wr.heap.size, 0, none⟩) 1 [yq] := Ints.grownAt (w := (wr.alloc (.cells #[.int .i64 yq] 3)).drew) hIyb hgr6 (by simp [Value.ownBlock])
           have hle6 : wr.heap.size ≤ w6.heap.size := hbx6.size
           clear hgr6 hab6)
        | ((refine step_append_intsR (w := w6) rfl (.tmp 38) (.tmp 44) 22 rfl wr.heap.size 3 i0 _ Try.underlying22 hi0 hz0 hz1 hz2 rfl A5 c c5 ([] ++ rw0) (by first | rfl | simp [Act.eval]) hown6 (some ⟨wr.heap.size, 0, none⟩) 1 1 [yq] (by first | rfl | simp [Act.eval]) hI6 (c + 1) rfl (by omega) hle6 ?_); intro A7 c7 w7 hown7 hgr7 hbw7 hab7
           obtain ⟨b7, hb7e, hb71, hb72⟩ := hown7.form (Nat.succ_pos c)
           subst hb7e
           have hbx7 := hbx6.trans hbw7
           have hS3 : w7.cell? ⟨B1, 3, none⟩ = some (.slice C nc cc) ∧ w7.cell? ⟨B1, 2, none⟩ = some (.int .i64 c) ∧ w7.cell? ⟨B1, 4, none⟩ = some (.slice (some ⟨bD, oD, none⟩) r cd) ∧ w7.cell? ⟨bD, oD + q, none⟩ = some (.int .i64 yq) := ⟨(hbx7.cell (p := ⟨B1, 3, none⟩) hlB).trans hr3, (hbx7.cell (p := ⟨B1, 2, none⟩) hlB).trans hr2, (hbx7.cell (p := ⟨B1, 4, none⟩) hlB).trans hr4, (hbx7.cell (p := ⟨bD, oD + q, none⟩) hbD).trans hcq⟩
           have hown7' : OwnI w7 (B1 + 1) 3 (some ⟨b7, 0, none⟩) (c + 1) c7 (rw0 ++ [yq]) := hown7.base hbB
           have HR7 := Lib.hid (HR.out.below hbx7)
           have hbx8 : Below wr.heap.size wr (w7.alloc (.cells #[.slice (some ⟨b7, 0, none⟩) (c + 1) c7] 22)) := hbx7.trans (bbox (.cells #[.slice (some ⟨b7, 0, none⟩) (c + 1) c7] 22) |>.mono hbx7.size)
           have hS4 : (w7.alloc (.cells #[.slice (some ⟨b7, 0, none⟩) (c + 1) c7] 22)).cell? ⟨B1, 3, none⟩ = some (.slice C nc cc) ∧ (w7.alloc (.cells #[.slice (some ⟨b7, 0, none⟩) (c + 1) c7] 22)).cell? ⟨B1, 2, none⟩ = some (.int .i64 c) ∧ (w7.alloc (.cells #[.slice (some ⟨b7, 0, none⟩) (c + 1) c7] 22)).cell? ⟨B1, 4, none⟩ = some (.slice (some ⟨bD, oD, none⟩) r cd) ∧ (w7.alloc (.cells #[.slice (some ⟨b7, 0, none⟩) (c + 1) c7] 22)).cell? ⟨bD, oD + q, none⟩ = some (.int .i64 yq) := ⟨(hbx8.cell (p := ⟨B1, 3, none⟩) hlB).trans hr3, (hbx8.cell (p := ⟨B1, 2, none⟩) hlB).trans hr2, (hbx8.cell (p := ⟨B1, 4, none⟩) hlB).trans hr4, (hbx8.cell (p := ⟨bD, oD + q, none⟩) hbD).trans hcq⟩
           have HR8 := Lib.hid (HR.out.below hbx8)
           have hown8 := hown7'.alloc (.cells #[.slice (some ⟨b7, 0, none⟩) (c + 1) c7] 22)
           have hrd8 := Reads.box1 w7 (.slice (some ⟨b7, 0, none⟩) (c + 1) c7) 22
           have hle8 : B1 + 1 ≤ (w7.alloc (.cells #[.slice (some ⟨b7, 0, none⟩) (c + 1) c7] 22)).heap.size := Nat.le_trans hbB hbx8.size
           have HN8 : Hid (∀ j, j < ((augM r c cells right).take q).length → (bs.getD j (0, 0)).1 ≠ b7) := Lib.hid fun j hj e => by have := (HR.out.rws.row hj).2; omega
           clear hown7 hgr7 hbw7 hab7)
        | ((refine step_append_any (P := Try.prog) (w7.alloc (.cells #[.slice (some ⟨b7, 0, none⟩) (c + 1) c7] 22)) rfl (.tmp 25) (.tmp 46) 25 rfl (B1 + 1) 22 i1 (.slice none 0 0) 1 24 Try.underlying25 hi1 hy0 hy1 hy2 rfl (by omega) (.slice R q cap) q (rowV (c + 1) bs) (by first | rfl | simp [Act.eval]) HR8.out.out (w7.heap.size + 1) (some ⟨w7.heap.size, 0, none⟩) 1 1 [.slice (some ⟨b7, 0, none⟩) (c + 1) c7] (by first | rfl | simp [Act.eval]) hrd8 (fun u hu => by simp at hu; subst hu; rfl) (by unfold maxLen; omega) (by omega) hle8 ?_); intro v9 w9 hown9 hgr9 hab9
           obtain ⟨R9, cap9, rfl, hR9, hbw9⟩ := HR8.out.pushed hown8 HN8.out hown9 hgr9 hle8
           have HR9 := Lib.hid hR9
           have hbx9 := (hbx8.mono hbB).trans hbw9
           have hS5 : w9.cell? ⟨B1, 3, none⟩ = some (.slice C nc cc) ∧ w9.cell? ⟨B1, 2, none⟩ = some (.int .i64 c) ∧ w9.cell? ⟨B1, 4, none⟩ = some (.slice (some ⟨bD, oD, none⟩) r cd) ∧ w9.cell? ⟨bD, oD + q, none⟩ = some (.int .i64 yq) := ⟨(hbx9.cell (p := ⟨B1, 3, none⟩) (show B1 < B1 + 1 by omega)).trans hr3, (hbx9.cell (p := ⟨B1, 2, none⟩) (show B1 < B1 + 1 by omega)).trans hr2, (hbx9.cell (p := ⟨B1, 4, none⟩) (show B1 < B1 + 1 by omega)).trans hr4, HDC.out _ hbx9⟩
           have HB9 := Lib.hid (HB.out.below hbx9 (Nat.lt_succ_self _))
           have HE9 := Lib.hid (HEK.out _ hbx9)
           have hb9 := hb.trans (hbx9.mono (by omega))
           clear hown9 hgr9 hab9 hR9 hbw9))
      all_goals go_wp2
      all_goals go_roundw
      all_goals first
        | exact ⟨⟨q + 1, R9, cap9, bs ++ [(b7, c7)], by omega, by go_num, rfl, Lib.hid (by rw [HTK.out]; exact HR9.out), HB9, HE9, hb9⟩, by simp [intOf]; omega⟩
        | exact ⟨q + 1, R9, cap9, bs ++ [(b7, c7)], by omega, by go_num, rfl, Lib.hid (by rw [HTK.out]; exact HR9.out), HB9, HE9, hb9⟩
        | (simp [intOf]; omega)
    · obtain rfl : q = r := by omega
      have HTA : Hid ((augM q c cells right).take q = augM q c cells right) := Lib.hid (List.take_of_length_le (by rw [augM_len]; exact Nat.le_refl _))
      rw [HTA.out] at HR
      go_wp2_with fail
      obtain ⟨B2, hB2⟩ : ∃ b, wr.heap.size = b := ⟨_, rfl⟩
      have hB12 : B1 + 1 ≤ B2 := by rw [← hB2]; exact HB.out.lt
      have HBD0 : Hid (∀ j, j < q → (bs.getD j (0, 0)).1 < B2) := Lib.hid fun j hj => by rw [← hB2]; exact (HR.out.rws.row (by rw [HR.out.ln]; exact hj)).2
      have HRgo : Hid (∀ g, 0 < q → R = some ⟨g, 0, none⟩ → g < B2) := Lib.hid fun g hq0 e => by
        obtain ⟨go, h1, _, h2, _⟩ := HR.out.form hq0
        rw [h1] at e
        injection e with e
        injection e with e
        rw [← e, ← hB2]; exact h2
      have hB2l : B2 ≤ wr.heap.size := Nat.le_of_eq hB2.symm
      clear hB2
      go_loopw [7, 8] (fun lv kv wx => ∃ (k : Nat) (bs : List (Nat × Nat)) (m : List (List Int)) (lead : List Nat) (L : Option Addr) (nl lc : Nat), k ≤ c ∧ kv = .int .i64 k ∧ lv = .slice L nl lc ∧ Hid (nl = lead.length) ∧ Hid (RefW wx (B1 + 1) (c + 1) R q cap bs m) ∧ Hid (OwnI wx B2 3 L nl lc (lead.map Int.ofNat)) ∧ Hid (RInv p k lead m ∧ Elts p (c + 1) m ∧ ∀ z, Ker p (c + 1) (augM q c cells right) z ↔ Ker p (c + 1) m z) ∧ Hid (Blk wx B1 106 #[.int .i64 p, .int .i64 q, .int .i64 c, .slice C nc cc, .slice D q cd]) ∧ Hid (∀ j, j < q → (bs.getD j (0, 0)).1 < B2) ∧ B2 ≤ wx.heap.size ∧ Below B1 w wx) (fun _ kv _ => c - (intOf kv).toNat)
      case atStart => exact ⟨0, bs, _, [], none, 0, 0, Nat.zero_le _, rfl, rfl, Lib.hid rfl, HR, Lib.hid OwnI.nil_, Lib.hid ⟨RInv.start _ _, HC.out.elts, fun z => Iff.rfl⟩, HB, HBD0, hB2l, hb⟩
      case round =>
        clear hb HB HE1 HR hr1 HBD0 hB2l
        obtain ⟨k, bs, m, lead, L, nl, lc, hk, rfl, rfl, HNL, HR, HLd, HI, HB, HBD, hB2s, hb⟩ := hrel
        have hr2 : wr.cell? ⟨B1, 2, none⟩ = some (.int .i64 c) := (HB.out.cell 2).trans rfl
        by_cases hkc : k < c
        · have h1k : (k : Int) < (c : Int) := by omega
          by_cases hlq : nl < q
          · have h1l : (nl : Int) < (q : Int) := by omega
            have HNLq := Lib.hid hlq
            have HF : Hid (∀ j, j < q → ∃ go b cb, R = some ⟨go, 0, none⟩ ∧ wr.cell? ⟨go, j, none⟩ = some (.slice (some ⟨b, 0, none⟩) (c + 1) cb) ∧ wr.cell? ⟨b, k, none⟩ = some (.int .i64 (mx m j k))) := Lib.hid fun j hj => by
              obtain ⟨go, h1, _, _, _, h2⟩ := HR.out.form (by omega)
              exact ⟨go, _, _, h1, (h2 j hj).1, (HR.out.rws.own j (by rw [HR.out.ln]; exact hj)).cellAt (by omega)⟩
            have hkc1 : (k : Int) < ((c + 1 : Nat) : Int) := by omega
            have h0k : (0 : Int) ≤ (k : Int) := by omega
            obtain ⟨c1, hc1⟩ : ∃ c1, c + 1 = c1 := ⟨_, rfl⟩
            rw [hc1] at hkc1 HF
            have HC1 := Lib.hid hc1
            clear hc1
            rcases find_row m k nl (q - nl) with hz | ⟨i, hi1, hi2, hi3, hi4⟩
            · have HZ : Hid (∀ j, nl ≤ j → j < q → mx m j k = 0) := Lib.hid fun j h1 h2 => hz j h1 (by omega)
              clear hz
              go_wp2_with fail
              go_loop [10] (fun v => ∃ i : Nat, nl ≤ i ∧ i ≤ q ∧ v = .int .i64 i) (fun v => q - (intOf v).toNat)
              case atStart => exact ⟨nl, Nat.le_refl _, by omega, rfl⟩
              case round =>
                obtain ⟨i, hi1, hi2, rfl⟩ := hrel
                by_cases hlti : i < q
                · obtain ⟨go, b, cb, hRe, hrow, hcell⟩ := HF.out i hlti
                  subst hRe
                  rw [HZ.out i hi1 hlti] at hcell
                  have h1i : (i : Int) < (q : Int) := by omega
                  have h0i : (0 : Int) ≤ (i : Int) := by omega
                  go_wp2
                  go_round
                  case rel => exact ⟨i + 1, by omega, by omega, by go_num⟩
                  case measure => simp [intOf]; omega
                · obtain rfl : i = q := by omega
                  have HI2 : Hid (RInv p (k + 1) lead m) := Lib.hid (HI.out.1.skip (fun j h1 h2 => HZ.out j (by rw [HNL.out]; exact h1) (by rw [← HR.out.ln]; exact h2)))
                  go_wp2
                  go_roundw
                  case rel => exact ⟨k + 1, bs, m, lead, L, nl, lc, by omega, by go_num, rfl, HNL, HR, HLd, Lib.hid ⟨HI2.out, HI.out.2⟩, HB, HBD, hB2s, hb⟩
                  case measure => simp [intOf]; omega
            · have hiq : i < q := by omega
              have hnlq : nl < q := hlq
              have HZ := Lib.hid hi4
              obtain ⟨go, hRe, hgb, hgl, hbn, hrow⟩ := HR.out.form (by omega)
              subst hRe
              have hri := hrow nl hnlq
              have hii := hrow i hiq
              have hci := (HR.out.rws.own i (by rw [HR.out.ln]; exact hiq)).cellAt (j := k) (by omega)
              have HSW := Lib.hid (HR.out.swapped (r := nl) (i := i) hnlq hiq)
              obtain ⟨bi, hbi⟩ : ∃ b, (bs.getD i (0, 0)).1 = b := ⟨_, rfl⟩
              obtain ⟨ci, hci2⟩ : ∃ b, (bs.getD i (0, 0)).2 = b := ⟨_, rfl⟩
              obtain ⟨br, hbr⟩ : ∃ b, (bs.getD nl (0, 0)).1 = b := ⟨_, rfl⟩
              obtain ⟨cr, hcr⟩ : ∃ b, (bs.getD nl (0, 0)).2 = b := ⟨_, rfl⟩
              have HBI := Lib.hid hbi
              have HCI := Lib.hid hci2
              have HBR := Lib.hid hbr
              have HCR := Lib.hid hcr
              rw [hbi, hci2, HC1.out] at hii
              rw [hbr, hcr, HC1.out] at hri
              rw [hbi] at hci
              obtain ⟨x0, hx0⟩ : ∃ x, mx m i k = x := ⟨_, rfl⟩
              rw [show (m.getD i []).getD k 0 = mx m i k from rfl, hx0] at hci
              rw [hx0] at hi3
              have HX := Lib.hid hx0
              obtain ⟨vy, hvy⟩ := cell?_setCell_some (w := wr) (p := ⟨go, i, none⟩) (x := .slice (some ⟨br, 0, none⟩) c1 cr) (q := ⟨go, nl, none⟩) (v := .slice (some ⟨br, 0, none⟩) c1 cr) hri.1
              obtain ⟨hri, hfr⟩ := hri
              obtain ⟨hii, hfi⟩ := hii
              have h1i : (i : Int) < (q : Int) := by omega
              have h0i : (0 : Int) ≤ (i : Int) := by omega
              have h0r : (0 : Int) ≤ (nl : Int) := by omega
              have hine : ¬ (i : Int) = (q : Int) := by omega
              clear hbi hci2 hbr hcr hx0 hi4 hrow hbn
              go_wp2_with fail
              go_loop [10] (fun v => ∃ j : Nat, nl ≤ j ∧ j ≤ i ∧ v = .int .i64 j) (fun v => i - (intOf v).toNat)
              case atStart => exact ⟨nl, Nat.le_refl _, by omega, rfl⟩
              case round =>
                obtain ⟨j, hj1, hj2, rfl⟩ := hrel
                by_cases hltj : j < i
                · obtain ⟨go2, b, cb, hRe, hrow, hcell⟩ := HF.out j (by omega)
                  injection hRe with hRe
                  injection hRe with hRe
                  subst hRe
                  rw [HZ.out j hj1 hltj] at hcell
                  have h1j : (j : Int) < (q : Int) := by omega
                  have h0j : (0 : Int) ≤ (j : Int) := by omega
                  go_wp2
                  go_round
                  case rel => exact ⟨j + 1, by omega, by omega, by go_num⟩
                  case measure => simp [intOf]; omega
                · obtain rfl : i = j := by omega
                  go_upto_region 16 with fail
                  have hsw := HSW.out
                  rw [HBI.out, HCI.out, HBR.out, HCR.out, HC1.out] at hsw
                  obtain ⟨W, hW⟩ : ∃ W, (wr.setCell ⟨go, i, none⟩ (.slice (some ⟨br, 0, none⟩) c1 cr)).setCell ⟨go, nl, none⟩ (.slice (some ⟨bi, 0, none⟩) c1 ci) = W := ⟨_, rfl⟩
                  rw [hW] at hsw
                  have HWE := Lib.hid hW
                  clear hW
                  go_cut [10] (fun s wx => s = .int .i64 i ∧ wx = W.drew)
                  case first =>
                    as_aux_lemma =>
                      clear hsw
                      go_region
                      go_wp2
                      go_meet
                      case rel => exact ⟨rfl, by rw [← HWE.out]⟩
                  case rest =>
                  obtain ⟨rfl, rfl⟩ := hcut
                  obtain ⟨hRW, hSt⟩ := hsw
                  have hown1 := hRW.rws.own nl (by rw [hRW.ln]; exact hnlq)
                  have HROW : Hid ((swapM m i nl).getD nl [] = m.getD i []) := Lib.hid (by rw [swapM_comm m (by rw [HR.out.ln]; exact hnlq) (by rw [HR.out.ln]; exact hiq), swapM_at m (by rw [HR.out.ln]; exact hnlq) (by rw [HR.out.ln]; exact hiq)]; unfold swI; rw [if_pos rfl])
                  have HBR1 : Hid ((swapB bs i nl).getD nl (0, 0) = bs.getD i (0, 0)) := Lib.hid (by
                    rw [swapB_at bs (by rw [HR.out.rws.ln, HR.out.ln]; exact hiq) (by rw [HR.out.rws.ln, HR.out.ln]; exact hnlq)]
                    unfold swI
                    by_cases e : nl = i
                    · rw [if_pos e, e]
                    · rw [if_neg e, if_pos rfl])
                  rw [HBR1.out, HBI.out, HCI.out, HROW.out] at hown1
                  obtain ⟨go2, hgo2, _, hgoW, hbn2, hrow2⟩ := hRW.form (by omega)
                  injection hgo2 with hgo2
                  injection hgo2 with hgo2
                  subst hgo2
                  have hwr := (hrow2 nl hnlq).1
                  rw [HBR1.out, HBI.out, HCI.out] at hwr
                  have hwk := hown1.cellAt (j := k) (by have := HC1.out; omega)
                  rw [show (m.getD i []).getD k 0 = mx m i k from rfl, HX.out] at hwk
                  have hx1 : 0 < x0 ∧ x0 < p := by have := HI.out.2.1.mx_in hp.1 (i := i) (by rw [HR.out.ln]; exact hiq) k; rw [HX.out] at this; omega
                  have hB1W : W.cell? ⟨B1, 0, none⟩ = some (.int .i64 p) := ((Step.block hSt HB.out (by omega)).cell 0).trans rfl
                  have HRW := Lib.hid hRW
                  have HOW := Lib.hid hown1
                  have HST := Lib.hid hSt
                  have hbg : bi ≠ go := by have := hbn2 nl hnlq; rwa [HBR1.out, HBI.out] at this
                  clear hRW hown1 hSt hrow2 hbn2 hvy hri hii hfr hfi hci HSW
                  have hbiW : bi < W.heap.size := (World.ownsRow.lt HOW.out bi rfl).2
                  have hB1Wl : B1 < W.heap.size := Nat.lt_of_lt_of_le HB.out.lt HST.out.size
                  have hkc3 : k < c1 := by have := HC1.out; omega
                  have hb1W : Below B1 w W := Step.below hb HST.out (Nat.le_of_lt HB.out.lt) (Nat.le_of_lt (Nat.lt_of_succ_le hgb))
                  go_upto_region 17 with fail
                  go_cut [11] (fun s wx => ∃ v : Int, s = .int .i64 v ∧ (0 ≤ v ∧ v < p) ∧ Hid (Cong p (x0 * v) 1) ∧ Below W.heap.size W wx)
                  case first =>
                    have hS0 : W.cell? ⟨B1, 0, none⟩ = some (.int .i64 p) ∧ W.cell? ⟨go, nl, none⟩ = some (.slice (some ⟨bi, 0, none⟩) c1 ci) ∧ W.cell? ⟨bi, k, none⟩ = some (.int .i64 x0) := ⟨hB1W, hwr, hwk⟩
                    have hS0d : W.drew.drew.cell? ⟨B1, 0, none⟩ = some (.int .i64 p) ∧ W.drew.drew.cell? ⟨go, nl, none⟩ = some (.slice (some ⟨bi, 0, none⟩) c1 ci) ∧ W.drew.drew.cell? ⟨bi, k, none⟩ = some (.int .i64 x0) := ⟨hB1W, hwr, hwk⟩
                    have hS0e : W.drew.cell? ⟨B1, 0, none⟩ = some (.int .i64 p) ∧ W.drew.cell? ⟨go, nl, none⟩ = some (.slice (some ⟨bi, 0, none⟩) c1 ci) ∧ W.drew.cell? ⟨bi, k, none⟩ = some (.int .i64 x0) := ⟨hB1W, hwr, hwk⟩
                    have hB1W0 := hB1W
                    have hwr0 := hwr
                    have hwk0 := hwk
                    go_region_held_law (fun w' => w'.cell? ⟨B1, 0, none⟩ = some (.int .i64 p) ∧ w'.cell? ⟨go, nl, none⟩ = some (.slice (some ⟨bi, 0, none⟩) c1 ci) ∧ w'.cell? ⟨bi, k, none⟩ = some (.int .i64 x0)) (first | with_reducible exact hS0e | with_reducible exact hS0d | with_reducible exact hS0 | with_reducible exact hS1 | go_keep) (first
                      | (go_at_call 137; (with_reducible refine (rinv_ok p x0 _ HC.out.ok hx1).mono ?_); rintro e w9 ⟨⟨v, rfl, hv, hcg⟩, hb9⟩
                         have hb9' : Below W.heap.size W w9 := ⟨hb9.os, hb9.tape, hb9.output, hb9.size, hb9.block⟩
                         have hS1 : w9.cell? ⟨B1, 0, none⟩ = some (.int .i64 p) ∧ w9.cell? ⟨go, nl, none⟩ = some (.slice (some ⟨bi, 0, none⟩) c1 ci) ∧ w9.cell? ⟨bi, k, none⟩ = some (.int .i64 x0) := ⟨(hb9'.cell (p := ⟨B1, 0, none⟩) hB1Wl).trans hB1W0, (hb9'.cell (p := ⟨go, nl, none⟩) hgoW).trans hwr0, (hb9'.cell (p := ⟨bi, k, none⟩) hbiW).trans hwk0⟩
                         clear hb9))
                    all_goals go_wp2
                    all_goals go_meet
                    case rel => exact ⟨v, rfl, hv, hcg, hb9'⟩
                  case rest =>
                  obtain ⟨v, rfl, hv, HV, hbW⟩ := hcut
                  have hwr9 : wc.cell? ⟨go, nl, none⟩ = some (.slice (some ⟨bi, 0, none⟩) c1 ci) := (hbW.cell (p := ⟨go, nl, none⟩) hgoW).trans hwr
                  clear hB1W hwr hwk
                  have HRW9 := Lib.hid (HRW.out.below hbW)
                  have HOW9 := Lib.hid (HOW.out.belowAll hbW)
                  have hb9 := hb1W.trans (hbW.mono (Nat.le_of_lt hB1Wl))
                  go_upto_region 19 with fail
                  obtain ⟨row, hrwE⟩ : ∃ l, m.getD i [] = l := ⟨_, rfl⟩
                  have hrL : row.length = c1 := by rw [← hrwE, ← HC1.out]; exact (HI.out.2.1 i (by rw [HR.out.ln]; exact hiq)).1
                  have HRA : Hid (allP p row = true) := Lib.hid (by rw [← hrwE]; exact (HI.out.2.1 i (by rw [HR.out.ln]; exact hiq)).2)
                  have HRL := Lib.hid hrL
                  have HRE := Lib.hid hrwE
                  rw [hrwE] at HOW9
                  have hgow : go < wc.heap.size := Nat.lt_of_lt_of_le hgoW hbW.size
                  have hc33 : c1 ≤ 33 := by have := HC1.out; omega
                  have hp0 : ¬ p = 0 := by omega
                  clear hrL hrwE
                  go_loopw [113] (fun i113 wx => ∃ j : Nat, j ≤ c1 ∧ i113 = .int .i64 j ∧ Hid (OwnI wx (B1 + 1) 3 (some ⟨bi, 0, none⟩) c1 ci (partly (fun t _ => mulP p t v) row row j)) ∧ Step bi wc wx) (fun i _ => c1 - (intOf i).toNat)
                  case atStart => exact ⟨0, Nat.zero_le _, rfl, Lib.hid (by rw [partly_zero]; exact HOW9.out), Step.refl _ _⟩
                  case round =>
                    obtain ⟨j, hj, rfl, HO4, hS4⟩ := hrel
                    by_cases hltj : j < c1
                    · have hzr := (World.cell?_of_block (World.grownBy.block hS4 go hgow (fun e => hbg (by injection e with e; exact e.symm)))).trans hwr9
                      have hzx := HO4.out.cellAt hltj
                      rw [partly_at _ row row rfl j (by rw [HRL.out]; exact hltj)] at hzx
                      have hfz := HO4.out.frozenAt j
                      have hst := HO4.out.stored j (mulP p (row.getD j 0) v)
                      rw [partly_set (fun t _ => mulP p t v) row row rfl j (by rw [HRL.out]; exact hltj)] at hst
                      have hS5 := hS4.set j (.int .i64 (mulP p (row.getD j 0) v))
                      have hy := allP_getD HRA.out (k := j) (by rw [HRL.out]; exact hltj)
                      generalize row.getD j 0 = y at *
                      obtain ⟨pr, hpr⟩ : ∃ pr, y * v = pr := ⟨_, rfl⟩
                      have hpr0 : 0 ≤ pr := by rw [← hpr]; exact Int.mul_nonneg hy.1 hv.1
                      have hpr1 : pr ≤ 65521 * 65521 := by rw [← hpr]; exact Int.mul_le_mul (by omega) (by omega) hv.1 (by omega)
                      have hw3 : IntKind.i64.wrap pr = pr := IntWalk.i64_in _ (by omega)
                      have htm : pr.tmod p = pr % p := Int.tmod_eq_emod_of_nonneg hpr0
                      have hmp : mulP p y v = pr % p := by rw [← hpr]; rfl
                      rw [hmp] at hst hS5
                      have HS := Lib.hid hst
                      have HS2 := Lib.hid hS5
                      clear hst HO4 hmp
                      obtain ⟨z, hz⟩ : ∃ z, pr % p = z := ⟨_, rfl⟩
                      rw [hz] at htm HS HS2
                      have h1j : (j : Int) < (c1 : Int) := by omega
                      have h0j : (0 : Int) ≤ (j : Int) := by omega
                      clear hz hS5
                      go_wp2_with fail
                      go_still_tail 17, (by kernel_rfl)
                      go_wp2
                      go_roundw
                      case rel => exact ⟨j + 1, by omega, by go_num, Lib.hid HS.out.drew, HS2.out.drew⟩
                      case measure => simp [intOf]; omega
                    · obtain rfl : c1 = j := by omega
                      have HSC : Hid (partly (fun t _ => mulP p t v) row row c1 = scaleP p v row) := Lib.hid (by have := partly_all (fun t _ => mulP p t v) row row rfl; rw [HRL.out] at this; rw [this, scale_all])
                      have hO5 := HO4.out
                      rw [HSC.out] at hO5
                      have hR5 := HRW9.out.row_set (j := nl) hnlq (l := scaleP p v row) (w' := wr) (by rw [HBR1.out, HBI.out]; exact hS4) (by rw [HBR1.out, HBI.out, HCI.out]; exact hO5)
                      have hm5 : (swapM m i nl).set nl (scaleP p v row) = scaleM p v (swapM m nl i) nl := by
                        unfold scaleM
                        rw [swapM_comm m (by rw [HR.out.ln]; exact hnlq) (by rw [HR.out.ln]; exact hiq)] at HROW ⊢
                        rw [HROW.out, HRE.out]
                      rw [hm5] at hR5
                      have HR5 := Lib.hid hR5
                      have hb5 := Step.below hb9 hS4 (Nat.le_of_lt (Nat.lt_of_lt_of_le hB1Wl hbW.size)) (Nat.le_of_lt (Nat.lt_of_succ_le (World.ownsRow.lt HOW.out bi rfl).1))
                      have hBi : B1 + 1 ≤ bi := (World.ownsRow.lt HOW.out bi rfl).1
                      have hgo2 : go < B2 := HRgo.out go (by omega) rfl
                      have hbi2 : bi < B2 := by rw [← HBI.out]; exact HBD.out i hiq
                      have HB5 := Lib.hid (Step.block hS4 ((Step.block HST.out HB.out (by omega)).below hbW hB1Wl) (by omega))
                      have HL5 := Lib.hid (((HLd.out.step HST.out hgo2).belowAll hbW).step hS4 hbi2)
                      have hs5 : B2 ≤ wr.heap.size := Nat.le_trans hB2s (Nat.le_trans HST.out.size (Nat.le_trans hbW.size hS4.size))
                      have HMN : Hid (m.length = q) := Lib.hid HR.out.ln
                      have HE2 : Hid (Elts p c1 (scaleM p v (swapM m nl i) nl)) := Lib.hid (by
                        have h2 : Elts p c1 m := by rw [← HC1.out]; exact HI.out.2.1
                        exact scaleM_elts (v := v) hp.1 (swapM_elts h2 (by rw [HMN.out]; exact hnlq) (by rw [HMN.out]; exact hiq)) (by rw [swapM_len, HMN.out]; exact hnlq))
                      have HM2 : Hid ((scaleM p v (swapM m nl i) nl).length = q) := Lib.hid (by rw [scaleM_len, swapM_len]; exact HMN.out)
                      have HLM : Hid (elimM p k nl q (scaleM p v (swapM m nl i) nl) = leadM p v k nl i m) := Lib.hid (by unfold leadM; rw [HMN.out])
                      have HBD2 : Hid (∀ j, j < q → ((swapB bs i nl).getD j (0, 0)).1 < B2) := Lib.hid fun j hj => by
                        rw [swapB_at bs (by rw [HR.out.rws.ln, HR.out.ln]; exact hiq) (by rw [HR.out.rws.ln, HR.out.ln]; exact hnlq)]
                        exact HBD.out _ (swI_lt hiq hnlq hj)
                      have HB1R := Lib.hid HBR1.out
                      obtain ⟨m2, hm2e⟩ : ∃ m2, scaleM p v (swapM m nl i) nl = m2 := ⟨_, rfl⟩
                      rw [hm2e] at HR5 HE2 HM2 HLM
                      obtain ⟨bs1, hbs1⟩ : ∃ b, swapB bs i nl = b := ⟨_, rfl⟩
                      rw [hbs1] at HR5 HB1R HBD2
                      have hpb : p ≤ 65521 := hp.2
                      clear hR5 hO5 HO4 hm5 hm2e hbs1 hS4 HRW9 HOW9 HRW HOW HST HBD hb1W hb9 hbW hb HLd HB HF HZ hwr9
                      go_wp2_with fail
                      have HMA : Hid (∀ z y, z < q → (elimM p k nl y m2).getD z [] = if z < y ∧ z ≠ nl then elimR p k (m2.getD nl []) (m2.getD z []) else m2.getD z []) := Lib.hid fun z y hz => elimM_at _ _ _ _ _ (by rw [HM2.out]; exact hz)
                      go_loopw [136] (fun iv wx => ∃ z : Nat, z ≤ q ∧ iv = .int .i64 z ∧ Hid (RefW wx (B1 + 1) c1 (some ⟨go, 0, none⟩) q cap bs1 (elimM p k nl z m2)) ∧ Hid (OwnI wx B2 3 L nl lc (lead.map Int.ofNat)) ∧ Hid (Blk wx B1 106 #[.int .i64 p, .int .i64 q, .int .i64 c, .slice C nc cc, .slice D q cd]) ∧ Below B1 w wx ∧ B2 ≤ wx.heap.size) (fun i _ => q - (intOf i).toNat)
                      case atStart => exact ⟨0, Nat.zero_le _, rfl, Lib.hid (by rw [elimM_zero]; exact HR5.out), HL5, HB5, hb5, hs5⟩
                      case round =>
                        clear HR5 HL5 HB5 hb5 hs5
                        obtain ⟨z, hz, rfl, HR6, HL6, HB6, hb6, hs6⟩ := hrel
                        by_cases hltz : z < q
                        · obtain ⟨go3, hgo3, _, hgo3l, hbn3, hrow3⟩ := HR6.out.form (by omega)
                          injection hgo3 with hgo3
                          injection hgo3 with hgo3
                          subst hgo3
                          have hzr := (hrow3 z hltz).1
                          have hzr1 := (hrow3 nl hnlq).1
                          have hownq := HR6.out.rws.own z (by rw [elimM_len, HM2.out]; exact hltz)
                          have hown1 := HR6.out.rws.own nl (by rw [elimM_len, HM2.out]; exact hnlq)
                          rw [HMA.out z z hltz, if_neg (by omega)] at hownq
                          rw [HMA.out nl z hnlq, if_neg (by omega), HB1R.out, HBI.out, HCI.out] at hown1
                          rw [HB1R.out, HBI.out, HCI.out] at hzr1
                          have hLe := HE2.out z (by rw [HM2.out]; exact hltz)
                          have hL1 := HE2.out nl (by rw [HM2.out]; exact hnlq)
                          have hapq : z ≠ nl → (bs1.getD z (0, 0)).1 ≠ bi := fun hne e => hne (HR6.out.rws.apart z nl (by rw [elimM_len, HM2.out]; exact hltz) (by rw [elimM_len, HM2.out]; exact hnlq) (by rw [HB1R.out, HBI.out]; exact e))
                          have hbq0 := HR6.out.rws.row (j := z) (by rw [elimM_len, HM2.out]; exact hltz)
                          have hbqg := hbn3 z hltz
                          have hbq2 := HBD2.out z hltz
                          have HSET : Hid (∀ (l : List Int) (w2 : World), Step (bs1.getD z (0, 0)).1 wr w2 → OwnI w2 (B1 + 1) 3 (some ⟨(bs1.getD z (0, 0)).1, 0, none⟩) c1 (bs1.getD z (0, 0)).2 l → RefW w2 (B1 + 1) c1 (some ⟨go, 0, none⟩) q cap bs1 ((elimM p k nl z m2).set z l)) := Lib.hid fun l w2 h1 h2 => HR6.out.row_set hltz h1 h2
                          have hzk := hownq.cellAt (j := k) hkc3
                          have HSK : Hid (z = nl ∨ cf (m2.getD z []) k = 0 → elimM p k nl z m2 = elimM p k nl (z + 1) m2) := Lib.hid fun h => elimM_skip p k nl z m2 h
                          have HST2 : Hid (z ≠ nl → cf (m2.getD z []) k ≠ 0 → (elimM p k nl z m2).set z (zipI (timesP p (subP p 0 (cf (m2.getD z []) k))) (m2.getD z []) (m2.getD nl [])) = elimM p k nl (z + 1) m2) := Lib.hid fun h1 h2 => elimM_set_at (by rw [HM2.out]; exact hltz) h1 h2
                          have hyin := allP_getD hLe.2 (k := k) (by rw [hLe.1]; exact hkc3)
                          have HAPQ := Lib.hid hapq
                          obtain ⟨bq, hbq⟩ : ∃ b, (bs1.getD z (0, 0)).1 = b := ⟨_, rfl⟩
                          obtain ⟨cq, hcq⟩ : ∃ b, (bs1.getD z (0, 0)).2 = b := ⟨_, rfl⟩
                          obtain ⟨rq, hrq⟩ : ∃ l, m2.getD z [] = l := ⟨_, rfl⟩
                          obtain ⟨r1, hr1⟩ : ∃ l, m2.getD nl [] = l := ⟨_, rfl⟩
                          rw [hbq] at hzr hownq HSET hzk HAPQ hbq0 hbqg hbq2
                          rw [hcq] at hzr hownq HSET
                          rw [hrq] at hownq hLe HSK HST2 hzk hyin
                          rw [hr1] at hown1 hL1 HST2
                          obtain ⟨y, hy⟩ : ∃ y, rq.getD k 0 = y := ⟨_, rfl⟩
                          have hycf : cf rq k = y := hy
                          rw [hy] at hzk hyin
                          rw [hycf] at HSK HST2
                          have HOQ := Lib.hid hownq
                          have HO1 := Lib.hid hown1
                          have HLE := Lib.hid hLe
                          have HL1 := Lib.hid hL1
                          have h1z : (z : Int) < (q : Int) := by omega
                          have h0z : (0 : Int) ≤ (z : Int) := by omega
                          have hyw : IntKind.i64.wrap ((z : Int) + 1) = (z : Int) + 1 := IntWalk.i64_in _ (by omega)
                          clear hbq hcq hrq hr1 hy hycf hownq hown1 hrow3 hbn3 hLe hL1 hapq
                          by_cases hzn : z = nl
                          · obtain rfl : nl = z := hzn.symm
                            have HRZ : Hid (RefW wr (B1 + 1) c1 (some ⟨go, 0, none⟩) q cap bs1 (elimM p k nl (nl + 1) m2)) := Lib.hid (by rw [← HSK.out (.inl rfl)]; exact HR6.out)
                            clear hzn hzr1
                            go_wp2_with fail
                            go_roundw
                            case rel => exact ⟨nl + 1, by omega, by go_num, HRZ, HL6, HB6, hb6, hs6⟩
                            case measure => simp [intOf]; omega
                          · have hzn2 : ¬ (z : Int) = (nl : Int) := by omega
                            by_cases hy0 : y = 0
                            · have HRZ : Hid (RefW wr (B1 + 1) c1 (some ⟨go, 0, none⟩) q cap bs1 (elimM p k nl (z + 1) m2)) := Lib.hid (by rw [← HSK.out (.inr hy0)]; exact HR6.out)
                              subst hy0
                              go_wp2_with fail
                              go_roundw
                              case rel => exact ⟨z + 1, by omega, by go_num, HRZ, HL6, HB6, hb6, hs6⟩
                              case measure => simp [intOf]; omega
                            · have HSZ := Lib.hid (HST2.out hzn hy0)
                              have hbqi := HAPQ.out hzn
                              have hyb2 : (y != 0) = true := by simpa using hy0
                              obtain ⟨sy, hsy⟩ : ∃ s, p - y = s := ⟨_, rfl⟩
                              have hsb : subP p 0 y = sy := by
                                unfold subP
                                rw [show (0 : Int) - y + p = sy by omega]
                                exact Int.emod_eq_of_lt (by omega) (by omega)
                              rw [hsb] at HSZ
                              have hsyb : 0 < sy ∧ sy < p := by omega
                              have hsyw : IntKind.i64.wrap (p - y) = sy := by rw [IntWalk.i64_in _ (by omega)]; exact hsy
                              clear hsy hsb
                              have hgow2 : go < wr.heap.size := hgo3l
                              have hbiw : bi < wr.heap.size := (World.ownsRow.lt HO1.out bi rfl).2
                              have HRQL : Hid (rq.length = c1) := Lib.hid HLE.out.1
                              have HR1L : Hid (r1.length = c1) := Lib.hid HL1.out.1
                              go_wp2_with fail
                              go_loopw [158] (fun iv wx => ∃ j : Nat, j ≤ c1 ∧ iv = .int .i64 j ∧ Hid (OwnI wx (B1 + 1) 3 (some ⟨bq, 0, none⟩) c1 cq (partly (timesP p sy) rq r1 j)) ∧ Step bq wr wx) (fun i _ => c1 - (intOf i).toNat)
                              case atStart => exact ⟨0, Nat.zero_le _, rfl, Lib.hid (by rw [partly_zero]; exact HOQ.out), Step.refl _ _⟩
                              case round =>
                                obtain ⟨j, hj, rfl, HO7, hS7⟩ := hrel
                                by_cases hltj : j < c1
                                · have hxz := (World.cell?_of_block (World.grownBy.block hS7 go hgow2 (fun e => hbqg (by injection e with e; exact e.symm)))).trans hzr
                                  have hxz1 := (World.cell?_of_block (World.grownBy.block hS7 go hgow2 (fun e => hbqg (by injection e with e; exact e.symm)))).trans hzr1
                                  have hx1 := (World.cell?_of_block (World.grownBy.block hS7 bi hbiw (fun e => hbqi (by injection e with e; exact e.symm)))).trans (HO1.out.cellAt hltj)
                                  have hxt := HO7.out.cellAt hltj
                                  rw [partly_at _ rq r1 (by rw [HRQL.out, HR1L.out]) j (by rw [HRQL.out]; exact hltj)] at hxt
                                  have hfz := HO7.out.frozenAt j
                                  have hst := HO7.out.stored j (timesP p sy (rq.getD j 0) (r1.getD j 0))
                                  rw [partly_set (timesP p sy) rq r1 (by rw [HRQL.out, HR1L.out]) j (by rw [HRQL.out]; exact hltj)] at hst
                                  have hte := allP_getD HLE.out.2 (k := j) (by rw [HRQL.out]; exact hltj)
                                  have hae := allP_getD HL1.out.2 (k := j) (by rw [HR1L.out]; exact hltj)
                                  obtain ⟨tt, htt⟩ : ∃ x, rq.getD j 0 = x := ⟨_, rfl⟩
                                  obtain ⟨aa, haa⟩ : ∃ x, r1.getD j 0 = x := ⟨_, rfl⟩
                                  rw [htt] at hxt hst hte
                                  rw [haa] at hx1 hst hae
                                  obtain ⟨v2, HV2⟩ : ∃ v2, Hid (timesP p sy tt aa = v2) := ⟨_, Lib.hid rfl⟩
                                  rw [HV2.out] at hst
                                  have hxy : 0 ≤ sy * aa ∧ sy * aa ≤ 65521 * 65521 := ⟨Int.mul_nonneg (by omega) hae.1, by have := Int.mul_le_mul (show sy ≤ 65521 by omega) (show aa ≤ 65521 by omega) hae.1 (by omega); omega⟩
                                  have hvt : (tt + sy * aa).tmod p = v2 := by rw [Int.tmod_eq_emod_of_nonneg (by omega), times_raw hp.1]; exact HV2.out
                                  have hw1 : IntKind.i64.wrap (sy * aa) = sy * aa := IntWalk.i64_in _ (by omega)
                                  have hw2 : IntKind.i64.wrap (tt + sy * aa) = tt + sy * aa := IntWalk.i64_in _ (by omega)
                                  have HS := Lib.hid hst
                                  have HS2 := Lib.hid (hS7.set j (.int .i64 v2))
                                  have h1j : (j : Int) < (c1 : Int) := by omega
                                  have h0j : (0 : Int) ≤ (j : Int) := by omega
                                  clear hst HO7 htt haa hxy hS7
                                  go_wp2_with fail
                                  go_still_tail 27, (by kernel_rfl)
                                  go_wp2
                                  go_roundw
                                  case rel => exact ⟨j + 1, by omega, by go_num, Lib.hid HS.out.drew, HS2.out.drew⟩
                                  case measure => simp [intOf]; omega
                                · obtain rfl : c1 = j := by omega
                                  have HSC : Hid (partly (timesP p sy) rq r1 c1 = zipI (timesP p sy) rq r1) := Lib.hid (by have := partly_all (timesP p sy) rq r1 (by rw [HRQL.out, HR1L.out]); rwa [HRQL.out] at this)
                                  have hO7 := HO7.out
                                  rw [HSC.out] at hO7
                                  have hR7 := HSET.out _ _ hS7 hO7
                                  rw [HSZ.out] at hR7
                                  have HR7 := Lib.hid hR7
                                  have HL7 := Lib.hid (HL6.out.step hS7 hbq2)
                                  have HB7 := Lib.hid (Step.block hS7 HB6.out (by omega))
                                  have hb7 := Step.below hb6 hS7 (Nat.le_of_lt HB6.out.lt) (by omega)
                                  have hs7 := Nat.le_trans hs6 (World.grownBy.size hS7)
                                  clear hR7 hO7 HO7 hS7
                                  go_wp2_with fail
                                  go_roundw
                                  case rel => exact ⟨z + 1, by omega, by go_num, HR7, HL7, HB7, hb7, hs7⟩
                                  case measure => simp [intOf]; omega
                        · obtain rfl : q = z := by omega
                          have HR7 : Hid (RefW wr (B1 + 1) c1 (some ⟨go, 0, none⟩) q cap bs1 (leadM p v k nl i m)) := Lib.hid (by rw [← HLM.out]; exact HR6.out)
                          have HCV : Hid (Cong p (mx m i k * v) 1) := Lib.hid (by rw [HX.out]; exact HV.out)
                          have HI9 : Hid (RInv p (k + 1) (lead ++ [k]) (leadM p v k nl i m) ∧ Elts p (c + 1) (leadM p v k nl i m) ∧ ∀ z, Ker p (c + 1) (augM q c cells right) z ↔ Ker p (c + 1) (leadM p v k nl i m) z) := Lib.hid (by
                            have h1 : nl < m.length := by rw [HMN.out]; exact hnlq
                            have h2 : i < m.length := by rw [HMN.out]; exact hiq
                            have h3 := HI.out.1.lead_ hp.1 HI.out.2.1 (by rw [← HNL.out]; exact hi1) h2 HCV.out
                            rw [← HNL.out] at h3
                            exact ⟨h3, leadM_elts hp.1 HI.out.2.1 h1 h2, fun z => (HI.out.2.2 z).trans (leadM_ker hp.1 HI.out.2.1 h1 h2 HCV.out z)⟩)
                          clear HR6 HMA HM2 HE2 HLM
                          go_wp2_with (at_builtin
                                       refine wpList_append_ints rfl _ _ _ rfl B2 3 i0 _ Try.underlying22 hi0 hz0 hz1 hz2 rfl L nl lc _ rfl (HL6.out.alloc _) _ _ 1 1 [(k : Int)] rfl (Ints.one _ _ _) (nl + 1) rfl _ rfl (by omega) (Nat.le_trans hs6 (bbox _).size) ?_
                                       intro A9 c9 w9 hown9 hgr9 hbw9 hab9
                                       have HR9 := Lib.hid ((HR7.out.below (bbox _)).belowAt hbw9 (fun g e => by injection e with e; injection e with e; rw [← e]; exact hgo2) HBD2.out)
                                       have HB9 := Lib.hid ((HB6.out.below (bbox _) HB6.out.lt).below hbw9 (by omega))
                                       have hb9 := (hb6.alloc (Nat.le_of_lt HB6.out.lt) _).trans (hbw9.mono (by omega))
                                       have hs9 : B2 ≤ w9.heap.size := Nat.le_trans hs6 (Nat.le_trans (bbox _).size hbw9.size)
                                       have HO9 := Lib.hid hown9
                                       clear hown9 hgr9 hbw9 hab9)
                          go_roundw
                          case rel => exact ⟨k + 1, bs1, _, lead ++ [k], A9, nl + 1, c9, by omega, by go_num, rfl, Lib.hid (by rw [List.length_append, ← HNL.out]; rfl), Lib.hid (by rw [HC1.out]; exact HR9.out), Lib.hid (by rw [lead_map]; exact HO9.out), HI9, HB9, HBD2, hs9, hb9⟩
                          case measure => simp [intOf]; omega
          · have h1l : ¬ (nl : Int) < (q : Int) := by omega
            have HRed : Hid (Red p c (augM q c cells right) m lead) := Lib.hid ⟨by
              have := RInv.skips (by rw [HR.out.ln, ← HNL.out]; omega) (c - k) k HI.out.1
              rwa [show k + (c - k) = c by omega] at this, by rw [HR.out.ln, augM_len], HI.out.2.1, HI.out.2.2⟩
            go_wp2
            go_ret2
            exact ⟨R, cap, bs, m, L, lc, lead, by rw [← HNL.out]; rfl, by rw [hB1]; exact HR.out, by rw [hB1, ← HNL.out]; exact HLd.out.base hB12, HRed.out, by rw [hB1]; exact hb⟩
        · obtain rfl : k = c := by omega
          have HRed : Hid (Red p k (augM q k cells right) m lead) := Lib.hid ⟨HI.out.1, by rw [HR.out.ln, augM_len], HI.out.2.1, HI.out.2.2⟩
          go_wp2
          go_ret2
          exact ⟨R, cap, bs, m, L, lc, lead, by rw [← HNL.out]; rfl, by rw [hB1]; exact HR.out, by rw [hB1, ← HNL.out]; exact HLd.out.base hB12, HRed.out, by rw [hB1]; exact hb⟩
end Go.Proofs.Ytoblofilaegnaaa
