/-
  Words for memory and contracts of small functions of the second form. Conditions: those of each lemma.
-/
import Derived.Test.YtnjdjcgandfnfaaDoorRPre
import Derived.Test.YtnjdjcgandfnfaaDoorSCheck
import Derived.Test.YtnjdjcgandfnfaaDoorPlain
import Derived.Deep.RegionHeldLaw
import Derived.StillTailTactics
import Derived.Deep.DeepCutAuto
import Derived.Deep.QuietTactic
import Derived.BigQuiet
import Derived.Test.YtnjdjcgandfnfaaDoorChk
import Derived.Test.YtnjdjcgandfnfaaDoorGRef
/-! RRed -/
namespace Go.Proofs.YtnjdjcgandfnfaaDoor
open Go.RowKit
set_option linter.unusedVariables false

/-- Equations whose lists lie below block B. -/
structure EqL (w : World) (B : Nat) (p : Int) (r c nc : Nat) (C : Option Addr) (cc : Nat) (D : Option Addr) (cd : Nat) (cells right : List Int) : Prop where
  ok : EqOk p r c cells right
  ln : r * c = nc
  hC : Ints w B C nc cells
  hD : Ints w B D r right
  cap : nc ≤ cc
theorem EqL.below {w w' : World} {B B' : Nat} {p : Int} {r c nc : Nat} {C : Option Addr} {cc : Nat} {D : Option Addr} {cd : Nat} {cells right : List Int} (h : EqL w B p r c nc C cc D cd cells right) (hb : Below B' w w') (hB : B ≤ B') : EqL w' B p r c nc C cc D cd cells right :=
  ⟨h.ok, h.ln, h.hC.below (hb.mono hB), h.hD.below (hb.mono hB), h.cap⟩
theorem Below_undrew {B : Nat} {a b : World} (h : Below B a.drew b) : Below B a b := ⟨h.os, h.tape, h.output, h.size, h.block⟩

theorem RInv.skips {p : Int} {lead : List Nat} {m : List (List Int)} (hl : m.length ≤ lead.length) : ∀ (d k : Nat), RInv p k lead m → RInv p (k + d) lead m
  | 0, k, h => h
  | d + 1, k, h => (RInv.skips hl d k h).skip (fun i h1 h2 => absurd h2 (by omega))

theorem RefW.belowAt {w w' : World} {base wd n cap B : Nat} {R : Option Addr} {bs : List (Nat × Nat)} {m : List (List Int)} (h : RefW w base wd R n cap bs m) (hb : Below B w w') (hR : ∀ g, R = some ⟨g, 0, none⟩ → g < B) (hr : ∀ j, j < n → (bs.getD j (0, 0)).1 < B) : RefW w' base wd R n cap bs m :=
  ⟨⟨h.out.1, by
    rcases h.out.2 with h0 | ⟨g, cap, cur, hv, hg, hh, r⟩
    · exact .inl h0
    · refine .inr ⟨g, cap, cur, hv, hg, ?_, r⟩
      rw [hb.block g (by injection hv with h1; exact hR g h1)]; exact hh⟩,
   ⟨h.rws.ln, h.rws.apart, fun j hj => (h.rws.own j hj).below hb fun k hk => by
      have h1 : (bs.getD j (0, 0)).1 = k := by injection hk
      rw [← h1]; exact hr j (by rw [← h.ln]; exact hj)⟩, h.ln⟩
theorem lead_map (lead : List Nat) (k : Nat) : (lead ++ [k]).map Int.ofNat = lead.map Int.ofNat ++ [(k : Int)] := by simp

/-- What reduce leaves. -/
def RRedPost (p : Int) (c r : Nat) (m0 : List (List Int)) (w : World) (e : Ending) (w' : World) : Prop :=
  ∃ (R : Option Addr) (cap : Nat) (bs : List (Nat × Nat)) (m : List (List Int)) (L : Option Addr) (lc : Nat) (lead : List Nat), e = .returned (.tuple #[.slice R r cap, .slice L lead.length lc]) ∧ RefW w' (w.heap.size + 1) (c + 1) R r cap bs m ∧ OwnI w' (w.heap.size + 1) 3 L lead.length lc (lead.map Int.ofNat) ∧ Red p c m0 m lead ∧ Below w.heap.size w w'

set_option maxHeartbeats 8000000 in
set_option maxRecDepth 100000 in
theorem rreduce_ok {p : Int} {r c nc cc cd : Nat} {C D : Option Addr} {cells right : List Int} {w : World} (h : EqW w p r c nc C cc D cd cells right) :
    Calls Tryd.prog 56 #[eqV p r c C nc cc D r cd] w (RRedPost p c r (augM r c cells right) w) := by
  obtain ⟨i0, hi0, hz0, hz1, hz2⟩ := info_parts info_int
  obtain ⟨i1, hi1, hy0, hy1, hy2⟩ := info_parts info_rowR
  have hb0 : Below w.heap.size w (w.alloc (.cells (eqC p r c C nc cc D r cd) 46)) := bbox _
  have HE : Hid (EqL (w.alloc (.cells (eqC p r c C nc cc D r cd) 46)) w.heap.size p r c nc C cc D cd cells right) := Lib.hid ⟨h.ok, h.ln, h.hC.below hb0, h.hD.below hb0, h.cap⟩
  have HB0 := Lib.hid (Blk.new w 46 (eqC p r c C nc cc D r cd))
  have HL := Lib.hid h.ln
  have hc32 := h.ok.c32
  have hr32 := h.ok.r32
  have hp := okP_pos h.ok.ok
  have hcap := h.cap
  have HC := Lib.hid h.ok
  have hnc2 : nc ≤ 1024 := by
    have h1 : r * c ≤ 32 * 32 := Nat.mul_le_mul hr32 hc32
    rw [h.ln] at h1; exact h1
  clear h
  have ha0 : (w.alloc (.cells (eqC p r c C nc cc D r cd) 46)).cell? ⟨w.heap.size, 0, none⟩ = some (.int .i64 p) := (HB0.out.cell 0).trans rfl
  go_enter Tryd.func56, Tryd.ntmps56
  go_wp2_with fail
  obtain ⟨B1, hB1⟩ : ∃ b, w.heap.size = b := ⟨_, rfl⟩
  obtain ⟨W1, hW1⟩ : ∃ W, w.alloc (.cells (eqC p r c C nc cc D r cd) 46) = W := ⟨_, rfl⟩
  rw [hW1] at HE HB0 hb0 ⊢
  have hs1 : B1 < W1.heap.size := by rw [← hB1]; exact HB0.out.lt
  rw [hB1] at HB0 HE ⊢
  clear hW1 ha0
  go_loopw [5, 6] (fun v i wx => ∃ (q : Nat) (R : Option Addr) (cap : Nat) (bs : List (Nat × Nat)), q ≤ r ∧ i = .int .i64 q ∧ v = .slice R q cap ∧ Hid (RefW wx (B1 + 1) (c + 1) R q cap bs ((augM r c cells right).take q)) ∧ Hid (Blk wx B1 46 #[.int .i64 p, .int .i64 r, .int .i64 c, .slice C nc cc, .slice D r cd]) ∧ Hid (EqL wx B1 p r c nc C cc D cd cells right) ∧ Below B1 w wx) (fun _ i _ => r - (intOf i).toNat)
  case atStart => exact ⟨0, none, 0, [], Nat.zero_le _, rfl, rfl, Lib.hid RefW.nil_, HB0, HE, by rw [← hB1]; exact hb0⟩
  case round =>
    obtain ⟨q, R, cap, bs, hq, rfl, rfl, HR, HB, HE1, hb⟩ := hrel
    have hr1 : wr.cell? ⟨B1, 1, none⟩ = some (.int .i64 r) := (HB.out.cell 1).trans rfl
    by_cases hlt : q < r
    · have hr2 : wr.cell? ⟨B1, 2, none⟩ = some (.int .i64 c) := (HB.out.cell 2).trans rfl
      have hr3 : wr.cell? ⟨B1, 3, none⟩ = some (.slice C nc cc) := (HB.out.cell 3).trans rfl
      have hr4 : wr.cell? ⟨B1, 4, none⟩ = some (.slice D r cd) := (HB.out.cell 4).trans rfl
      have hrle := row_le (c := c) hlt
      rw [HL.out] at hrle
      obtain ⟨l, hl⟩ : ∃ l, q * c = l := ⟨_, rfl⟩
      rw [hl] at hrle
      have hw1 : (q : Int) * (c : Int) = (l : Int) := by rw [← hl]; simp
      have hw2 : ((q : Int) + 1) * (c : Int) = ((l + c : Nat) : Int) := by rw [← hl, Int.add_mul]; simp
      have HI := Lib.hid ((HE1.out.hC.more (Nat.le_of_lt HB.out.lt)).sub_ hcap l c hrle)
      have HRow : Hid ((augM r c cells right).getD q [] = (cells.drop l).take c ++ [right.getD q 0]) := Lib.hid (by rw [← hl]; exact augM_at _ _ _ _ hlt)
      have HTK : Hid ((augM r c cells right).take (q + 1) = (augM r c cells right).take q ++ [(augM r c cells right).getD q []]) := Lib.hid (take_snoc_row _ q (by rw [augM_len]; exact hlt))
      obtain ⟨yq, hyq⟩ : ∃ y, right.getD q 0 = y := ⟨_, rfl⟩
      rw [hyq] at HRow
      obtain ⟨rw0, hrw0⟩ : ∃ z, (cells.drop l).take c = z := ⟨_, rfl⟩
      rw [hrw0] at HRow HI
      rw [HRow.out] at HTK
      obtain ⟨bD, oD, hDe, hbD, hcD⟩ := HE1.out.hD.2 (by omega)
      subst hDe
      have hcq := hcD q hlt
      have hbD1 : bD < B1 := hbD
      have hbD : bD < wr.heap.size := Nat.lt_trans hbD HB.out.lt
      rw [hyq] at hcq
      have h1 : (q : Int) < (r : Int) := by omega
      have h0 : (0 : Int) ≤ (q : Int) := by omega
      obtain ⟨e, he⟩ : ∃ e, l + c = e := ⟨_, rfl⟩
      have hem : e - l = c := by omega
      rw [he] at hw2 hrle
      obtain ⟨A4, hA4, HI4⟩ : ∃ A4 : Option Addr, (if cc = l then C else Option.map (fun x => x.add l) C) = A4 ∧ Hid (Ints wr wr.heap.size A4 c rw0) := by
        refine ⟨_, rfl, ?_⟩
        have := HI
        rwa [Nat.mul_one] at this
      have s1 : (0 : Int) ≤ (l : Int) := by omega
      have s2 : (l : Int) ≤ (e : Int) := by omega
      have s3 : (e : Int) ≤ (cc : Int) := by omega
      have s4 : IntKind.i64.wrap (l : Int) = (l : Int) := IntWalk.i64_in _ (by omega)
      have s5 : IntKind.i64.wrap (e : Int) = (e : Int) := IntWalk.i64_in _ (by omega)
      have s6 : IntKind.i64.wrap ((q : Int) + 1) = (q : Int) + 1 := IntWalk.i64_in _ (by omega)
      have hlB := HB.out.lt
      have HDC : Hid (∀ w', Below (B1 + 1) wr w' → w'.cell? ⟨bD, oD + q, none⟩ = some (.int .i64 yq)) := Lib.hid fun w' hb => (hb.cell (p := ⟨bD, oD + q, none⟩) (show bD < B1 + 1 by omega)).trans hcq
      have HEK : Hid (∀ w', Below (B1 + 1) wr w' → EqL w' B1 p r c nc C cc (some ⟨bD, oD, none⟩) cd cells right) := Lib.hid fun w' hb => HE1.out.below hb (Nat.le_succ _)
      clear hcD hrw0 hyq hl he HI
      go_wp2_with fail
      have hS0 : wr.drew.cell? ⟨B1, 3, none⟩ = some (.slice C nc cc) ∧ wr.drew.cell? ⟨B1, 2, none⟩ = some (.int .i64 c) ∧ wr.drew.cell? ⟨B1, 4, none⟩ = some (.slice (some ⟨bD, oD, none⟩) r cd) ∧ wr.drew.cell? ⟨bD, oD + q, none⟩ = some (.int .i64 yq) := ⟨hr3, hr2, hr4, hcq⟩
      have hId : Ints wr.drew wr.drew.heap.size A4 c rw0 := HI4.out
      have hled : wr.heap.size ≤ wr.drew.heap.size := Nat.le_refl _
      have hbB : B1 + 1 ≤ wr.heap.size := hlB
      have hIdb0 := HI4.out.upto (bbox (w0 := wr) (.cells #[.int .i64 yq] 3))
      have hIdb : Ints (wr.alloc (.cells #[.int .i64 yq] 3)).drew (wr.alloc (.cells #[.int .i64 yq] 3)).drew.heap.size A4 c rw0 := hIdb0
      have hledb : wr.heap.size ≤ (wr.alloc (.cells #[.int .i64 yq] 3)).drew.heap.size := (bbox (w0 := wr) (.cells #[.int .i64 yq] 3)).size
      have hIyb : Ints (wr.alloc (.cells #[.int .i64 yq] 3)) (wr.alloc (.cells #[.int .i64 yq] 3)).heap.size (some ⟨wr.heap.size, 0, none⟩) 1 [yq] := Ints.oneAt _ _ _ _ rfl
      have hbxb : Below wr.heap.size wr (wr.alloc (.cells #[.int .i64 yq] 3)) := bbox (.cells #[.int .i64 yq] 3)
      have hS6 : (wr.alloc (.cells #[.int .i64 yq] 3)).drew.cell? ⟨B1, 3, none⟩ = some (.slice C nc cc) ∧ (wr.alloc (.cells #[.int .i64 yq] 3)).drew.cell? ⟨B1, 2, none⟩ = some (.int .i64 c) ∧ (wr.alloc (.cells #[.int .i64 yq] 3)).drew.cell? ⟨B1, 4, none⟩ = some (.slice (some ⟨bD, oD, none⟩) r cd) ∧ (wr.alloc (.cells #[.int .i64 yq] 3)).drew.cell? ⟨bD, oD + q, none⟩ = some (.int .i64 yq) := ⟨(hbxb.cell (p := ⟨B1, 3, none⟩) hlB).trans hr3, (hbxb.cell (p := ⟨B1, 2, none⟩) hlB).trans hr2, (hbxb.cell (p := ⟨B1, 4, none⟩) hlB).trans hr4, (hbxb.cell (p := ⟨bD, oD + q, none⟩) hbD).trans hcq⟩
      go_region_held_law (fun w' => w'.cell? ⟨B1, 3, none⟩ = some (.slice C nc cc) ∧ w'.cell? ⟨B1, 2, none⟩ = some (.int .i64 c) ∧ w'.cell? ⟨B1, 4, none⟩ = some (.slice (some ⟨bD, oD, none⟩) r cd) ∧ w'.cell? ⟨bD, oD + q, none⟩ = some (.int .i64 yq)) (first | with_reducible exact hS0 | with_reducible exact hS1 | with_reducible exact hS2 | with_reducible exact hS3 | with_reducible exact hS4 | with_reducible exact hS5 | with_reducible exact hS6 | go_keep) (first
        | ((refine step_append_intsR (w := wr.drew) rfl (.const (.slice none 0 0)) (.tmp 37) 22 rfl wr.heap.size 3 i0 _ Tryd.underlying22 hi0 hz0 hz1 hz2 rfl none 0 0 [] rfl OwnI.nil_ A4 c (cc - l) rw0 (by first | rfl | simp [Act.eval]) hId c (Nat.zero_add _) (by omega) hled ?_); intro A5 c5 w5 hown5 hgr5 hbw5 hab5
           have hbw5 := Below_undrew hbw5
           have hS1 : w5.cell? ⟨B1, 3, none⟩ = some (.slice C nc cc) ∧ w5.cell? ⟨B1, 2, none⟩ = some (.int .i64 c) ∧ w5.cell? ⟨B1, 4, none⟩ = some (.slice (some ⟨bD, oD, none⟩) r cd) ∧ w5.cell? ⟨bD, oD + q, none⟩ = some (.int .i64 yq) := ⟨(hbw5.cell (p := ⟨B1, 3, none⟩) hlB).trans hr3, (hbw5.cell (p := ⟨B1, 2, none⟩) hlB).trans hr2, (hbw5.cell (p := ⟨B1, 4, none⟩) hlB).trans hr4, (hbw5.cell (p := ⟨bD, oD + q, none⟩) hbD).trans hcq⟩
           have hbx6 : Below wr.heap.size wr (w5.alloc (.cells #[.int .i64 yq] 3)) := hbw5.trans (bbox (.cells #[.int .i64 yq] 3) |>.mono hbw5.size)
           have hS2 : (w5.alloc (.cells #[.int .i64 yq] 3)).cell? ⟨B1, 3, none⟩ = some (.slice C nc cc) ∧ (w5.alloc (.cells #[.int .i64 yq] 3)).cell? ⟨B1, 2, none⟩ = some (.int .i64 c) ∧ (w5.alloc (.cells #[.int .i64 yq] 3)).cell? ⟨B1, 4, none⟩ = some (.slice (some ⟨bD, oD, none⟩) r cd) ∧ (w5.alloc (.cells #[.int .i64 yq] 3)).cell? ⟨bD, oD + q, none⟩ = some (.int .i64 yq) := ⟨(hbx6.cell (p := ⟨B1, 3, none⟩) hlB).trans hr3, (hbx6.cell (p := ⟨B1, 2, none⟩) hlB).trans hr2, (hbx6.cell (p := ⟨B1, 4, none⟩) hlB).trans hr4, (hbx6.cell (p := ⟨bD, oD + q, none⟩) hbD).trans hcq⟩
           have hown6 := hown5.alloc (.cells #[.int .i64 yq] 3)
           have hI6 : Ints (w5.alloc (.cells #[.int .i64 yq] 3)) (w5.alloc (.cells #[.int .i64 yq] 3)).heap.size (some ⟨w5.heap.size, 0, none⟩) 1 [yq] := Ints.oneAt _ _ _ _ rfl
           have hle6 : wr.heap.size ≤ (w5.alloc (.cells #[.int .i64 yq] 3)).heap.size := hbx6.size
           clear hgr5 hab5)
        | ((refine step_append_intsR (w := w5.alloc (.cells #[.int .i64 yq] 3)) rfl (.tmp 38) (.tmp 44) 22 rfl wr.heap.size 3 i0 _ Tryd.underlying22 hi0 hz0 hz1 hz2 rfl A5 c c5 ([] ++ rw0) (by first | rfl | simp [Act.eval]) hown6 (some ⟨w5.heap.size, 0, none⟩) 1 1 [yq] (by first | rfl | simp [Act.eval]) hI6 (c + 1) rfl (by omega) hle6 ?_); intro A7 c7 w7 hown7 hgr7 hbw7 hab7
           obtain ⟨b7, hb7e, hb71, hb72⟩ := hown7.form (Nat.succ_pos c)
           subst hb7e
           have hbx7 := hbx6.trans hbw7
           have hS3 : w7.cell? ⟨B1, 3, none⟩ = some (.slice C nc cc) ∧ w7.cell? ⟨B1, 2, none⟩ = some (.int .i64 c) ∧ w7.cell? ⟨B1, 4, none⟩ = some (.slice (some ⟨bD, oD, none⟩) r cd) ∧ w7.cell? ⟨bD, oD + q, none⟩ = some (.int .i64 yq) := ⟨(hbx7.cell (p := ⟨B1, 3, none⟩) hlB).trans hr3, (hbx7.cell (p := ⟨B1, 2, none⟩) hlB).trans hr2, (hbx7.cell (p := ⟨B1, 4, none⟩) hlB).trans hr4, (hbx7.cell (p := ⟨bD, oD + q, none⟩) hbD).trans hcq⟩
           have hown7' : OwnI w7 (B1 + 1) 3 (some ⟨b7, 0, none⟩) (c + 1) c7 (rw0 ++ [yq]) := hown7.base hbB
           have HR7 := Lib.hid (HR.out.below hbx7)
           have hbx8 : Below wr.heap.size wr (w7.alloc (.cells #[.slice (some ⟨b7, 0, none⟩) (c + 1) c7] 22)) := hbx7.trans (bbox (.cells #[.slice (some ⟨b7, 0, none⟩) (c + 1) c7] 22) |>.mono hbx7.size)
           have hS4 : (w7.alloc (.cells #[.slice (some ⟨b7, 0, none⟩) (c + 1) c7] 22)).cell? ⟨B1, 3, none⟩ = some (.slice C nc cc) ∧ (w7.alloc (.cells #[.slice (some ⟨b7, 0, none⟩) (c + 1) c7] 22)).cell? ⟨B1, 2, none⟩ = some (.int .i64 c) ∧ (w7.alloc (.cells #[.slice (some ⟨b7, 0, none⟩) (c + 1) c7] 22)).cell? ⟨B1, 4, none⟩ = some (.slice (some ⟨bD, oD, none⟩) r cd) ∧ (w7.alloc (.cells #[.slice (some ⟨b7, 0, none⟩) (c + 1) c7] 22)).cell? ⟨bD, oD + q, none⟩ = some (.int .i64 yq) := ⟨(hbx8.cell (p := ⟨B1, 3, none⟩) hlB).trans hr3, (hbx8.cell (p := ⟨B1, 2, none⟩) hlB).trans hr2, (hbx8.cell (p := ⟨B1, 4, none⟩) hlB).trans hr4, (hbx8.cell (p := ⟨bD, oD + q, none⟩) hbD).trans hcq⟩
           have HR8 := Lib.hid (HR.out.below hbx8)
           have hown8 := hown7'.alloc (.cells #[.slice (some ⟨b7, 0, none⟩) (c + 1) c7] 22)
           have hrd8 := Reads.box1 w7 (.slice (some ⟨b7, 0, none⟩) (c + 1) c7) 22
           have hle8 : B1 + 1 ≤ (w7.alloc (.cells #[.slice (some ⟨b7, 0, none⟩) (c + 1) c7] 22)).heap.size := Nat.le_trans hbB hbx8.size
           have HN8 : Hid (∀ j, j < ((augM r c cells right).take q).length → (bs.getD j (0, 0)).1 ≠ b7) := Lib.hid fun j hj e => by have := (HR.out.rws.row hj).2; omega
           clear hown7 hgr7 hbw7 hab7)
        | ((refine step_append_intsR (w := (wr.alloc (.cells #[.int .i64 yq] 3)).drew) rfl (.const (.slice none 0 0)) (.tmp 37) 22 rfl wr.heap.size 3 i0 _ Tryd.underlying22 hi0 hz0 hz1 hz2 rfl none 0 0 [] rfl OwnI.nil_ A4 c (cc - l) rw0 (by first | rfl | simp [Act.eval]) hIdb c (Nat.zero_add _) (by omega) hledb ?_); intro A5 c5 w6 hown6 hgr6 hbw6 hab6
           have hbx6 : Below wr.heap.size wr w6 := (bbox (.cells #[.int .i64 yq] 3)).trans (Below_undrew hbw6)
           have hS2 : w6.cell? ⟨B1, 3, none⟩ = some (.slice C nc cc) ∧ w6.cell? ⟨B1, 2, none⟩ = some (.int .i64 c) ∧ w6.cell? ⟨B1, 4, none⟩ = some (.slice (some ⟨bD, oD, none⟩) r cd) ∧ w6.cell? ⟨bD, oD + q, none⟩ = some (.int .i64 yq) := ⟨(hbx6.cell (p := ⟨B1, 3, none⟩) hlB).trans hr3, (hbx6.cell (p := ⟨B1, 2, none⟩) hlB).trans hr2, (hbx6.cell (p := ⟨B1, 4, none⟩) hlB).trans hr4, (hbx6.cell (p := ⟨bD, oD + q, none⟩) hbD).trans hcq⟩
           have hI6 : Ints w6 w6.heap.size (some ⟨wr.heap.size, 0, none⟩) 1 [yq] := Ints.grownAt (w := (wr.alloc (.cells #[.int .i64 yq] 3)).drew) hIyb hgr6 (by simp [Value.ownBlock])
           have hle6 : wr.heap.size ≤ w6.heap.size := hbx6.size
           clear hgr6 hab6)
        | ((refine step_append_intsR (w := w6) rfl (.tmp 38) (.tmp 44) 22 rfl wr.heap.size 3 i0 _ Tryd.underlying22 hi0 hz0 hz1 hz2 rfl A5 c c5 ([] ++ rw0) (by first | rfl | simp [Act.eval]) hown6 (some ⟨wr.heap.size, 0, none⟩) 1 1 [yq] (by first | rfl | simp [Act.eval]) hI6 (c + 1) rfl (by omega) hle6 ?_); intro A7 c7 w7 hown7 hgr7 hbw7 hab7
           obtain ⟨b7, hb7e, hb71, hb72⟩ := hown7.form (Nat.succ_pos c)
           subst hb7e
           have hbx7 := hbx6.trans hbw7
           have hS3 : w7.cell? ⟨B1, 3, none⟩ = some (.slice C nc cc) ∧ w7.cell? ⟨B1, 2, none⟩ = some (.int .i64 c) ∧ w7.cell? ⟨B1, 4, none⟩ = some (.slice (some ⟨bD, oD, none⟩) r cd) ∧ w7.cell? ⟨bD, oD + q, none⟩ = some (.int .i64 yq) := ⟨(hbx7.cell (p := ⟨B1, 3, none⟩) hlB).trans hr3, (hbx7.cell (p := ⟨B1, 2, none⟩) hlB).trans hr2, (hbx7.cell (p := ⟨B1, 4, none⟩) hlB).trans hr4, (hbx7.cell (p := ⟨bD, oD + q, none⟩) hbD).trans hcq⟩
           have hown7' : OwnI w7 (B1 + 1) 3 (some ⟨b7, 0, none⟩) (c + 1) c7 (rw0 ++ [yq]) := hown7.base hbB
           have HR7 := Lib.hid (HR.out.below hbx7)
           have hbx8 : Below wr.heap.size wr (w7.alloc (.cells #[.slice (some ⟨b7, 0, none⟩) (c + 1) c7] 22)) := hbx7.trans (bbox (.cells #[.slice (some ⟨b7, 0, none⟩) (c + 1) c7] 22) |>.mono hbx7.size)
           have hS4 : (w7.alloc (.cells #[.slice (some ⟨b7, 0, none⟩) (c + 1) c7] 22)).cell? ⟨B1, 3, none⟩ = some (.slice C nc cc) ∧ (w7.alloc (.cells #[.slice (some ⟨b7, 0, none⟩) (c + 1) c7] 22)).cell? ⟨B1, 2, none⟩ = some (.int .i64 c) ∧ (w7.alloc (.cells #[.slice (some ⟨b7, 0, none⟩) (c + 1) c7] 22)).cell? ⟨B1, 4, none⟩ = some (.slice (some ⟨bD, oD, none⟩) r cd) ∧ (w7.alloc (.cells #[.slice (some ⟨b7, 0, none⟩) (c + 1) c7] 22)).cell? ⟨bD, oD + q, none⟩ = some (.int .i64 yq) := ⟨(hbx8.cell (p := ⟨B1, 3, none⟩) hlB).trans hr3, (hbx8.cell (p := ⟨B1, 2, none⟩) hlB).trans hr2, (hbx8.cell (p := ⟨B1, 4, none⟩) hlB).trans hr4, (hbx8.cell (p := ⟨bD, oD + q, none⟩) hbD).trans hcq⟩
           have HR8 := Lib.hid (HR.out.below hbx8)
           have hown8 := hown7'.alloc (.cells #[.slice (some ⟨b7, 0, none⟩) (c + 1) c7] 22)
           have hrd8 := Reads.box1 w7 (.slice (some ⟨b7, 0, none⟩) (c + 1) c7) 22
           have hle8 : B1 + 1 ≤ (w7.alloc (.cells #[.slice (some ⟨b7, 0, none⟩) (c + 1) c7] 22)).heap.size := Nat.le_trans hbB hbx8.size
           have HN8 : Hid (∀ j, j < ((augM r c cells right).take q).length → (bs.getD j (0, 0)).1 ≠ b7) := Lib.hid fun j hj e => by have := (HR.out.rws.row hj).2; omega
           clear hown7 hgr7 hbw7 hab7)
        | ((refine step_append_any (P := Tryd.prog) (w7.alloc (.cells #[.slice (some ⟨b7, 0, none⟩) (c + 1) c7] 22)) rfl (.tmp 25) (.tmp 46) 92 rfl (B1 + 1) 22 i1 (.slice none 0 0) 1 24 Tryd.underlying92 hi1 hy0 hy1 hy2 rfl (by omega) (.slice R q cap) q (rowV (c + 1) bs) (by first | rfl | simp [Act.eval]) HR8.out.out (w7.heap.size + 1) (some ⟨w7.heap.size, 0, none⟩) 1 1 [.slice (some ⟨b7, 0, none⟩) (c + 1) c7] (by first | rfl | simp [Act.eval]) hrd8 (fun u hu => by simp at hu; subst hu; rfl) (by unfold maxLen; omega) (by omega) hle8 ?_); intro v9 w9 hown9 hgr9 hab9
           obtain ⟨R9, cap9, rfl, hR9, hbw9⟩ := HR8.out.pushed hown8 HN8.out hown9 hgr9 hle8
           have HR9 := Lib.hid hR9
           have hbx9 := (hbx8.mono hbB).trans hbw9
           have hS5 : w9.cell? ⟨B1, 3, none⟩ = some (.slice C nc cc) ∧ w9.cell? ⟨B1, 2, none⟩ = some (.int .i64 c) ∧ w9.cell? ⟨B1, 4, none⟩ = some (.slice (some ⟨bD, oD, none⟩) r cd) ∧ w9.cell? ⟨bD, oD + q, none⟩ = some (.int .i64 yq) := ⟨(hbx9.cell (p := ⟨B1, 3, none⟩) (show B1 < B1 + 1 by omega)).trans hr3, (hbx9.cell (p := ⟨B1, 2, none⟩) (show B1 < B1 + 1 by omega)).trans hr2, (hbx9.cell (p := ⟨B1, 4, none⟩) (show B1 < B1 + 1 by omega)).trans hr4, HDC.out _ hbx9⟩
           have HB9 := Lib.hid (HB.out.below hbx9 (Nat.lt_succ_self _))
           have HE9 := Lib.hid (HEK.out _ hbx9)
           have hb9 := hb.trans (hbx9.mono (by omega))
           clear hown9 hgr9 hab9 hR9 hbw9))
      all_goals go_wp2
      all_goals go_roundw
      all_goals first
        | exact ⟨⟨q + 1, R9, cap9, bs ++ [(b7, c7)], by omega, by go_num, rfl, Lib.hid (by rw [HTK.out]; exact HR9.out), HB9, HE9, hb9⟩, by simp [intOf]; omega⟩
        | exact ⟨q + 1, R9, cap9, bs ++ [(b7, c7)], by omega, by go_num, rfl, Lib.hid (by rw [HTK.out]; exact HR9.out), HB9, HE9, hb9⟩
        | (simp [intOf]; omega)
    · obtain rfl : q = r := by omega
      have HTA : Hid ((augM q c cells right).take q = augM q c cells right) := Lib.hid (List.take_of_length_le (by rw [augM_len]; exact Nat.le_refl _))
      rw [HTA.out] at HR
      go_wp2_with fail
      obtain ⟨B2, hB2⟩ : ∃ b, wr.heap.size = b := ⟨_, rfl⟩
      have hB12 : B1 + 1 ≤ B2 := by rw [← hB2]; exact HB.out.lt
      have HBD0 : Hid (∀ j, j < q → (bs.getD j (0, 0)).1 < B2) := Lib.hid fun j hj => by rw [← hB2]; exact (HR.out.rws.row (by rw [HR.out.ln]; exact hj)).2
      have HRgo : Hid (∀ g, 0 < q → R = some ⟨g, 0, none⟩ → g < B2) := Lib.hid fun g hq0 e => by
        obtain ⟨go, h1, _, h2, _⟩ := HR.out.form hq0
        rw [h1] at e
        injection e with e
        injection e with e
        rw [← e, ← hB2]; exact h2
      have hB2l : B2 ≤ wr.heap.size := Nat.le_of_eq hB2.symm
      clear hB2
      go_loopw [7, 8] (fun lv kv wx => ∃ (k : Nat) (bs : List (Nat × Nat)) (m : List (List Int)) (lead : List Nat) (L : Option Addr) (nl lc : Nat), k ≤ c ∧ kv = .int .i64 k ∧ lv = .slice L nl lc ∧ Hid (nl = lead.length) ∧ Hid (RefW wx (B1 + 1) (c + 1) R q cap bs m) ∧ Hid (OwnI wx B2 3 L nl lc (lead.map Int.ofNat)) ∧ Hid (RInv p k lead m ∧ Elts p (c + 1) m ∧ ∀ z, Ker p (c + 1) (augM q c cells right) z ↔ Ker p (c + 1) m z) ∧ Hid (Blk wx B1 46 #[.int .i64 p, .int .i64 q, .int .i64 c, .slice C nc cc, .slice D q cd]) ∧ Hid (∀ j, j < q → (bs.getD j (0, 0)).1 < B2) ∧ B2 ≤ wx.heap.size ∧ Below B1 w wx) (fun _ kv _ => c - (intOf kv).toNat)
      case atStart => exact ⟨0, bs, _, [], none, 0, 0, Nat.zero_le _, rfl, rfl, Lib.hid rfl, HR, Lib.hid OwnI.nil_, Lib.hid ⟨RInv.start _ _, HC.out.elts, fun z => Iff.rfl⟩, HB, HBD0, hB2l, hb⟩
      case round =>
        clear hb HB HE1 HR hr1 HBD0 hB2l
        obtain ⟨k, bs, m, lead, L, nl, lc, hk, rfl, rfl, HNL, HR, HLd, HI, HB, HBD, hB2s, hb⟩ := hrel
        have hr2 : wr.cell? ⟨B1, 2, none⟩ = some (.int .i64 c) := (HB.out.cell 2).trans rfl
        by_cases hkc : k < c
        · have h1k : (k : Int) < (c : Int) := by omega
          by_cases hlq : nl < q
          · have h1l : (nl : Int) < (q : Int) := by omega
            have HNLq := Lib.hid hlq
            have HF : Hid (∀ j, j < q → ∃ go b cb, R = some ⟨go, 0, none⟩ ∧ wr.cell? ⟨go, j, none⟩ = some (.slice (some ⟨b, 0, none⟩) (c + 1) cb) ∧ wr.cell? ⟨b, k, none⟩ = some (.int .i64 (mx m j k))) := Lib.hid fun j hj => by
              obtain ⟨go, h1, _, _, _, h2⟩ := HR.out.form (by omega)
              exact ⟨go, _, _, h1, (h2 j hj).1, (HR.out.rws.own j (by rw [HR.out.ln]; exact hj)).cellAt (by omega)⟩
            have hkc1 : (k : Int) < ((c + 1 : Nat) : Int) := by omega
            have h0k : (0 : Int) ≤ (k : Int) := by omega
            obtain ⟨c1, hc1⟩ : ∃ c1, c + 1 = c1 := ⟨_, rfl⟩
            rw [hc1] at hkc1 HF
            have HC1 := Lib.hid hc1
            clear hc1
            rcases find_row m k nl (q - nl) with hz | ⟨i, hi1, hi2, hi3, hi4⟩
            · have HZ : Hid (∀ j, nl ≤ j → j < q → mx m j k = 0) := Lib.hid fun j h1 h2 => hz j h1 (by omega)
              clear hz
              go_wp2_with fail
              go_loop [10] (fun v => ∃ i : Nat, nl ≤ i ∧ i ≤ q ∧ v = .int .i64 i) (fun v => q - (intOf v).toNat)
              case atStart => exact ⟨nl, Nat.le_refl _, by omega, rfl⟩
              case round =>
                obtain ⟨i, hi1, hi2, rfl⟩ := hrel
                by_cases hlti : i < q
                · obtain ⟨go, b, cb, hRe, hrow, hcell⟩ := HF.out i hlti
                  subst hRe
                  rw [HZ.out i hi1 hlti] at hcell
                  have h1i : (i : Int) < (q : Int) := by omega
                  have h0i : (0 : Int) ≤ (i : Int) := by omega
                  go_wp2
                  go_round
                  case rel => exact ⟨i + 1, by omega, by omega, by go_num⟩
                  case measure => simp [intOf]; omega
                · obtain rfl : i = q := by omega
                  have HI2 : Hid (RInv p (k + 1) lead m) := Lib.hid (HI.out.1.skip (fun j h1 h2 => HZ.out j (by rw [HNL.out]; exact h1) (by rw [← HR.out.ln]; exact h2)))
                  go_wp2
                  go_roundw
                  case rel => exact ⟨k + 1, bs, m, lead, L, nl, lc, by omega, by go_num, rfl, HNL, HR, HLd, Lib.hid ⟨HI2.out, HI.out.2⟩, HB, HBD, hB2s, hb⟩
                  case measure => simp [intOf]; omega
            · have hiq : i < q := by omega
              have hnlq : nl < q := hlq
              have HZ := Lib.hid hi4
              obtain ⟨go, hRe, hgb, hgl, hbn, hrow⟩ := HR.out.form (by omega)
              subst hRe
              have hri := hrow nl hnlq
              have hii := hrow i hiq
              have hci := (HR.out.rws.own i (by rw [HR.out.ln]; exact hiq)).cellAt (j := k) (by omega)
              have HSW := Lib.hid (HR.out.swapped (r := nl) (i := i) hnlq hiq)
              obtain ⟨bi, hbi⟩ : ∃ b, (bs.getD i (0, 0)).1 = b := ⟨_, rfl⟩
              obtain ⟨ci, hci2⟩ : ∃ b, (bs.getD i (0, 0)).2 = b := ⟨_, rfl⟩
              obtain ⟨br, hbr⟩ : ∃ b, (bs.getD nl (0, 0)).1 = b := ⟨_, rfl⟩
              obtain ⟨cr, hcr⟩ : ∃ b, (bs.getD nl (0, 0)).2 = b := ⟨_, rfl⟩
              have HBI := Lib.hid hbi
              have HCI := Lib.hid hci2
              have HBR := Lib.hid hbr
              have HCR := Lib.hid hcr
              rw [hbi, hci2, HC1.out] at hii
              rw [hbr, hcr, HC1.out] at hri
              rw [hbi] at hci
              obtain ⟨x0, hx0⟩ : ∃ x, mx m i k = x := ⟨_, rfl⟩
              rw [show (m.getD i []).getD k 0 = mx m i k from rfl, hx0] at hci
              rw [hx0] at hi3
              have HX := Lib.hid hx0
              obtain ⟨vy, hvy⟩ := cell?_setCell_some (w := wr) (p := ⟨go, i, none⟩) (x := .slice (some ⟨br, 0, none⟩) c1 cr) (q := ⟨go, nl, none⟩) (v := .slice (some ⟨br, 0, none⟩) c1 cr) hri.1
              obtain ⟨hri, hfr⟩ := hri
              obtain ⟨hii, hfi⟩ := hii
              have h1i : (i : Int) < (q : Int) := by omega
              have h0i : (0 : Int) ≤ (i : Int) := by omega
              have h0r : (0 : Int) ≤ (nl : Int) := by omega
              have hine : ¬ (i : Int) = (q : Int) := by omega
              clear hbi hci2 hbr hcr hx0 hi4 hrow hbn
              go_wp2_with fail
              go_loop [10] (fun v => ∃ j : Nat, nl ≤ j ∧ j ≤ i ∧ v = .int .i64 j) (fun v => i - (intOf v).toNat)
              case atStart => exact ⟨nl, Nat.le_refl _, by omega, rfl⟩
              case round =>
                obtain ⟨j, hj1, hj2, rfl⟩ := hrel
                by_cases hltj : j < i
                · obtain ⟨go2, b, cb, hRe, hrow, hcell⟩ := HF.out j (by omega)
                  injection hRe with hRe
                  injection hRe with hRe
                  subst hRe
                  rw [HZ.out j hj1 hltj] at hcell
                  have h1j : (j : Int) < (q : Int) := by omega
                  have h0j : (0 : Int) ≤ (j : Int) := by omega
                  go_wp2
                  go_round
                  case rel => exact ⟨j + 1, by omega, by omega, by go_num⟩
                  case measure => simp [intOf]; omega
                · obtain rfl : i = j := by omega
                  go_upto_region 16 with fail
                  have hsw := HSW.out
                  rw [HBI.out, HCI.out, HBR.out, HCR.out, HC1.out] at hsw
                  obtain ⟨W, hW⟩ : ∃ W, (wr.setCell ⟨go, i, none⟩ (.slice (some ⟨br, 0, none⟩) c1 cr)).setCell ⟨go, nl, none⟩ (.slice (some ⟨bi, 0, none⟩) c1 ci) = W := ⟨_, rfl⟩
                  rw [hW] at hsw
                  have HWE := Lib.hid hW
                  clear hW
                  go_cut [10] (fun s wx => s = .int .i64 i ∧ wx = W.drew)
                  case first =>
                    as_aux_lemma =>
                      clear hsw
                      go_region
                      go_wp2
                      go_meet
                      case rel => exact ⟨rfl, by rw [← HWE.out]⟩
                  case rest =>
                  obtain ⟨rfl, rfl⟩ := hcut
                  obtain ⟨hRW, hSt⟩ := hsw
                  have hown1 := hRW.rws.own nl (by rw [hRW.ln]; exact hnlq)
                  have HROW : Hid ((swapM m i nl).getD nl [] = m.getD i []) := Lib.hid (by rw [swapM_comm m (by rw [HR.out.ln]; exact hnlq) (by rw [HR.out.ln]; exact hiq), swapM_at m (by rw [HR.out.ln]; exact hnlq) (by rw [HR.out.ln]; exact hiq)]; unfold swI; rw [if_pos rfl])
                  have HBR1 : Hid ((swapB bs i nl).getD nl (0, 0) = bs.getD i (0, 0)) := Lib.hid (by
                    rw [swapB_at bs (by rw [HR.out.rws.ln, HR.out.ln]; exact hiq) (by rw [HR.out.rws.ln, HR.out.ln]; exact hnlq)]
                    unfold swI
                    by_cases e : nl = i
                    · rw [if_pos e, e]
                    · rw [if_neg e, if_pos rfl])
                  rw [HBR1.out, HBI.out, HCI.out, HROW.out] at hown1
                  obtain ⟨go2, hgo2, _, hgoW, hbn2, hrow2⟩ := hRW.form (by omega)
                  injection hgo2 with hgo2
                  injection hgo2 with hgo2
                  subst hgo2
                  have hwr := (hrow2 nl hnlq).1
                  rw [HBR1.out, HBI.out, HCI.out] at hwr
                  have hwk := hown1.cellAt (j := k) (by have := HC1.out; omega)
                  rw [show (m.getD i []).getD k 0 = mx m i k from rfl, HX.out] at hwk
                  have hx1 : 0 < x0 ∧ x0 < p := by have := HI.out.2.1.mx_in hp.1 (i := i) (by rw [HR.out.ln]; exact hiq) k; rw [HX.out] at this; omega
                  have hB1W : W.cell? ⟨B1, 0, none⟩ = some (.int .i64 p) := ((Step.block hSt HB.out (by omega)).cell 0).trans rfl
                  have HRW := Lib.hid hRW
                  have HOW := Lib.hid hown1
                  have HST := Lib.hid hSt
                  have hbg : bi ≠ go := by have := hbn2 nl hnlq; rwa [HBR1.out, HBI.out] at this
                  clear hRW hown1 hSt hrow2 hbn2 hvy hri hii hfr hfi hci HSW
                  have hbiW : bi < W.heap.size := (World.ownsRow.lt HOW.out bi rfl).2
                  have hB1Wl : B1 < W.heap.size := Nat.lt_of_lt_of_le HB.out.lt HST.out.size
                  have hkc3 : k < c1 := by have := HC1.out; omega
                  have hb1W : Below B1 w W := Step.below hb HST.out (Nat.le_of_lt HB.out.lt) (Nat.le_of_lt (Nat.lt_of_succ_le hgb))
                  go_upto_region 17 with fail
                  go_cut [11] (fun s wx => ∃ v : Int, s = .int .i64 v ∧ (0 ≤ v ∧ v < p) ∧ Hid (Cong p (x0 * v) 1) ∧ Below W.heap.size W wx)
                  case first =>
                    have hS0 : W.cell? ⟨B1, 0, none⟩ = some (.int .i64 p) ∧ W.cell? ⟨go, nl, none⟩ = some (.slice (some ⟨bi, 0, none⟩) c1 ci) ∧ W.cell? ⟨bi, k, none⟩ = some (.int .i64 x0) := ⟨hB1W, hwr, hwk⟩
                    have hS0d : W.drew.drew.cell? ⟨B1, 0, none⟩ = some (.int .i64 p) ∧ W.drew.drew.cell? ⟨go, nl, none⟩ = some (.slice (some ⟨bi, 0, none⟩) c1 ci) ∧ W.drew.drew.cell? ⟨bi, k, none⟩ = some (.int .i64 x0) := ⟨hB1W, hwr, hwk⟩
                    have hS0e : W.drew.cell? ⟨B1, 0, none⟩ = some (.int .i64 p) ∧ W.drew.cell? ⟨go, nl, none⟩ = some (.slice (some ⟨bi, 0, none⟩) c1 ci) ∧ W.drew.cell? ⟨bi, k, none⟩ = some (.int .i64 x0) := ⟨hB1W, hwr, hwk⟩
                    have hB1W0 := hB1W
                    have hwr0 := hwr
                    have hwk0 := hwk
                    go_region_held_law (fun w' => w'.cell? ⟨B1, 0, none⟩ = some (.int .i64 p) ∧ w'.cell? ⟨go, nl, none⟩ = some (.slice (some ⟨bi, 0, none⟩) c1 ci) ∧ w'.cell? ⟨bi, k, none⟩ = some (.int .i64 x0)) (first | with_reducible exact hS0e | with_reducible exact hS0d | with_reducible exact hS0 | with_reducible exact hS1 | go_keep) (first
                      | (go_at_call 57; (with_reducible refine (rinv_ok p x0 _ HC.out.ok hx1).mono ?_); rintro e w9 ⟨⟨v, rfl, hv, hcg⟩, hb9⟩
                         have hb9' : Below W.heap.size W w9 := ⟨hb9.os, hb9.tape, hb9.output, hb9.size, hb9.block⟩
                         have hS1 : w9.cell? ⟨B1, 0, none⟩ = some (.int .i64 p) ∧ w9.cell? ⟨go, nl, none⟩ = some (.slice (some ⟨bi, 0, none⟩) c1 ci) ∧ w9.cell? ⟨bi, k, none⟩ = some (.int .i64 x0) := ⟨(hb9'.cell (p := ⟨B1, 0, none⟩) hB1Wl).trans hB1W0, (hb9'.cell (p := ⟨go, nl, none⟩) hgoW).trans hwr0, (hb9'.cell (p := ⟨bi, k, none⟩) hbiW).trans hwk0⟩
                         clear hb9))
                    all_goals go_wp2
                    all_goals go_meet
                    case rel => exact ⟨v, rfl, hv, hcg, hb9'⟩
                  case rest =>
                  obtain ⟨v, rfl, hv, HV, hbW⟩ := hcut
                  have hwr9 : wc.cell? ⟨go, nl, none⟩ = some (.slice (some ⟨bi, 0, none⟩) c1 ci) := (hbW.cell (p := ⟨go, nl, none⟩) hgoW).trans hwr
                  clear hB1W hwr hwk
                  have HRW9 := Lib.hid (HRW.out.below hbW)
                  have HOW9 := Lib.hid (HOW.out.belowAll hbW)
                  have hb9 := hb1W.trans (hbW.mono (Nat.le_of_lt hB1Wl))
                  go_upto_region 19 with fail
                  obtain ⟨row, hrwE⟩ : ∃ l, m.getD i [] = l := ⟨_, rfl⟩
                  have hrL : row.length = c1 := by rw [← hrwE, ← HC1.out]; exact (HI.out.2.1 i (by rw [HR.out.ln]; exact hiq)).1
                  have HRA : Hid (allP p row = true) := Lib.hid (by rw [← hrwE]; exact (HI.out.2.1 i (by rw [HR.out.ln]; exact hiq)).2)
                  have HRL := Lib.hid hrL
                  have HRE := Lib.hid hrwE
                  rw [hrwE] at HOW9
                  have hgow : go < wc.heap.size := Nat.lt_of_lt_of_le hgoW hbW.size
                  have hc33 : c1 ≤ 33 := by have := HC1.out; omega
                  have hp0 : ¬ p = 0 := by omega
                  clear hrL hrwE
                  go_loopw [113] (fun i113 wx => ∃ j : Nat, j ≤ c1 ∧ i113 = .int .i64 j ∧ Hid (OwnI wx (B1 + 1) 3 (some ⟨bi, 0, none⟩) c1 ci (partly (fun t _ => mulP p t v) row row j)) ∧ Step bi wc wx) (fun i _ => c1 - (intOf i).toNat)
                  case atStart => exact ⟨0, Nat.zero_le _, rfl, Lib.hid (by rw [partly_zero]; exact HOW9.out), Step.refl _ _⟩
                  case round =>
                    obtain ⟨j, hj, rfl, HO4, hS4⟩ := hrel
                    by_cases hltj : j < c1
                    · have hzr := (World.cell?_of_block (World.grownBy.block hS4 go hgow (fun e => hbg (by injection e with e; exact e.symm)))).trans hwr9
                      have hzx := HO4.out.cellAt hltj
                      rw [partly_at _ row row rfl j (by rw [HRL.out]; exact hltj)] at hzx
                      have hfz := HO4.out.frozenAt j
                      have hst := HO4.out.stored j (mulP p (row.getD j 0) v)
                      rw [partly_set (fun t _ => mulP p t v) row row rfl j (by rw [HRL.out]; exact hltj)] at hst
                      have hS5 := hS4.set j (.int .i64 (mulP p (row.getD j 0) v))
                      have hy := allP_getD HRA.out (k := j) (by rw [HRL.out]; exact hltj)
                      generalize row.getD j 0 = y at *
                      obtain ⟨pr, hpr⟩ : ∃ pr, y * v = pr := ⟨_, rfl⟩
                      have hpr0 : 0 ≤ pr := by rw [← hpr]; exact Int.mul_nonneg hy.1 hv.1
                      have hpr1 : pr ≤ 65521 * 65521 := by rw [← hpr]; exact Int.mul_le_mul (by omega) (by omega) hv.1 (by omega)
                      have hw3 : IntKind.i64.wrap pr = pr := IntWalk.i64_in _ (by omega)
                      have htm : pr.tmod p = pr % p := Int.tmod_eq_emod_of_nonneg hpr0
                      have hmp : mulP p y v = pr % p := by rw [← hpr]; rfl
                      rw [hmp] at hst hS5
                      have HS := Lib.hid hst
                      have HS2 := Lib.hid hS5
                      clear hst HO4 hmp
                      obtain ⟨z, hz⟩ : ∃ z, pr % p = z := ⟨_, rfl⟩
                      rw [hz] at htm HS HS2
                      have h1j : (j : Int) < (c1 : Int) := by omega
                      have h0j : (0 : Int) ≤ (j : Int) := by omega
                      clear hz hS5
                      go_wp2_with fail
                      go_still_tail 17, (by kernel_rfl)
                      go_wp2
                      go_roundw
                      case rel => exact ⟨j + 1, by omega, by go_num, Lib.hid HS.out.drew, HS2.out.drew⟩
                      case measure => simp [intOf]; omega
                    · obtain rfl : c1 = j := by omega
                      have HSC : Hid (partly (fun t _ => mulP p t v) row row c1 = scaleP p v row) := Lib.hid (by have := partly_all (fun t _ => mulP p t v) row row rfl; rw [HRL.out] at this; rw [this, scale_all])
                      have hO5 := HO4.out
                      rw [HSC.out] at hO5
                      have hR5 := HRW9.out.row_set (j := nl) hnlq (l := scaleP p v row) (w' := wr) (by rw [HBR1.out, HBI.out]; exact hS4) (by rw [HBR1.out, HBI.out, HCI.out]; exact hO5)
                      have hm5 : (swapM m i nl).set nl (scaleP p v row) = scaleM p v (swapM m nl i) nl := by
                        unfold scaleM
                        rw [swapM_comm m (by rw [HR.out.ln]; exact hnlq) (by rw [HR.out.ln]; exact hiq)] at HROW ⊢
                        rw [HROW.out, HRE.out]
                      rw [hm5] at hR5
                      have HR5 := Lib.hid hR5
                      have hb5 := Step.below hb9 hS4 (Nat.le_of_lt (Nat.lt_of_lt_of_le hB1Wl hbW.size)) (Nat.le_of_lt (Nat.lt_of_succ_le (World.ownsRow.lt HOW.out bi rfl).1))
                      have hBi : B1 + 1 ≤ bi := (World.ownsRow.lt HOW.out bi rfl).1
                      have hgo2 : go < B2 := HRgo.out go (by omega) rfl
                      have hbi2 : bi < B2 := by rw [← HBI.out]; exact HBD.out i hiq
                      have HB5 := Lib.hid (Step.block hS4 ((Step.block HST.out HB.out (by omega)).below hbW hB1Wl) (by omega))
                      have HL5 := Lib.hid (((HLd.out.step HST.out hgo2).belowAll hbW).step hS4 hbi2)
                      have hs5 : B2 ≤ wr.heap.size := Nat.le_trans hB2s (Nat.le_trans HST.out.size (Nat.le_trans hbW.size hS4.size))
                      have HMN : Hid (m.length = q) := Lib.hid HR.out.ln
                      have HE2 : Hid (Elts p c1 (scaleM p v (swapM m nl i) nl)) := Lib.hid (by
                        have h2 : Elts p c1 m := by rw [← HC1.out]; exact HI.out.2.1
                        exact scaleM_elts (v := v) hp.1 (swapM_elts h2 (by rw [HMN.out]; exact hnlq) (by rw [HMN.out]; exact hiq)) (by rw [swapM_len, HMN.out]; exact hnlq))
                      have HM2 : Hid ((scaleM p v (swapM m nl i) nl).length = q) := Lib.hid (by rw [scaleM_len, swapM_len]; exact HMN.out)
                      have HLM : Hid (elimM p k nl q (scaleM p v (swapM m nl i) nl) = leadM p v k nl i m) := Lib.hid (by unfold leadM; rw [HMN.out])
                      have HBD2 : Hid (∀ j, j < q → ((swapB bs i nl).getD j (0, 0)).1 < B2) := Lib.hid fun j hj => by
                        rw [swapB_at bs (by rw [HR.out.rws.ln, HR.out.ln]; exact hiq) (by rw [HR.out.rws.ln, HR.out.ln]; exact hnlq)]
                        exact HBD.out _ (swI_lt hiq hnlq hj)
                      have HB1R := Lib.hid HBR1.out
                      obtain ⟨m2, hm2e⟩ : ∃ m2, scaleM p v (swapM m nl i) nl = m2 := ⟨_, rfl⟩
                      rw [hm2e] at HR5 HE2 HM2 HLM
                      obtain ⟨bs1, hbs1⟩ : ∃ b, swapB bs i nl = b := ⟨_, rfl⟩
                      rw [hbs1] at HR5 HB1R HBD2
                      have hpb : p ≤ 65521 := hp.2
                      clear hR5 hO5 HO4 hm5 hm2e hbs1 hS4 HRW9 HOW9 HRW HOW HST HBD hb1W hb9 hbW hb HLd HB HF HZ hwr9
                      go_wp2_with fail
                      have HMA : Hid (∀ z y, z < q → (elimM p k nl y m2).getD z [] = if z < y ∧ z ≠ nl then elimR p k (m2.getD nl []) (m2.getD z []) else m2.getD z []) := Lib.hid fun z y hz => elimM_at _ _ _ _ _ (by rw [HM2.out]; exact hz)
                      go_loopw [136] (fun iv wx => ∃ z : Nat, z ≤ q ∧ iv = .int .i64 z ∧ Hid (RefW wx (B1 + 1) c1 (some ⟨go, 0, none⟩) q cap bs1 (elimM p k nl z m2)) ∧ Hid (OwnI wx B2 3 L nl lc (lead.map Int.ofNat)) ∧ Hid (Blk wx B1 46 #[.int .i64 p, .int .i64 q, .int .i64 c, .slice C nc cc, .slice D q cd]) ∧ Below B1 w wx ∧ B2 ≤ wx.heap.size) (fun i _ => q - (intOf i).toNat)
                      case atStart => exact ⟨0, Nat.zero_le _, rfl, Lib.hid (by rw [elimM_zero]; exact HR5.out), HL5, HB5, hb5, hs5⟩
                      case round =>
                        clear HR5 HL5 HB5 hb5 hs5
                        obtain ⟨z, hz, rfl, HR6, HL6, HB6, hb6, hs6⟩ := hrel
                        by_cases hltz : z < q
                        · obtain ⟨go3, hgo3, _, hgo3l, hbn3, hrow3⟩ := HR6.out.form (by omega)
                          injection hgo3 with hgo3
                          injection hgo3 with hgo3
                          subst hgo3
                          have hzr := (hrow3 z hltz).1
                          have hzr1 := (hrow3 nl hnlq).1
                          have hownq := HR6.out.rws.own z (by rw [elimM_len, HM2.out]; exact hltz)
                          have hown1 := HR6.out.rws.own nl (by rw [elimM_len, HM2.out]; exact hnlq)
                          rw [HMA.out z z hltz, if_neg (by omega)] at hownq
                          rw [HMA.out nl z hnlq, if_neg (by omega), HB1R.out, HBI.out, HCI.out] at hown1
                          rw [HB1R.out, HBI.out, HCI.out] at hzr1
                          have hLe := HE2.out z (by rw [HM2.out]; exact hltz)
                          have hL1 := HE2.out nl (by rw [HM2.out]; exact hnlq)
                          have hapq : z ≠ nl → (bs1.getD z (0, 0)).1 ≠ bi := fun hne e => hne (HR6.out.rws.apart z nl (by rw [elimM_len, HM2.out]; exact hltz) (by rw [elimM_len, HM2.out]; exact hnlq) (by rw [HB1R.out, HBI.out]; exact e))
                          have hbq0 := HR6.out.rws.row (j := z) (by rw [elimM_len, HM2.out]; exact hltz)
                          have hbqg := hbn3 z hltz
                          have hbq2 := HBD2.out z hltz
                          have HSET : Hid (∀ (l : List Int) (w2 : World), Step (bs1.getD z (0, 0)).1 wr w2 → OwnI w2 (B1 + 1) 3 (some ⟨(bs1.getD z (0, 0)).1, 0, none⟩) c1 (bs1.getD z (0, 0)).2 l → RefW w2 (B1 + 1) c1 (some ⟨go, 0, none⟩) q cap bs1 ((elimM p k nl z m2).set z l)) := Lib.hid fun l w2 h1 h2 => HR6.out.row_set hltz h1 h2
                          have hzk := hownq.cellAt (j := k) hkc3
                          have HSK : Hid (z = nl ∨ cf (m2.getD z []) k = 0 → elimM p k nl z m2 = elimM p k nl (z + 1) m2) := Lib.hid fun h => elimM_skip p k nl z m2 h
                          have HST2 : Hid (z ≠ nl → cf (m2.getD z []) k ≠ 0 → (elimM p k nl z m2).set z (zipI (timesP p (subP p 0 (cf (m2.getD z []) k))) (m2.getD z []) (m2.getD nl [])) = elimM p k nl (z + 1) m2) := Lib.hid fun h1 h2 => elimM_set_at (by rw [HM2.out]; exact hltz) h1 h2
                          have hyin := allP_getD hLe.2 (k := k) (by rw [hLe.1]; exact hkc3)
                          have HAPQ := Lib.hid hapq
                          obtain ⟨bq, hbq⟩ : ∃ b, (bs1.getD z (0, 0)).1 = b := ⟨_, rfl⟩
                          obtain ⟨cq, hcq⟩ : ∃ b, (bs1.getD z (0, 0)).2 = b := ⟨_, rfl⟩
                          obtain ⟨rq, hrq⟩ : ∃ l, m2.getD z [] = l := ⟨_, rfl⟩
                          obtain ⟨r1, hr1⟩ : ∃ l, m2.getD nl [] = l := ⟨_, rfl⟩
                          rw [hbq] at hzr hownq HSET hzk HAPQ hbq0 hbqg hbq2
                          rw [hcq] at hzr hownq HSET
                          rw [hrq] at hownq hLe HSK HST2 hzk hyin
                          rw [hr1] at hown1 hL1 HST2
                          obtain ⟨y, hy⟩ : ∃ y, rq.getD k 0 = y := ⟨_, rfl⟩
                          have hycf : cf rq k = y := hy
                          rw [hy] at hzk hyin
                          rw [hycf] at HSK HST2
                          have HOQ := Lib.hid hownq
                          have HO1 := Lib.hid hown1
                          have HLE := Lib.hid hLe
                          have HL1 := Lib.hid hL1
                          have h1z : (z : Int) < (q : Int) := by omega
                          have h0z : (0 : Int) ≤ (z : Int) := by omega
                          have hyw : IntKind.i64.wrap ((z : Int) + 1) = (z : Int) + 1 := IntWalk.i64_in _ (by omega)
                          clear hbq hcq hrq hr1 hy hycf hownq hown1 hrow3 hbn3 hLe hL1 hapq
                          by_cases hzn : z = nl
                          · obtain rfl : nl = z := hzn.symm
                            have HRZ : Hid (RefW wr (B1 + 1) c1 (some ⟨go, 0, none⟩) q cap bs1 (elimM p k nl (nl + 1) m2)) := Lib.hid (by rw [← HSK.out (.inl rfl)]; exact HR6.out)
                            clear hzn hzr1
                            go_wp2_with fail
                            go_roundw
                            case rel => exact ⟨nl + 1, by omega, by go_num, HRZ, HL6, HB6, hb6, hs6⟩
                            case measure => simp [intOf]; omega
                          · have hzn2 : ¬ (z : Int) = (nl : Int) := by omega
                            by_cases hy0 : y = 0
                            · have HRZ : Hid (RefW wr (B1 + 1) c1 (some ⟨go, 0, none⟩) q cap bs1 (elimM p k nl (z + 1) m2)) := Lib.hid (by rw [← HSK.out (.inr hy0)]; exact HR6.out)
                              subst hy0
                              go_wp2_with fail
                              go_roundw
                              case rel => exact ⟨z + 1, by omega, by go_num, HRZ, HL6, HB6, hb6, hs6⟩
                              case measure => simp [intOf]; omega
                            · have HSZ := Lib.hid (HST2.out hzn hy0)
                              have hbqi := HAPQ.out hzn
                              have hyb2 : (y != 0) = true := by simpa using hy0
                              obtain ⟨sy, hsy⟩ : ∃ s, p - y = s := ⟨_, rfl⟩
                              have hsb : subP p 0 y = sy := by
                                unfold subP
                                rw [show (0 : Int) - y + p = sy by omega]
                                exact Int.emod_eq_of_lt (by omega) (by omega)
                              rw [hsb] at HSZ
                              have hsyb : 0 < sy ∧ sy < p := by omega
                              have hsyw : IntKind.i64.wrap (p - y) = sy := by rw [IntWalk.i64_in _ (by omega)]; exact hsy
                              clear hsy hsb
                              have hgow2 : go < wr.heap.size := hgo3l
                              have hbiw : bi < wr.heap.size := (World.ownsRow.lt HO1.out bi rfl).2
                              have HRQL : Hid (rq.length = c1) := Lib.hid HLE.out.1
                              have HR1L : Hid (r1.length = c1) := Lib.hid HL1.out.1
                              go_wp2_with fail
                              go_loopw [158] (fun iv wx => ∃ j : Nat, j ≤ c1 ∧ iv = .int .i64 j ∧ Hid (OwnI wx (B1 + 1) 3 (some ⟨bq, 0, none⟩) c1 cq (partly (timesP p sy) rq r1 j)) ∧ Step bq wr wx) (fun i _ => c1 - (intOf i).toNat)
                              case atStart => exact ⟨0, Nat.zero_le _, rfl, Lib.hid (by rw [partly_zero]; exact HOQ.out), Step.refl _ _⟩
                              case round =>
                                obtain ⟨j, hj, rfl, HO7, hS7⟩ := hrel
                                by_cases hltj : j < c1
                                · have hxz := (World.cell?_of_block (World.grownBy.block hS7 go hgow2 (fun e => hbqg (by injection e with e; exact e.symm)))).trans hzr
                                  have hxz1 := (World.cell?_of_block (World.grownBy.block hS7 go hgow2 (fun e => hbqg (by injection e with e; exact e.symm)))).trans hzr1
                                  have hx1 := (World.cell?_of_block (World.grownBy.block hS7 bi hbiw (fun e => hbqi (by injection e with e; exact e.symm)))).trans (HO1.out.cellAt hltj)
                                  have hxt := HO7.out.cellAt hltj
                                  rw [partly_at _ rq r1 (by rw [HRQL.out, HR1L.out]) j (by rw [HRQL.out]; exact hltj)] at hxt
                                  have hfz := HO7.out.frozenAt j
                                  have hst := HO7.out.stored j (timesP p sy (rq.getD j 0) (r1.getD j 0))
                                  rw [partly_set (timesP p sy) rq r1 (by rw [HRQL.out, HR1L.out]) j (by rw [HRQL.out]; exact hltj)] at hst
                                  have hte := allP_getD HLE.out.2 (k := j) (by rw [HRQL.out]; exact hltj)
                                  have hae := allP_getD HL1.out.2 (k := j) (by rw [HR1L.out]; exact hltj)
                                  obtain ⟨tt, htt⟩ : ∃ x, rq.getD j 0 = x := ⟨_, rfl⟩
                                  obtain ⟨aa, haa⟩ : ∃ x, r1.getD j 0 = x := ⟨_, rfl⟩
                                  rw [htt] at hxt hst hte
                                  rw [haa] at hx1 hst hae
                                  obtain ⟨v2, HV2⟩ : ∃ v2, Hid (timesP p sy tt aa = v2) := ⟨_, Lib.hid rfl⟩
                                  rw [HV2.out] at hst
                                  have hxy : 0 ≤ sy * aa ∧ sy * aa ≤ 65521 * 65521 := ⟨Int.mul_nonneg (by omega) hae.1, by have := Int.mul_le_mul (show sy ≤ 65521 by omega) (show aa ≤ 65521 by omega) hae.1 (by omega); omega⟩
                                  have hvt : (tt + sy * aa).tmod p = v2 := by rw [Int.tmod_eq_emod_of_nonneg (by omega), times_raw hp.1]; exact HV2.out
                                  have hw1 : IntKind.i64.wrap (sy * aa) = sy * aa := IntWalk.i64_in _ (by omega)
                                  have hw2 : IntKind.i64.wrap (tt + sy * aa) = tt + sy * aa := IntWalk.i64_in _ (by omega)
                                  have HS := Lib.hid hst
                                  have HS2 := Lib.hid (hS7.set j (.int .i64 v2))
                                  have h1j : (j : Int) < (c1 : Int) := by omega
                                  have h0j : (0 : Int) ≤ (j : Int) := by omega
                                  clear hst HO7 htt haa hxy hS7
                                  go_wp2_with fail
                                  go_still_tail 27, (by kernel_rfl)
                                  go_wp2
                                  go_roundw
                                  case rel => exact ⟨j + 1, by omega, by go_num, Lib.hid HS.out.drew, HS2.out.drew⟩
                                  case measure => simp [intOf]; omega
                                · obtain rfl : c1 = j := by omega
                                  have HSC : Hid (partly (timesP p sy) rq r1 c1 = zipI (timesP p sy) rq r1) := Lib.hid (by have := partly_all (timesP p sy) rq r1 (by rw [HRQL.out, HR1L.out]); rwa [HRQL.out] at this)
                                  have hO7 := HO7.out
                                  rw [HSC.out] at hO7
                                  have hR7 := HSET.out _ _ hS7 hO7
                                  rw [HSZ.out] at hR7
                                  have HR7 := Lib.hid hR7
                                  have HL7 := Lib.hid (HL6.out.step hS7 hbq2)
                                  have HB7 := Lib.hid (Step.block hS7 HB6.out (by omega))
                                  have hb7 := Step.below hb6 hS7 (Nat.le_of_lt HB6.out.lt) (by omega)
                                  have hs7 := Nat.le_trans hs6 (World.grownBy.size hS7)
                                  clear hR7 hO7 HO7 hS7
                                  go_wp2_with fail
                                  go_roundw
                                  case rel => exact ⟨z + 1, by omega, by go_num, HR7, HL7, HB7, hb7, hs7⟩
                                  case measure => simp [intOf]; omega
                        · obtain rfl : q = z := by omega
                          have HR7 : Hid (RefW wr (B1 + 1) c1 (some ⟨go, 0, none⟩) q cap bs1 (leadM p v k nl i m)) := Lib.hid (by rw [← HLM.out]; exact HR6.out)
                          have HCV : Hid (Cong p (mx m i k * v) 1) := Lib.hid (by rw [HX.out]; exact HV.out)
                          have HI9 : Hid (RInv p (k + 1) (lead ++ [k]) (leadM p v k nl i m) ∧ Elts p (c + 1) (leadM p v k nl i m) ∧ ∀ z, Ker p (c + 1) (augM q c cells right) z ↔ Ker p (c + 1) (leadM p v k nl i m) z) := Lib.hid (by
                            have h1 : nl < m.length := by rw [HMN.out]; exact hnlq
                            have h2 : i < m.length := by rw [HMN.out]; exact hiq
                            have h3 := HI.out.1.lead_ hp.1 HI.out.2.1 (by rw [← HNL.out]; exact hi1) h2 HCV.out
                            rw [← HNL.out] at h3
                            exact ⟨h3, leadM_elts hp.1 HI.out.2.1 h1 h2, fun z => (HI.out.2.2 z).trans (leadM_ker hp.1 HI.out.2.1 h1 h2 HCV.out z)⟩)
                          clear HR6 HMA HM2 HE2 HLM
                          go_wp2_with (at_builtin
                                       refine wpList_append_ints rfl _ _ _ rfl B2 3 i0 _ Tryd.underlying22 hi0 hz0 hz1 hz2 rfl L nl lc _ rfl (HL6.out.alloc _) _ _ 1 1 [(k : Int)] rfl (Ints.one _ _ _) (nl + 1) rfl _ rfl (by omega) (Nat.le_trans hs6 (bbox _).size) ?_
                                       intro A9 c9 w9 hown9 hgr9 hbw9 hab9
                                       have HR9 := Lib.hid ((HR7.out.below (bbox _)).belowAt hbw9 (fun g e => by injection e with e; injection e with e; rw [← e]; exact hgo2) HBD2.out)
                                       have HB9 := Lib.hid ((HB6.out.below (bbox _) HB6.out.lt).below hbw9 (by omega))
                                       have hb9 := (hb6.alloc (Nat.le_of_lt HB6.out.lt) _).trans (hbw9.mono (by omega))
                                       have hs9 : B2 ≤ w9.heap.size := Nat.le_trans hs6 (Nat.le_trans (bbox _).size hbw9.size)
                                       have HO9 := Lib.hid hown9
                                       clear hown9 hgr9 hbw9 hab9)
                          go_roundw
                          case rel => exact ⟨k + 1, bs1, _, lead ++ [k], A9, nl + 1, c9, by omega, by go_num, rfl, Lib.hid (by rw [List.length_append, ← HNL.out]; rfl), Lib.hid (by rw [HC1.out]; exact HR9.out), Lib.hid (by rw [lead_map]; exact HO9.out), HI9, HB9, HBD2, hs9, hb9⟩
                          case measure => simp [intOf]; omega
          · have h1l : ¬ (nl : Int) < (q : Int) := by omega
            have HRed : Hid (Red p c (augM q c cells right) m lead) := Lib.hid ⟨by
              have := RInv.skips (by rw [HR.out.ln, ← HNL.out]; omega) (c - k) k HI.out.1
              rwa [show k + (c - k) = c by omega] at this, by rw [HR.out.ln, augM_len], HI.out.2.1, HI.out.2.2⟩
            go_wp2
            go_ret2
            exact ⟨R, cap, bs, m, L, lc, lead, by rw [← HNL.out]; rfl, by rw [hB1]; exact HR.out, by rw [hB1, ← HNL.out]; exact HLd.out.base hB12, HRed.out, by rw [hB1]; exact hb⟩
        · obtain rfl : k = c := by omega
          have HRed : Hid (Red p k (augM q k cells right) m lead) := Lib.hid ⟨HI.out.1, by rw [HR.out.ln, augM_len], HI.out.2.1, HI.out.2.2⟩
          go_wp2
          go_ret2
          exact ⟨R, cap, bs, m, L, lc, lead, by rw [← HNL.out]; rfl, by rw [hB1]; exact HR.out, by rw [hB1, ← HNL.out]; exact HLd.out.base hB12, HRed.out, by rw [hB1]; exact hb⟩
end Go.Proofs.YtnjdjcgandfnfaaDoor

/-! RSol -/
namespace Go.Proofs.YtnjdjcgandfnfaaDoor
open Go.RowKit
set_option linter.unusedVariables false

set_option maxRecDepth 100000 in
theorem rcheck06_ok (p : Int) (r c nc : Nat) (C : Option Addr) (cc : Nat) (D : Option Addr) (cd : Nat) (cells right : List Int) (w : World) (h : EqOk p r c cells right) (hnc : Hid (r * c = nc)) (hC : Ints w w.heap.size C nc cells) (hD : Ints w w.heap.size D r right) :
    Calls Tryd.prog 55 #[eqV p r c C nc cc D r cd] w fun e w' => e = .returned (.int .i64 0) ∧ Below w.heap.size w w' := by
  have HO := Lib.hid h.ok
  have HA : Hid (inF p cells = true) := Lib.hid (inF_iff.2 ⟨h.ok, h.ac⟩)
  have HR : Hid (inF p right = true) := Lib.hid (inF_iff.2 ⟨h.ok, h.ar⟩)
  have h1 : ¬ (r : Int) < 0 := by omega
  have h2 : ¬ (32 : Int) < (r : Int) := by have := h.r32; omega
  have h3 : ¬ (c : Int) < 0 := by omega
  have h4 : ¬ (32 : Int) < (c : Int) := by have := h.c32; omega
  have hle : r * c ≤ 32 * 32 := Nat.mul_le_mul h.r32 h.c32
  have hnc2 : nc ≤ 1024 := by rw [hnc.out] at hle; exact hle
  have hr32 := h.r32
  have hprod : (r : Int) * (c : Int) = (nc : Int) := by rw [← Int.natCast_mul, hnc.out]
  have hB := Blk.new w 46 (eqC p r c C nc cc D r cd)
  have hb0 : Below w.heap.size w (w.alloc (.cells (eqC p r c C nc cc D r cd) 46)) := bbox _
  clear h hle
  go_enter Tryd.func55, Tryd.ntmps55
  go_wp2_with (first
    | (go_at_call 71; refine (check_yes p _ HO.out).mono ?_; rintro e w1 ⟨rfl, hb1⟩
       have hbb1 := bnext hb0 hb1
       have hB1 := hB.below hb1 hB.lt
       have hc0 : w1.cell? ⟨w.heap.size, 0, none⟩ = some (.int .i64 p) := (hB1.cell 0).trans rfl
       have hc1 : w1.cell? ⟨w.heap.size, 1, none⟩ = some (.int .i64 r) := (hB1.cell 1).trans rfl
       have hc2 : w1.cell? ⟨w.heap.size, 2, none⟩ = some (.int .i64 c) := (hB1.cell 2).trans rfl
       have hc3 : w1.cell? ⟨w.heap.size, 3, none⟩ = some (.slice C nc cc) := (hB1.cell 3).trans rfl
       have hc4 : w1.cell? ⟨w.heap.size, 4, none⟩ = some (.slice D r cd) := (hB1.cell 4).trans rfl
       clear hb1)
    | (go_at_call 72; (with_reducible refine (in_any p C nc cc cells w1 (hC.upto hbb1) (by omega)).mono ?_); rintro e w2 ⟨rfl, hb2⟩; rw [HA.out]
       have hbb2 := bnext hbb1 hb2
       have hB2 := hB1.below hb2 hB1.lt
       have hc5 : w2.cell? ⟨w.heap.size, 0, none⟩ = some (.int .i64 p) := (hB2.cell 0).trans rfl
       have hc6 : w2.cell? ⟨w.heap.size, 4, none⟩ = some (.slice D r cd) := (hB2.cell 4).trans rfl
       clear hb2)
    | (go_at_call 72; (with_reducible refine (in_any p D r cd right w2 (hD.upto hbb2) (by omega)).mono ?_); rintro e w3 ⟨rfl, hb3⟩; rw [HR.out]
       have hbb3 := bnext hbb2 hb3
       clear hb3))
  go_ret
  exact ⟨rfl, hbb3⟩

theorem RefW.cap_ {w : World} {base wd n cap : Nat} {R : Option Addr} {bs : List (Nat × Nat)} {m : List (List Int)} (h : RefW w base wd R n cap bs m) : n ≤ cap := by
  rcases h.out.2 with ⟨hv, _⟩ | ⟨g, cp, cur, hv, _, _, hnc, _⟩
  · injection hv with _ h1 h2
    omega
  · injection hv with _ h1 h2
    omega

set_option maxHeartbeats 1600000 in
set_option maxRecDepth 100000 in
/-- A solution of valid equations. -/
theorem rsolve06_ok {p : Int} {r c nc cc cd : Nat} {C D : Option Addr} {cells right : List Int} {w : World} (h : EqW w p r c nc C cc D cd cells right) :
    Calls Tryd.prog 32 #[eqV p r c C nc cc D r cd] w (SolvePost p c (augM r c cells right) w) := by
  obtain ⟨i0, hi0, hz0, hz1, hz2⟩ := info_parts info_int
  have hb0 : Below w.heap.size w (w.alloc (.cells (eqC p r c C nc cc D r cd) 46)) := bbox _
  have HE := Lib.hid (h.upto hb0)
  have HB0 := Lib.hid (Blk.new w 46 (eqC p r c C nc cc D r cd))
  have HL := h.ln
  have hc32 := h.ok.c32
  have hr32 := h.ok.r32
  have hp := okP_pos h.ok.ok
  clear h
  go_enter Tryd.func32, Tryd.ntmps32
  go_upto_region 5 with (first
    | (go_at_call 55; refine (rcheck06_ok p r c nc C cc D cd cells right _ HE.out.ok (Lib.hid HL) HE.out.hC HE.out.hD).mono ?_; rintro e w1 ⟨rfl, hb1⟩
       have HB1 := Lib.hid (HB0.out.below hb1 HB0.out.lt)
       have HE1 := Lib.hid (HE.out.upto hb1)
       have hbb1 := hb0.trans (hb1.mono (by simp))
       have hs1 := HB1.out.lt
       have ha0 : w1.cell? ⟨w.heap.size, 0, none⟩ = some (.int .i64 p) := (HB1.out.cell 0).trans rfl
       have ha1 : w1.cell? ⟨w.heap.size, 1, none⟩ = some (.int .i64 r) := (HB1.out.cell 1).trans rfl
       have ha2 : w1.cell? ⟨w.heap.size, 2, none⟩ = some (.int .i64 c) := (HB1.out.cell 2).trans rfl
       have ha3 : w1.cell? ⟨w.heap.size, 3, none⟩ = some (.slice C nc cc) := (HB1.out.cell 3).trans rfl
       have ha4 : w1.cell? ⟨w.heap.size, 4, none⟩ = some (.slice D r cd) := (HB1.out.cell 4).trans rfl
       clear hb1)
    | (go_at_call 56; refine (rreduce_ok HE1.out).mono ?_; rintro e w2 ⟨R, cap, bs, m, L, lc, lead, rfl, hR, hLd, hred, hb2⟩
       have hbb2 := bnext hbb1 hb2
       have HR2 := Lib.hid hR
       have HRed := Lib.hid hred
       have HL2 := Lib.hid hLd
       have HB2 := Lib.hid (HB1.out.below hb2 HB1.out.lt)
       clear hb2 hR hred hLd))
  clear ha0 ha1 ha2 ha3 ha4 HE HE1 HB0 HB1
  have ha2 : w2.cell? ⟨w.heap.size, 2, none⟩ = some (.int .i64 c) := (HB2.out.cell 2).trans rfl
  have hcap := HR2.out.cap_
  have hrm : lead.length ≤ r := by rw [← HR2.out.ln]; exact HRed.out.inv.rm
  obtain ⟨rk, hrk⟩ : ∃ rk, lead.length = rk := ⟨_, rfl⟩
  have HRK := Lib.hid hrk
  rw [hrk] at hrm HL2 ⊢
  clear hrk
  have hk0 : (0 : Int) ≤ (rk : Int) := by omega
  have hk1 : (rk : Int) ≤ (r : Int) := by omega
  have HF : Hid (∀ j, j < r → ∃ go b cb, R = some ⟨go, 0, none⟩ ∧ w2.cell? ⟨go, j, none⟩ = some (.slice (some ⟨b, 0, none⟩) (c + 1) cb) ∧ w2.cell? ⟨b, c, none⟩ = some (.int .i64 (mx m j c)) ∧ go < w2.heap.size ∧ b < w2.heap.size) := Lib.hid fun j hj => by
    obtain ⟨go, h1, _, h3, _, h2⟩ := HR2.out.form (by omega)
    exact ⟨go, _, _, h1, (h2 j hj).1, (HR2.out.rws.own j (by rw [HR2.out.ln]; exact hj)).cellAt (by omega), h3, (HR2.out.rws.row (by rw [HR2.out.ln]; exact hj)).2⟩
  obtain ⟨A4, hA4, HA4⟩ : ∃ A4 : Option Addr, (if cap = rk then R else Option.map (fun x => x.add rk) R) = A4 ∧ Hid (rk < r → ∀ go, R = some ⟨go, 0, none⟩ → A4 = some ⟨go, rk, none⟩) := by
    refine ⟨_, rfl, Lib.hid fun h1 go h2 => ?_⟩
    rw [if_neg (by omega), h2]; simp [Addr.add]; omega
  have HM : Hid (m.length = r) := Lib.hid HR2.out.ln
  go_wp2
  go_loop [27] (fun v => ∃ j : Nat, j ≤ r - rk ∧ v = .int .i64 j ∧ Hid (∀ i, i < j → mx m (rk + i) c = 0)) (fun v => r - rk - (intOf v).toNat)
  case atStart => exact ⟨0, Nat.zero_le _, rfl, Lib.hid fun i hi => absurd hi (by omega)⟩
  case round =>
    obtain ⟨j, hj, rfl, HZ⟩ := hrel
    by_cases hlt : j < r - rk
    · obtain ⟨go, b, cb, hR, hrow, hcell, _, _⟩ := HF.out (rk + j) (by omega)
      have hA := HA4.out (by omega) go hR
      subst hA
      have h1 : (j : Int) < ((r - rk : Nat) : Int) := by omega
      have h0 : (0 : Int) ≤ (j : Int) := by omega
      have hcc : (c : Int) < ((c + 1 : Nat) : Int) := by omega
      have hc0 : (0 : Int) ≤ (c : Int) := by omega
      by_cases hz : mx m (rk + j) c = 0
      · rw [hz] at hcell
        go_wp2
        go_round
        case rel => exact ⟨j + 1, by omega, by go_num, Lib.hid fun i hi => by
          by_cases e : i = j
          · rw [e]; exact hz
          · exact HZ.out i (by omega)⟩
        case measure => simp [intOf]; omega
      · have HNZ : Hid (SolveOf p c (augM r c cells right) none) := Lib.hid ⟨m, lead, HRed.out, fun h => hz (h (rk + j) (by rw [HRK.out]; omega) (by rw [HM.out]; omega))⟩
        obtain ⟨y, hy⟩ : ∃ y, mx m (rk + j) c = y := ⟨_, rfl⟩
        rw [hy] at hcell hz
        clear hy
        go_wp2
        go_ret2
        exact ⟨.inl ⟨HNZ.out, rfl⟩, hbb2⟩
    · obtain rfl : r - rk = j := by omega
      have HC : Hid (SolveOf p c (augM r c cells right) (some (solL c lead m c))) := Lib.hid ⟨m, lead, HRed.out, fun i hi1 hi2 => by
        have := HZ.out (i - rk) (by rw [HM.out] at hi2; rw [HRK.out] at hi1; omega)
        rw [HRK.out] at hi1
        rwa [show rk + (i - rk) = i by omega] at this, solL_solX HRed.out.inv⟩
      have hc0 : (0 : Int) ≤ (c : Int) := by omega
      go_wp2_with (
        at_make
        refine wpList_make_full _ rfl _ _ 22 rfl w.heap.size 3 i0 (.int .i64 0) 1 Tryd.underlying22 hi0 hz0 hz1 .i64 .i64 c c c rfl rfl rfl rfl (by rw [hz2]; omega) (by unfold maxLen; omega) hbb2.size ?_
        intro w4 hown hgr
        have hown4 : OwnI w4 w.heap.size 3 (some ⟨w2.heap.size, 0, none⟩) c c (List.replicate c 0) := by rw [made_zerosS] at hown; exact hown
        have hb4 : Below w2.heap.size w2 w4 := (Below.refl _ _).grown hgr (Nat.le_refl _) (fun k hk => by cases hk)
        clear hown hgr)
      obtain ⟨g, hg⟩ : ∃ g, w2.heap.size = g := ⟨_, rfl⟩
      have HLc : Hid (∀ n, n < rk → ∃ gl, L = some ⟨gl, 0, none⟩ ∧ w2.cell? ⟨gl, n, none⟩ = some (.int .i64 (lead.getD n 0 : Nat)) ∧ gl < w2.heap.size) := Lib.hid fun n hn => by
        obtain ⟨gl, h1, h2, h3⟩ := HL2.out.form (by omega)
        subst h1
        have h4 := HL2.out.cellAt hn
        rw [show (lead.map Int.ofNat).getD n 0 = ((lead.getD n 0 : Nat) : Int) by
          rw [List.getD_eq_getElem?_getD, List.getElem?_map, List.getD_eq_getElem?_getD, List.getElem?_eq_getElem (by rw [HRK.out]; exact hn)]; rfl] at h4
        exact ⟨gl, rfl, h4, h3⟩
      rw [hg] at hown4 hb4 HF HLc ⊢
      have HG := Lib.hid hg
      have hgw : w.heap.size < g := by rw [← hg]; exact HB2.out.lt
      clear hg
      go_loopw [43] (fun v wx => ∃ n : Nat, n ≤ rk ∧ v = .int .i64 n ∧ OwnI wx w.heap.size 3 (some ⟨g, 0, none⟩) c c (solR c lead m n) ∧ Below g w2 wx) (fun v _ => rk - (intOf v).toNat)
      case atStart => exact ⟨0, Nat.zero_le _, rfl, by rw [solR_zero]; exact hown4, hb4⟩
      case round =>
        obtain ⟨n, hn, rfl, hown, hb⟩ := hrel
        by_cases hlt : n < rk
        · obtain ⟨gl, rfl, hlc, hll⟩ := HLc.out n hlt
          obtain ⟨go, b, cb, rfl, hrow, hcell, hgl, hbl⟩ := HF.out n (by omega)
          have hx0 := (hb.cell (p := ⟨gl, n, none⟩) hll).trans hlc
          have hx1 := (hb.cell (p := ⟨go, n, none⟩) hgl).trans hrow
          have hx2 := (hb.cell (p := ⟨b, c, none⟩) hbl).trans hcell
          have hx3 := (hb.cell (p := ⟨w.heap.size, 2, none⟩) hgw).trans ha2
          have HST := Lib.hid (solR_set HRed.out.inv (n := n) (by rw [HRK.out]; exact hlt))
          have hlk := HRed.out.inv.lt n (by rw [HRK.out]; exact hlt)
          obtain ⟨k, hk⟩ : ∃ k, lead.getD n 0 = k := ⟨_, rfl⟩
          rw [hk] at hx0 HST hlk
          obtain ⟨y, hy⟩ : ∃ y, mx m n c = y := ⟨_, rfl⟩
          rw [hy] at hx2 HST
          have h1n : (n : Int) < (rk : Int) := by omega
          have h1r : (n : Int) < (r : Int) := by omega
          have h0n : (0 : Int) ≤ (n : Int) := by omega
          have hkc : (k : Int) < (c : Int) := by omega
          have h0k : (0 : Int) ≤ (k : Int) := by omega
          have hcc : (c : Int) < ((c + 1 : Nat) : Int) := by omega
          obtain ⟨c1, hc1⟩ : ∃ c1, c + 1 = c1 := ⟨_, rfl⟩
          rw [hc1] at hx1 hcc
          clear hc1
          have hoc := hown.cellAt (j := k) hlk
          generalize (solR c lead m n).getD k 0 = y0 at hoc
          have hfz := hown.frozenAt k
          have hst := hown.stored k y
          rw [HST.out] at hst
          have HS := Lib.hid hst
          have HBS := Lib.hid (hb.setCell (p := ⟨g, k, none⟩) (Nat.le_refl _) (.int .i64 y))
          clear hst hown hlc hrow hcell hk hy
          go_wp2_with fail
          go_still_tail 11, (by kernel_rfl)
          go_wp2
          go_roundw
          case rel => exact ⟨n + 1, by omega, by go_num, HS.out.drew, HBS.out.drew⟩
          case measure => simp [intOf]; omega
        · obtain rfl : n = rk := by omega
          have hown2 : OwnI wr w.heap.size 3 (some ⟨g, 0, none⟩) c c (solL c lead m c) := by rw [← solR_all, HRK.out]; exact hown
          go_wp2
          go_ret2
          exact ⟨.inr ⟨g, _, HC.out, rfl, hown2⟩, hbb2.trans (hb.mono (Nat.le_of_lt hgw))⟩
end Go.Proofs.YtnjdjcgandfnfaaDoor

/-! RDiv -/
namespace Go.Proofs.YtnjdjcgandfnfaaDoor
open Go.RowKit
set_option linter.unusedVariables false

set_option maxRecDepth 100000 in
set_option maxHeartbeats 3200000 in
theorem rdivide_yes (p : Int) (A B : Option Addr) (n m c d : Nat) (xs ys : List Int) (w : World) (h0 : errL p [xs, ys] = 0) (h : Ints w w.heap.size A n xs) (h2 : Ints w w.heap.size B m ys) (hc : n ≤ c) (hd : m ≤ d) (hn : n ≤ 512) (hm : m ≤ 512) (hz : 0 < tn ys m) :
    Calls Tryd.prog 33 #[.agg #[.int .i64 p], .slice A n c, .slice B m d] w fun e w' =>
      (∃ (Q R : List Int) (A1 : Option Addr) (c1 : Nat) (A2 : Option Addr) (c2 : Nat), e = .returned (.tuple #[.slice A1 Q.length c1, .slice A2 R.length c2, .int .i64 0]) ∧ OwnI w' w.heap.size 3 A1 Q.length c1 Q ∧ OwnI w' w.heap.size 3 A2 R.length c2 R ∧ DivOf p xs ys Q R) ∧ Below w.heap.size w w' := by
  obtain ⟨i0, hi0, hz0, hz1, hz2⟩ := info_parts info_int
  have h1 := errL_two h0
  have hok := h1.1
  have hp := okP_pos hok
  have HO := Lib.hid hok
  have HER := Lib.hid h0
  have hx := h1.2.1.1
  have hy := h1.2.2.1
  have hta0 := tn_le xs n
  have hnb0 := tn_le ys m
  have hxl := h.len
  have hyl := h2.len
  obtain ⟨ta, HTA⟩ : ∃ ta, Hid (tn xs n = ta) := ⟨_, Lib.hid rfl⟩
  obtain ⟨nb, HNB⟩ : ∃ nb, Hid (tn ys m = nb) := ⟨_, Lib.hid rfl⟩
  rw [HTA.out] at hta0
  rw [HNB.out] at hnb0 hz
  have HXL : Hid ((trimL xs).length = ta) := Lib.hid (by rw [trimL_len, hxl, HTA.out])
  have HBA := Lib.hid (trimL_allP hy)
  obtain ⟨bs, HBS⟩ : ∃ bs, Hid (trimL ys = bs) := ⟨_, Lib.hid rfl⟩
  have HBL : Hid (bs.length = nb) := Lib.hid (by rw [← HBS.out, trimL_len, hyl, HNB.out])
  rw [HBS.out] at HBA
  obtain ⟨n1, hn1⟩ : ∃ n1, nb = n1 + 1 := ⟨nb - 1, by omega⟩
  have hbl : 0 < bs.getD n1 0 ∧ bs.getD n1 0 < p := by
    have h3 := allP_getD HBA.out (k := n1) (by rw [HBL.out]; omega)
    have h4 : cf bs n1 ≠ 0 := by rw [← HBS.out]; exact trimL_trimd ys n1 (by rw [HBS.out, HBL.out, hn1])
    have h5 : bs.getD n1 0 ≠ 0 := h4
    omega
  obtain ⟨L, hL⟩ : ∃ L : Nat, (L : Int) = max 0 ((ta : Int) - (nb : Int) + 1) := ⟨(max 0 ((ta : Int) - (nb : Int) + 1)).toNat, by omega⟩
  have hL2 : (0 < L → ta = L + n1) ∧ (L = 0 → ta ≤ n1) ∧ L ≤ n := by omega
  have HST : Hid (Dvr p xs bs (trimL xs) (List.replicate L 0) ta) := Lib.hid (by
    have := Dvr.start hp.1 hx bs L
    rwa [HXL.out] at this)
  have hnb1 : (nb : Int) - 1 = (n1 : Int) := by omega
  have hnbw : IntKind.i64.wrap ((nb : Int) - 1) = (n1 : Int) := by rw [hnb1]; exact IntWalk.i64_in _ (by omega)
  have HN1 := Lib.hid hn1
  have hn1b : (n1 : Int) < (nb : Int) := by omega
  have hn10 : (0 : Int) ≤ (n1 : Int) := by omega
  have hnbe : ((nb : Int) == 0) = false := by simp; omega
  have hF0 := Blk.new w 24 #[.int .i64 p]
  clear hx hy hok hxl hyl hn1 h1 h0
  go_enter Tryd.func33, Tryd.ntmps33
  go_wp2_with (first
    | (go_at_call 51; (refine (rlists_any p _ 2 2 [xs, ys] _ (by exact Mat.two _ A B n m c d xs ys 22 _ (by simp) (h.upto (bbox _)) (h2.upto (bbox _)) (by omega) (by omega)) (by omega)).mono ?_); rw [HER.out]; rintro e w1 ⟨rfl, hb1⟩
       have hw01 : Below w.heap.size w w1 := bnext (ballocs (bbox _) _) hb1
       have hF1 := (hF0.alloc (.cells #[.slice A n c, .slice B m d] 22)).below hb1 (hF0.alloc _).lt
       have hX1 := h.upto hw01
       have hY1 := h2.upto hw01
       have hs1 := hF1.lt
       clear hb1)
    | (go_at_call 52; (with_reducible refine (rtrim_any A n c xs _ hX1 hc (by omega)).mono ?_); rintro e w2 ⟨⟨AR, c0, rfl, hown2⟩, hb2⟩
       rw [HTA.out] at hown2
       rw [HTA.out]
       have hw02 := bnext hw01 hb2
       have hF2 := hF1.below hb2 hF1.lt
       have hY2 := hY1.upto hb2
       have hgr : ∀ g s, AR = some ⟨g, 0, s⟩ → w1.heap.size ≤ g ∧ g < w2.heap.size := fun g s e => World.ownsRow.lt hown2 g (by rw [e]; rfl)
       have hs2 := hb2.size)
    | (go_at_call 52; (with_reducible refine (rtrim_any B m d ys _ hY2 hd (by omega)).mono ?_); rintro e w3 ⟨⟨A3, c3, rfl, hown3⟩, hb3⟩
       rw [HNB.out, HBS.out] at hown3
       rw [HNB.out]
       have hw03 := bnext hw02 hb3
       have hF3 := hF2.below hb3 hF2.lt
       have hO3 := hown2.belowAll hb3
       obtain ⟨gb, rfl, hgb1, hgb2⟩ := hown3.form (by omega)
       have hcB1 := hown3.cellAt (j := n1) (by omega)
       have hc3 : w3.cell? ⟨w.heap.size, 0, none⟩ = some (.int .i64 p) := (hF3.cell 0).trans rfl
       have hs3 := hb3.size))
  obtain ⟨bl, HBl⟩ : ∃ bl, Hid (bs.getD n1 0 = bl) := ⟨_, Lib.hid rfl⟩
  rw [HBl.out] at hbl hcB1
  clear hnb1
  go_region_held3 (fun w' => w'.cell? ⟨w.heap.size, 0, none⟩ = some (.int .i64 p) ∧ w'.cell? ⟨gb, n1, none⟩ = some (.int .i64 bl)) (first | go_keep | exact ⟨hc3, hcB1⟩ | exact ⟨hc4, hcB4⟩)
    ((go_at_call 57; refine (rinv_ok p bl _ HO.out hbl).mono ?_; rintro e w4 ⟨⟨inv, rfl, hinv, HINV⟩, hb4⟩; have hF4 := hF3.drew.below hb4 hF3.lt; have hc4 : w4.cell? ⟨w.heap.size, 0, none⟩ = some (.int .i64 p) := (hF4.cell 0).trans rfl; have hcB4 := (hb4.cell (p := ⟨gb, n1, none⟩) hgb2).trans hcB1))
  have hb34 : Below w3.heap.size w3 w4 := Below.trans ((Below.refl _ w3).drew) hb4
  have hw04 := bnext hw03 hb34
  have hinv' := hinv
  have hO4 := hO3.belowAll hb34
  have hB4 := hown3.belowAll hb34
  have hs4 := hb34.size
  have HINV2 : Hid (Cong p (bs.getD n1 0 * inv) 1) := Lib.hid (by rw [HBl.out]; exact HINV.out)
  go_wp2_with (
    at_make
    refine wpList_make_full _ rfl _ _ 22 rfl w4.heap.size 3 i0 (.int .i64 0) 1 Tryd.underlying22 hi0 hz0 hz1 .i64 .i64 _ _ L rfl rfl (by first | rfl | omega) (by first | rfl | omega) (by rw [hz2]; omega) (by unfold maxLen; omega) (Nat.le_refl _) ?_
    intro w5 hown hgr5
    have hown5 : OwnI w5 w4.heap.size 3 (some ⟨w4.heap.size, 0, none⟩) L L (List.replicate L 0) := by rw [zeros_made] at hown; exact hown
    have hb45 : Below w4.heap.size w4 w5 := (Below.refl _ _).grown hgr5 (Nat.le_refl _) (fun k hk => by cases hk)
    clear hown hgr5)
  all_goals
    have hgq := hs4
    have hF5 := hF4.below hb45 hF4.lt
    have hO5 := hO4.belowAll hb45
    have hB5 := hB4.belowAll hb45
    have hw05 := bnext hw04 hb45
    have hgbq : gb < w4.heap.size := by omega
    have hgrq : ∀ g s, AR = some ⟨g, 0, s⟩ → w1.heap.size ≤ g ∧ g < w4.heap.size ∧ g ≠ gb := fun g s e => by have := hgr g s e; omega
    have hwq : w.heap.size < w4.heap.size := by omega
    have hw1q : w1.heap.size ≤ w4.heap.size := by omega
    have hw13 : w1.heap.size ≤ gb := by omega
    have hI5 := hB5.ints
    have hFl5 := hs1
    have HL := Lib.hid hL
    obtain ⟨gq, hgqe⟩ : ∃ gq, w4.heap.size = gq := ⟨_, rfl⟩
    rw [hgqe] at hgbq hgrq hwq hw1q hown5
    rw [hgqe]
    have hown5 : OwnI w5 w1.heap.size 3 (some ⟨gq, 0, none⟩) L L (List.replicate L 0) := hown5.base hw1q
    have hO5 : OwnI w5 w1.heap.size 3 AR ta c0 (trimL xs) := hO5.base (Nat.le_refl _)
    clear hF1 hF2 hF3 hF4 hc3 hc4 hcB1 hcB4 hown2 hown3 hO3 hO4 hB4 hX1 hY1 hY2 hw01 hw02 hw03 hw04 hb2 hb3 hb4 hb34 hb45 hs2 hs3 hs4 hgq hgr hgqe hinv hgb1 hgb2
    go_loopw [13] (fun v wz => ∃ (k D : Nat) (iv : Int) (ts qs : List Int), k ≤ L ∧ v = .int .i64 iv ∧ Hid (iv = (k : Int) - 1) ∧ Hid ((0 < k → D = k + n1) ∧ (k = 0 → D ≤ n1)) ∧ OwnI wz w1.heap.size 3 AR ta c0 ts ∧ OwnI wz w1.heap.size 3 (some ⟨gq, 0, none⟩) L L qs ∧ Hid (Dvr p xs bs ts qs D) ∧ Ints wz wz.heap.size (some ⟨gb, 0, none⟩) nb bs ∧ Blk wz w.heap.size 24 #[.int .i64 p] ∧ Below w.heap.size w wz) (fun v _ => (intOf v + 1).toNat)
    case atStart => exact ⟨L, ta, _, _, _, Nat.le_refl _, rfl, Lib.hid (by rw [HL.out]), Lib.hid ⟨by omega, by omega⟩, hO5, hown5, HST, hI5, hF5, hw05⟩
    case round =>
      obtain ⟨k, D, iv, ts, qs, hk, rfl, HI, HD0, hoT, hoQ, HD, hIb, hFz, hbz⟩ := hrel
      by_cases hk0 : 0 < k
      · obtain ⟨j, rfl⟩ : ∃ j, k = j + 1 := ⟨k - 1, by omega⟩
        obtain rfl : iv = (j : Int) := by have := HI.out; omega
        have hD : D = j + n1 + 1 := by have := HD0.out.1 hk0; omega
        subst hD
        have hta : ta = L + n1 := hL2.1 (by omega)
        have HTAE := Lib.hid hta
        have hlta : j + n1 < ta := by omega
        have htab : ta ≤ 512 := by omega
        clear hta
        obtain ⟨gr, rfl, hgr1, hgr2⟩ := hoT.form (by omega)
        have hgr3 := hgrq gr none rfl
        have hct := hoT.cellAt (j := j + n1) (by omega)
        have htin := allP_getD HD.out.at_ (k := j + n1) (by rw [hoT.len]; omega)
        have hcq := hoQ.cellAt (j := j) (by omega)
        have hfq := hoQ.frozenAt j
        have hcf : wr.cell? ⟨w.heap.size, 0, none⟩ = some (.int .i64 p) := (hFz.cell 0).trans rfl
        have HDT : Hid (allP p ts = true) := Lib.hid HD.out.at_
        have HTL := Lib.hid hoT.len
        have HDS : Hid (∀ q, q = ts.getD (j + n1) 0 * inv % p → Dvr p xs bs (addTo p (p - q) j bs ts (n1 + 1)) (qs.set j q) (j + n1)) := Lib.hid fun q hq => HD.out.step hp.1 (by rw [HBL.out]; exact HN1.out) (by rw [HTL.out]; exact hlta) (by rw [hoQ.len]; omega) HINV2.out hq
        obtain ⟨tl, HTl⟩ : ∃ tl, Hid (ts.getD (j + n1) 0 = tl) := ⟨_, Lib.hid rfl⟩
        rw [HTl.out] at hct htin HDS
        obtain ⟨q, hq⟩ : ∃ q, tl * inv % p = q := ⟨_, rfl⟩
        have hqin : 0 ≤ q ∧ q < p := by rw [← hq]; exact emod_in hp.1 _
        have HD2 := Lib.hid (HDS.out q hq.symm)
        have hti : 0 ≤ tl * inv ∧ tl * inv ≤ 65521 * 65521 := ⟨Int.mul_nonneg htin.1 hinv'.1, by have := Int.mul_le_mul (show tl ≤ 65521 by omega) (show inv ≤ 65521 by omega) hinv'.1 (by omega); omega⟩
        have hw1 : IntKind.i64.wrap (tl * inv) = tl * inv := IntWalk.i64_in _ (by omega)
        have hqt : (tl * inv).tmod p = q := by rw [Int.tmod_eq_emod_of_nonneg hti.1]; exact hq
        obtain ⟨l1, hl1⟩ : ∃ l1, j + n1 = l1 := ⟨_, rfl⟩
        rw [hl1] at hct hlta HD2
        have hx1 : IntKind.i64.wrap ((j : Int) + (nb : Int)) = (j : Int) + (nb : Int) := IntWalk.i64_in _ (by omega)
        have hx2 : IntKind.i64.wrap ((j : Int) + (nb : Int) - 1) = (l1 : Int) := by have := HN1.out; rw [IntWalk.i64_in _ (by omega)]; omega
        have hl10 : (0 : Int) ≤ (l1 : Int) := by omega
        have hl11 : (l1 : Int) < (ta : Int) := by omega
        have hjm : IntKind.i64.wrap ((j : Int) - 1) = (j : Int) - 1 := IntWalk.i64_in _ (by omega)
        have hj0 : (0 : Int) ≤ (j : Int) := by omega
        have hjL : (j : Int) < (L : Int) := by omega
        have hp0 : ¬ p = 0 := by omega
        clear hq HDS HD HI HD0 HL hL
        go_wp2
        go_quiet (fail)
        go_wp2_with fail
        rename_i nq
        have hSw : Step gq wr ((wr.drewN nq).setCell ⟨gq, j, none⟩ (.int .i64 q)) := ((Step.refl gq wr).drewN nq).set j (.int .i64 q)
        have hoT6 : OwnI ((wr.drewN nq).setCell ⟨gq, j, none⟩ (.int .i64 q)) w1.heap.size 3 (some ⟨gr, 0, none⟩) ta c0 ts := hoT.kept hSw (.inr (by simp [Value.ownBlock]; omega))
        have hoQ6 : OwnI ((wr.drewN nq).setCell ⟨gq, j, none⟩ (.int .i64 q)) w1.heap.size 3 (some ⟨gq, 0, none⟩) L L (qs.set j q) := (hoQ.drewN nq).stored j q
        have hIb6 := hIb.grownAt hSw (by simp; omega)
        have hFz6 := Step.block hSw hFz (by omega)
        have hbz6 := Step.below hbz hSw hbz.size (by omega)
        obtain ⟨W6, hW6⟩ : ∃ W6, (wr.drewN nq).setCell ⟨gq, j, none⟩ (.int .i64 q) = W6 := ⟨_, rfl⟩
        rw [hW6] at hoT6 hoQ6 hIb6 hFz6 hbz6
        rw [hW6]
        have hgrW := hFz6.lt
        clear hSw hW6 hoT hoQ hIb hFz hbz hct hcq hfq hcf hw1 hqt hx1 hx2 hti htin
        obtain ⟨u, hu⟩ : ∃ u, p - q = u := ⟨_, rfl⟩
        have huin : 0 < u ∧ u ≤ p := by omega
        rw [hu] at HD2
        have huw : IntKind.i64.wrap (p - q) = u := by rw [IntWalk.i64_in _ (by omega)]; exact hu
        go_loopw [74] (fun i wz => ∃ j2 : Nat, j2 ≤ nb ∧ i = .int .i64 j2 ∧ OwnI wz w1.heap.size 3 (some ⟨gr, 0, none⟩) ta c0 (addTo p u j bs ts j2) ∧ Step gr W6 wz) (fun i _ => nb - (intOf i).toNat)
        case atStart => exact ⟨0, Nat.zero_le _, rfl, by rw [addTo_zero]; exact hoT6, Step.refl _ _⟩
        case round =>
          obtain ⟨j2, hj2, rfl, hownj, hSj⟩ := hrel
          have hIbj := hIb6.grownAt hSj (by simp; omega)
          have hFj := Step.block hSj hFz6 (by omega)
          by_cases hlt2 : j2 < nb
          · obtain ⟨b2, o2, e2, hb2, hc2⟩ := hIbj.2 (by omega)
            injection e2 with e2
            injection e2 with e3 e4 _
            subst e3 e4
            have hcy := hc2 j2 hlt2
            rw [Nat.zero_add] at hcy
            clear hc2
            have hye := allP_getD HBA.out (k := j2) (by rw [HBL.out]; exact hlt2)
            have hcf : wr.cell? ⟨w.heap.size, 0, none⟩ = some (.int .i64 p) := (hFj.cell 0).trans rfl
            have hN1 := HN1.out
            have hzlt : j + j2 < ta := by omega
            have hct := hownj.cellAt (j := j + j2) (by omega)
            rw [addTo_at p u j bs ts j2 (by rw [HTL.out]; omega)] at hct
            have hfz := hownj.frozenAt (j + j2)
            have hte := allP_getD HDT.out (k := j + j2) (by rw [HTL.out]; omega)
            have hst := hownj.stored (j + j2) (timesP p u (ts.getD (j + j2) 0) (bs.getD j2 0))
            rw [addTo_set p u j bs ts j2 (by rw [HTL.out]; omega)] at hst
            obtain ⟨y, HY⟩ : ∃ y, Hid (bs.getD j2 0 = y) := ⟨_, Lib.hid rfl⟩
            obtain ⟨t, HT⟩ : ∃ t, Hid (ts.getD (j + j2) 0 = t) := ⟨_, Lib.hid rfl⟩
            rw [HY.out] at hcy hye hst
            rw [HT.out] at hct hte hst
            obtain ⟨v, HV⟩ : ∃ v, Hid (timesP p u t y = v) := ⟨_, Lib.hid rfl⟩
            rw [HV.out] at hst
            have hxy : 0 ≤ u * y ∧ u * y ≤ 65521 * 65521 := ⟨Int.mul_nonneg (by omega) hye.1, by have := Int.mul_le_mul (show u ≤ 65521 by omega) (show y ≤ 65521 by omega) hye.1 (by omega); omega⟩
            have hvt : (t + u * y).tmod p = v := by rw [Int.tmod_eq_emod_of_nonneg (by omega), times_raw hp.1]; exact HV.out
            have hw1 : IntKind.i64.wrap (u * y) = u * y := IntWalk.i64_in _ (by omega)
            have hw2 : IntKind.i64.wrap (t + u * y) = t + u * y := IntWalk.i64_in _ (by omega)
            obtain ⟨z, hz⟩ : ∃ z : Nat, j + j2 = z := ⟨_, rfl⟩
            have hzi : IntKind.i64.wrap ((j : Int) + (j2 : Int)) = (z : Int) := by rw [IntWalk.i64_in _ (by omega)]; omega
            rw [hz] at hct hfz hst hzlt
            have hzN : (z : Int) < (ta : Int) := by omega
            have hz0 : (0 : Int) ≤ (z : Int) := by omega
            have hj0' : (0 : Int) ≤ (j2 : Int) := by omega
            have hjb : (j2 : Int) < (nb : Int) := by omega
            have HST2 := Lib.hid hst.drew
            have hSj2 : Step gr W6 (wr.setCell ⟨gr, z, none⟩ (.int .i64 v)).drew := (hSj.set z _).drew
            clear hst hxy hN1
            go_wp2_with fail
            go_region
            go_wp2
            go_roundw
            case rel => exact ⟨j2 + 1, by omega, by go_num, HST2.out, hSj2⟩
            case measure => simp [intOf]; omega
          · obtain rfl : j2 = nb := by omega
            have hoQj := hoQ6.kept hSj (.inr (by simp [Value.ownBlock]; omega))
            have hbj := Step.below hbz6 hSj hbz6.size (by omega)
            have HD3 : Hid (Dvr p xs bs (addTo p u j bs ts j2) (qs.set j q) l1) := Lib.hid (by have := HD2.out; rwa [← HN1.out] at this)
            have HDD : Hid ((0 < j → l1 = j + n1) ∧ (j = 0 → l1 ≤ n1)) := Lib.hid ⟨fun _ => hl1.symm, fun e => by omega⟩
            clear hl1
            go_wp2
            go_roundw
            case rel => exact ⟨j, l1, _, _, _, by omega, rfl, Lib.hid rfl, HDD, hownj, hoQj, HD3, hIbj, hFj, hbj⟩
            case measure => simp [intOf]
      · obtain rfl : k = 0 := by omega
        have hiv : iv < 0 := by have := HI.out; omega
        have hiv2 : ¬ (0 ≤ iv) := by omega
        have HDO := Lib.hid (Dvr.done (ys := ys) (by rw [HBS.out]; exact HD.out) (by rw [HBS.out, HBL.out]; exact HN1.out) (HD0.out.2 rfl))
        have hQL := hoQ.len
        have hTL := hoT.len
        have HQN : Hid (tn qs L = (trimL qs).length) := Lib.hid (by rw [trimL_len, hQL])
        have HTN : Hid (tn ts ta = (trimL ts).length) := Lib.hid (by rw [trimL_len, hTL])
        have hcap := hoT.cap
        have hIT := hoT.ints
        have hIQ := hoQ.ints
        have hs1z : w.heap.size ≤ wr.heap.size := hbz.size
        clear hQL hTL HD HI HD0
        go_wp2_with (first
          | (go_at_call 52; (with_reducible refine (rtrim_any (some ⟨gq, 0, none⟩) L L qs wr hIQ (Nat.le_refl _) (by omega)).mono ?_); rintro e w9 ⟨⟨A9, c9, rfl, hown9⟩, hb9⟩
             rw [HQN.out] at hown9
             rw [HQN.out]
             have hbz9 := bnext hbz hb9
             have hIT9 := hIT.upto hb9)
          | (go_at_call 52; (with_reducible refine (rtrim_any AR ta c0 ts w9 hIT9 hcap (by omega)).mono ?_); rintro e w10 ⟨⟨A10, c10, rfl, hown10⟩, hb10⟩
             rw [HTN.out] at hown10
             rw [HTN.out]
             have hbz10 := bnext hbz9 hb10
             have hown99 := hown9.belowAll hb10))
        go_ret3
        exact ⟨⟨trimL qs, trimL ts, A9, c9, A10, c10, rfl, hown99.base hbz.size, hown10.base hbz9.size, HDO.out⟩, hbz10⟩

set_option maxRecDepth 100000 in
theorem rdivide_all (p : Int) (A B : Option Addr) (n m c d : Nat) (xs ys : List Int) (w : World) (h : Ints w w.heap.size A n xs) (h2 : Ints w w.heap.size B m ys) (hc : n ≤ c) (hd : m ≤ d) (hn : n ≤ 17592186044416) (hm : m ≤ 17592186044416) :
    Calls Tryd.prog 33 #[.agg #[.int .i64 p], .slice A n c, .slice B m d] w (DivPost p xs ys w) := by
  have hl := h.len
  have hl2 := h2.len
  by_cases h0 : errL p [xs, ys] = 0
  · have h1 := errL_two h0
    by_cases hz : tn ys m = 0
    · have hzt : (trimL ys).length = 0 := by rw [trimL_len, hl2]; exact hz
      have H0 := Lib.hid h0
      have HZ := Lib.hid hz
      have HZT := Lib.hid hzt
      obtain ⟨s, HS⟩ : ∃ s, Hid (tn xs n = s) := ⟨_, Lib.hid rfl⟩
      clear h0 h1 hl hl2 hz hzt
      go_enter Tryd.func33, Tryd.ntmps33
      go_wp2_with (first
        | (go_at_call 51; (refine (rlists_any p _ 2 2 [xs, ys] _ (by exact Mat.two _ A B n m c d xs ys 22 _ (by simp) (h.upto (bbox _)) (h2.upto (bbox _)) hn hm) (by omega)).mono ?_); rw [H0.out]; rintro e w1 ⟨rfl, hb1⟩
           have hw01 : Below w.heap.size w w1 := bnext (ballocs (bbox _) _) hb1
           have hX1 := h.upto hw01
           have hY1 := h2.upto hw01)
        | (go_at_call 52; (with_reducible refine (rtrim_any A n c xs _ hX1 hc hn).mono ?_); rintro e w2 ⟨⟨A2, c2, rfl, hown2⟩, hb2⟩
           rw [HS.out]
           have hw02 := bnext hw01 hb2
           have hY2 := hY1.upto hb2)
        | (go_at_call 52; (with_reducible refine (rtrim_any B m d ys _ hY2 hd hm).mono ?_); rintro e w3 ⟨⟨A3, c3, rfl, hown3⟩, hb3⟩
           rw [HZ.out]
           have hw03 := bnext hw02 hb3))
      refine bodyPost_ret (v := .tuple #[.slice none 0 0, .slice none 0 0, .int .i64 10]) (by simp [results, Tryd.results33, go_sem]) rfl (.inr (.inl ⟨H0.out, HZT.out, rfl, hw03⟩))
    · refine (rdivide_yes p A B n m c d xs ys w h0 h h2 hc hd (by omega) (by omega) (by omega)).mono ?_
      rintro e w' ⟨⟨Q, R, A1, c1, A2, c2, rfl, ho1, ho2, hD⟩, hb⟩
      exact .inr (.inr ⟨h0, by rw [trimL_len, hl2]; omega, A1, A2, _, _, c1, c2, Q, R, rfl, ho1, ho2, hD, hb⟩)
  · obtain ⟨er, HER⟩ : ∃ er, Hid (errL p [xs, ys] = er) := ⟨_, Lib.hid rfl⟩
    have h00 := Lib.hid h0
    rw [HER.out] at h0
    have hne : (er != 0) = true := by simpa using h0
    clear h0 hl hl2
    go_enter Tryd.func33, Tryd.ntmps33
    go_wp2_with (go_at_call 51; (refine (rlists_any p _ 2 2 [xs, ys] _ (by exact Mat.two _ A B n m c d xs ys 22 _ (by simp) (h.upto (bbox _)) (h2.upto (bbox _)) hn hm) (by omega)).mono ?_); rw [HER.out]; rintro e w1 ⟨rfl, hb1⟩
                 have hw01 : Below w.heap.size w w1 := bnext (ballocs (bbox _) _) hb1)
    refine bodyPost_ret (v := .tuple #[.slice none 0 0, .slice none 0 0, .int .i64 er]) (by simp [results, Tryd.results33, go_sem]) rfl (.inl ⟨h00.out, by rw [HER.out], hw01⟩)
end Go.Proofs.YtnjdjcgandfnfaaDoor
