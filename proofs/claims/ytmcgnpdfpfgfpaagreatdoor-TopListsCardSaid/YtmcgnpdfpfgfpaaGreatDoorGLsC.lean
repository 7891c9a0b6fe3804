/-
  Words for memory and contracts of small functions of the second form. Conditions: those of each lemma.
-/
import Derived.Test.YtmcgnpdfpfgfpaaGreatDoorCpt
import Derived.Test.YtmcgnpdfpfgfpaaGreatDoorGLsB
import Derived.Test.YtmcgnpdfpfgfpaaGreatDoorGCod
/-! Lst4 -/
namespace Go.Proofs.YtmcgnpdfpfgfpaaGreatDoor
open Go.RowKit
set_option linter.unusedVariables false

theorem Ints.uniq {w : World} {B B' n : Nat} {A : Option Addr} {xs ys : List Int} (h : Ints w B A n xs) (k : Ints w B' A n ys) : xs = ys := by
  refine List.ext_getElem (by rw [h.1, k.1]) fun j h1 h2 => ?_
  obtain ⟨b, off, e, _, hc⟩ := h.2 (by have := h.1; omega)
  obtain ⟨b2, off2, e2, _, hc2⟩ := k.2 (by have := h.1; omega)
  rw [e] at e2
  injection e2 with e2
  injection e2 with e3 e4 _
  have h3 := hc j (by have := h.1; omega)
  have h4 := hc2 j (by have := h.1; omega)
  rw [← e3, ← e4, h3] at h4
  injection h4 with h4
  injection h4 with _ h4
  rw [List.getD_eq_getElem?_getD, List.getElem?_eq_getElem h1, List.getD_eq_getElem?_getD, List.getElem?_eq_getElem h2] at h4
  exact h4

/-- What a row's value reads as. -/
def RdV (w : World) (lo b : Nat) (rows : List (List Int)) (v : Value) (r : List Int) : Prop :=
  r ∈ rows ∧ ∃ A k d, v = .slice A k d ∧ k ≤ 17592186044416 ∧ Lo lo A k ∧ Ints w w.heap.size A k r ∧ (0 < k → ∀ b' off s, A = some ⟨b', off, s⟩ → b' ≠ b)

/-- The rows of a slice of rows, told by their values. -/
theorem rows_fun {w : World} {base lo b n c : Nat} {e : TypeId} {rows : List (List Int)} (h : OwnM w base lo e (some ⟨b, 0, none⟩) n c rows) :
    ∃ (vs : List Value) (f : Value → List Int), w.ownsRow base e 1 (.slice (some ⟨b, 0, none⟩) n c) n vs ∧ (∀ v ∈ vs, RdV w lo b rows v (f v)) ∧ ∀ r ∈ rows, ∃ v ∈ vs, f v = r := by
  obtain ⟨hr, vs, hown, hrow⟩ := h
  have hvl : vs.length = n := by have := hown.1; omega
  have hat : ∀ j (hj : j < n), RdV w lo b rows (vs[j]'(by omega)) (rows.getD j []) := fun j hj => by
    obtain ⟨A, k, d, h1, h2, h3, h4, h5⟩ := hrow j hj
    rw [List.getElem?_eq_getElem (by omega)] at h1
    exact ⟨getD_mem2 (by omega), A, k, d, Option.some.inj h1, h2, h4, h3, fun h0 b' off s e1 e2 => h5 h0 b' off s e1 (by rw [e2]; rfl)⟩
  have hex : ∀ v ∈ vs, ∃ r, RdV w lo b rows v r := fun v hv => by
    obtain ⟨j, hj, rfl⟩ := List.getElem_of_mem hv
    exact ⟨_, hat j (by omega)⟩
  refine ⟨vs, fun v => Classical.epsilon (RdV w lo b rows v), hown, fun v hv => Classical.epsilon_spec (hex v hv), fun r hr2 => ?_⟩
  obtain ⟨j, hj, rfl⟩ := List.getElem_of_mem hr2
  have h1 := hat j (by omega)
  rw [List.getD_eq_getElem?_getD, List.getElem?_eq_getElem hj] at h1
  refine ⟨_, List.getElem_mem (l := vs) (n := j) (by omega), ?_⟩
  have h2 := Classical.epsilon_spec (hex _ (List.getElem_mem (l := vs) (n := j) (by omega)))
  obtain ⟨_, A, k, d, e1, _, _, i1, _⟩ := h1
  obtain ⟨_, A2, k2, d2, e2, _, _, i2, _⟩ := h2
  rw [e1] at e2
  injection e2 with e3 e4 _
  subst e3 e4
  exact i2.uniq i1

theorem RdV.keep {w W : World} {lo b : Nat} {rows : List (List Int)} {A : Option Addr} {k d : Nat} {r : List Int} (h : RdV w lo b rows (.slice A k d) r) (hs : Step b w W) : Ints W W.heap.size A k r ∧ r.length = k := by
  obtain ⟨_, A2, k2, d2, e, _, _, h3, h5⟩ := h
  injection e with e1 e2 _
  subst e1 e2
  refine ⟨h3.keepBlk (World.grownBy.size hs) fun h0 b2 off s e1 hb2 => World.grownBy.block hs b2 hb2 (fun e2 => ?_), h3.len⟩
  injection e2 with e2
  exact h5 h0 b2 off s e1 e2

/-- What run hands back. -/
def RunPost (p : Int) (k agree : Nat) (vs : List Int) (bs : List Bool) (w : World) (e : Ending) (w' : World) : Prop :=
  ∃ (A : Option Addr) (m c : Nat) (mo : Int) (rows : List (List Int)), e = .returned (.tuple #[.slice A m c, .int .i64 mo]) ∧ m ≤ 50 ∧ Mat w' w.heap.size w'.heap.size A m rows ∧ (∀ r ∈ rows, allP p r = true ∧ r.length ≤ k) ∧
    (∀ R : List Int, allP p R = true → Trimd R → R.length ≤ k → agree ≤ agrK p R (knL vs bs) → k ≤ agrK p R (knL vs bs) → ∃ r ∈ rows, ∀ t, cf R t = cf r t) ∧ Below w.heap.size w w'

set_option maxRecDepth 100000 in
set_option maxHeartbeats 4000000 in
theorem run_ok (p : Int) (k agree : Nat) (L : Option Addr) (N lc : Nat) (vs : List Int) (bs : List Bool) (w : World) (hok : okP p = true) (hN : N ≤ 10) (hNp : (N : Int) < p) (hkn : knOk p vs bs) (hvy : allP p vs = true) (hk : k ≤ 10) (hNc : N ≤ lc) (hL : Cel w w.heap.size L N vs bs) (hch : chB k N < 50)
    (R0 : List Int) (hR1 : allP p R0 = true) (hR2 : Trimd R0) (hR3 : R0.length ≤ k) (hR4 : agree ≤ agrK p R0 (knL vs bs)) (hR5 : k ≤ agrK p R0 (knL vs bs)) :
    Calls Tryz.prog 65 #[.agg #[.int .i64 p], .slice L N lc, .int .i64 k, .int .i64 agree] w (RunPost p k agree vs bs w) := by
  have hB2 := Blk.new1 w (.cells #[.int .i64 p] 44) 179 #[.int .i64 p, .slice L N lc, .int .i64 k, .int .i64 agree, .slice none 0 0, .int .i64 0]
  have hb2 : Below w.heap.size w ((w.alloc (.cells #[.int .i64 p] 44)).alloc (.cells #[.int .i64 p, .slice L N lc, .int .i64 k, .int .i64 agree, .slice none 0 0, .int .i64 0] 179)) := ballocs (bbox _) _
  have hL2 := hL.below hb2
  have hS2 : SrchW ((w.alloc (.cells #[.int .i64 p] 44)).alloc (.cells #[.int .i64 p, .slice L N lc, .int .i64 k, .int .i64 agree, .slice none 0 0, .int .i64 0] 179)) (w.heap.size + 1) p k agree L N lc none 0 0 0 [] := ⟨hB2, OwnM.nil_⟩
  have HCH := Lib.hid (choose_ok (w.heap.size + 1) p k agree L N lc vs bs w.heap.size hok hN hNp hkn hvy hk hNc (by omega) k 0 none 0 0 0 [] none 0 0 [] [] 0 _ (by omega) hS2 hL2 OwnS.nil_ rfl rfl (fun j k h1 h2 => by simp at h2) (fun i hi => by simp at hi) (Nat.zero_le _) (by have := hch; simp; omega))
  clear hB2 hS2
  go_enter Tryz.func65, Tryz.ntmps65
  go_upto_region 3 with (go_at_call 96; refine (HCH.out).mono ?_; rintro e w3 ⟨rfl, F, fn, fc, mo, new, hS3, hnew, hlen, hk3, hab⟩)
  rw [List.nil_append] at hS3
  have hbk : Below w.heap.size w w3 := hb2.trans (hk3.below (by simp [World.size_alloc]; omega) (by omega) (fun b hb => by cases hb))
  have HNEW := Lib.hid hnew
  have hmem : R0 ∈ new := hnew.2 R0 hR1 hR2 hR3 (fun i hi => by simp at hi) hR4 (by simp [agrF_zero]; exact hR5)
  have hnl : new.length = fn := hS3.own.len
  have hn50 : fn < 50 := by simp at hlen; omega
  have hn0 : 0 < fn := by rw [← hnl]; exact List.length_pos_of_mem hmem
  have hnl2 : ∀ r ∈ new, r.length ≤ 10 := fun r hr => by have := (hnew.1 r hr).2; omega
  have hown3 := hS3.own
  obtain ⟨b, rfl, hbg, hbl⟩ : ∃ b, F = some ⟨b, 0, none⟩ ∧ w.heap.size + 1 + 1 ≤ b ∧ b < w3.heap.size := by
    obtain ⟨_, vs, hown, _⟩ := hown3
    obtain ⟨g, cap, hv, h1, h2⟩ := World.ownsRow.form hown hn0
    injection hv with hA
    exact ⟨g, hA, h1, h2⟩
  obtain ⟨us0, f, hown, hrd, hcov⟩ := rows_fun hown3
  have hfc : fn ≤ fc := by
    rcases hown.2 with ⟨hv, _⟩ | ⟨g, cap, cur, hv, _, _, hc, _⟩
    · cases hv
    · injection hv with _ _ h3; omega
  have HRD := Lib.hid hrd
  have HCOV := Lib.hid hcov
  have hsl : ∀ v ∈ us0, ∃ A k d, v = .slice A k d := fun v hv => by
    obtain ⟨_, A, k, d, h1, _⟩ := HRD.out v hv
    exact ⟨A, k, d, h1⟩
  have HLEN : Hid (∀ v ∈ us0, (f v).length ≤ 10) := Lib.hid fun v hv => hnl2 _ (HRD.out v hv).1
  have HC : Hid (CmpV w3 b (w.heap.size + 1) us0 (fun x y => cmpR (f x) (f y))) := Lib.hid fun W hW x hx y hy => by
    obtain ⟨A1, k1, d1, rfl⟩ := hsl x hx
    obtain ⟨A2, k2, d2, rfl⟩ := hsl y hy
    obtain ⟨i1, l1⟩ := (HRD.out _ hx).keep hW
    obtain ⟨i2, l2⟩ := (HRD.out _ hy).keep hW
    exact cmpOrder_any _ A1 A2 k1 k2 d1 d2 _ _ W i1 i2 (by have := HLEN.out _ hx; omega) (by have := HLEN.out _ hy; omega)
  have HE : Hid (EqV w3 b us0 (fun x y => ∀ t, cf (f x) t = cf (f y) t) (fun x y => cmpR (f x) (f y) == 0)) := Lib.hid ⟨fun W hW x hx y hy => by
    obtain ⟨A1, k1, d1, rfl⟩ := hsl x hx
    obtain ⟨A2, k2, d2, rfl⟩ := hsl y hy
    obtain ⟨i1, l1⟩ := (HRD.out _ hx).keep hW
    obtain ⟨i2, l2⟩ := (HRD.out _ hy).keep hW
    exact eqf_any A1 A2 k1 k2 d1 d2 _ _ W i1 i2 (by have := HLEN.out _ hx; omega) (by have := HLEN.out _ hy; omega), fun x hx y hy h t => cmpR_zero (by simpa using h) t⟩
  have HS3 := Lib.hid hS3
  have hc4 : w3.cell? ⟨w.heap.size + 1, 4, none⟩ = some (.slice (some ⟨b, 0, none⟩) fn fc) := (hS3.blk.cell 4).trans rfl
  clear hnew hnl2 hrd hcov hk3 hab hlen hown3
  go_upto_region 4 with (go_at_call 97; refine (sortF_any _ b fn fc (w.heap.size + 1) us0 _ _ HC hn50 hown hsl).mono ?_; rintro e w4 ⟨rfl, us1, hS4⟩)
  have hB4 : Blk w4 (w.heap.size + 1) 179 #[.int .i64 p, .slice L N lc, .int .i64 k, .int .i64 agree, .slice (some ⟨b, 0, none⟩) fn fc, .int .i64 mo] := Step.block hS4.step HS3.out.blk (by omega)
  have hs1 : w4.drew.cell? ⟨w.heap.size + 1, 4, none⟩ = some (.slice (some ⟨b, 0, none⟩) fn fc) ∧ w4.drew.cell? ⟨w.heap.size + 1, 5, none⟩ = some (.int .i64 mo) := ⟨(hB4.cell 4).trans rfl, (hB4.cell 5).trans rfl⟩
  have hstep4 : Step b w3 w4.drew := hS4.step.drew
  have hown4 : w4.drew.ownsRow (w.heap.size + 1 + 1) 22 1 (.slice (some ⟨b, 0, none⟩) fn fc) fn us1 := hS4.own
  have hperm := hS4.perm
  have HE4 : Hid (EqV w3 b us1 (fun x y => ∀ t, cf (f x) t = cf (f y) t) (fun x y => cmpR (f x) (f y) == 0)) := Lib.hid ⟨fun W hW x hx y hy => HE.out.1 W hW x (hperm.mem_iff.1 hx) y (hperm.mem_iff.1 hy), fun x hx y hy h => HE.out.2 x (hperm.mem_iff.1 hx) y (hperm.mem_iff.1 hy) h⟩
  have hsl4 : ∀ v ∈ us1, ∃ A k d, v = .slice A k d := fun v hv => hsl v (hperm.mem_iff.1 hv)
  have HPM := Lib.hid hperm
  clear hperm HE hS4 hsl
  go_region_held3 (fun w' => w'.cell? ⟨w.heap.size + 1, 4, none⟩ = some (.slice (some ⟨b, 0, none⟩) fn fc) ∧ w'.cell? ⟨w.heap.size + 1, 5, none⟩ = some (.int .i64 mo)) (first | exact hs1 | exact hs2)
    (first
      | (go_at_call 99; (refine (compact_any _ b fn fc us1 _ _ _ w3 HE4 (fun v t => rfl) (fun x y z h1 h2 t => (h1 t).trans (h2 t)) hstep4 (by omega) hfc hown4 hsl4).mono ?_); rintro e w5 ⟨m, us2, rfl, hm, hown5, hst5, hin5, hcov5⟩
         have hB5 : Blk w5 (w.heap.size + 1) 179 #[.int .i64 p, .slice L N lc, .int .i64 k, .int .i64 agree, .slice (some ⟨b, 0, none⟩) fn fc, .int .i64 mo] := Step.block hst5 HS3.out.blk (by omega)
         have hs2 : w5.cell? ⟨w.heap.size + 1, 4, none⟩ = some (.slice (some ⟨b, 0, none⟩) fn fc) ∧ w5.cell? ⟨w.heap.size + 1, 5, none⟩ = some (.int .i64 mo) := ⟨(hB5.cell 4).trans rfl, (hB5.cell 5).trans rfl⟩
         have HIN := Lib.hid hin5
         have HCV := Lib.hid hcov5
         clear hin5 hcov5))
  all_goals go_wp2
  all_goals go_ret2
  all_goals
    refine ⟨some ⟨b, 0, none⟩, m, fc, mo, (List.range m).map fun j => f (us2.getD j .nilIface), rfl, by omega, ⟨by simp, fun _ => ⟨b, 0, rfl, by omega, by have := (World.ownsRow.lt hown5 b rfl).2; exact this, fun j hj => ?_⟩⟩, fun r hr => ?_, fun R h1 h2 h3 h4 h5 => ?_, Step.below hbk hst5 (by have := hbk.size; omega) (by omega)⟩
    · obtain ⟨v, hv, hvm⟩ := HIN.out j hj
      obtain ⟨h0, A, k, d, rfl, hk1, hlo, _⟩ := HRD.out v (HPM.out.mem_iff.1 hvm)
      refine ⟨A, k, d, by rw [Nat.zero_add]; exact (World.ownsRow.cellAt hown5 j (by omega)).trans hv, hk1, ?_, fun h0 b off s e => by have := hlo h0 b off s e; omega⟩
      have e1 : us2.getD j .nilIface = .slice A k d := by rw [List.getD_eq_getElem?_getD, hv]; rfl
      rw [List.getD_eq_getElem?_getD, List.getElem?_map, List.getElem?_range hj, Option.map_some, Option.getD_some, e1]
      exact ((HRD.out _ (HPM.out.mem_iff.1 hvm)).keep hst5).1
    · obtain ⟨j, hj, rfl⟩ := List.mem_map.1 hr
      obtain ⟨v, hv, hvm⟩ := HIN.out j (List.mem_range.1 hj)
      have e1 : us2.getD j .nilIface = v := by rw [List.getD_eq_getElem?_getD, hv]; rfl
      show allP p (f (us2.getD j .nilIface)) = true ∧ (f (us2.getD j .nilIface)).length ≤ _
      rw [e1]
      exact HNEW.out.1 _ (HRD.out v (HPM.out.mem_iff.1 hvm)).1
    · have hR := HNEW.out.2 R h1 h2 h3 (fun i hi => by simp at hi) h4 (by simp [agrF_zero]; exact h5)
      obtain ⟨v, hv, rfl⟩ := HCOV.out R hR
      obtain ⟨j, hj, u, hu, hE⟩ := HCV.out v (HPM.out.mem_iff.2 hv)
      refine ⟨_, List.mem_map.2 ⟨j, List.mem_range.2 hj, rfl⟩, fun t => ?_⟩
      have e1 : us2.getD j .nilIface = u := by rw [List.getD_eq_getElem?_getD, hu]; rfl
      show cf (f v) t = cf (f (us2.getD j .nilIface)) t
      rw [e1]
      exact hE t
end Go.Proofs.YtmcgnpdfpfgfpaaGreatDoor

/-! Lst5 -/
namespace Go.Proofs.YtmcgnpdfpfgfpaaGreatDoor
open Go.RowKit
set_option linter.unusedVariables false

/-- What Decode hands back. -/
def LDecPost (p : Int) (k agree : Nat) (vs : List Int) (bs : List Bool) (w : World) (e : Ending) (w' : World) : Prop :=
  ∃ (A : Option Addr) (m c : Nat) (rows : List (List Int)), e = .returned (.tuple #[.slice A m c, .int .i64 0]) ∧ m ≤ 50 ∧ Mat w' w.heap.size w'.heap.size A m rows ∧ (∀ r ∈ rows, allP p r = true ∧ r.length ≤ k) ∧
    (∀ R : List Int, allP p R = true → Trimd R → R.length ≤ k → agree ≤ agrK p R (knL vs bs) → k ≤ agrK p R (knL vs bs) → ∃ r ∈ rows, ∀ t, cf R t = cf r t) ∧ Below w.heap.size w w'

set_option maxRecDepth 100000 in
set_option maxHeartbeats 4000000 in
theorem lDecode_ok (p : Int) (k agree : Nat) (L : Option Addr) (N lc : Nat) (vs : List Int) (bs : List Bool) (w : World) (hok : okP p = true) (hN : N ≤ 10) (hNp : (N : Int) < p) (hkn : knOk p vs bs) (hvy : allP p vs = true) (hk1 : 1 ≤ k) (hNc : N ≤ lc) (hL : Cel w w.heap.size L N vs bs) (hch : chB k N < 50) (hka : k ≤ agree) (haN : agree ≤ N) (hkl : k ≤ (knL vs bs).length)
    (R0 : List Int) (hR1 : allP p R0 = true) (hR2 : Trimd R0) (hR3 : R0.length ≤ k) (hR4 : agree ≤ agrK p R0 (knL vs bs)) (hR5 : k ≤ agrK p R0 (knL vs bs)) :
    Calls Tryz.prog 29 #[.agg #[.int .i64 p], .slice L N lc, .int .i64 k, .int .i64 agree] w (LDecPost p k agree vs bs w) := by
  have hb1 : Below w.heap.size w (w.alloc (.cells #[.int .i64 p] 44)) := bbox _
  have hF1 := Blk.new w 44 #[.int .i64 p]
  have hL1 := hL.upto hb1
  have HFI := Lib.hid (fill_ok p L N lc k vs bs _ hok hL1 (by omega) hNp hkn hk1 (by omega) hkl)
  have HRN := Lib.hid (fun w3 (h3 : Below w.heap.size w w3) => run_ok p k agree L N lc vs bs w3 hok hN hNp hkn hvy (by omega) hNc (hL.upto h3) hch R0 hR1 hR2 hR3 hR4 hR5)
  have c1 : ¬ (10 : Int) < (N : Int) := by omega
  have c2 : ¬ (agree : Int) < (k : Int) := by omega
  have c3 : ¬ (N : Int) < (agree : Int) := by omega
  clear hok hkn hvy hR1 hR2 hR3 hR4 hR5 hkl hch hL hL1
  go_enter Tryz.func29, Tryz.ntmps29
  go_wp2_with (first
    | (go_at_call 64; refine (HFI.out).mono ?_; rintro e w2 ⟨⟨R, A', c', rfl, _, _⟩, hb2⟩
       have hbw2 := bnext hb1 hb2
       have hF2 := hF1.below hb2 hF1.lt
       have hp2 : w2.cell? ⟨w.heap.size, 0, none⟩ = some (.int .i64 p) := (hF2.cell 0).trans rfl)
    | (go_at_call 65; refine (HRN.out _ hbw2).mono ?_; rintro e w5 ⟨A, m, c, mo, rows, rfl, hm50, hM, hin, hcov, hb5⟩))
  all_goals go_ret2
  all_goals exact ⟨A, m, c, rows, rfl, hm50, hM.low hbw2.size, hin, hcov, bnext hbw2 hb5⟩
end Go.Proofs.YtmcgnpdfpfgfpaaGreatDoor
