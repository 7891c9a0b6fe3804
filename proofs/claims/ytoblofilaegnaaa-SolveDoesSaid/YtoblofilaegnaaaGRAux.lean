/-
  Words for memory and contracts of small functions of the second form. Conditions: those of each lemma.
-/
import Derived.Test.YtoblofilaegnaaaLinC
import Derived.Test.YtoblofilaegnaaaGSolv
import Derived.Test.YtoblofilaegnaaaRSol
import Derived.Test.YtoblofilaegnaaaRef
import Derived.Deep.QuietTactic
import Derived.BigQuiet
import Derived.Test.YtoblofilaegnaaaSolvE
import Derived.Test.YtoblofilaegnaaaGQAll
/-! RFreeA -/
namespace Go.Proofs.Ytoblofilaegnaaa
set_option linter.unusedVariables false

/-- The number of leading columns before column k. -/
def cntL (lead : List Nat) (k : Nat) : Nat := ((List.range k).filter fun j => decide (j ∈ lead)).length
/-- The free columns before column k. -/
def freeU (lead : List Nat) (k : Nat) : List Nat := (List.range k).filter fun j => decide (j ∉ lead)
theorem cntL_zero (lead : List Nat) : cntL lead 0 = 0 := rfl
theorem freeU_zero (lead : List Nat) : freeU lead 0 = [] := rfl
theorem cntL_yes {lead : List Nat} {k : Nat} (h : k ∈ lead) : cntL lead (k + 1) = cntL lead k + 1 := by
  unfold cntL
  rw [List.range_succ, List.filter_append]; simp [h]
theorem cntL_no {lead : List Nat} {k : Nat} (h : k ∉ lead) : cntL lead (k + 1) = cntL lead k := by
  unfold cntL
  rw [List.range_succ, List.filter_append]; simp [h]
theorem freeU_yes {lead : List Nat} {k : Nat} (h : k ∈ lead) : freeU lead (k + 1) = freeU lead k := by
  unfold freeU
  rw [List.range_succ, List.filter_append]; simp [h]
theorem freeU_no {lead : List Nat} {k : Nat} (h : k ∉ lead) : freeU lead (k + 1) = freeU lead k ++ [k] := by
  unfold freeU
  rw [List.range_succ, List.filter_append]; simp [h]
theorem freeU_len (lead : List Nat) (k : Nat) : (freeU lead k).length ≤ k := by
  unfold freeU
  exact Nat.le_trans (List.length_filter_le _ _) (by simp)
theorem range_split {c k : Nat} (h : k < c) : ∃ rest, List.range c = List.range k ++ k :: rest := by
  obtain ⟨d, rfl⟩ : ∃ d, c = k + (d + 1) := ⟨c - k - 1, by omega⟩
  exact ⟨_, by rw [List.range_add, List.range_succ_eq_map, List.map_cons, Nat.add_zero]⟩
theorem cntL_at {c k : Nat} {lead : List Nat} (hf : lead = (List.range c).filter fun j => decide (j ∈ lead)) (hk : k < c) (hm : k ∈ lead) : cntL lead k < lead.length ∧ lead.getD (cntL lead k) 0 = k := by
  obtain ⟨rest, e⟩ := range_split hk
  have h2 : lead = ((List.range k).filter fun j => decide (j ∈ lead)) ++ k :: (rest.filter fun j => decide (j ∈ lead)) := hf.trans (by rw [e, List.filter_append, List.filter_cons_of_pos (by simpa using hm)])
  have h3 := congrArg List.length h2
  have h4 := congrArg (fun l : List Nat => l.getD (cntL lead k) 0) h2
  rw [List.length_append, List.length_cons] at h3
  refine ⟨by unfold cntL; omega, h4.trans ?_⟩
  show (((List.range k).filter fun j => decide (j ∈ lead)) ++ k :: (rest.filter fun j => decide (j ∈ lead))).getD ((List.range k).filter fun j => decide (j ∈ lead)).length 0 = k
  rw [List.getD_eq_getElem?_getD, List.getElem?_append_right (Nat.le_refl _), Nat.sub_self]; rfl
theorem cntL_ne {k n : Nat} {lead : List Nat} (hm : k ∉ lead) (hn : n < lead.length) : lead.getD n 0 ≠ k := fun e => hm (by rw [← e]; exact lead_mem hn)
end Go.Proofs.Ytoblofilaegnaaa

/-! RKerA -/
namespace Go.Proofs.Ytoblofilaegnaaa
open Go.RowKit
set_option linter.unusedVariables false

/-- A list of the kernel as it grows, leading column by leading column. -/
def kerQ (p : Int) (c : Nat) (lead : List Nat) (m : List (List Int)) (f n : Nat) : List Int := (List.range c).map fun k => if k = f then 1 else if k ∈ lead ∧ lead.idxOf k < n then subP p 0 (mx m (lead.idxOf k) f) else 0
theorem cf_kerQ (p : Int) (c : Nat) (lead : List Nat) (m : List (List Int)) (f n k : Nat) : cf (kerQ p c lead m f n) k = if k < c then (if k = f then 1 else if k ∈ lead ∧ lead.idxOf k < n then subP p 0 (mx m (lead.idxOf k) f) else 0) else 0 := by unfold kerQ; rw [cf_map_range]
theorem kerQ_len (p : Int) (c : Nat) (lead : List Nat) (m : List (List Int)) (f n : Nat) : (kerQ p c lead m f n).length = c := by simp [kerQ]
theorem kerQ_zero (p : Int) {c : Nat} (lead : List Nat) (m : List (List Int)) {f : Nat} (hf : f < c) : (List.replicate c 0).set f 1 = kerQ p c lead m f 0 := by
  refine cf_ext (by rw [List.length_set, List.length_replicate, kerQ_len]) fun k => ?_
  rw [cf_setD _ _ _ _ (by rw [List.length_replicate]; exact hf), cf_kerQ, cf_zeros]
  by_cases e : f = k
  · subst e; rw [if_pos rfl, if_pos hf, if_pos rfl]
  · rw [if_neg e]
    by_cases hk : k < c
    · rw [if_pos hk, if_neg (fun a => e a.symm), if_neg (by omega)]
    · rw [if_neg hk]
theorem kerQ_set {p : Int} {c : Nat} {lead : List Nat} {m : List (List Int)} (h : RInv p c lead m) {f n : Nat} (hn : n < lead.length) (hfl : f ∉ lead) : (kerQ p c lead m f n).set (lead.getD n 0) (subP p 0 (mx m n f)) = kerQ p c lead m f (n + 1) := by
  have hl := h.lt n hn
  refine cf_ext (by rw [List.length_set, kerQ_len, kerQ_len]) fun k => ?_
  rw [cf_setD _ _ _ _ (by rw [kerQ_len]; exact hl), cf_kerQ, cf_kerQ]
  by_cases e : lead.getD n 0 = k
  · have hx := idxOf_lead h hn
    have hm := lead_mem hn
    rw [e] at hx hm hl
    rw [if_pos e, if_pos hl, if_neg (fun a => hfl (by rw [← a]; exact hm)), if_pos ⟨hm, by omega⟩, hx]
  · rw [if_neg e]
    by_cases hk : k < c
    · rw [if_pos hk, if_pos hk]
      by_cases e0 : k = f
      · rw [if_pos e0, if_pos e0]
      · rw [if_neg e0, if_neg e0]
        by_cases e2 : k ∈ lead ∧ lead.idxOf k < n
        · rw [if_pos e2, if_pos ⟨e2.1, by omega⟩]
        · rw [if_neg e2, if_neg (fun a => e2 ⟨a.1, by
            have h1 := getD_idxOf_ a.1
            have : lead.idxOf k ≠ n := fun e3 => e (by rw [← e3]; exact h1)
            omega⟩)]
    · rw [if_neg hk, if_neg hk]
theorem kerQ_all (p : Int) (c : Nat) (lead : List Nat) (m : List (List Int)) (f : Nat) : kerQ p c lead m f lead.length = kerX p c lead m f := by
  refine cf_ext (by simp [kerQ, kerX]) fun k => ?_
  rw [cf_kerQ, cf_kerX]
  by_cases hk : k < c
  · rw [if_pos hk, if_pos hk]
    unfold kerZ
    by_cases e : k = f
    · rw [if_pos e, if_pos e]
    · rw [if_neg e, if_neg e]
      by_cases h1 : k ∈ lead
      · rw [if_pos (show k ∈ lead ∧ lead.idxOf k < lead.length from ⟨h1, List.idxOf_lt_length_of_mem h1⟩), if_neg (show ¬ c ≤ k by omega), if_pos h1]
      · rw [if_neg (show ¬ (k ∈ lead ∧ lead.idxOf k < lead.length) from fun a => h1 a.1), if_neg (show ¬ c ≤ k by omega), if_neg h1]
  · rw [if_neg hk, if_neg hk]
theorem subP_sub (p y : Int) : (p - y) % p = subP p 0 y := by
  unfold subP
  rw [show 0 - y + p = p - y by omega]
theorem freeU_at {lead : List Nat} {c i : Nat} (h : i < (freeU lead c).length) : (freeU lead c).getD i 0 < c ∧ (freeU lead c).getD i 0 ∉ lead := by
  have h1 : (freeU lead c).getD i 0 ∈ freeU lead c := by rw [List.getD_eq_getElem?_getD, List.getElem?_eq_getElem h]; exact List.getElem_mem h
  unfold freeU at h1 ⊢
  have h2 := List.mem_filter.1 h1
  exact ⟨List.mem_range.1 h2.1, by simpa using h2.2⟩
theorem take_map_snoc {α : Type} (l : List Nat) (g : Nat → α) {i : Nat} (h : i < l.length) : (l.take (i + 1)).map g = (l.take i).map g ++ [g (l.getD i 0)] := by
  rw [List.take_succ_eq_append_getElem h, List.map_append, List.getD_eq_getElem?_getD, List.getElem?_eq_getElem h]; rfl
end Go.Proofs.Ytoblofilaegnaaa

/-! RFree -/
namespace Go.Proofs.Ytoblofilaegnaaa
open Go.RowKit
set_option linter.unusedVariables false

/-- What free leaves. -/
def FreePost (c : Nat) (lead : List Nat) (w : World) (e : Ending) (w' : World) : Prop := ∃ (A : Option Addr) (n ca : Nat), e = .returned (.slice A n ca) ∧ n = (freeU lead c).length ∧ n ≤ c ∧ OwnI w' w.heap.size 3 A n ca ((freeU lead c).map Int.ofNat) ∧ Below w.heap.size w w'

set_option maxHeartbeats 800000 in
set_option maxRecDepth 100000 in
/-- The free columns. -/
theorem rfree_ok {p : Int} {r c nc cc cd : Nat} {C D : Option Addr} {w : World} (L : Option Addr) (nl lc : Nat) (lead : List Nat) (hc : c ≤ 32) (hnl : lead.length = nl) (hln : nl ≤ 32) (hf : lead = (List.range c).filter fun j => decide (j ∈ lead)) (hL : Ints w w.heap.size L nl (lead.map Int.ofNat)) :
    Calls Try.prog 160 #[eqV p r c C nc cc D r cd, .slice L nl lc] w (FreePost c lead w) := by
  obtain ⟨i0, hi0, hz0, hz1, hz2⟩ := info_parts info_int
  have hb0 : Below w.heap.size w (w.alloc (.cells (eqC p r c C nc cc D r cd) 106)) := bbox _
  have HB0 := Lib.hid (Blk.new w 106 (eqC p r c C nc cc D r cd))
  have HL := Lib.hid (hL.below hb0)
  have HF := Lib.hid hf
  have HNL := Lib.hid hnl
  obtain ⟨W, hW⟩ : ∃ W, w.alloc (.cells (eqC p r c C nc cc D r cd) 106) = W := ⟨_, rfl⟩
  have hWs : W.heap.size = w.heap.size + 1 := by rw [← hW]; simp
  clear hL hf hnl
  go_enter Try.func160, Try.ntmps160
  rw [hW] at HB0 HL hb0
  go_wp2
  clear hW
  obtain ⟨g, hg⟩ : ∃ g, w.heap.size = g := ⟨_, rfl⟩
  rw [hg] at HB0 HL hb0 hWs ⊢
  go_loopw [5, 6, 7] (fun o n k wr => ∃ (q : Nat) (A : Option Addr) (m ca : Nat), q ≤ c ∧ k = .int .i64 q ∧ n = .int .i64 (cntL lead q) ∧ o = .slice A m ca ∧ OwnI wr (g + 1) 3 A m ca ((freeU lead q).map Int.ofNat) ∧ Hid (m = (freeU lead q).length) ∧ Below (g + 1) W wr) (fun _ _ k _ => c - (intOf k).toNat)
  case atStart => exact ⟨0, none, 0, 0, Nat.zero_le _, rfl, rfl, rfl, OwnI.nil_, Lib.hid rfl, Below.refl _ _⟩
  case round =>
    obtain ⟨q, A, m, ca, hq, rfl, rfl, rfl, hO, HM, hb⟩ := hrel
    by_cases hlt : q < c
    · have hg2 : wr.cell? ⟨g, 2, none⟩ = some (.int .i64 c) := (hb.cell (p := ⟨g, 2, none⟩) (Nat.lt_succ_self g)).trans ((HB0.out.cell 2).trans rfl)
      have h1 : (q : Int) < (c : Int) := by omega
      have h0 : (0 : Int) ≤ (q : Int) := by omega
      have hqw : IntKind.i64.wrap ((q : Int) + 1) = (q : Int) + 1 := IntWalk.i64_in _ (by omega)
      have hfl := freeU_len lead q
      have hc32 : c ≤ 32 := hc
      by_cases hql : q ∈ lead
      · obtain ⟨hcl, hce⟩ := cntL_at HF.out hlt hql
        have HC1 := Lib.hid (cntL_yes hql)
        have HF1 := Lib.hid (freeU_yes hql)
        obtain ⟨z, hz⟩ : ∃ z, cntL lead q = z := ⟨_, rfl⟩
        rw [hz] at hcl hce HC1 ⊢
        rw [HNL.out] at hcl
        obtain ⟨bL, oL, hLe, hbL, hcL⟩ := HL.out.2 (by omega)
        subst hLe
        have hcz := (hb.cell (p := ⟨bL, oL + z, none⟩) (by show bL < g + 1; omega)).trans (hcL z hcl)
        rw [show (lead.map Int.ofNat).getD z 0 = ((lead.getD z 0 : Nat) : Int) by
          rw [List.getD_eq_getElem?_getD, List.getElem?_map, List.getD_eq_getElem?_getD, List.getElem?_eq_getElem (by rw [HNL.out]; exact hcl)]; rfl, hce] at hcz
        have hz0 : (0 : Int) ≤ (z : Int) := by omega
        have hz1 : (z : Int) < (nl : Int) := by omega
        have hzw : IntKind.i64.wrap ((z : Int) + 1) = (z : Int) + 1 := IntWalk.i64_in _ (by omega)
        clear hz hce hql hcL
        go_wp2
        go_roundw
        case rel => exact ⟨q + 1, A, m, ca, by omega, by go_num, by rw [HC1.out]; go_num, rfl, by rw [HF1.out]; exact hO, by rw [HF1.out]; exact HM, hb⟩
        case measure => simp [intOf]; omega
      · have HC1 := Lib.hid (cntL_no hql)
        have HF1 := Lib.hid (freeU_no hql)
        have HNE : Hid (∀ z, z < nl → lead.getD z 0 ≠ q) := Lib.hid fun z hz => cntL_ne hql (by rw [HNL.out]; exact hz)
        obtain ⟨z, hz⟩ : ∃ z, cntL lead q = z := ⟨_, rfl⟩
        rw [hz] at HC1 ⊢
        have hm32 : m ≤ 32 := by rw [HM.out]; omega
        have hgr : g + 1 ≤ wr.heap.size := by have := hb.size; omega
        clear hql hz
        have hone : Hid (∀ z : Nat, z < nl → ∃ bL oL y, L = some ⟨bL, oL, none⟩ ∧ wr.cell? ⟨bL, oL + z, none⟩ = some (.int .i64 y) ∧ ¬ y = (q : Int)) := Lib.hid fun z hz => by
          obtain ⟨bL, oL, hLe, hbL, hcL⟩ := HL.out.2 (by omega)
          refine ⟨bL, oL, _, hLe, (hb.cell (p := ⟨bL, oL + z, none⟩) (by show bL < g + 1; omega)).trans (hcL z hz), ?_⟩
          rw [show (lead.map Int.ofNat).getD z 0 = ((lead.getD z 0 : Nat) : Int) by
            rw [List.getD_eq_getElem?_getD, List.getElem?_map, List.getD_eq_getElem?_getD, List.getElem?_eq_getElem (by rw [HNL.out]; exact hz)]; rfl]
          have := HNE.out z hz
          omega
        by_cases hzn : z < nl
        · obtain ⟨bL, oL, y, hLe, hcz, hyq⟩ := hone.out z hzn
          subst hLe
          have hz0' : (0 : Int) ≤ (z : Int) := by omega
          have hz1' : (z : Int) < (nl : Int) := by omega
          go_wp2_with (at_builtin
                       refine wpList_append_ints rfl _ _ _ rfl (g + 1) 3 i0 _ Try.underlying22 hi0 hz0 hz1 hz2 rfl A m ca _ rfl (hO.alloc _) _ _ 1 1 [(q : Int)] rfl (Ints.one _ _ _) (m + 1) rfl _ rfl (by omega) (Nat.le_trans hgr (bbox _).size) ?_
                       intro A9 c9 w9 hown9 hgr9 hbw9 hab9
                       have HO9 := Lib.hid hown9
                       have hb9 := (hb.alloc hgr _).trans hbw9
                       clear hown9 hgr9 hbw9 hab9)
          go_roundw
          case rel => exact ⟨q + 1, A9, m + 1, c9, by omega, by go_num, by rw [HC1.out], rfl, by rw [HF1.out, List.map_append]; exact HO9.out, Lib.hid (by rw [HF1.out, List.length_append, ← HM.out]; rfl), hb9⟩
          case measure => simp [intOf]; omega
        · have hz1' : ¬ (z : Int) < (nl : Int) := by omega
          go_wp2_with (at_builtin
                       refine wpList_append_ints rfl _ _ _ rfl (g + 1) 3 i0 _ Try.underlying22 hi0 hz0 hz1 hz2 rfl A m ca _ rfl (hO.alloc _) _ _ 1 1 [(q : Int)] rfl (Ints.one _ _ _) (m + 1) rfl _ rfl (by omega) (Nat.le_trans hgr (bbox _).size) ?_
                       intro A9 c9 w9 hown9 hgr9 hbw9 hab9
                       have HO9 := Lib.hid hown9
                       have hb9 := (hb.alloc hgr _).trans hbw9
                       clear hown9 hgr9 hbw9 hab9)
          go_roundw
          case rel => exact ⟨q + 1, A9, m + 1, c9, by omega, by go_num, by rw [HC1.out], rfl, by rw [HF1.out, List.map_append]; exact HO9.out, Lib.hid (by rw [HF1.out, List.length_append, ← HM.out]; rfl), hb9⟩
          case measure => simp [intOf]; omega
    · obtain rfl : q = c := by omega
      have hg2 : wr.cell? ⟨g, 2, none⟩ = some (.int .i64 q) := (hb.cell (p := ⟨g, 2, none⟩) (Nat.lt_succ_self g)).trans ((HB0.out.cell 2).trans rfl)
      have hfl := freeU_len lead q
      go_wp2
      go_ret
      exact ⟨A, m, ca, rfl, HM.out, by rw [HM.out]; exact hfl, by rw [hg]; exact hO.base (Nat.le_succ g), by rw [hg]; exact hb0.trans (hb.mono (Nat.le_succ g))⟩
end Go.Proofs.Ytoblofilaegnaaa

/-! RKern -/
namespace Go.Proofs.Ytoblofilaegnaaa
open Go.RowKit
set_option linter.unusedVariables false

set_option maxHeartbeats 3200000 in
set_option maxRecDepth 100000 in
/-- A kernel of valid equations. -/
theorem rkern_ok {p : Int} {r c nc cc cd : Nat} {C D : Option Addr} {cells right : List Int} {w : World} (h : EqW w p r c nc C cc D cd cells right) :
    Calls Try.prog 100 #[eqV p r c C nc cc D r cd] w (KernPost p c (augM r c cells right) w) := by
  obtain ⟨i0, hi0, hz0, hz1, hz2⟩ := info_parts info_int
  obtain ⟨i1, hi1, hy0, hy1, hy2⟩ := info_parts info_rowR
  have hb0 : Below w.heap.size w (w.alloc (.cells (eqC p r c C nc cc D r cd) 106)) := bbox _
  have HE := Lib.hid (h.upto hb0)
  have HB0 := Lib.hid (Blk.new w 106 (eqC p r c C nc cc D r cd))
  have HL := h.ln
  have hc32 := h.ok.c32
  have hr32 := h.ok.r32
  have hp := okP_pos h.ok.ok
  clear h
  go_enter Try.func100, Try.ntmps100
  go_wp2_with (first
    | (go_at_call 104; refine (rcheck06_ok p r c nc C cc D cd cells right _ HE.out.ok (Lib.hid HL) HE.out.hC HE.out.hD).mono ?_; rintro e w1 ⟨rfl, hb1⟩
       have HB1 := Lib.hid (HB0.out.below hb1 HB0.out.lt)
       have HE1 := Lib.hid (HE.out.upto hb1)
       have hbb1 := hb0.trans (hb1.mono (by simp))
       have hs1 := HB1.out.lt
       have ha0 : w1.cell? ⟨w.heap.size, 0, none⟩ = some (.int .i64 p) := (HB1.out.cell 0).trans rfl
       have ha1 : w1.cell? ⟨w.heap.size, 1, none⟩ = some (.int .i64 r) := (HB1.out.cell 1).trans rfl
       have ha2 : w1.cell? ⟨w.heap.size, 2, none⟩ = some (.int .i64 c) := (HB1.out.cell 2).trans rfl
       have ha3 : w1.cell? ⟨w.heap.size, 3, none⟩ = some (.slice C nc cc) := (HB1.out.cell 3).trans rfl
       have ha4 : w1.cell? ⟨w.heap.size, 4, none⟩ = some (.slice D r cd) := (HB1.out.cell 4).trans rfl
       clear hb1)
    | (go_at_call 158; refine (rreduce_ok HE1.out).mono ?_; rintro e w2 ⟨R, cap, bs, m, L, lc, lead, rfl, hR, hLd, hred, hb2⟩
       have hbb2 := bnext hbb1 hb2
       have HR2 := Lib.hid hR
       have HRed := Lib.hid hred
       have HB2 := Lib.hid (HB1.out.below hb2 HB1.out.lt)
       have HLd := Lib.hid hLd
       have hl1 := hred.inv.rank_le
       have hd0 : w2.cell? ⟨w.heap.size, 0, none⟩ = some (.int .i64 p) := (HB2.out.cell 0).trans rfl
       have hd1 : w2.cell? ⟨w.heap.size, 1, none⟩ = some (.int .i64 r) := (HB2.out.cell 1).trans rfl
       have hd2 : w2.cell? ⟨w.heap.size, 2, none⟩ = some (.int .i64 c) := (HB2.out.cell 2).trans rfl
       have hd3 : w2.cell? ⟨w.heap.size, 3, none⟩ = some (.slice C nc cc) := (HB2.out.cell 3).trans rfl
       have hd4 : w2.cell? ⟨w.heap.size, 4, none⟩ = some (.slice D r cd) := (HB2.out.cell 4).trans rfl
       obtain ⟨rk, hrk⟩ : ∃ rk, lead.length = rk := ⟨_, rfl⟩
       have HRK := Lib.hid hrk
       rw [hrk] at HLd hl1 ⊢
       clear hrk hb2 hR hLd hred)
    | (go_at_call 160; refine (rfree_ok L rk lc lead hc32 HRK.out (by omega) HRed.out.inv.fil HLd.out.ints).mono ?_; rintro e w4 ⟨F, nf, fc, rfl, hnf, hnc, hF, hb4⟩
       have hbb4 := bnext hbb2 hb4
       have HB4 := Lib.hid (HB2.out.below hb4 HB2.out.lt)
       have HR4 := Lib.hid (HR2.out.below hb4)
       have HL4 := Lib.hid (HLd.out.below hb4 (fun b hk => (World.ownsRow.lt HLd.out b hk).2))
       have HF4 := Lib.hid hF.ints
       have HNF := Lib.hid hnf
       clear hnf hF hb4))
  clear ha0 ha1 ha2 ha3 ha4 hd0 hd1 hd2 hd3 hd4 HE HE1 HB0 HB1 HB2 HR2 HLd hbb1 hbb2
  obtain ⟨g2, hg2⟩ : ∃ g, w4.heap.size = g := ⟨_, rfl⟩
  have HG := Lib.hid hg2
  have hgw : w.heap.size ≤ g2 := by rw [← hg2]; exact hbb4.size
  have hbg2 : w.heap.size < g2 := by rw [← hg2]; exact HB4.out.lt
  rw [hg2] at HF4
  clear hg2
  have hrm : rk ≤ r := by rw [← HR4.out.ln, ← HRK.out]; exact HRed.out.inv.rm
  have HRow : Hid (∀ j, j < r → ∃ go b cb, R = some ⟨go, 0, none⟩ ∧ w4.cell? ⟨go, j, none⟩ = some (.slice (some ⟨b, 0, none⟩) (c + 1) cb) ∧ (∀ f, f < c → w4.cell? ⟨b, f, none⟩ = some (.int .i64 (mx m j f)) ∧ 0 ≤ mx m j f ∧ mx m j f < p) ∧ go < g2 ∧ b < g2) := Lib.hid fun j hj => by
    obtain ⟨go, h1, _, h3, _, h2⟩ := HR4.out.form (by omega)
    refine ⟨go, _, _, h1, (h2 j hj).1, fun f hf => ⟨(HR4.out.rws.own j (by rw [HR4.out.ln]; exact hj)).cellAt (by omega), HRed.out.el.mx_in hp.1 (by rw [HR4.out.ln]; exact hj) f⟩, ?_, ?_⟩
    · rw [← HG.out]; exact h3
    · rw [← HG.out]; exact (HR4.out.rws.row (by rw [HR4.out.ln]; exact hj)).2
  have HLc : Hid (∀ n, n < rk → ∃ gl, L = some ⟨gl, 0, none⟩ ∧ w4.cell? ⟨gl, n, none⟩ = some (.int .i64 (lead.getD n 0 : Nat)) ∧ gl < g2) := Lib.hid fun n hn => by
    obtain ⟨gl, h1, h2, h3⟩ := HL4.out.form (by omega)
    subst h1
    have h4 := HL4.out.cellAt hn
    rw [show (lead.map Int.ofNat).getD n 0 = ((lead.getD n 0 : Nat) : Int) by
      rw [List.getD_eq_getElem?_getD, List.getElem?_map, List.getD_eq_getElem?_getD, List.getElem?_eq_getElem (by rw [HRK.out]; exact hn)]; rfl] at h4
    exact ⟨gl, rfl, h4, by rw [← HG.out]; exact h3⟩
  have HFc : Hid (∀ n, n < nf → ∃ bf off, F = some ⟨bf, off, none⟩ ∧ w4.cell? ⟨bf, off + n, none⟩ = some (.int .i64 ((freeU lead c).getD n 0 : Nat)) ∧ bf < g2 ∧ (freeU lead c).getD n 0 < c ∧ (freeU lead c).getD n 0 ∉ lead) := Lib.hid fun n hn => by
    obtain ⟨bf, off, h1, h2, h3⟩ := HF4.out.2 (by omega)
    have h4 := h3 n hn
    rw [show ((freeU lead c).map Int.ofNat).getD n 0 = (((freeU lead c).getD n 0 : Nat) : Int) by
      rw [List.getD_eq_getElem?_getD, List.getElem?_map, List.getD_eq_getElem?_getD, List.getElem?_eq_getElem (by rw [← HNF.out]; exact hn)]; rfl] at h4
    exact ⟨bf, off, h1, h4, h2, freeU_at (by rw [← HNF.out]; exact hn)⟩
  clear HF4 HL4 HR4
  go_loopw [7, 27] (fun v i wx => ∃ (f : Nat) (A : Option Addr) (ca : Nat) (rows : List (List Int)), f ≤ nf ∧ i = .int .i64 f ∧ v = .slice A f ca ∧ OwnM wx g2 g2 22 A f ca rows ∧ Hid (rows = ((freeU lead c).take f).map (kerX p c lead m)) ∧ Below g2 w4 wx) (fun _ i _ => nf - (intOf i).toNat)
  case atStart => exact ⟨0, none, 0, [], Nat.zero_le _, rfl, rfl, OwnM.nil_, Lib.hid rfl, Below.refl _ _⟩
  case round =>
    obtain ⟨f, A, ca, rows, hf, rfl, rfl, hM, HROWS, hb⟩ := hrel
    by_cases hlt : f < nf
    · obtain ⟨bf, off, hFe, hFc, hbf, hkc, hkl⟩ := HFc.out f hlt
      subst hFe
      have hx2 : wr.cell? ⟨w.heap.size, 2, none⟩ = some (.int .i64 c) := (hb.cell (p := ⟨w.heap.size, 2, none⟩) hbg2).trans ((HB4.out.cell 2).trans rfl)
      have hxf := (hb.cell (p := ⟨bf, off + f, none⟩) hbf).trans hFc
      have HKS := Lib.hid (take_map_snoc (freeU lead c) (kerX p c lead m) (i := f) (by rw [← HNF.out]; exact hlt))
      have HKL := Lib.hid hkl
      obtain ⟨k, hk⟩ : ∃ k, (freeU lead c).getD f 0 = k := ⟨_, rfl⟩
      rw [hk] at hxf hkc HKS HKL
      have HKA := Lib.hid (kerQ_all p c lead m k)
      rw [HRK.out] at HKA
      have HK0 := Lib.hid (kerQ_zero p lead m hkc)
      have h1 : (f : Int) < (nf : Int) := by omega
      have h0 : (0 : Int) ≤ (f : Int) := by omega
      have h1k : (k : Int) < (c : Int) := by omega
      have h0k : (0 : Int) ≤ (k : Int) := by omega
      have hgb : g2 ≤ wr.heap.size := by rw [← HG.out]; have := hb.size; rw [HG.out] at this ⊢; exact this
      have hc0 : (0 : Int) ≤ (c : Int) := by omega
      clear hk hkl hFc
      go_wp2_with (
        at_make
        refine wpList_make_full _ rfl _ _ 22 rfl g2 3 i0 (.int .i64 0) 1 Try.underlying22 hi0 hz0 hz1 .i64 .i64 c c c rfl rfl rfl rfl (by rw [hz2]; omega) (by unfold maxLen; omega) hgb ?_
        intro w5 hown hgr
        have hown4 : OwnI w5 g2 3 (some ⟨wr.heap.size, 0, none⟩) c c (List.replicate c 0) := by rw [made_zerosS] at hown; exact hown
        have hb4 : Below wr.heap.size wr w5 := (Below.refl _ _).grown hgr (Nat.le_refl _) (fun k hk => by cases hk)
        have hfz4 := hown4.frozenAt k
        have hoc4 := hown4.cellAt hkc
        have hst4 := hown4.stored k 1
        rw [HK0.out] at hst4
        have HS4 := Lib.hid hst4
        have HBS4 := Lib.hid (hb4.setCell (p := ⟨wr.heap.size, k, none⟩) (Nat.le_refl _) (.int .i64 1))
        clear hown hgr hst4 hown4 hb4)
      obtain ⟨g, hg⟩ : ∃ g, wr.heap.size = g := ⟨_, rfl⟩
      rw [hg] at HS4 HBS4 hgb ⊢
      have HGG := Lib.hid hg
      clear hg
      go_loopw [39] (fun v wx => ∃ j : Nat, j ≤ rk ∧ v = .int .i64 j ∧ OwnI wx g2 3 (some ⟨g, 0, none⟩) c c (kerQ p c lead m k j) ∧ Below g wr wx) (fun v _ => rk - (intOf v).toNat)
      case atStart => exact ⟨0, Nat.zero_le _, rfl, HS4.out, HBS4.out⟩
      case round =>
        rename_i wo _
        obtain ⟨j, hj, rfl, hown, hbj⟩ := hrel
        by_cases hlt2 : j < rk
        · obtain ⟨gl, hLe, hlc, hll⟩ := HLc.out j hlt2
          obtain ⟨go, b, cb, hRe, hrow, hcell, hgl, hbl⟩ := HRow.out j (by omega)
          subst hLe hRe
          obtain ⟨hcf, hyb⟩ := hcell k hkc
          have hbo := hb.trans (hbj.mono hgb)
          have hx0 := (hbo.cell (p := ⟨gl, j, none⟩) hll).trans hlc
          have hx1 := (hbo.cell (p := ⟨go, j, none⟩) hgl).trans hrow
          have hx2 := (hbo.cell (p := ⟨b, k, none⟩) hbl).trans hcf
          have hx3 : wr.cell? ⟨w.heap.size, 0, none⟩ = some (.int .i64 p) := (hbo.cell (p := ⟨w.heap.size, 0, none⟩) hbg2).trans ((HB4.out.cell 0).trans rfl)
          have HST := Lib.hid (kerQ_set HRed.out.inv (f := k) (n := j) (by rw [HRK.out]; exact hlt2) HKL.out)
          have hlk := HRed.out.inv.lt j (by rw [HRK.out]; exact hlt2)
          obtain ⟨l, hl⟩ : ∃ l, lead.getD j 0 = l := ⟨_, rfl⟩
          rw [hl] at hx0 HST hlk
          obtain ⟨y, hy⟩ : ∃ y, mx m j k = y := ⟨_, rfl⟩
          rw [hy] at hx2 HST hyb
          have hsw : IntKind.i64.wrap (p - y) = p - y := IntWalk.i64_in _ (by omega)
          have hp0 : ¬ p = 0 := by omega
          have htm : (p - y).tmod p = subP p 0 y := by rw [Int.tmod_eq_emod_of_nonneg (by omega)]; exact subP_sub p y
          have h1n : (j : Int) < (rk : Int) := by omega
          have h1r : (j : Int) < (r : Int) := by omega
          have h0n : (0 : Int) ≤ (j : Int) := by omega
          have hlc' : (l : Int) < (c : Int) := by omega
          have h0l : (0 : Int) ≤ (l : Int) := by omega
          have hcc : (k : Int) < ((c + 1 : Nat) : Int) := by omega
          obtain ⟨c1, hc1⟩ : ∃ c1, c + 1 = c1 := ⟨_, rfl⟩
          rw [hc1] at hx1 hcc
          have hoc := hown.cellAt (j := l) hlk
          generalize (kerQ p c lead m k j).getD l 0 = y0 at hoc
          have hfz := hown.frozenAt l
          have hst := hown.stored l (subP p 0 y)
          rw [HST.out] at hst
          have HS := Lib.hid hst
          have HBS := Lib.hid (hbj.setCell (p := ⟨g, l, none⟩) (Nat.le_refl _) (.int .i64 (subP p 0 y)))
          clear hc1 hst hown hlc hrow hcell hl hy hcf
          go_wp2_with fail
          go_still_tail 18, (by kernel_rfl)
          go_wp2
          go_roundw
          case rel => exact ⟨j + 1, by omega, by go_num, HS.out.drew, HBS.out.drew⟩
          case measure => simp [intOf]; omega
        · obtain rfl : j = rk := by omega
          rw [HKA.out] at hown
          have hgr := World.ownsRow.lt hown g rfl
          have hAlt := hM.row
          have HM2 := Lib.hid (hM.belowAll (by rw [HGG.out]; exact hbj))
          have HI2 := Lib.hid (hown.ints)
          have HAP : Hid (0 < c → ∀ b off s, (some ⟨g, 0, none⟩ : Option Addr) = some ⟨b, off, s⟩ → (Value.slice A f ca).ownBlock ≠ some b) := Lib.hid fun _ b off s e e2 => by
            injection e with e
            injection e with e
            have := (hAlt b e2).2
            rw [HGG.out] at this
            omega
          have HLO : Hid (Lo g2 (some ⟨g, 0, none⟩) c) := Lib.hid fun _ b off s e => by
            injection e with e
            injection e with e
            omega
          have hM3 := HM2.out.belowAll (bbox (.cells #[.slice (some ⟨g, 0, none⟩) c c] 22))
          have hI3 := HI2.out.upto (bbox (.cells #[.slice (some ⟨g, 0, none⟩) c c] 22))
          have hcl : (wr.alloc (.cells #[.slice (some ⟨g, 0, none⟩) c c] 22)).cell? ⟨wr.heap.size, 0, none⟩ = some (.slice (some ⟨g, 0, none⟩) c c) := by rw [World.cell?_alloc_at _ _ _ _ rfl]; rfl
          have HM3 := Lib.hid hM3
          have HI3 := Lib.hid hI3
          have hbw := ((hb.trans (hbj.mono hgb)).alloc (by omega) (.cells #[.slice (some ⟨g, 0, none⟩) c c] 22))
          have HBW := Lib.hid hbw
          clear hM3 hI3 hAlt hown hM hbw
          go_wp2_with (at_builtin; refine (?_ : Hid _).out)
          refine Lib.hid ?_
          refine wpList_append_row rfl _ _ 25 rfl g2 g2 22 i1 _ Try.underlying25 hi1 hy0 hy1 hy2 rfl A f ca rows rfl HM3.out wr.heap.size 1 (some ⟨g, 0, none⟩) c c (kerX p c lead m k) rfl hcl (by simp) (by omega) HI3.out HLO.out HAP.out (f + 1) rfl (by omega) (le_alloc (by omega) _) ?_
          intro A2 c2 w9 hown2 hgr2 hbw2
          have HBW2 := Lib.hid (HBW.out.trans hbw2)
          have HM9 := Lib.hid hown2
          clear hgr2 hbw2 hown2
          go_wp2
          go_roundw
          case rel => exact ⟨f + 1, A2, c2, rows ++ [kerX p c lead m k], by omega, by go_num, rfl, HM9.out, Lib.hid (by rw [HKS.out, HROWS.out]), HBW2.out⟩
          case measure => simp [intOf]; omega
    · obtain rfl : f = nf := by omega
      have HEND : Hid (rows = (freeL c lead).map (kerX p c lead m)) := Lib.hid (by rw [HROWS.out, HNF.out, List.take_length]; rfl)
      go_wp2
      go_ret2
      exact ⟨A, f, ca, rows, rfl, hM.weaken hgw hgw, ⟨m, lead, HRed.out, HEND.out⟩, hnc, hbb4.trans (hb.mono hgw)⟩
end Go.Proofs.Ytoblofilaegnaaa

/-! RCnt06 -/
namespace Go.Proofs.Ytoblofilaegnaaa
open Go.RowKit
set_option linter.unusedVariables false

theorem SolveOf.noClash {p : Int} {c : Nat} {m0 m : List (List Int)} {lead : List Nat} {x : List Int} (hp : 2 ≤ p) (h : SolveOf p c m0 (some x)) (hR : Red p c m0 m lead) : NoClash c lead.length m := by
  obtain ⟨m1, lead1, h1, h2, h3⟩ := h
  exact (hR.noClash_iff hp).2 ⟨x, (h1.solv x).2 (h3.solv h1.inv h2)⟩
theorem cntP_big {p : Int} (hp : 2 ≤ p) {x : Int} : 1099511627776 / p < x ↔ 1099511627776 < x * p := by
  rw [Int.ediv_lt_iff_lt_mul (by omega)]

theorem cntP_max {p : Int} : ∀ {n : Nat} {v : Int}, cntP p n = some v → 2 ≤ p → v ≤ 1099511627776
  | 0, v, h, _ => by simp [cntP] at h; omega
  | n + 1, v, h, hp => by
    simp only [cntP] at h
    split at h
    · rename_i u hu
      split at h
      · cases h
      · rename_i hle
        injection h with h
        subst h
        have : ¬ 1099511627776 < u * p := fun a => hle ((cntP_big hp).2 a)
        omega
    · cases h

set_option maxHeartbeats 1600000 in
set_option maxRecDepth 100000 in
/-- The number of solutions of valid equations. -/
theorem rcount06_ok {p : Int} {r c nc cc cd : Nat} {C D : Option Addr} {cells right : List Int} {w : World} (h : EqW w p r c nc C cc D cd cells right) :
    Calls Try.prog 102 #[eqV p r c C nc cc D r cd] w (CountPost p c (augM r c cells right) w) := by
  have hb0 : Below w.heap.size w (w.alloc (.cells (eqC p r c C nc cc D r cd) 106)) := bbox _
  have HE := Lib.hid (h.upto hb0)
  have HB0 := Lib.hid (Blk.new w 106 (eqC p r c C nc cc D r cd))
  have HL := h.ln
  have hc32 := h.ok.c32
  have hr32 := h.ok.r32
  have hp := okP_pos h.ok.ok
  clear h
  go_enter Try.func102, Try.ntmps102
  go_wp2_with (first
    | (go_at_call 104; refine (rcheck06_ok p r c nc C cc D cd cells right _ HE.out.ok (Lib.hid HL) HE.out.hC HE.out.hD).mono ?_; rintro e w1 ⟨rfl, hb1⟩
       have HB1 := Lib.hid (HB0.out.below hb1 HB0.out.lt)
       have HE1 := Lib.hid (HE.out.upto hb1)
       have hbb1 := hb0.trans (hb1.mono (by simp))
       have hs1 := HB1.out.lt
       have ha0 : w1.cell? ⟨w.heap.size, 0, none⟩ = some (.int .i64 p) := (HB1.out.cell 0).trans rfl
       have ha1 : w1.cell? ⟨w.heap.size, 1, none⟩ = some (.int .i64 r) := (HB1.out.cell 1).trans rfl
       have ha2 : w1.cell? ⟨w.heap.size, 2, none⟩ = some (.int .i64 c) := (HB1.out.cell 2).trans rfl
       have ha3 : w1.cell? ⟨w.heap.size, 3, none⟩ = some (.slice C nc cc) := (HB1.out.cell 3).trans rfl
       have ha4 : w1.cell? ⟨w.heap.size, 4, none⟩ = some (.slice D r cd) := (HB1.out.cell 4).trans rfl
       clear hb1)
    | (go_at_call 98; refine (?_ : Hid _).out))
  refine Lib.hid ?_
  refine (rsolve06_ok HE1.out).mono ?_
  clear ha0 ha1 ha2 ha3 ha4
  rintro e w2 ⟨⟨h1, rfl⟩ | ⟨gx, x, h1, rfl, h2⟩, hb2⟩
  · have hbb2 := bnext hbb1 hb2
    have HC : Hid (CountOf p c (augM r c cells right) (some 0)) := Lib.hid (by
      obtain ⟨m, lead, a, b⟩ := h1
      exact ⟨m, lead, a, .inl ⟨b, rfl⟩⟩)
    clear h1 hb2
    go_wp2
    go_ret2
    exact ⟨⟨some 0, HC.out, rfl⟩, hbb2⟩
  · have hbb2 := bnext hbb1 hb2
    have HS := Lib.hid h1
    have HB2 := Lib.hid (HB1.out.below hb2 HB1.out.lt)
    have HE2 := Lib.hid (HE1.out.upto hb2)
    have ha0 : w2.cell? ⟨w.heap.size, 0, none⟩ = some (.int .i64 p) := (HB2.out.cell 0).trans rfl
    have ha1 : w2.cell? ⟨w.heap.size, 1, none⟩ = some (.int .i64 r) := (HB2.out.cell 1).trans rfl
    have ha2 : w2.cell? ⟨w.heap.size, 2, none⟩ = some (.int .i64 c) := (HB2.out.cell 2).trans rfl
    have ha3 : w2.cell? ⟨w.heap.size, 3, none⟩ = some (.slice C nc cc) := (HB2.out.cell 3).trans rfl
    have ha4 : w2.cell? ⟨w.heap.size, 4, none⟩ = some (.slice D r cd) := (HB2.out.cell 4).trans rfl
    clear h1 h2 hb2
    go_wp2_with (first
      | (go_at_call 158; refine (rreduce_ok HE2.out).mono ?_; rintro e w3 ⟨R, cap, bs, m, L, lc, lead, rfl, hR, hLd, hred, hb3⟩
         have hbb3 := bnext hbb2 hb3
         have HRed := Lib.hid hred
         have HB3 := Lib.hid (HB2.out.below hb3 HB2.out.lt)
         have HLd := Lib.hid hLd.ints
         have HNC : Hid (NoClash c lead.length m) := Lib.hid (HS.out.noClash hp.1 hred)
         have hl1 := hred.inv.rank_le
         have HFL : Hid (lead.length + (freeU lead c).length = c) := Lib.hid (freeL_len hred.inv)
         have hb0 : w3.cell? ⟨w.heap.size, 0, none⟩ = some (.int .i64 p) := (HB3.out.cell 0).trans rfl
         have hb1 : w3.cell? ⟨w.heap.size, 1, none⟩ = some (.int .i64 r) := (HB3.out.cell 1).trans rfl
         have hb2 : w3.cell? ⟨w.heap.size, 2, none⟩ = some (.int .i64 c) := (HB3.out.cell 2).trans rfl
         have hb3' : w3.cell? ⟨w.heap.size, 3, none⟩ = some (.slice C nc cc) := (HB3.out.cell 3).trans rfl
         have hb4 : w3.cell? ⟨w.heap.size, 4, none⟩ = some (.slice D r cd) := (HB3.out.cell 4).trans rfl
         obtain ⟨nl, hnl⟩ : ∃ nl, lead.length = nl := ⟨_, rfl⟩
         have HNL := Lib.hid hnl
         rw [hnl] at HLd hl1 HFL ⊢
         clear hnl hb3 hR hLd hred)
      | (go_at_call 160; refine (rfree_ok L nl lc lead hc32 HNL.out (by omega) HRed.out.inv.fil HLd.out).mono ?_; rintro e w4 ⟨A, nf, ca, rfl, hnf, hnc, hF, hb4'⟩
         have hbb4 := bnext hbb3 hb4'
         have HB4 := Lib.hid (HB3.out.below hb4' HB3.out.lt)
         have HNF := Lib.hid hnf
         clear hnf hF hb4'))
    have HC : Hid (∀ v, v = cntP p nf → CountOf p c (augM r c cells right) v) := Lib.hid fun v hv => ⟨m, lead, HRed.out, .inr ⟨HNC.out, by rw [hv, HNF.out]; have := HFL.out; rw [HNL.out]; congr 1; omega⟩⟩
    have he0 : w4.cell? ⟨w.heap.size, 0, none⟩ = some (.int .i64 p) := (HB4.out.cell 0).trans rfl
    have hnf32 : nf ≤ 32 := by omega
    clear he0
    go_loopw [9, 31] (fun u v wr => ∃ (j : Nat) (x : Int), j ≤ nf ∧ v = .int .i64 j ∧ u = .int .i64 x ∧ Hid (cntP p j = some x) ∧ wr = w4) (fun _ v _ => nf - (intOf v).toNat)
    case atStart => exact ⟨0, 1, Nat.zero_le _, rfl, rfl, Lib.hid rfl, rfl⟩
    case round =>
      obtain ⟨j, x, hj, rfl, rfl, HX, rfl⟩ := hrel
      by_cases hlt : j < nf
      · have h1 : (j : Int) < (nf : Int) := by omega
        have he0 : wr.cell? ⟨w.heap.size, 0, none⟩ = some (.int .i64 p) := (HB4.out.cell 0).trans rfl
        have hx1 := (cntP_pow hp.1 _ _ HX.out).2
        have hjw : IntKind.i64.wrap ((j : Int) + 1) = (j : Int) + 1 := IntWalk.i64_in _ (by omega)
        have HX64 : Hid (x ≤ 1099511627776) := Lib.hid (cntP_max HX.out hp.1)
        have hx2 := HX64.out
        have hxp : x * p ≤ 1099511627776 * 65521 := Int.mul_le_mul hx2 hp.2 (by omega) (by omega)
        have hx0 : 0 ≤ x * p := Int.mul_nonneg (by omega) (by omega)
        have hxw : IntKind.i64.wrap (x * p) = x * p := IntWalk.i64_in _ (by omega)
        by_cases hbig : 1099511627776 < x * p
        · have HN : Hid (cntP p nf = none) := Lib.hid (by
            have := cntP_none (p := p) (j + 1) (by simp only [cntP]; rw [HX.out]; simp only []; rw [if_pos ((cntP_big hp.1).2 hbig)]) (nf - (j + 1))
            rwa [show j + 1 + (nf - (j + 1)) = nf by omega] at this)
          go_wp2
          go_ret2
          exact ⟨⟨none, HC.out none HN.out.symm, rfl⟩, hbb4⟩
        · have HX2 : Hid (cntP p (j + 1) = some (x * p)) := Lib.hid (by simp only [cntP]; rw [HX.out]; simp only []; rw [if_neg (fun a => hbig ((cntP_big hp.1).1 a))])
          go_wp2
          go_roundw
          case rel => exact ⟨j + 1, x * p, by omega, by go_num, rfl, HX2, trivial⟩
          case measure => simp [intOf]; omega
      · obtain rfl : nf = j := by omega
        go_wp2
        go_ret2
        exact ⟨⟨some x, HC.out _ HX.out.symm, rfl⟩, hbb4⟩
end Go.Proofs.Ytoblofilaegnaaa

/-! RDot -/
namespace Go.Proofs.Ytoblofilaegnaaa
open Go.RowKit
set_option linter.unusedVariables false

theorem dot_stepR (p s x y : Int) : addP p s (mulP p x y) = (s + x * y) % p := by
  unfold addP mulP
  rw [Int.add_emod, Int.emod_emod_of_dvd _ (Int.dvd_refl p), ← Int.add_emod]
theorem zip_take_dotR (p : Int) (xs ys : List Int) (k : Nat) (hx : k < xs.length) (hy : k < ys.length) :
    sumP p (zipI (mulP p) (xs.take (k + 1)) (ys.take (k + 1))) = (sumP p (zipI (mulP p) (xs.take k) (ys.take k)) + xs.getD k 0 * ys.getD k 0) % p := by
  rw [zipI_take_succ _ _ _ _ hx hy, sumP_snoc, dot_stepR]

set_option maxHeartbeats 400000 in
theorem rdot_ok (p : Int) (A B : Option Addr) (n c d : Nat) (xs ys : List Int) (w : World) (hok : okP p = true) (h : Ints w w.heap.size A n xs) (h2 : Ints w w.heap.size B n ys) (hx : allP p xs = true) (hy : allP p ys = true) (hn : n ≤ 17592186044416) :
    Calls Try.prog 29 #[.agg #[.int .i64 p], .slice A n c, .slice B n d] w fun e w' => e = .returned (.tuple #[.int .i64 (dotP p xs ys), .int .i64 0]) ∧ Below w.heap.size w w' := by
  have hp := okP_pos hok
  have HX := Lib.hid hx
  have HY := Lib.hid hy
  have HE : Hid (twoE p xs ys = 0) := Lib.hid (by unfold twoE; rw [if_pos ⟨inF_iff.2 ⟨hok, hx⟩, inF_iff.2 ⟨hok, hy⟩⟩, if_pos (by rw [h.len, h2.len])])
  have HL := Lib.hid h.len
  have HM := Lib.hid h2.len
  clear hx hy hok
  go_enter Try.func29, Try.ntmps29
  go_wp2_with (go_at_call 122; refine (two_any p A B n n c d xs ys _ (h.upto (bbox _)) (h2.upto (bbox _)) hn hn).mono ?_; rintro e w1 ⟨rfl, hb1⟩; rw [HE.out]
               have hb := bnext (bbox _) hb1
               have hF := (Blk.new w 24 #[.int .i64 p]).below hb1 (by simp))
  clear hb1
  go_loopw [9, 20] (fun s i wr => ∃ k q : Nat, k ≤ n ∧ i = .int .i64 k ∧ s = .int .i64 (sumP p (zipI (mulP p) (xs.take k) (ys.take k))) ∧ wr = w1.drewN q) (fun _ i _ => n - (intOf i).toNat)
  case atStart => exact ⟨0, 0, Nat.zero_le _, rfl, rfl, rfl⟩
  case round =>
    obtain ⟨k, q, hk, rfl, rfl, rfl⟩ := hrel
    have hs := sumP_in hp.1 (zipI (mulP p) (xs.take k) (ys.take k))
    by_cases hlt : k < n
    · obtain ⟨b1, o1, rfl, hb1, hc1⟩ := h.2 (by omega)
      obtain ⟨b2, o2, rfl, hb2, hc2⟩ := h2.2 (by omega)
      have hr1 := (hb.cell (p := ⟨b1, o1 + k, none⟩) hb1).trans (hc1 k hlt)
      have hr2 := (hb.cell (p := ⟨b2, o2 + k, none⟩) hb2).trans (hc2 k hlt)
      have hfr : w1.cell? ⟨w.heap.size, 0, none⟩ = some (.int .i64 p) := (hF.cell 0).trans rfl
      clear hc1 hc2
      have HT := Lib.hid (zip_take_dotR p xs ys k (by rw [HL.out]; exact hlt) (by rw [HM.out]; exact hlt))
      have hxk := allP_getD HX.out (k := k) (by rw [HL.out]; exact hlt)
      have hyk := allP_getD HY.out (k := k) (by rw [HM.out]; exact hlt)
      generalize xs.getD k 0 = x at *
      generalize ys.getD k 0 = y at *
      generalize sumP p (zipI (mulP p) (xs.take k) (ys.take k)) = s at *
      have hmm : 0 ≤ x * y ∧ x * y ≤ 65521 * 65521 := ⟨Int.mul_nonneg hxk.1 hyk.1, Int.mul_le_mul (by omega) (by omega) hyk.1 (by omega)⟩
      have hk0 : (0 : Int) ≤ (k : Int) := by omega
      have hk1 : (k : Int) < (n : Int) := by omega
      have hw1 : IntKind.i64.wrap (x * y) = x * y := IntWalk.i64_in _ (by omega)
      have hw2 : IntKind.i64.wrap (s + x * y) = s + x * y := IntWalk.i64_in _ (by omega)
      have hp0 : ¬ p = 0 := by omega
      have ht : (s + x * y).tmod p = (s + x * y) % p := Int.tmod_eq_emod_of_nonneg (by omega)
      go_wp2
      go_quiet (fail)
      clear hw1 hw2 ht
      go_wp2
      go_roundw
      case rel => exact ⟨k + 1, _, by omega, by go_num, by rw [HT.out], rfl⟩
      case measure => simp [intOf]; omega
    · have hkn : k = n := by omega
      subst hkn
      have HD : Hid (sumP p (zipI (mulP p) (xs.take k) (ys.take k)) = dotP p xs ys) := Lib.hid (by rw [List.take_of_length_le (by rw [HL.out]; omega), List.take_of_length_le (by rw [HM.out]; omega)]; rfl)
      rw [HD.out]
      go_wp2
      go_ret2
      exact ⟨rfl, below_drewN hb q⟩
end Go.Proofs.Ytoblofilaegnaaa

/-! RSolvs -/
namespace Go.Proofs.Ytoblofilaegnaaa
open Go.RowKit
set_option linter.unusedVariables false

set_option maxHeartbeats 800000 in
set_option maxRecDepth 100000 in
/-- Whether a list solves valid equations. -/
theorem rsolves_ok {p : Int} {r c nc cc cd : Nat} {C D : Option Addr} {cells right : List Int} {w : World} (h : EqW w p r c nc C cc D cd cells right) {X : Option Addr} {m xc : Nat} {xs : List Int} (hX : Ints w w.heap.size X m xs) (hm : m ≤ 17592186044416) :
    Calls Try.prog 106 #[eqV p r c C nc cc D r cd, .slice X m xc] w (SolvesPost p r c cells right xs w) := by
  have hb0 : Below w.heap.size w (w.alloc (.cells (eqC p r c C nc cc D r cd) 106)) := bbox _
  have HE := Lib.hid (h.upto hb0)
  have HX := Lib.hid (hX.upto hb0)
  have HB0 := Lib.hid (Blk.new w 106 (eqC p r c C nc cc D r cd))
  have HL := h.ln
  have hc32 := h.ok.c32
  have hr32 := h.ok.r32
  have hp := okP_pos h.ok.ok
  have hxl := hX.len
  have HXL := Lib.hid hxl
  clear h hX
  by_cases hmc : m = c
  · subst hmc
    by_cases ha : allP p xs = true
    · have HA := Lib.hid ha
      have HIN : Hid (inF p xs = true) := Lib.hid (inF_iff.2 ⟨HE.out.ok.ok, ha⟩)
      have HSE : Hid (solvesE p m xs = 0) := Lib.hid (by unfold solvesE; rw [if_pos hxl, if_pos ha])
      clear hxl
      go_enter Try.func106, Try.ntmps106
      go_wp2_with (first
        | (go_at_call 104; refine (rcheck06_ok p r m nc C cc D cd cells right _ HE.out.ok (Lib.hid HL) HE.out.hC HE.out.hD).mono ?_; rintro e w1 ⟨rfl, hb1⟩
           have HB1 := Lib.hid (HB0.out.below hb1 HB0.out.lt)
           have HE1 := Lib.hid (HE.out.upto hb1)
           have HX1 := Lib.hid (HX.out.upto hb1)
           have hbb1 := hb0.trans (hb1.mono (by simp))
           have hs1 := HB1.out.lt
           have ha0 : w1.cell? ⟨w.heap.size, 0, none⟩ = some (.int .i64 p) := (HB1.out.cell 0).trans rfl
           have ha1 : w1.cell? ⟨w.heap.size, 1, none⟩ = some (.int .i64 r) := (HB1.out.cell 1).trans rfl
           have ha2 : w1.cell? ⟨w.heap.size, 2, none⟩ = some (.int .i64 m) := (HB1.out.cell 2).trans rfl
           clear hb1)
        | (go_at_call 126; refine (in_any p X m xc xs _ HX1.out (by omega)).mono ?_; rintro e w2 ⟨rfl, hb2⟩; rw [HIN.out]
           have HB2 := Lib.hid (HB1.out.below hb2 HB1.out.lt)
           have HE2 := Lib.hid (HE1.out.upto hb2)
           have HX2 := Lib.hid (HX1.out.upto hb2)
           have hbb2 := bnext hbb1 hb2
           have hs2 := HB2.out.lt
           have ha21 : w2.cell? ⟨w.heap.size, 1, none⟩ = some (.int .i64 r) := (HB2.out.cell 1).trans rfl
           clear hb2))
      clear ha0 ha1 ha2 ha21
      go_loopw [7] (fun v wr => ∃ q : Nat, q ≤ r ∧ v = .int .i64 q ∧ Hid (∀ i, i < q → dotP p ((cells.drop (i * m)).take m) xs = right.getD i 0) ∧ Below w2.heap.size w2 wr) (fun v _ => r - (intOf v).toNat)
      case atStart => exact ⟨0, Nat.zero_le _, rfl, Lib.hid fun i hi => absurd hi (by omega), Below.refl _ _⟩
      case round =>
        obtain ⟨q, hq, rfl, HQ, hb⟩ := hrel
        have HBr := HB2.out.below hb HB2.out.lt
        have hr1 : wr.cell? ⟨w.heap.size, 1, none⟩ = some (.int .i64 r) := (HBr.cell 1).trans rfl
        by_cases hlt : q < r
        · have hr0 : wr.cell? ⟨w.heap.size, 0, none⟩ = some (.int .i64 p) := (HBr.cell 0).trans rfl
          have hr2 : wr.cell? ⟨w.heap.size, 2, none⟩ = some (.int .i64 m) := (HBr.cell 2).trans rfl
          have hr3 : wr.cell? ⟨w.heap.size, 3, none⟩ = some (.slice C nc cc) := (HBr.cell 3).trans rfl
          have hr4 : wr.cell? ⟨w.heap.size, 4, none⟩ = some (.slice D r cd) := (HBr.cell 4).trans rfl
          have HEr := Lib.hid (HE2.out.upto hb)
          have HXr := Lib.hid (HX2.out.upto hb)
          have hcc := HE2.out.cap
          have hle : r * m ≤ 32 * 32 := Nat.mul_le_mul hr32 hc32
          have hrle := row_le (c := m) hlt
          rw [HL] at hrle hle
          obtain ⟨l, hl⟩ : ∃ l, q * m = l := ⟨_, rfl⟩
          rw [hl] at hrle
          have hw1 : (q : Int) * (m : Int) = (l : Int) := by rw [← hl]; simp
          have hw2 : ((q : Int) + 1) * (m : Int) = ((l + m : Nat) : Int) := by rw [← hl, Int.add_mul]; simp
          have HI := Lib.hid (HEr.out.hC.sub_ hcc l m hrle)
          have HQD : Hid (∀ z, dotP p ((cells.drop l).take m) xs = z → dotP p ((cells.drop (q * m)).take m) xs = z) := Lib.hid (by rw [hl]; exact fun z h => h)
          have HRA : Hid (allP p ((cells.drop l).take m) = true) := Lib.hid (allP_iff.2 fun x hx => allP_iff.1 HE2.out.ok.ac x (List.mem_of_mem_drop (List.mem_of_mem_take hx)))
          have HOK := Lib.hid HE2.out.ok.ok
          obtain ⟨yq, hyq⟩ : ∃ y, right.getD q 0 = y := ⟨_, rfl⟩
          have HYQ := Lib.hid hyq
          obtain ⟨row, hrow⟩ : ∃ z, (cells.drop l).take m = z := ⟨_, rfl⟩
          rw [hrow] at HI HQD HRA
          obtain ⟨bD, oD, hDe, hbD, hcD⟩ := HEr.out.hD.2 (by omega)
          subst hDe
          have hcq := hcD q hlt
          rw [hyq] at hcq
          have h1 : (q : Int) < (r : Int) := by omega
          have h0 : (0 : Int) ≤ (q : Int) := by omega
          clear hcD hrow hyq hl
          obtain ⟨e, he⟩ : ∃ e, l + m = e := ⟨_, rfl⟩
          have hem : e - l = m := by omega
          rw [he] at hw2 hrle
          obtain ⟨A4, hA4, HI4⟩ : ∃ A4 : Option Addr, (if cc = l then C else Option.map (fun x => x.add l) C) = A4 ∧ Hid (Ints wr wr.heap.size A4 m row) := by
            refine ⟨_, rfl, ?_⟩
            have := HI
            rwa [Nat.mul_one] at this
          have he1024 : e ≤ 1024 := by omega
          have s1 : (0 : Int) ≤ (l : Int) := by omega
          have s2 : (l : Int) ≤ (e : Int) := by omega
          have s3 : (e : Int) ≤ (cc : Int) := by omega
          have s4 : IntKind.i64.wrap (l : Int) = (l : Int) := IntWalk.i64_in _ (by omega)
          have s5 : IntKind.i64.wrap (e : Int) = (e : Int) := IntWalk.i64_in _ (by omega)
          have s6 : IntKind.i64.wrap ((q : Int) + 1) = (q : Int) + 1 := IntWalk.i64_in _ (by omega)
          go_wp2_with fail
          go_region_held3 (fun w' => w'.cell? ⟨w.heap.size, 0, none⟩ = some (.int .i64 p) ∧ w'.cell? ⟨w.heap.size, 2, none⟩ = some (.int .i64 m) ∧ w'.cell? ⟨w.heap.size, 3, none⟩ = some (.slice C nc cc)) (first | exact ⟨hr0, hr2, hr3⟩ | exact ⟨hk0, hk2, hk3⟩ | go_keep) (first | (go_at_call 29; (try rw [hem]); refine (rdot_ok p A4 X m (cc - l) xc row xs _ HOK.out (by exact HI4.out) (by exact HXr.out) HRA.out HA.out hm).mono ?_; rintro e w3 ⟨rfl, hb3⟩; have hb3' : Below wr.heap.size wr w3 := ⟨hb3.os, hb3.tape, hb3.output, hb3.size, hb3.block⟩; have hr43 : w3.cell? ⟨w.heap.size, 4, none⟩ = some (.slice (some ⟨bD, oD, none⟩) r cd) := (hb3'.cell (p := ⟨w.heap.size, 4, none⟩) HBr.lt).trans hr4; have hcq3 : w3.cell? ⟨bD, oD + q, none⟩ = some (.int .i64 yq) := (hb3'.cell (p := ⟨bD, oD + q, none⟩) hbD).trans hcq; have hbx := hb.trans (hb3'.mono hb.size); have hk0 := (hb3'.cell (p := ⟨w.heap.size, 0, none⟩) HBr.lt).trans hr0; have hk2 := (hb3'.cell (p := ⟨w.heap.size, 2, none⟩) HBr.lt).trans hr2; have hk3 := (hb3'.cell (p := ⟨w.heap.size, 3, none⟩) HBr.lt).trans hr3; clear hb3))
          all_goals (
            by_cases hy : dotP p row xs = yq
            · have HQ2 : Hid (∀ i, i < q + 1 → dotP p ((cells.drop (i * m)).take m) xs = right.getD i 0) := Lib.hid fun i hi => by
                by_cases e : i = q
                · rw [e, HYQ.out]; exact HQD.out _ hy
                · exact HQ.out i (by omega)
              go_wp2
              go_roundw
              case rel => exact ⟨q + 1, by omega, by go_num, HQ2, hbx⟩
              case measure => simp [intOf]; omega
            · have HNO : Hid (solvesB p r m cells right xs = false) := Lib.hid (solvesB_no hlt (by rw [HQD.out _ rfl, HYQ.out]; exact hy))
              go_wp2
              go_ret2
              exact ⟨false, 0, rfl, HSE.out.symm, ⟨fun h => (by cases h), fun h => (by have := h.2; rw [HNO.out] at this; cases this)⟩, hbb2.trans (hbx.mono (by omega))⟩)
        · obtain rfl : r = q := by omega
          go_wp2
          go_ret2
          exact ⟨true, 0, rfl, HSE.out.symm, ⟨fun _ => ⟨rfl, solvesB_yes HQ.out⟩, fun _ => rfl⟩, hbb2.trans (hb.mono (by omega))⟩
    · have HSE : Hid (solvesE p m xs = 9) := Lib.hid (by unfold solvesE; rw [if_pos hxl, if_neg ha])
      have haf : allP p xs = false := by simpa using ha
      have HIN : Hid (inF p xs = false) := Lib.hid (inF_false.2 fun _ => haf)
      go_enter Try.func106, Try.ntmps106
      go_wp2_with (first
        | (go_at_call 104; refine (rcheck06_ok p r m nc C cc D cd cells right _ HE.out.ok (Lib.hid HL) HE.out.hC HE.out.hD).mono ?_; rintro e w1 ⟨rfl, hb1⟩
           have HB1 := Lib.hid (HB0.out.below hb1 HB0.out.lt)
           have HX1 := Lib.hid (HX.out.upto hb1)
           have hbb1 := hb0.trans (hb1.mono (by simp))
           have ha0 : w1.cell? ⟨w.heap.size, 0, none⟩ = some (.int .i64 p) := (HB1.out.cell 0).trans rfl
           have ha2 : w1.cell? ⟨w.heap.size, 2, none⟩ = some (.int .i64 m) := (HB1.out.cell 2).trans rfl
           clear hb1)
        | (go_at_call 126; refine (in_any p X m xc xs _ HX1.out (by omega)).mono ?_; rintro e w2 ⟨rfl, hb2⟩; rw [HIN.out]
           have hbb2 := bnext hbb1 hb2
           clear hb2))
      go_ret2
      exact ⟨false, 9, rfl, HSE.out.symm, ⟨fun h => (by cases h), fun h => (by have := h.1; omega)⟩, hbb2⟩
  · have HSE : Hid (solvesE p c xs = 2) := Lib.hid (by unfold solvesE; rw [if_neg (by omega)])
    have hmi : ¬ (m : Int) = (c : Int) := by omega
    go_enter Try.func106, Try.ntmps106
    go_wp2_with (first
      | (go_at_call 104; refine (rcheck06_ok p r c nc C cc D cd cells right _ HE.out.ok (Lib.hid HL) HE.out.hC HE.out.hD).mono ?_; rintro e w1 ⟨rfl, hb1⟩
         have HB1 := Lib.hid (HB0.out.below hb1 HB0.out.lt)
         have hbb1 := hb0.trans (hb1.mono (by simp))
         have ha2 : w1.cell? ⟨w.heap.size, 2, none⟩ = some (.int .i64 c) := (HB1.out.cell 2).trans rfl
         clear hb1))
    go_ret2
    exact ⟨false, 2, rfl, HSE.out.symm, ⟨fun h => (by cases h), fun h => (by have := h.1; omega)⟩, hbb1⟩
end Go.Proofs.Ytoblofilaegnaaa

/-! RRank -/
namespace Go.Proofs.Ytoblofilaegnaaa
open Go.RowKit
set_option linter.unusedVariables false

set_option maxHeartbeats 800000 in
set_option maxRecDepth 100000 in
/-- The rank of valid equations. -/
theorem rrank_ok {p : Int} {r c nc cc cd : Nat} {C D : Option Addr} {cells right : List Int} {w : World} (h : EqW w p r c nc C cc D cd cells right) :
    Calls Try.prog 96 #[eqV p r c C nc cc D r cd] w (RankPost p c (augM r c cells right) w) := by
  have hb0 : Below w.heap.size w (w.alloc (.cells (eqC p r c C nc cc D r cd) 106)) := bbox _
  have HE := Lib.hid (h.upto hb0)
  have HB0 := Lib.hid (Blk.new w 106 (eqC p r c C nc cc D r cd))
  have HL := h.ln
  clear h
  go_enter Try.func96, Try.ntmps96
  go_wp2_with (first
    | (go_at_call 104; refine (rcheck06_ok p r c nc C cc D cd cells right _ HE.out.ok (Lib.hid HL) HE.out.hC HE.out.hD).mono ?_; rintro e w1 ⟨rfl, hb1⟩
       have HB1 := Lib.hid (HB0.out.below hb1 HB0.out.lt)
       have HE1 := Lib.hid (HE.out.upto hb1)
       have hbb1 := hb0.trans (hb1.mono (by simp))
       have hs1 := hb1.size
       have ha0 : w1.cell? ⟨w.heap.size, 0, none⟩ = some (.int .i64 p) := (HB1.out.cell 0).trans rfl
       have ha1 : w1.cell? ⟨w.heap.size, 1, none⟩ = some (.int .i64 r) := (HB1.out.cell 1).trans rfl
       have ha2 : w1.cell? ⟨w.heap.size, 2, none⟩ = some (.int .i64 c) := (HB1.out.cell 2).trans rfl
       have ha3 : w1.cell? ⟨w.heap.size, 3, none⟩ = some (.slice C nc cc) := (HB1.out.cell 3).trans rfl
       have ha4 : w1.cell? ⟨w.heap.size, 4, none⟩ = some (.slice D r cd) := (HB1.out.cell 4).trans rfl
       clear hb1)
    | (go_at_call 158; refine (rreduce_ok HE1.out).mono ?_; rintro e w2 ⟨R, cap, bs, m, L, lc, lead, rfl, hR, hLd, hred, hb2⟩
       have hbb2 := bnext hbb1 hb2
       have HRed := Lib.hid hred
       clear hb2 hR hred hLd))
  go_ret2
  exact ⟨lead.length, rfl, ⟨m, lead, HRed.out, rfl⟩, hbb2⟩
end Go.Proofs.Ytoblofilaegnaaa

/-! SolAll -/
namespace Go.Proofs.Ytoblofilaegnaaa
open Go.RowKit
set_option linter.unusedVariables false

/-- What Rank hands over. -/
def RankR (p R K : Int) (cells right : List Int) (a er : Int) : Prop :=
  (errQ p R K cells right ≠ 0 ∧ a = 0 ∧ er = errQ p R K cells right) ∨ (errQ p R K cells right = 0 ∧ er = 0 ∧ ∃ rk : Nat, a = rk ∧ RankOf p K.toNat (augM R.toNat K.toNat cells right) rk)
/-- What Solve hands over. -/
def SolveR (p R K : Int) (cells right xs : List Int) (er : Int) : Prop :=
  (errQ p R K cells right ≠ 0 ∧ xs = [] ∧ er = errQ p R K cells right) ∨ (errQ p R K cells right = 0 ∧ ((xs = [] ∧ er = 6 ∧ SolveOf p K.toNat (augM R.toNat K.toNat cells right) none) ∨ (er = 0 ∧ SolveOf p K.toNat (augM R.toNat K.toNat cells right) (some xs))))
/-- What Kernel hands over. -/
def KernR (p R K : Int) (cells right : List Int) (rows : List (List Int)) (er : Int) : Prop :=
  (errQ p R K cells right ≠ 0 ∧ rows = [] ∧ er = errQ p R K cells right) ∨ (errQ p R K cells right = 0 ∧ er = 0 ∧ KernOf p K.toNat (augM R.toNat K.toNat cells right) rows)
/-- What Count hands over. -/
def CountR (p R K : Int) (cells right : List Int) (a er : Int) : Prop :=
  (errQ p R K cells right ≠ 0 ∧ a = 0 ∧ er = errQ p R K cells right) ∨ (errQ p R K cells right = 0 ∧ ((∃ u, a = u ∧ er = 0 ∧ CountOf p K.toNat (augM R.toNat K.toNat cells right) (some u)) ∨ (a = 0 ∧ er = 4 ∧ CountOf p K.toNat (augM R.toNat K.toNat cells right) none)))
/-- The error of Solves. -/
def sErr (p R K : Int) (cells right xs : List Int) : Int := if errQ p R K cells right = 0 then solvesE p K.toNat xs else errQ p R K cells right
/-- The answer of Solves. -/
def sAns (p R K : Int) (cells right xs : List Int) : Bool := decide (errQ p R K cells right = 0) && (decide (solvesE p K.toNat xs = 0) && solvesB p R.toNat K.toNat cells right xs)

section
variable {p R K : Int} {cells right : List Int}
theorem errQ_ok (h : errQ p R K cells right = 0) : 2 ≤ p := by
  unfold errQ at h
  split at h
  · rename_i h1; exact (okP_pos h1).1
  · cases h
theorem RankR.one {a b f g : Int} (h : RankR p R K cells right a f) (h' : RankR p R K cells right b g) : a = b ∧ f = g := by
  rcases h with ⟨h0, h1, h2⟩ | ⟨h0, h1, rk, h2, h3⟩ <;> rcases h' with ⟨k0, k1, k2⟩ | ⟨k0, k1, rk', k2, k3⟩
  · exact ⟨by rw [h1, k1], by rw [h2, k2]⟩
  · exact absurd k0 h0
  · exact absurd h0 k0
  · exact ⟨by rw [h2, k2, h3.one (errQ_ok h0) k3 (fun _ _ => Iff.rfl)], by rw [h1, k1]⟩
theorem SolveR.one {xs ys : List Int} {f g : Int} (h : SolveR p R K cells right xs f) (h' : SolveR p R K cells right ys g) : xs = ys ∧ f = g := by
  rcases h with ⟨h0, h1, h2⟩ | ⟨h0, ⟨h1, h2, h3⟩ | ⟨h2, h3⟩⟩ <;> rcases h' with ⟨k0, k1, k2⟩ | ⟨k0, ⟨k1, k2, k3⟩ | ⟨k2, k3⟩⟩
  · exact ⟨by rw [h1, k1], by rw [h2, k2]⟩
  · exact absurd k0 h0
  · exact absurd k0 h0
  · exact absurd h0 k0
  · exact ⟨by rw [h1, k1], by rw [h2, k2]⟩
  · cases h3.one (errQ_ok h0) k3 (fun _ => Iff.rfl)
  · exact absurd h0 k0
  · cases h3.one (errQ_ok h0) k3 (fun _ => Iff.rfl)
  · have := h3.one (errQ_ok h0) k3 (fun _ => Iff.rfl)
    injection this with this
    exact ⟨this, by rw [h2, k2]⟩
theorem KernR.one {xs ys : List (List Int)} {f g : Int} (h : KernR p R K cells right xs f) (h' : KernR p R K cells right ys g) : xs = ys ∧ f = g := by
  rcases h with ⟨h0, h1, h2⟩ | ⟨h0, h1, h3⟩ <;> rcases h' with ⟨k0, k1, k2⟩ | ⟨k0, k1, k3⟩
  · exact ⟨by rw [h1, k1], by rw [h2, k2]⟩
  · exact absurd k0 h0
  · exact absurd h0 k0
  · exact ⟨h3.one (errQ_ok h0) k3 (fun _ => Iff.rfl), by rw [h1, k1]⟩
theorem CountR.one {a b f g : Int} (h : CountR p R K cells right a f) (h' : CountR p R K cells right b g) : a = b ∧ f = g := by
  rcases h with ⟨h0, h1, h2⟩ | ⟨h0, ⟨u, h1, h2, h3⟩ | ⟨h1, h2, h3⟩⟩ <;> rcases h' with ⟨k0, k1, k2⟩ | ⟨k0, ⟨u', k1, k2, k3⟩ | ⟨k1, k2, k3⟩⟩
  · exact ⟨by rw [h1, k1], by rw [h2, k2]⟩
  · exact absurd k0 h0
  · exact absurd k0 h0
  · exact absurd h0 k0
  · have := h3.one (errQ_ok h0) k3 (fun _ => Iff.rfl)
    injection this with this
    exact ⟨by rw [h1, k1, this], by rw [h2, k2]⟩
  · cases h3.one (errQ_ok h0) k3 (fun _ => Iff.rfl)
  · exact absurd h0 k0
  · cases h3.one (errQ_ok h0) k3 (fun _ => Iff.rfl)
  · exact ⟨by rw [h1, k1], by rw [h2, k2]⟩
end

/-- What Rank leaves, for any equations. -/
def RankAll (p R K : Int) (cells right : List Int) (w : World) (e : Ending) (w' : World) : Prop := ∃ a er : Int, e = .returned (.tuple #[.int .i64 a, .int .i64 er]) ∧ RankR p R K cells right a er ∧ Below w.heap.size w w'
/-- What Solve leaves, for any equations. -/
def SolveAll (p R K : Int) (cells right : List Int) (w : World) (e : Ending) (w' : World) : Prop := ∃ (A : Option Addr) (n ca : Nat) (xs : List Int) (er : Int), e = .returned (.tuple #[.slice A n ca, .int .i64 er]) ∧ n ≤ 32 ∧ Ints w' w'.heap.size A n xs ∧ SolveR p R K cells right xs er ∧ Below w.heap.size w w'
/-- What Kernel leaves, for any equations. -/
def KernAll (p R K : Int) (cells right : List Int) (w : World) (e : Ending) (w' : World) : Prop := ∃ (A : Option Addr) (n ca : Nat) (rows : List (List Int)) (er : Int), e = .returned (.tuple #[.slice A n ca, .int .i64 er]) ∧ n ≤ 32 ∧ OwnM w' w.heap.size w.heap.size 22 A n ca rows ∧ KernR p R K cells right rows er ∧ Below w.heap.size w w'
/-- What Count leaves, for any equations. -/
def CountAll (p R K : Int) (cells right : List Int) (w : World) (e : Ending) (w' : World) : Prop := ∃ a er : Int, e = .returned (.tuple #[.int .i64 a, .int .i64 er]) ∧ CountR p R K cells right a er ∧ Below w.heap.size w w'
/-- What Solves leaves, for any equations. -/
def SolvesAll (p R K : Int) (cells right xs : List Int) (w : World) (e : Ending) (w' : World) : Prop := e = .returned (.tuple #[.bool (sAns p R K cells right xs), .int .i64 (sErr p R K cells right xs)]) ∧ Below w.heap.size w w'

section
variable {p R K : Int} {C : Option Addr} {nc cc : Nat} {D : Option Addr} {nd cd : Nat} {cells right : List Int} {w : World}
theorem srank_all (h : EqR w p R K C nc cc D nd cd cells right) :
    Calls Try.prog 95 #[eqRV p R K C nc cc D nd cd] w (RankAll p R K cells right w) := by
  by_cases h0 : errQ p R K cells right = 0
  · obtain ⟨r, c, rfl, rfl, rfl, hv⟩ := h.valid h0
    refine (rank_ok hv).mono ?_
    rintro e w' ⟨rk, rfl, h1, hb⟩
    exact ⟨rk, 0, rfl, .inr ⟨h0, rfl, rk, rfl, h1⟩, hb⟩
  · refine (srank_err h h0).mono ?_
    rintro e w' ⟨rfl, hb⟩
    exact ⟨0, _, rfl, .inl ⟨h0, rfl, rfl⟩, hb⟩
theorem ssolve_all (h : EqR w p R K C nc cc D nd cd cells right) :
    Calls Try.prog 97 #[eqRV p R K C nc cc D nd cd] w (SolveAll p R K cells right w) := by
  by_cases h0 : errQ p R K cells right = 0
  · obtain ⟨r, c, rfl, rfl, rfl, hv⟩ := h.valid h0
    have hc := hv.ok.c32
    refine (solve_ok hv).mono ?_
    rintro e w' ⟨⟨h1, rfl⟩ | ⟨g, x, h1, rfl, h2⟩, hb⟩
    · exact ⟨none, 0, 0, [], 6, rfl, by omega, Ints.nil_, .inr ⟨h0, .inl ⟨rfl, rfl, h1⟩⟩, hb⟩
    · exact ⟨_, c, c, x, 0, rfl, hc, h2.ints, .inr ⟨h0, .inr ⟨rfl, h1⟩⟩, hb⟩
  · refine (ssolve_err h h0).mono ?_
    rintro e w' ⟨rfl, hb⟩
    exact ⟨none, 0, 0, [], _, rfl, by omega, Ints.nil_, .inl ⟨h0, rfl, rfl⟩, hb⟩
theorem skernel_all (h : EqR w p R K C nc cc D nd cd cells right) :
    Calls Try.prog 99 #[eqRV p R K C nc cc D nd cd] w (KernAll p R K cells right w) := by
  by_cases h0 : errQ p R K cells right = 0
  · obtain ⟨r, c, rfl, rfl, rfl, hv⟩ := h.valid h0
    have hc := hv.ok.c32
    refine (kern_ok hv).mono ?_
    rintro e w' ⟨A, n, ca, rows, rfl, h1, h2, hn, hb⟩
    exact ⟨A, n, ca, rows, 0, rfl, by omega, h1, .inr ⟨h0, rfl, h2⟩, hb⟩
  · refine (skern_err h h0).mono ?_
    rintro e w' ⟨rfl, hb⟩
    exact ⟨none, 0, 0, [], _, rfl, by omega, OwnM.nil_, .inl ⟨h0, rfl, rfl⟩, hb⟩
theorem scount_all (h : EqR w p R K C nc cc D nd cd cells right) :
    Calls Try.prog 101 #[eqRV p R K C nc cc D nd cd] w (CountAll p R K cells right w) := by
  by_cases h0 : errQ p R K cells right = 0
  · obtain ⟨r, c, rfl, rfl, rfl, hv⟩ := h.valid h0
    refine (count_ok hv).mono ?_
    rintro e w' ⟨⟨v, h1, rfl⟩, hb⟩
    rcases v with _ | u
    · exact ⟨0, 4, rfl, .inr ⟨h0, .inr ⟨rfl, rfl, h1⟩⟩, hb⟩
    · exact ⟨u, 0, rfl, .inr ⟨h0, .inl ⟨u, rfl, rfl, h1⟩⟩, hb⟩
  · refine (scount_err h h0).mono ?_
    rintro e w' ⟨rfl, hb⟩
    exact ⟨0, _, rfl, .inl ⟨h0, rfl, rfl⟩, hb⟩
theorem ssolves_all (h : EqR w p R K C nc cc D nd cd cells right) {X : Option Addr} {m xc : Nat} {xs : List Int} (hX : Ints w w.heap.size X m xs) (hm : m ≤ 17592186044416) :
    Calls Try.prog 105 #[eqRV p R K C nc cc D nd cd, .slice X m xc] w (SolvesAll p R K cells right xs w) := by
  by_cases h0 : errQ p R K cells right = 0
  · obtain ⟨r, c, rfl, rfl, rfl, hv⟩ := h.valid h0
    refine (solves_ok hv hX hm).mono ?_
    rintro e w' ⟨b, er, rfl, h1, h2, hb⟩
    refine ⟨?_, hb⟩
    have e1 : sErr p nd c cells right xs = er := by unfold sErr; rw [if_pos h0, h1]; rfl
    have e2 : sAns p nd c cells right xs = b := by
      rw [Bool.eq_iff_iff, h2, h1]
      unfold sAns
      rw [h0]
      simp
    rw [e1, e2]
  · refine (ssolves_err h h0).mono ?_
    rintro e w' ⟨rfl, hb⟩
    refine ⟨?_, hb⟩
    have e1 : sErr p R K cells right xs = errQ p R K cells right := by unfold sErr; rw [if_neg h0]
    have e2 : sAns p R K cells right xs = false := by unfold sAns; simp [h0]
    rw [e1, e2]
theorem rrank_all (h : EqR w p R K C nc cc D nd cd cells right) :
    Calls Try.prog 96 #[eqRV p R K C nc cc D nd cd] w (RankAll p R K cells right w) := by
  by_cases h0 : errQ p R K cells right = 0
  · obtain ⟨r, c, rfl, rfl, rfl, hv⟩ := h.valid h0
    refine (rrank_ok hv).mono ?_
    rintro e w' ⟨rk, rfl, h1, hb⟩
    exact ⟨rk, 0, rfl, .inr ⟨h0, rfl, rk, rfl, h1⟩, hb⟩
  · refine (rrank_err h h0).mono ?_
    rintro e w' ⟨rfl, hb⟩
    exact ⟨0, _, rfl, .inl ⟨h0, rfl, rfl⟩, hb⟩
theorem rsolve_all (h : EqR w p R K C nc cc D nd cd cells right) :
    Calls Try.prog 98 #[eqRV p R K C nc cc D nd cd] w (SolveAll p R K cells right w) := by
  by_cases h0 : errQ p R K cells right = 0
  · obtain ⟨r, c, rfl, rfl, rfl, hv⟩ := h.valid h0
    have hc := hv.ok.c32
    refine (rsolve06_ok hv).mono ?_
    rintro e w' ⟨⟨h1, rfl⟩ | ⟨g, x, h1, rfl, h2⟩, hb⟩
    · exact ⟨none, 0, 0, [], 6, rfl, by omega, Ints.nil_, .inr ⟨h0, .inl ⟨rfl, rfl, h1⟩⟩, hb⟩
    · exact ⟨_, c, c, x, 0, rfl, hc, h2.ints, .inr ⟨h0, .inr ⟨rfl, h1⟩⟩, hb⟩
  · refine (rsolve_err h h0).mono ?_
    rintro e w' ⟨rfl, hb⟩
    exact ⟨none, 0, 0, [], _, rfl, by omega, Ints.nil_, .inl ⟨h0, rfl, rfl⟩, hb⟩
theorem rkernel_all (h : EqR w p R K C nc cc D nd cd cells right) :
    Calls Try.prog 100 #[eqRV p R K C nc cc D nd cd] w (KernAll p R K cells right w) := by
  by_cases h0 : errQ p R K cells right = 0
  · obtain ⟨r, c, rfl, rfl, rfl, hv⟩ := h.valid h0
    have hc := hv.ok.c32
    refine (rkern_ok hv).mono ?_
    rintro e w' ⟨A, n, ca, rows, rfl, h1, h2, hn, hb⟩
    exact ⟨A, n, ca, rows, 0, rfl, by omega, h1, .inr ⟨h0, rfl, h2⟩, hb⟩
  · refine (rkern_err h h0).mono ?_
    rintro e w' ⟨rfl, hb⟩
    exact ⟨none, 0, 0, [], _, rfl, by omega, OwnM.nil_, .inl ⟨h0, rfl, rfl⟩, hb⟩
theorem rcount_all (h : EqR w p R K C nc cc D nd cd cells right) :
    Calls Try.prog 102 #[eqRV p R K C nc cc D nd cd] w (CountAll p R K cells right w) := by
  by_cases h0 : errQ p R K cells right = 0
  · obtain ⟨r, c, rfl, rfl, rfl, hv⟩ := h.valid h0
    refine (rcount06_ok hv).mono ?_
    rintro e w' ⟨⟨v, h1, rfl⟩, hb⟩
    rcases v with _ | u
    · exact ⟨0, 4, rfl, .inr ⟨h0, .inr ⟨rfl, rfl, h1⟩⟩, hb⟩
    · exact ⟨u, 0, rfl, .inr ⟨h0, .inl ⟨u, rfl, rfl, h1⟩⟩, hb⟩
  · refine (rcount_err h h0).mono ?_
    rintro e w' ⟨rfl, hb⟩
    exact ⟨0, _, rfl, .inl ⟨h0, rfl, rfl⟩, hb⟩
theorem rsolves_all (h : EqR w p R K C nc cc D nd cd cells right) {X : Option Addr} {m xc : Nat} {xs : List Int} (hX : Ints w w.heap.size X m xs) (hm : m ≤ 17592186044416) :
    Calls Try.prog 106 #[eqRV p R K C nc cc D nd cd, .slice X m xc] w (SolvesAll p R K cells right xs w) := by
  by_cases h0 : errQ p R K cells right = 0
  · obtain ⟨r, c, rfl, rfl, rfl, hv⟩ := h.valid h0
    refine (rsolves_ok hv hX hm).mono ?_
    rintro e w' ⟨b, er, rfl, h1, h2, hb⟩
    refine ⟨?_, hb⟩
    have e1 : sErr p nd c cells right xs = er := by unfold sErr; rw [if_pos h0, h1]; rfl
    have e2 : sAns p nd c cells right xs = b := by
      rw [Bool.eq_iff_iff, h2, h1]
      unfold sAns
      rw [h0]
      simp
    rw [e1, e2]
  · refine (rsolves_err h h0).mono ?_
    rintro e w' ⟨rfl, hb⟩
    refine ⟨?_, hb⟩
    have e1 : sErr p R K cells right xs = errQ p R K cells right := by unfold sErr; rw [if_neg h0]
    have e2 : sAns p R K cells right xs = false := by unfold sAns; simp [h0]
    rw [e1, e2]
end
end Go.Proofs.Ytoblofilaegnaaa
