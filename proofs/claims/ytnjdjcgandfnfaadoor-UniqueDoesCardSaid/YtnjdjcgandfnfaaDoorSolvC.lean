/-
  What solve's Solve hands back for valid equations. Conditions: the lists read as their numbers.
-/
import Derived.Test.YtnjdjcgandfnfaaDoorSolvN
import Derived.Test.YtnjdjcgandfnfaaDoorPlain
namespace Go.Proofs.YtnjdjcgandfnfaaDoor
open Go.RowKit
set_option linter.unusedVariables false

theorem made_zerosS (n : Nat) : (madeCells (Value.int .i64 0).cells (n * 1)).toList = vals (List.replicate n 0) := by
  simp only [madeCells, vals, Value.cells]
  simp [Nat.mod_one]
  rw [List.map_const', List.length_range]
/-- The solution as it grows. -/
def solL (c : Nat) (lead : List Nat) (m : List (List Int)) (j : Nat) : List Int := (List.range c).map fun k => if k < j ∧ k ∈ lead then mx m (lead.idxOf k) c else 0
theorem cf_solL (c : Nat) (lead : List Nat) (m : List (List Int)) (j k : Nat) : cf (solL c lead m j) k = if k < c then (if k < j ∧ k ∈ lead then mx m (lead.idxOf k) c else 0) else 0 := by unfold solL; rw [cf_map_range]
theorem solL_len (c : Nat) (lead : List Nat) (m : List (List Int)) (j : Nat) : (solL c lead m j).length = c := by simp [solL]
theorem solL_zero (c : Nat) (lead : List Nat) (m : List (List Int)) : solL c lead m 0 = List.replicate c 0 := by
  unfold solL
  rw [List.eq_replicate_iff]
  refine ⟨by simp, fun b hb => ?_⟩
  obtain ⟨k, _, rfl⟩ := List.mem_map.1 hb
  rw [if_neg (by omega)]
theorem solL_skip {c : Nat} {lead : List Nat} {m : List (List Int)} {j : Nat} (h : j ∉ lead) : solL c lead m j = solL c lead m (j + 1) := by
  unfold solL
  refine List.map_congr_left fun k _ => ?_
  by_cases e : k = j
  · subst e; rw [if_neg (fun a => h a.2), if_neg (fun a => h a.2)]
  · by_cases e2 : k < j ∧ k ∈ lead
    · rw [if_pos e2, if_pos ⟨by omega, e2.2⟩]
    · rw [if_neg e2, if_neg (fun a => e2 ⟨by omega, a.2⟩)]
theorem solL_set {c : Nat} {lead : List Nat} {m : List (List Int)} {j : Nat} (hj : j < c) (h : j ∈ lead) : (solL c lead m j).set j (mx m (lead.idxOf j) c) = solL c lead m (j + 1) := by
  refine cf_ext (by rw [List.length_set, solL_len, solL_len]) fun k => ?_
  show ((solL c lead m j).set j _).getD k 0 = _
  rw [cf_solL, List.getD_eq_getElem?_getD, List.getElem?_set]
  by_cases e : j = k
  · subst e
    rw [if_pos rfl, if_pos (by rw [solL_len]; exact hj), if_pos hj, if_pos ⟨by omega, h⟩]; rfl
  · rw [if_neg e, ← List.getD_eq_getElem?_getD]
    show cf (solL c lead m j) k = _
    rw [cf_solL]
    by_cases hk : k < c
    · rw [if_pos hk, if_pos hk]
      by_cases e2 : k < j ∧ k ∈ lead
      · rw [if_pos e2, if_pos ⟨by omega, e2.2⟩]
      · rw [if_neg e2, if_neg (fun a => e2 ⟨by omega, a.2⟩)]
    · rw [if_neg hk, if_neg hk]
theorem solL_solX {p : Int} {c : Nat} {lead : List Nat} {m : List (List Int)} (h : RInv p c lead m) : SolX p c lead m (solL c lead m c) :=
  ⟨solL_len _ _ _ _, fun i hi => by rw [cf_solL, if_pos (h.lt i hi), if_pos ⟨h.lt i hi, lead_mem hi⟩, idxOf_lead h hi], fun j hj hm => by rw [cf_solL, if_pos hj, if_neg (fun a => hm a.2)]⟩

/-- What Solve leaves. -/
def SolvePost (p : Int) (c : Nat) (m0 : List (List Int)) (w : World) (e : Ending) (w' : World) : Prop :=
  ((SolveOf p c m0 none ∧ e = .returned (.tuple #[.slice none 0 0, .int .i64 6])) ∨
    ∃ (g : Nat) (x : List Int), SolveOf p c m0 (some x) ∧ e = .returned (.tuple #[.slice (some ⟨g, 0, none⟩) c c, .int .i64 0]) ∧ OwnI w' w.heap.size 3 (some ⟨g, 0, none⟩) c c x) ∧ Below w.heap.size w w'

set_option maxHeartbeats 800000 in
set_option maxRecDepth 100000 in
/-- A solution of valid equations. -/
theorem solve_ok {p : Int} {r c nc cc cd : Nat} {C D : Option Addr} {cells right : List Int} {w : World} (h : EqW w p r c nc C cc D cd cells right) :
    Calls Tryd.prog 60 #[eqV p r c C nc cc D r cd] w (SolvePost p c (augM r c cells right) w) := by
  obtain ⟨i0, hi0, hz0, hz1, hz2⟩ := info_parts info_int
  have hb0 : Below w.heap.size w (w.alloc (.cells (eqC p r c C nc cc D r cd) 46)) := bbox _
  have HE := Lib.hid (h.upto hb0)
  have HB0 := Lib.hid (Blk.new w 46 (eqC p r c C nc cc D r cd))
  have HL := h.ln
  have hc32 := h.ok.c32
  have hr32 := h.ok.r32
  have hp := okP_pos h.ok.ok
  clear h
  go_enter Tryd.func60, Tryd.ntmps60
  go_wp2_with (first
    | (go_at_call 74; refine (scheck_ok p r c nc C cc D cd cells right _ HE.out.ok (Lib.hid HL) HE.out.hC HE.out.hD).mono ?_; rintro e w1 ⟨rfl, hb1⟩
       have HB1 := Lib.hid (HB0.out.below hb1 HB0.out.lt)
       have HE1 := Lib.hid (HE.out.upto hb1)
       have hbb1 := hb0.trans (hb1.mono (by simp))
       have hs1 := HB1.out.lt
       have ha0 : w1.cell? ⟨w.heap.size, 0, none⟩ = some (.int .i64 p) := (HB1.out.cell 0).trans rfl
       have ha1 : w1.cell? ⟨w.heap.size, 1, none⟩ = some (.int .i64 r) := (HB1.out.cell 1).trans rfl
       have ha2 : w1.cell? ⟨w.heap.size, 2, none⟩ = some (.int .i64 c) := (HB1.out.cell 2).trans rfl
       have ha3 : w1.cell? ⟨w.heap.size, 3, none⟩ = some (.slice C nc cc) := (HB1.out.cell 3).trans rfl
       have ha4 : w1.cell? ⟨w.heap.size, 4, none⟩ = some (.slice D r cd) := (HB1.out.cell 4).trans rfl
       clear hb1)
    | (go_at_call 75; refine (reduce_ok p r c nc C cc D cd cells right _ HE1.out.ok (Lib.hid HL) HE1.out.hC HE1.out.hD HE1.out.cap).mono ?_; rintro e w2 ⟨R, cap, bs, m, lead, rfl, hR, hred, hb2⟩
       have hbb2 := bnext hbb1 hb2
       have HR2 := Lib.hid hR
       have HRed := Lib.hid hred
       have HB2 := Lib.hid (HB1.out.below hb2 HB1.out.lt)
       clear hb2 hR hred)
    | (go_at_call 76; refine (?_ : Hid _).out))
  refine Lib.hid ?_
  refine (solvable_any _ _ p c R r cap bs m lead lead.length _ HR2.out (Lib.hid rfl) (by rw [← HR2.out.ln]; exact HRed.out.inv.rm) hr32).mono ?_
  rintro e w3 ⟨b, rfl, hbi, hb3⟩
  have hbb3 := bnext hbb2 hb3
  have HR3 := Lib.hid (HR2.out.below hb3)
  have HB3 := Lib.hid (HB2.out.below hb3 HB2.out.lt)
  have HBI := Lib.hid hbi
  clear hb3 hbi ha0 ha1 ha2 ha3 ha4
  rcases b with _ | _
  · have hcl : ¬ NoClash c lead.length m := fun h => by cases HBI.out.2 h
    have HC : Hid (SolveOf p c (augM r c cells right) none) := Lib.hid ⟨m, lead, HRed.out, hcl⟩
    clear hcl
    go_wp2
    go_ret2
    exact ⟨.inl ⟨HC.out, rfl⟩, hbb3⟩
  · have hcl : NoClash c lead.length m := HBI.out.1 rfl
    have HC : Hid (SolveOf p c (augM r c cells right) (some (solL c lead m c))) := Lib.hid ⟨m, lead, HRed.out, hcl, solL_solX HRed.out.inv⟩
    have ha2 : w3.cell? ⟨w.heap.size, 2, none⟩ = some (.int .i64 c) := (HB3.out.cell 2).trans rfl
    have hc0 : (0 : Int) ≤ (c : Int) := by omega
    clear hcl HR2 HB2 HE HE1
    go_wp2_with (
        at_make
        refine wpList_make_full _ rfl _ _ 22 rfl w.heap.size 3 i0 (.int .i64 0) 1 Tryd.underlying22 hi0 hz0 hz1 .i64 .i64 c c c rfl rfl rfl rfl (by rw [hz2]; omega) (by unfold maxLen; omega) hbb3.size ?_
        intro w4 hown hgr
        have hown4 : OwnI w4 w.heap.size 3 (some ⟨w3.heap.size, 0, none⟩) c c (List.replicate c 0) := by rw [made_zerosS] at hown; exact hown
        have hb4 : Below w3.heap.size w3 w4 := (Below.refl _ _).grown hgr (Nat.le_refl _) (fun k hk => by cases hk)
        have ha24 : w4.cell? ⟨w.heap.size, 2, none⟩ = some (.int .i64 c) := (hb4.cell (p := ⟨w.heap.size, 2, none⟩) HB3.out.lt).trans ha2
        clear hown hgr ha2)
    obtain ⟨g, hg⟩ : ∃ g, w3.heap.size = g := ⟨_, rfl⟩
    rw [hg] at hown4 hb4 ⊢
    have HG := Lib.hid hg
    have hgw : w.heap.size ≤ g := by rw [← hg]; exact hbb3.size
    clear hg
    go_loopw [24] (fun v wx => ∃ j : Nat, j ≤ c ∧ v = .int .i64 j ∧ OwnI wx w.heap.size 3 (some ⟨g, 0, none⟩) c c (solL c lead m j) ∧ Below g w3 wx) (fun v _ => c - (intOf v).toNat)
    case atStart => exact ⟨0, Nat.zero_le _, rfl, by rw [solL_zero]; exact hown4, hb4⟩
    case round =>
      obtain ⟨j, hj, rfl, hown, hb⟩ := hrel
      by_cases hlt : j < c
      · have HRx := Lib.hid (HR3.out.below (by rw [HG.out]; exact hb))
        have hbx2 : wr.cell? ⟨w.heap.size, 2, none⟩ = some (.int .i64 c) := (hb.cell (p := ⟨w.heap.size, 2, none⟩) (by rw [← HG.out]; exact HB3.out.lt)).trans ((HB3.out.cell 2).trans rfl)
        have hx4 : wr.cell? ⟨w1.heap.size + 1, 4 + j, none⟩ = some (.int .i64 ((ldL lead).getD j 0)) := (HRx.out.blk.cell (4 + j)).trans (redC_ld _ _ _ _ (ldL_len lead) (by omega))
        rw [ldL_at _ (by omega)] at hx4
        have h1 : (j : Int) < (c : Int) := by omega
        have h0 : (0 : Int) ≤ (j : Int) := by omega
        have h32 : (j : Int) < 32 := by omega
        by_cases hjl : j ∈ lead
        · rw [if_pos hjl] at hx4
          have hidx := List.idxOf_lt_length_of_mem hjl
          have HST := Lib.hid (solL_set (m := m) hlt hjl)
          have hrm := HRed.out.inv.rm
          have hmn := HRx.out.ln
          have hx2 : wr.cell? ⟨w1.heap.size + 1, 2, none⟩ = some (.slice R r cap) := (HRx.out.blk.cell 2).trans (redC_2 _ _ _ _ _)
          obtain ⟨go, hRe, _, _, _, hbn, hrow⟩ := HRx.out.form (by omega)
          have hri := (hrow (lead.idxOf j) (by omega)).1
          have hcell := (HRx.out.rws.own (lead.idxOf j) (by omega)).cellAt (j := c) (by omega)
          subst hRe
          obtain ⟨i, hi⟩ : ∃ i, lead.idxOf j = i := ⟨_, rfl⟩
          rw [hi] at hx4 hidx hri hcell HST
          obtain ⟨bi, hbi⟩ : ∃ b, (bs.getD i (0, 0)).1 = b := ⟨_, rfl⟩
          obtain ⟨ci, hci⟩ : ∃ b, (bs.getD i (0, 0)).2 = b := ⟨_, rfl⟩
          rw [hbi, hci] at hri
          rw [hbi] at hcell
          obtain ⟨y, hy⟩ : ∃ y, mx m i c = y := ⟨_, rfl⟩
          rw [show (m.getD i []).getD c 0 = mx m i c from rfl, hy] at hcell
          rw [hy] at HST
          have hn1 : (i : Int) + 1 - 1 = (i : Int) := by omega
          have hi1 : (i : Int) < (r : Int) := by omega
          have hi0 : (0 : Int) ≤ (i : Int) := by omega
          have hin : (0 : Int) < (i : Int) + 1 := by omega
          have hcc : (c : Int) < ((c + 1 : Nat) : Int) := by omega
          have hfz := hown.frozenAt j
          have hoc := hown.cellAt hlt
          have hst := hown.stored j y
          rw [HST.out] at hst
          have HS := Lib.hid hst
          have HBS := Lib.hid (hb.setCell (p := ⟨g, j, none⟩) (Nat.le_refl _) (.int .i64 y))
          clear hst hown hbi hci hrow hbn
          go_wp2_with fail
          go_region
          all_goals go_wp2
          all_goals go_roundw
          all_goals first
            | exact ⟨⟨j + 1, by omega, by go_num, HS.out.drew, HBS.out.drew⟩, by simp [intOf]; omega⟩
            | exact ⟨j + 1, by omega, by go_num, HS.out.drew, HBS.out.drew⟩
            | exact ⟨⟨j + 1, by omega, by go_num, HS.out, HBS.out⟩, by simp [intOf]; omega⟩
            | exact ⟨j + 1, by omega, by go_num, HS.out, HBS.out⟩
            | (simp [intOf]; omega)
        · rw [if_neg hjl] at hx4
          have HST := Lib.hid (solL_skip (c := c) (m := m) hjl)
          clear hjl
          go_wp2
          go_roundw
          case rel => exact ⟨j + 1, by omega, by go_num, by rw [← HST.out]; exact hown, hb⟩
          case measure => simp [intOf]; omega
      · obtain rfl : j = c := by omega
        go_wp2
        go_ret2
        exact ⟨.inr ⟨g, _, HC.out, rfl, hown⟩, hbb3.trans (hb.mono hgw)⟩
end Go.Proofs.YtnjdjcgandfnfaaDoor
