/-
  Words for memory and contracts of small functions of the second form. Conditions: those of each lemma.
-/
import Derived.Test.YtmcgnpdfpfgfpaaGreatDoorGUni
import Derived.Test.YtmcgnpdfpfgfpaaGreatDoorPlain
import Derived.Test.YtmcgnpdfpfgfpaaGreatDoorGBas
import Derived.Test.YtmcgnpdfpfgfpaaGreatDoorGPol
import Derived.Deep.RegionHeld3
/-! SolvC -/
namespace Go.Proofs.YtmcgnpdfpfgfpaaGreatDoor
open Go.RowKit
set_option linter.unusedVariables false

theorem made_zerosS (n : Nat) : (madeCells (Value.int .i64 0).cells (n * 1)).toList = vals (List.replicate n 0) := by
  simp only [madeCells, vals, Value.cells]
  simp [Nat.mod_one]
  rw [List.map_const', List.length_range]
/-- The solution as it grows. -/
def solL (c : Nat) (lead : List Nat) (m : List (List Int)) (j : Nat) : List Int := (List.range c).map fun k => if k < j ∧ k ∈ lead then mx m (lead.idxOf k) c else 0
theorem cf_solL (c : Nat) (lead : List Nat) (m : List (List Int)) (j k : Nat) : cf (solL c lead m j) k = if k < c then (if k < j ∧ k ∈ lead then mx m (lead.idxOf k) c else 0) else 0 := by unfold solL; rw [cf_map_range]
theorem solL_len (c : Nat) (lead : List Nat) (m : List (List Int)) (j : Nat) : (solL c lead m j).length = c := by simp [solL]
theorem solL_zero (c : Nat) (lead : List Nat) (m : List (List Int)) : solL c lead m 0 = List.replicate c 0 := by
  unfold solL
  rw [List.eq_replicate_iff]
  refine ⟨by simp, fun b hb => ?_⟩
  obtain ⟨k, _, rfl⟩ := List.mem_map.1 hb
  rw [if_neg (by omega)]
theorem solL_skip {c : Nat} {lead : List Nat} {m : List (List Int)} {j : Nat} (h : j ∉ lead) : solL c lead m j = solL c lead m (j + 1) := by
  unfold solL
  refine List.map_congr_left fun k _ => ?_
  by_cases e : k = j
  · subst e; rw [if_neg (fun a => h a.2), if_neg (fun a => h a.2)]
  · by_cases e2 : k < j ∧ k ∈ lead
    · rw [if_pos e2, if_pos ⟨by omega, e2.2⟩]
    · rw [if_neg e2, if_neg (fun a => e2 ⟨by omega, a.2⟩)]
theorem solL_set {c : Nat} {lead : List Nat} {m : List (List Int)} {j : Nat} (hj : j < c) (h : j ∈ lead) : (solL c lead m j).set j (mx m (lead.idxOf j) c) = solL c lead m (j + 1) := by
  refine cf_ext (by rw [List.length_set, solL_len, solL_len]) fun k => ?_
  show ((solL c lead m j).set j _).getD k 0 = _
  rw [cf_solL, List.getD_eq_getElem?_getD, List.getElem?_set]
  by_cases e : j = k
  · subst e
    rw [if_pos rfl, if_pos (by rw [solL_len]; exact hj), if_pos hj, if_pos ⟨by omega, h⟩]; rfl
  · rw [if_neg e, ← List.getD_eq_getElem?_getD]
    show cf (solL c lead m j) k = _
    rw [cf_solL]
    by_cases hk : k < c
    · rw [if_pos hk, if_pos hk]
      by_cases e2 : k < j ∧ k ∈ lead
      · rw [if_pos e2, if_pos ⟨by omega, e2.2⟩]
      · rw [if_neg e2, if_neg (fun a => e2 ⟨by omega, a.2⟩)]
    · rw [if_neg hk, if_neg hk]
theorem solL_solX {p : Int} {c : Nat} {lead : List Nat} {m : List (List Int)} (h : RInv p c lead m) : SolX p c lead m (solL c lead m c) :=
  ⟨solL_len _ _ _ _, fun i hi => by rw [cf_solL, if_pos (h.lt i hi), if_pos ⟨h.lt i hi, lead_mem hi⟩, idxOf_lead h hi], fun j hj hm => by rw [cf_solL, if_pos hj, if_neg (fun a => hm a.2)]⟩

/-- What Solve leaves. -/
def SolvePost (p : Int) (c : Nat) (m0 : List (List Int)) (w : World) (e : Ending) (w' : World) : Prop :=
  ((SolveOf p c m0 none ∧ e = .returned (.tuple #[.slice none 0 0, .int .i64 6])) ∨
    ∃ (g : Nat) (x : List Int), SolveOf p c m0 (some x) ∧ e = .returned (.tuple #[.slice (some ⟨g, 0, none⟩) c c, .int .i64 0]) ∧ OwnI w' w.heap.size 3 (some ⟨g, 0, none⟩) c c x) ∧ Below w.heap.size w w'

set_option maxHeartbeats 800000 in
set_option maxRecDepth 100000 in
/-- A solution of valid equations. -/
theorem solve_ok {p : Int} {r c nc cc cd : Nat} {C D : Option Addr} {cells right : List Int} {w : World} (h : EqW w p r c nc C cc D cd cells right) :
    Calls Tryz.prog 163 #[eqV p r c C nc cc D r cd] w (SolvePost p c (augM r c cells right) w) := by
  obtain ⟨i0, hi0, hz0, hz1, hz2⟩ := info_parts info_int
  have hb0 : Below w.heap.size w (w.alloc (.cells (eqC p r c C nc cc D r cd) 237)) := bbox _
  have HE := Lib.hid (h.upto hb0)
  have HB0 := Lib.hid (Blk.new w 237 (eqC p r c C nc cc D r cd))
  have HL := h.ln
  have hc32 := h.ok.c32
  have hr32 := h.ok.r32
  have hp := okP_pos h.ok.ok
  clear h
  go_enter Tryz.func163, Tryz.ntmps163
  go_wp2_with (first
    | (go_at_call 179; refine (scheck_ok p r c nc C cc D cd cells right _ HE.out.ok (Lib.hid HL) HE.out.hC HE.out.hD).mono ?_; rintro e w1 ⟨rfl, hb1⟩
       have HB1 := Lib.hid (HB0.out.below hb1 HB0.out.lt)
       have HE1 := Lib.hid (HE.out.upto hb1)
       have hbb1 := hb0.trans (hb1.mono (by simp))
       have hs1 := HB1.out.lt
       have ha0 : w1.cell? ⟨w.heap.size, 0, none⟩ = some (.int .i64 p) := (HB1.out.cell 0).trans rfl
       have ha1 : w1.cell? ⟨w.heap.size, 1, none⟩ = some (.int .i64 r) := (HB1.out.cell 1).trans rfl
       have ha2 : w1.cell? ⟨w.heap.size, 2, none⟩ = some (.int .i64 c) := (HB1.out.cell 2).trans rfl
       have ha3 : w1.cell? ⟨w.heap.size, 3, none⟩ = some (.slice C nc cc) := (HB1.out.cell 3).trans rfl
       have ha4 : w1.cell? ⟨w.heap.size, 4, none⟩ = some (.slice D r cd) := (HB1.out.cell 4).trans rfl
       clear hb1)
    | (go_at_call 180; refine (reduce_ok p r c nc C cc D cd cells right _ HE1.out.ok (Lib.hid HL) HE1.out.hC HE1.out.hD HE1.out.cap).mono ?_; rintro e w2 ⟨R, cap, bs, m, lead, rfl, hR, hred, hb2⟩
       have hbb2 := bnext hbb1 hb2
       have HR2 := Lib.hid hR
       have HRed := Lib.hid hred
       have HB2 := Lib.hid (HB1.out.below hb2 HB1.out.lt)
       clear hb2 hR hred)
    | (go_at_call 181; refine (?_ : Hid _).out))
  refine Lib.hid ?_
  refine (solvable_any _ _ p c R r cap bs m lead lead.length _ HR2.out (Lib.hid rfl) (by rw [← HR2.out.ln]; exact HRed.out.inv.rm) hr32).mono ?_
  rintro e w3 ⟨b, rfl, hbi, hb3⟩
  have hbb3 := bnext hbb2 hb3
  have HR3 := Lib.hid (HR2.out.below hb3)
  have HB3 := Lib.hid (HB2.out.below hb3 HB2.out.lt)
  have HBI := Lib.hid hbi
  clear hb3 hbi ha0 ha1 ha2 ha3 ha4
  rcases b with _ | _
  · have hcl : ¬ NoClash c lead.length m := fun h => by cases HBI.out.2 h
    have HC : Hid (SolveOf p c (augM r c cells right) none) := Lib.hid ⟨m, lead, HRed.out, hcl⟩
    clear hcl
    go_wp2
    go_ret2
    exact ⟨.inl ⟨HC.out, rfl⟩, hbb3⟩
  · have hcl : NoClash c lead.length m := HBI.out.1 rfl
    have HC : Hid (SolveOf p c (augM r c cells right) (some (solL c lead m c))) := Lib.hid ⟨m, lead, HRed.out, hcl, solL_solX HRed.out.inv⟩
    have ha2 : w3.cell? ⟨w.heap.size, 2, none⟩ = some (.int .i64 c) := (HB3.out.cell 2).trans rfl
    have hc0 : (0 : Int) ≤ (c : Int) := by omega
    clear hcl HR2 HB2 HE HE1
    go_wp2_with (
        at_make
        refine wpList_make_full _ rfl _ _ 22 rfl w.heap.size 3 i0 (.int .i64 0) 1 Tryz.underlying22 hi0 hz0 hz1 .i64 .i64 c c c rfl rfl rfl rfl (by rw [hz2]; omega) (by unfold maxLen; omega) hbb3.size ?_
        intro w4 hown hgr
        have hown4 : OwnI w4 w.heap.size 3 (some ⟨w3.heap.size, 0, none⟩) c c (List.replicate c 0) := by rw [made_zerosS] at hown; exact hown
        have hb4 : Below w3.heap.size w3 w4 := (Below.refl _ _).grown hgr (Nat.le_refl _) (fun k hk => by cases hk)
        have ha24 : w4.cell? ⟨w.heap.size, 2, none⟩ = some (.int .i64 c) := (hb4.cell (p := ⟨w.heap.size, 2, none⟩) HB3.out.lt).trans ha2
        clear hown hgr ha2)
    obtain ⟨g, hg⟩ : ∃ g, w3.heap.size = g := ⟨_, rfl⟩
    rw [hg] at hown4 hb4 ⊢
    have HG := Lib.hid hg
    have hgw : w.heap.size ≤ g := by rw [← hg]; exact hbb3.size
    clear hg
    go_loopw [24] (fun v wx => ∃ j : Nat, j ≤ c ∧ v = .int .i64 j ∧ OwnI wx w.heap.size 3 (some ⟨g, 0, none⟩) c c (solL c lead m j) ∧ Below g w3 wx) (fun v _ => c - (intOf v).toNat)
    case atStart => exact ⟨0, Nat.zero_le _, rfl, by rw [solL_zero]; exact hown4, hb4⟩
    case round =>
      obtain ⟨j, hj, rfl, hown, hb⟩ := hrel
      by_cases hlt : j < c
      · have HRx := Lib.hid (HR3.out.below (by rw [HG.out]; exact hb))
        have hbx2 : wr.cell? ⟨w.heap.size, 2, none⟩ = some (.int .i64 c) := (hb.cell (p := ⟨w.heap.size, 2, none⟩) (by rw [← HG.out]; exact HB3.out.lt)).trans ((HB3.out.cell 2).trans rfl)
        have hx4 : wr.cell? ⟨w1.heap.size + 1, 4 + j, none⟩ = some (.int .i64 ((ldL lead).getD j 0)) := (HRx.out.blk.cell (4 + j)).trans (redC_ld _ _ _ _ (ldL_len lead) (by omega))
        rw [ldL_at _ (by omega)] at hx4
        have h1 : (j : Int) < (c : Int) := by omega
        have h0 : (0 : Int) ≤ (j : Int) := by omega
        have h32 : (j : Int) < 32 := by omega
        by_cases hjl : j ∈ lead
        · rw [if_pos hjl] at hx4
          have hidx := List.idxOf_lt_length_of_mem hjl
          have HST := Lib.hid (solL_set (m := m) hlt hjl)
          have hrm := HRed.out.inv.rm
          have hmn := HRx.out.ln
          have hx2 : wr.cell? ⟨w1.heap.size + 1, 2, none⟩ = some (.slice R r cap) := (HRx.out.blk.cell 2).trans (redC_2 _ _ _ _ _)
          obtain ⟨go, hRe, _, _, _, hbn, hrow⟩ := HRx.out.form (by omega)
          have hri := (hrow (lead.idxOf j) (by omega)).1
          have hcell := (HRx.out.rws.own (lead.idxOf j) (by omega)).cellAt (j := c) (by omega)
          subst hRe
          obtain ⟨i, hi⟩ : ∃ i, lead.idxOf j = i := ⟨_, rfl⟩
          rw [hi] at hx4 hidx hri hcell HST
          obtain ⟨bi, hbi⟩ : ∃ b, (bs.getD i (0, 0)).1 = b := ⟨_, rfl⟩
          obtain ⟨ci, hci⟩ : ∃ b, (bs.getD i (0, 0)).2 = b := ⟨_, rfl⟩
          rw [hbi, hci] at hri
          rw [hbi] at hcell
          obtain ⟨y, hy⟩ : ∃ y, mx m i c = y := ⟨_, rfl⟩
          rw [show (m.getD i []).getD c 0 = mx m i c from rfl, hy] at hcell
          rw [hy] at HST
          have hn1 : (i : Int) + 1 - 1 = (i : Int) := by omega
          have hi1 : (i : Int) < (r : Int) := by omega
          have hi0 : (0 : Int) ≤ (i : Int) := by omega
          have hin : (0 : Int) < (i : Int) + 1 := by omega
          have hcc : (c : Int) < ((c + 1 : Nat) : Int) := by omega
          have hfz := hown.frozenAt j
          have hoc := hown.cellAt hlt
          have hst := hown.stored j y
          rw [HST.out] at hst
          have HS := Lib.hid hst
          have HBS := Lib.hid (hb.setCell (p := ⟨g, j, none⟩) (Nat.le_refl _) (.int .i64 y))
          clear hst hown hbi hci hrow hbn
          go_wp2_with fail
          go_region
          all_goals go_wp2
          all_goals go_roundw
          all_goals first
            | exact ⟨⟨j + 1, by omega, by go_num, HS.out.drew, HBS.out.drew⟩, by simp [intOf]; omega⟩
            | exact ⟨j + 1, by omega, by go_num, HS.out.drew, HBS.out.drew⟩
            | exact ⟨⟨j + 1, by omega, by go_num, HS.out, HBS.out⟩, by simp [intOf]; omega⟩
            | exact ⟨j + 1, by omega, by go_num, HS.out, HBS.out⟩
            | (simp [intOf]; omega)
        · rw [if_neg hjl] at hx4
          have HST := Lib.hid (solL_skip (c := c) (m := m) hjl)
          clear hjl
          go_wp2
          go_roundw
          case rel => exact ⟨j + 1, by omega, by go_num, by rw [← HST.out]; exact hown, hb⟩
          case measure => simp [intOf]; omega
      · obtain rfl : j = c := by omega
        go_wp2
        go_ret2
        exact ⟨.inr ⟨g, _, HC.out, rfl, hown⟩, hbb3.trans (hb.mono hgw)⟩
end Go.Proofs.YtmcgnpdfpfgfpaaGreatDoor

/-! Divide -/
namespace Go.Proofs.YtmcgnpdfpfgfpaaGreatDoor
open Go.RowKit
set_option linter.unusedVariables false

theorem tn_take (l : List Int) (n : Nat) : ∀ k, k ≤ n → tn (l.take n) k = tn l k
  | 0, _ => rfl
  | k + 1, h => by
    simp only [tn]
    have e : cf (l.take n) k = cf l k := by rw [cf_take, if_pos (show k < n by omega)]
    rw [e, tn_take l n k (by omega)]

theorem Dvs.done_at {p : Int} {xs ys bs ts qs : List Int} {lr : Nat} (h : Dvs p xs bs ts qs lr) (hb : trimL ys = bs) (hl : lr < bs.length) : DivOf p xs ys (trimL qs) (ts.take lr) := by
  subst hb; exact h.done hl

set_option maxRecDepth 100000 in
set_option maxHeartbeats 1600000 in
theorem pdivide_ok (p : Int) (A B : Option Addr) (n m c d : Nat) (xs ys : List Int) (w : World) (hok : okP p = true) (h : Ints w w.heap.size A n xs) (h2 : Ints w w.heap.size B m ys) (hx : allP p xs = true) (hy : allP p ys = true) (hc : n ≤ c) (hd : m ≤ d) (hn : n ≤ 512) (hm : m ≤ 512) (hz : 0 < tn ys m) :
    Calls Tryz.prog 164 #[.agg #[.int .i64 p], .slice A n c, .slice B m d] w fun e w' =>
      (∃ (Q R : List Int) (A1 : Option Addr) (c1 : Nat) (A2 : Option Addr) (c2 : Nat), e = .returned (.tuple #[.slice A1 Q.length c1, .slice A2 R.length c2, .int .i64 0]) ∧ OwnI w' w.heap.size 3 A1 Q.length c1 Q ∧ OwnI w' w.heap.size 3 A2 R.length c2 R ∧ DivOf p xs ys Q R ∧ Q.length ≤ n) ∧ Below w.heap.size w w' := by
  obtain ⟨i0, hi0, hz0, hz1, hz2⟩ := info_parts info_int
  have hp := okP_pos hok
  have HO := Lib.hid hok
  have HR : Hid (∀ r ∈ [xs, ys], allP p r = true ∧ r.length ≤ 512) := Lib.hid fun r hr => by
    simp only [List.mem_cons, List.not_mem_nil, or_false] at hr
    rcases hr with rfl | rfl
    · exact ⟨hx, by rw [h.len]; exact hn⟩
    · exact ⟨hy, by rw [h2.len]; exact hm⟩
  have hta0 := tn_le xs n
  have hnb0 := tn_le ys m
  have hIB := h2.trim
  have HBA := Lib.hid (trimL_allP hy)
  obtain ⟨ta, HTA⟩ : ∃ ta, Hid (tn xs n = ta) := ⟨_, Lib.hid rfl⟩
  obtain ⟨nb, HNB⟩ : ∃ nb, Hid (tn ys m = nb) := ⟨_, Lib.hid rfl⟩
  rw [HTA.out] at hta0
  rw [HNB.out] at hnb0 hz hIB
  have hxl := h.len
  have HXL : Hid ((trimL xs).length = ta) := Lib.hid (by rw [trimL_len, hxl, HTA.out])
  obtain ⟨bs, HBS⟩ : ∃ bs, Hid (trimL ys = bs) := ⟨_, Lib.hid rfl⟩
  rw [HBS.out] at hIB HBA
  have HBL := Lib.hid hIB.len
  obtain ⟨n1, hn1⟩ : ∃ n1, nb = n1 + 1 := ⟨nb - 1, by omega⟩
  have hbl : 0 < bs.getD n1 0 ∧ bs.getD n1 0 < p := by
    have h3 := allP_getD HBA.out (k := n1) (by rw [HBL.out]; omega)
    have h4 : cf bs n1 ≠ 0 := by rw [← HBS.out]; exact trimL_trimd ys n1 (by rw [HBS.out, HBL.out, hn1])
    have h5 : bs.getD n1 0 ≠ 0 := h4
    omega
  obtain ⟨L, hL⟩ : ∃ L : Nat, (L : Int) = max 0 ((ta : Int) - (nb : Int) + 1) := ⟨(max 0 ((ta : Int) - (nb : Int) + 1)).toNat, by omega⟩
  have hL2 : ta + 1 ≤ L + nb ∧ L ≤ ta + 1 ∧ (L ≤ n) := by omega
  have HST : Hid (Dvs p xs bs (trimL xs) (List.replicate L 0) ta) := Lib.hid (by
    have := Dvs.start hp.1 hx bs L (by rw [HXL.out, HBL.out]; omega)
    rwa [HXL.out] at this)
  obtain ⟨bB, oB, rfl, hbB, hcB⟩ := hIB.2 (by omega)
  have hcB1 := hcB n1 (by omega)
  have hnb1 : (nb : Int) - 1 = (n1 : Int) := by omega
  have HN1 := Lib.hid hn1
  have hn1b : (n1 : Int) < (nb : Int) := by omega
  have hn10 : (0 : Int) ≤ (n1 : Int) := by omega
  clear hx hy hok hcB hxl hn1
  go_enter Tryz.func164, Tryz.ntmps164
  go_wp2_with (first
    | (go_at_call 121; (refine (open_ok p _ 2 2 [xs, ys] _ HO.out (by exact Mat.two _ A (some ⟨bB, oB, none⟩) n m c d xs ys 22 _ (by simp) (h.upto (bbox _)) (h2.upto (bbox _)) (by omega) (by omega)) (by omega) HR.out).mono ?_); rintro e w1 ⟨rfl, hb1⟩
       have hbb1 := bnext (ballocs (bbox _) _) hb1
       have hs1 := hbb1.size
       clear hb1)
    | (go_at_call 125; (with_reducible refine (own_any A n c xs w1 (h.upto hbb1) hc (by omega)).mono ?_); rintro e w2 ⟨⟨AR, c0, rfl, hown2⟩, hb2⟩
       rw [HTA.out] at hown2
       rw [HTA.out]
       have hbb2 := bnext hbb1 hb2
       have hO2 := hown2.base hs1
       have hta := hown2.cap
       have hgr : ∀ g s, AR = some ⟨g, 0, s⟩ → g < w2.heap.size := fun g s e => (World.ownsRow.lt hown2 g (by rw [e]; rfl)).2
       have hs2 := hbb2.size
       clear hown2 hb2)
    | (go_at_call 138; (with_reducible refine (trim_any (some ⟨bB, oB, none⟩) m d ys w2 (h2.upto hbb2) hd (by omega)).mono ?_); rintro e w' ⟨rfl, rfl⟩
       rw [HNB.out])
    | (at_make
       refine wpList_make_full _ rfl _ _ 22 rfl w.heap.size 3 i0 (.int .i64 0) 1 Tryz.underlying22 hi0 hz0 hz1 .i64 .i64 _ _ L rfl rfl (by first | rfl | omega) (by first | rfl | omega) (by rw [hz2]; omega) (by unfold maxLen; omega) hs2 ?_
       intro w3 hown hgr3
       have hown3 : OwnI w3 w.heap.size 3 (some ⟨w2.heap.size, 0, none⟩) L L (List.replicate L 0) := by rw [zeros_made] at hown; exact hown
       have hbb3 : Below w.heap.size w w3 := hbb2.grown hgr3 hs2 (fun k hk => by cases hk)
       have hO3 := hO2.kept hgr3 (by
         cases hv : (Value.slice AR ta c0).ownBlock with
         | none => exact .inl rfl
         | some g => exact .inr (by simp))
       have hcb3 := (hbb3.cell (p := ⟨bB, oB + n1, none⟩) hbB).trans hcB1
       clear hown hgr3)
    | (go_at_call 123; refine (inv_ok p (bs.getD n1 0) _ HO.out hbl).mono ?_; rintro e w' ⟨⟨inv, rfl, hinv, HINV⟩, rfl⟩))
  all_goals
    have HBI := HINV
    obtain ⟨bl, HBl⟩ : ∃ bl, Hid (bs.getD n1 0 = bl) := ⟨_, Lib.hid rfl⟩
    have hgq := hs2
    generalize hgqe : w2.heap.size = gq at *
    clear hO2 hbb2 hs1 hs2 hbb1 hi0 hz0 hz1 hz2
    go_loopw [11] (fun v wz => ∃ (lr cr : Nat) (ts qs : List Int), v = .slice AR lr cr ∧ lr ≤ cr ∧ lr ≤ ta ∧ OwnI wz w.heap.size 3 AR ta c0 ts ∧ OwnI wz w.heap.size 3 (some ⟨gq, 0, none⟩) L L qs ∧ Hid (Dvs p xs bs ts qs lr) ∧ Below w.heap.size w wz) (fun v _ => sliceLen v)
    case atStart => exact ⟨ta, c0, _, _, rfl, hta, Nat.le_refl _, hO3, hown3, HST, hbb3⟩
    case round =>
      obtain ⟨lr, cr, ts, qs, rfl, hlc, hlt, hoT, hoQ, HD, hbz⟩ := hrel
      by_cases hge : nb ≤ lr
      · (try (exfalso; omega))
        all_goals
          obtain ⟨l1, hl1⟩ : ∃ l1, lr = l1 + 1 := ⟨lr - 1, by omega⟩
          obtain ⟨at0, hat0⟩ : ∃ at0, at0 + n1 = l1 := ⟨l1 - n1, by have := HN1.out; omega⟩
          have hn1e := HN1.out
          have hlr1 : (lr : Int) - 1 = (l1 : Int) := by omega
          have hat1 : (lr : Int) - (nb : Int) = (at0 : Int) := by omega
          obtain ⟨gr, rfl, hgr0, hgr2⟩ := hoT.form (by omega)
          have hgrq : gr ≠ gq := by have := hgr gr none rfl; omega
          have hTL := hoT.len
          have hct := hoT.cellAt (j := l1) (by omega)
          have htin := allP_getD HD.out.at_ (k := l1) (by omega)
          have hatL : at0 < L := by omega
          have hcq := hoQ.cellAt hatL
          have hfq := hoQ.frozenAt at0
          have HDS : Hid (∀ q, q = mulP p (ts.getD l1 0) inv → Dvs p xs bs (addTo p (subP p 0 q) at0 bs ts (n1 + 1)) (qs.set at0 q) (tn (addTo p (subP p 0 q) at0 bs ts (n1 + 1)) l1)) := Lib.hid fun q hq => by
            have h9 := HD.out
            rw [hl1] at h9
            exact h9.step hp.1 (by rw [HBL.out, hn1e]) hat0 HBI.out hq
          have hcbz := (hbz.cell (p := ⟨bB, oB + n1, none⟩) hbB).trans hcB1
          obtain ⟨tl, HTl⟩ : ∃ tl, Hid (ts.getD l1 0 = tl) := ⟨_, Lib.hid rfl⟩
          rw [HTl.out] at hct htin HDS
          rw [HBl.out] at hcbz
          have hmq := mulP_in tl inv hp.1
          obtain ⟨q, HQ⟩ : ∃ q, Hid (mulP p tl inv = q) := ⟨_, Lib.hid rfl⟩
          rw [HQ.out] at hmq
          have HD2 := Lib.hid (HDS.out q HQ.out.symm)
          have hsq := subP_in 0 q hp.1
          have hl10 : (0 : Int) ≤ (l1 : Int) := by omega
          have hl11 : (l1 : Int) < (lr : Int) := by omega
          have hat2 : (0 : Int) ≤ (at0 : Int) := by omega
          have hat3 : (at0 : Int) < (L : Int) := by omega
          have hat4 : (at0 : Int) ≤ (lr : Int) := by omega
          have hat5 : (at0 : Int) < (lr : Int) := by omega
          have HLE : Hid (lr = l1 + 1) := Lib.hid hl1
          have HDT : Hid (allP p ts = true) := Lib.hid HD.out.at_
          clear HDS hl1 hn1e HD
          have hoQ8 := hoQ.stored at0 q
          have hoT8 : OwnI (wr.setCell ⟨gq, at0, none⟩ (.int .i64 q)) w.heap.size 3 (some ⟨gr, 0, none⟩) ta c0 ts := hoT.kept ((Step.refl gq wr).set at0 (.int .i64 q)) (.inr (by simp [Value.ownBlock]; omega))
          have hbz8 := hbz.setCell (p := ⟨gq, at0, none⟩) hgq (.int .i64 q)
          have hIB8 := hIB.below hbz8
          have hcb8 : (wr.setCell ⟨gq, at0, none⟩ (.int .i64 q)).drew.cell? ⟨bB, oB + n1, none⟩ = some (.int .i64 bl) := (hbz8.cell (p := ⟨bB, oB + n1, none⟩) hbB).trans (hcB1.trans (by rw [HBl.out]))
          have HTT : Hid (tn ((addTo p (subP p 0 q) at0 bs ts (n1 + 1)).take l1) l1 = tn (addTo p (subP p 0 q) at0 bs ts (n1 + 1)) l1) := Lib.hid (tn_take _ _ _ (Nat.le_refl _))
          go_wp2_with (go_at_call 119; refine (mulP_any p tl inv _ hp htin hinv).mono ?_; rintro e w' ⟨rfl, rfl⟩; rw [HQ.out])
          go_region_held3 (fun w' => w'.cell? ⟨bB, oB + n1, none⟩ = some (.int .i64 bl)) (first | exact hcb8 | exact hcb9)
            (first
              | (go_at_call 122; refine (subP_any p 0 q _ hp (by omega) hmq).mono ?_; rintro e w' ⟨rfl, rfl⟩)
              | (go_at_call 92; refine (addTimes_at p (subP p 0 q) gr at0 _ _ ta c0 nb d _ ts bs _ hp hsq hoT8.drew (by omega) (by omega) (hIB8.drew) (fun b off s e hm0 => by injection e with e; injection e with e; omega) HDT.out HBA.out (by omega)).mono ?_; rintro e w9 ⟨rfl, hoT9, hS9⟩
                 rw [HN1.out] at hoT9
                 have hb9 := Step.below hbz8.drew hS9 hbz8.size hgr0
                 have hoQ9 := hoQ8.drew.kept hS9 (.inr (by simp [Value.ownBlock]; omega))
                 have hcb9 := (hb9.cell (p := ⟨bB, oB + n1, none⟩) hbB).trans (hcB1.trans (by rw [HBl.out]))))
          go_wp2_with (go_at_call 138; (refine (trim_any (some ⟨gr, 0, none⟩) l1 l1 ((addTo p (subP p 0 q) at0 bs ts (n1 + 1)).take l1) w9 (hoT9.ints.take_ l1 (by omega)) (Nat.le_refl _) (by omega)).mono ?_); rintro e w' ⟨rfl, rfl⟩
                       rw [HTT.out])
          go_roundw
          case rel => exact ⟨_, l1, _, _, rfl, tn_le _ _, by have := tn_le (addTo p (subP p 0 q) at0 bs ts (n1 + 1)) l1; omega, hoT9, hoQ9, HD2, hb9⟩
          case measure =>
            have := tn_le (addTo p (subP p 0 q) at0 bs ts (n1 + 1)) l1
            have := HLE.out
            simp [sliceLen]; omega
      · have HDO := Lib.hid (HD.out.done_at HBS.out (by rw [HBL.out]; omega))
        have HRL : Hid ((ts.take lr).length = lr) := Lib.hid (by have := HD.out.le; rw [List.length_take]; omega)
        obtain ⟨rs, HRS⟩ : ∃ rs, Hid (ts.take lr = rs) := ⟨_, Lib.hid rfl⟩
        rw [HRS.out] at HDO HRL
        have HTR : Hid (trimL (ts.take lr) = rs) := Lib.hid (by rw [HRS.out]; exact HDO.out.tr.trimL)
        have HTN : Hid (tn (ts.take lr) lr = rs.length) := Lib.hid (by
          have := trimL_len (ts.take lr)
          rw [HTR.out, HRS.out, HRL.out] at this
          rw [HRL.out, HRS.out]; exact this.symm)
        have hQL := hoQ.len
        have HQN : Hid (tn qs L = (trimL qs).length) := Lib.hid (by rw [trimL_len, hQL])
        have hqn := tn_le qs L
        rw [HQN.out] at hqn
        have hIT := hoT.ints.take_ lr hlt
        clear HD
        go_wp2_with (first
          | (go_at_call 125; (with_reducible refine (own_any (some ⟨gq, 0, none⟩) L L qs wr hoQ.ints (Nat.le_refl _) (by omega)).mono ?_); rintro e w9 ⟨⟨A9, c9, rfl, hown9⟩, hb9⟩
             rw [HQN.out] at hown9
             rw [HQN.out]
             have hbz9 := bnext hbz hb9
             have hIT9 := hIT.upto hb9)
          | (go_at_call 125; (with_reducible refine (own_any AR lr cr (ts.take lr) w9 hIT9 hlc (by omega)).mono ?_); rintro e w10 ⟨⟨A10, c10, rfl, hown10⟩, hb10⟩
             rw [HTN.out, HTR.out] at hown10
             rw [HTN.out]
             have hbz10 := bnext hbz9 hb10
             have hown99 := hown9.belowAll hb10))
        go_ret3
        exact ⟨⟨trimL qs, rs, A9, c9, A10, c10, rfl, hown99.base hbz.size, hown10.base hbz9.size, HDO.out, by omega⟩, hbz10⟩

end Go.Proofs.YtmcgnpdfpfgfpaaGreatDoor
