/-
  Words for memory and contracts of small functions of the second form. Conditions: those of each lemma.
-/
import Derived.Test.YtoblofilaegnaaaSCheck
import Derived.Deep.DeepCutAuto
import Derived.Deep.QuietTactic
import Derived.BigQuiet
import Derived.Test.YtoblofilaegnaaaCombA
import Derived.Test.YtoblofilaegnaaaOwnM
/-! SolvN -/
namespace Go.Proofs.Ytoblofilaegnaaa
open Go.RowKit
set_option linter.unusedVariables false

theorem RedW.cap {w : World} {base gs : Nat} {p : Int} {c : Nat} {R : Option Addr} {n cap : Nat} {bs : List (Nat × Nat)} {m : List (List Int)} {lead : List Nat} (h : RedW w base gs p c R n cap bs m lead) : n ≤ cap := by
  rcases h.out.2 with ⟨hv, _⟩ | ⟨g, cp, cur, hv, _, _, hnc, _⟩
  · injection hv with _ h1 h2
    omega
  · injection hv with _ h1 h2
    omega

/-- What solvable leaves. -/
def SolvPost (c rk : Nat) (m : List (List Int)) (w : World) (e : Ending) (w' : World) : Prop := ∃ b, e = .returned (.bool b) ∧ (b = true ↔ NoClash c rk m) ∧ Below w.heap.size w w'
set_option maxHeartbeats 800000 in
set_option maxRecDepth 100000 in
theorem solvable_any (base gs : Nat) (p : Int) (c : Nat) (R : Option Addr) (n cap : Nat) (bs : List (Nat × Nat)) (m : List (List Int)) (lead : List Nat) (rk : Nat) (w : World)
    (h : RedW w base gs p c R n cap bs m lead) (hr : Hid (lead.length = rk)) (hrn : rk ≤ n) (hn : n ≤ 32) :
    Calls Try.prog 159 #[.pointer (some ⟨gs, 0, none⟩)] w (SolvPost c rk m w) := by
  have hc1 : w.cell? ⟨gs, 1, none⟩ = some (.int .i64 c) := (h.blk.cell 1).trans (redC_1 _ _ _ _ _)
  have hc2 : w.cell? ⟨gs, 2, none⟩ = some (.slice R n cap) := (h.blk.cell 2).trans (redC_2 _ _ _ _ _)
  have hc3 : w.cell? ⟨gs, 3, none⟩ = some (.int .i64 rk) := by rw [← hr.out]; exact (h.blk.cell 3).trans (redC_3 _ _ _ _ _)
  have hcap := h.cap
  have hmn := h.ln
  have HF : Hid (∀ j, j < n → ∃ go b cb, R = some ⟨go, 0, none⟩ ∧ w.cell? ⟨go, j, none⟩ = some (.slice (some ⟨b, 0, none⟩) (c + 1) cb) ∧ w.cell? ⟨b, c, none⟩ = some (.int .i64 (mx m j c))) := Lib.hid fun j hj => by
    obtain ⟨go, h1, _, _, _, _, h2⟩ := h.form (by omega)
    exact ⟨go, _, _, h1, (h2 j hj).1, (h.rws.own j (by omega)).cellAt (by omega)⟩
  have hk0 : (0 : Int) ≤ (rk : Int) := by omega
  have hk1 : (rk : Int) ≤ (n : Int) := by omega
  obtain ⟨A4, hA4, HA4⟩ : ∃ A4 : Option Addr, (if cap = rk then R else Option.map (fun x => x.add rk) R) = A4 ∧ Hid (rk < n → ∀ go, R = some ⟨go, 0, none⟩ → A4 = some ⟨go, rk, none⟩) := by
    refine ⟨_, rfl, Lib.hid fun h1 go h2 => ?_⟩
    rw [if_neg (by omega), h2]; simp [Addr.add]; omega
  have HM : Hid (m.length = n) := Lib.hid hmn
  clear hmn h
  go_enter Try.func159, Try.ntmps159
  go_wp2
  go_quiet (fail)
  go_wp2
  go_loop [15] (fun v => ∃ j : Nat, j ≤ n - rk ∧ v = .int .i64 j ∧ Hid (∀ i, i < j → mx m (rk + i) c = 0)) (fun v => n - rk - (intOf v).toNat)
  case atStart => exact ⟨0, Nat.zero_le _, rfl, Lib.hid fun i hi => absurd hi (by omega)⟩
  case round =>
    obtain ⟨j, hj, rfl, HZ⟩ := hrel
    by_cases hlt : j < n - rk
    · obtain ⟨go, b, cb, hR, hrow, hcell⟩ := HF.out (rk + j) (by omega)
      have hA := HA4.out (by omega) go hR
      subst hA
      have h1 : (j : Int) < ((n - rk : Nat) : Int) := by omega
      have h0 : (0 : Int) ≤ (j : Int) := by omega
      have hcc : (c : Int) < ((c + 1 : Nat) : Int) := by omega
      have hc0 : (0 : Int) ≤ (c : Int) := by omega
      by_cases hz : mx m (rk + j) c = 0
      · rw [hz] at hcell
        go_wp2
        go_round
        case rel => exact ⟨j + 1, by omega, by go_num, Lib.hid fun i hi => by
          by_cases e : i = j
          · rw [e]; exact hz
          · exact HZ.out i (by omega)⟩
        case measure => simp [intOf]; omega
      · have HNZ := Lib.hid hz
        obtain ⟨y, hy⟩ : ∃ y, mx m (rk + j) c = y := ⟨_, rfl⟩
        rw [hy] at hcell hz
        go_wp2
        go_ret
        exact ⟨false, rfl, ⟨fun h => (by cases h), fun h => absurd (h (rk + j) (by omega) (by have := HM.out; omega)) HNZ.out⟩, below_drewN (Below.refl _ _) _⟩
    · obtain rfl : n - rk = j := by omega
      go_wp2
      go_ret
      exact ⟨true, rfl, ⟨fun _ i hi1 hi2 => by
        have := HZ.out (i - rk) (by have := HM.out; omega)
        rwa [show rk + (i - rk) = i by omega] at this, fun _ => rfl⟩, below_drewN (Below.refl _ _) _⟩

end Go.Proofs.Ytoblofilaegnaaa

/-! SolvA -/
namespace Go.Proofs.Ytoblofilaegnaaa
open Go.RowKit
set_option linter.unusedVariables false

/-- What Rank leaves. -/
def RankPost (p : Int) (c : Nat) (m0 : List (List Int)) (w : World) (e : Ending) (w' : World) : Prop := ∃ rk : Nat, e = .returned (.tuple #[.int .i64 rk, .int .i64 0]) ∧ RankOf p c m0 rk ∧ Below w.heap.size w w'

/-- The rank of valid equations. -/
theorem rank_ok {p : Int} {r c nc cc cd : Nat} {C D : Option Addr} {cells right : List Int} {w : World} (h : EqW w p r c nc C cc D cd cells right) :
    Calls Try.prog 95 #[eqV p r c C nc cc D r cd] w (RankPost p c (augM r c cells right) w) := by
  have hb0 : Below w.heap.size w (w.alloc (.cells (eqC p r c C nc cc D r cd) 106)) := bbox _
  have HE := Lib.hid (h.upto hb0)
  have hbox : (w.alloc (.cells (eqC p r c C nc cc D r cd) 106)).heap.size = w.heap.size + 1 := by simp
  have HB0 := Lib.hid (Blk.new w 106 (eqC p r c C nc cc D r cd))
  have HL := h.ln
  clear h
  go_enter Try.func95, Try.ntmps95
  go_wp2_with (first
    | (go_at_call 103; refine (scheck_ok p r c nc C cc D cd cells right _ HE.out.ok (Lib.hid HL) HE.out.hC HE.out.hD).mono ?_; rintro e w1 ⟨rfl, hb1⟩
       have HB1 := Lib.hid (HB0.out.below hb1 HB0.out.lt)
       have HE1 := Lib.hid (HE.out.upto hb1)
       have hbb1 := hb0.trans (hb1.mono (by simp))
       have hs1 := hb1.size
       have ha0 : w1.cell? ⟨w.heap.size, 0, none⟩ = some (.int .i64 p) := (HB1.out.cell 0).trans rfl
       have ha1 : w1.cell? ⟨w.heap.size, 1, none⟩ = some (.int .i64 r) := (HB1.out.cell 1).trans rfl
       have ha2 : w1.cell? ⟨w.heap.size, 2, none⟩ = some (.int .i64 c) := (HB1.out.cell 2).trans rfl
       have ha3 : w1.cell? ⟨w.heap.size, 3, none⟩ = some (.slice C nc cc) := (HB1.out.cell 3).trans rfl
       have ha4 : w1.cell? ⟨w.heap.size, 4, none⟩ = some (.slice D r cd) := (HB1.out.cell 4).trans rfl
       clear hb1)
    | (go_at_call 157; refine (reduce_ok p r c nc C cc D cd cells right _ HE1.out.ok (Lib.hid HL) HE1.out.hC HE1.out.hD HE1.out.cap).mono ?_; rintro e w2 ⟨R, cap, bs, m, lead, rfl, hR, hred, hb2⟩
       have hbb2 := bnext hbb1 hb2
       have hc3 : w2.cell? ⟨w1.heap.size + 1, 3, none⟩ = some (.int .i64 lead.length) := (hR.blk.cell 3).trans (redC_3 _ _ _ _ _)
       have HRed := Lib.hid hred
       clear hb2 hR hred))
  go_ret2
  exact ⟨lead.length, rfl, ⟨m, lead, HRed.out, rfl⟩, hbb2⟩
end Go.Proofs.Ytoblofilaegnaaa

/-! SolvB -/
namespace Go.Proofs.Ytoblofilaegnaaa
open Go.RowKit
set_option linter.unusedVariables false

/-- What Count leaves. -/
def CountPost (p : Int) (c : Nat) (m0 : List (List Int)) (w : World) (e : Ending) (w' : World) : Prop :=
  (∃ v : Option Int, CountOf p c m0 v ∧ e = .returned (match v with | some u => .tuple #[.int .i64 u, .int .i64 0] | none => .tuple #[.int .i64 0, .int .i64 4])) ∧ Below w.heap.size w w'
theorem cntP_none {p : Int} (n : Nat) (h : cntP p n = none) : ∀ d, cntP p (n + d) = none
  | 0 => h
  | d + 1 => by rw [← Nat.add_assoc]; simp only [cntP]; rw [cntP_none n h d]

set_option maxHeartbeats 800000 in
set_option maxRecDepth 100000 in
/-- The number of solutions of valid equations. -/
theorem count_ok {p : Int} {r c nc cc cd : Nat} {C D : Option Addr} {cells right : List Int} {w : World} (h : EqW w p r c nc C cc D cd cells right) :
    Calls Try.prog 101 #[eqV p r c C nc cc D r cd] w (CountPost p c (augM r c cells right) w) := by
  have hb0 : Below w.heap.size w (w.alloc (.cells (eqC p r c C nc cc D r cd) 106)) := bbox _
  have HE := Lib.hid (h.upto hb0)
  have HB0 := Lib.hid (Blk.new w 106 (eqC p r c C nc cc D r cd))
  have HL := h.ln
  have hc32 := h.ok.c32
  have hr32 := h.ok.r32
  have hp := okP_pos h.ok.ok
  clear h
  go_enter Try.func101, Try.ntmps101
  go_wp2_with (first
    | (go_at_call 103; refine (scheck_ok p r c nc C cc D cd cells right _ HE.out.ok (Lib.hid HL) HE.out.hC HE.out.hD).mono ?_; rintro e w1 ⟨rfl, hb1⟩
       have HB1 := Lib.hid (HB0.out.below hb1 HB0.out.lt)
       have HE1 := Lib.hid (HE.out.upto hb1)
       have hbb1 := hb0.trans (hb1.mono (by simp))
       have hs1 := HB1.out.lt
       have ha0 : w1.cell? ⟨w.heap.size, 0, none⟩ = some (.int .i64 p) := (HB1.out.cell 0).trans rfl
       have ha1 : w1.cell? ⟨w.heap.size, 1, none⟩ = some (.int .i64 r) := (HB1.out.cell 1).trans rfl
       have ha2 : w1.cell? ⟨w.heap.size, 2, none⟩ = some (.int .i64 c) := (HB1.out.cell 2).trans rfl
       have ha3 : w1.cell? ⟨w.heap.size, 3, none⟩ = some (.slice C nc cc) := (HB1.out.cell 3).trans rfl
       have ha4 : w1.cell? ⟨w.heap.size, 4, none⟩ = some (.slice D r cd) := (HB1.out.cell 4).trans rfl
       clear hb1)
    | (go_at_call 157; refine (reduce_ok p r c nc C cc D cd cells right _ HE1.out.ok (Lib.hid HL) HE1.out.hC HE1.out.hD HE1.out.cap).mono ?_; rintro e w2 ⟨R, cap, bs, m, lead, rfl, hR, hred, hb2⟩
       have hbb2 := bnext hbb1 hb2
       have HR2 := Lib.hid hR
       have HRed := Lib.hid hred
       have HB2 := Lib.hid (HB1.out.below hb2 HB1.out.lt)
       clear hb2 hR hred)
    | (go_at_call 159; refine (?_ : Hid _).out))
  refine Lib.hid ?_
  refine (solvable_any _ _ p c R r cap bs m lead lead.length _ HR2.out (Lib.hid rfl) (by rw [← HR2.out.ln]; exact HRed.out.inv.rm) hr32).mono ?_
  rintro e w3 ⟨b, rfl, hbi, hb3⟩
  have hbb3 := bnext hbb2 hb3
  have HR3 := Lib.hid (HR2.out.below hb3)
  have HB3 := Lib.hid (HB2.out.below hb3 HB2.out.lt)
  have HBI := Lib.hid hbi
  clear hb3 hbi ha0 ha1 ha2 ha3 ha4
  rcases b with _ | _
  · have hcl : ¬ NoClash c lead.length m := fun h => by cases HBI.out.2 h
    have HC : Hid (CountOf p c (augM r c cells right) (some 0)) := Lib.hid ⟨m, lead, HRed.out, .inl ⟨hcl, rfl⟩⟩
    clear hcl
    go_wp2
    go_ret2
    exact ⟨⟨some 0, HC.out, rfl⟩, hbb3⟩
  · have hcl : NoClash c lead.length m := HBI.out.1 rfl
    have hrk := HRed.out.inv.rank_le
    have HC : Hid (∀ v, v = cntP p (c - lead.length) → CountOf p c (augM r c cells right) v) := Lib.hid fun v hv => ⟨m, lead, HRed.out, .inr ⟨hcl, hv⟩⟩
    have ha0 : w3.cell? ⟨w.heap.size, 0, none⟩ = some (.int .i64 p) := (HB3.out.cell 0).trans rfl
    have ha2 : w3.cell? ⟨w.heap.size, 2, none⟩ = some (.int .i64 c) := (HB3.out.cell 2).trans rfl
    have hg3 : w3.cell? ⟨w1.heap.size + 1, 3, none⟩ = some (.int .i64 lead.length) := (HR3.out.blk.cell 3).trans (redC_3 _ _ _ _ _)
    clear hcl HRed HR3 HR2
    obtain ⟨rk, hrke⟩ : ∃ k, lead.length = k := ⟨_, rfl⟩
    rw [hrke] at hg3 hrk HC
    have hsub : (c : Int) - (rk : Int) = ((c - rk : Nat) : Int) := by omega
    clear hrke
    go_wp2
    go_quiet (fail)
    go_wp2
    go_loop [6, 24] (fun u v => ∃ (j : Nat) (x : Int), j ≤ c - rk ∧ v = .int .i64 j ∧ u = .int .i64 x ∧ Hid (cntP p j = some x)) (fun _ v => c - rk - (intOf v).toNat)
    case atStart => exact ⟨0, 1, Nat.zero_le _, rfl, rfl, Lib.hid rfl⟩
    case round =>
      obtain ⟨j, x, hj, rfl, rfl, HX⟩ := hrel
      by_cases hlt : j < c - rk
      · have h1 : (j : Int) < ((c - rk : Nat) : Int) := by omega
        have hx1 := (cntP_pow hp.1 _ _ HX.out).2
        have hp1 : ¬ p = 0 := by omega
        have hqt : Int.tdiv 1099511627776 p = 1099511627776 / p := Int.tdiv_eq_ediv_of_nonneg (by omega)
        have hq1 : 0 ≤ 1099511627776 / p := Int.ediv_nonneg (by omega) (by omega)
        have hq2 : 1099511627776 / p ≤ 1099511627776 := Int.ediv_le_self _ (by omega)
        by_cases hbig : 1099511627776 / p < x
        · have HN : Hid (cntP p (c - rk) = none) := Lib.hid (by
            have := cntP_none (p := p) (j + 1) (by simp only [cntP]; rw [HX.out]; simp only []; rw [if_pos hbig]) (c - rk - (j + 1))
            rwa [show j + 1 + (c - rk - (j + 1)) = c - rk by omega] at this)
          go_wp2
          go_ret2
          exact ⟨⟨none, HC.out none HN.out.symm, rfl⟩, below_drewN hbb3 _⟩
        · have hm1 : x * p ≤ 1099511627776 := by
            have h2 : x ≤ 1099511627776 / p := by omega
            have h3 := Int.mul_le_mul_of_nonneg_right h2 (show (0 : Int) ≤ p by omega)
            have h4 := Int.ediv_mul_le 1099511627776 (show p ≠ 0 by omega)
            omega
          have hm0 : 0 ≤ x * p := Int.mul_nonneg (by omega) (by omega)
          have HX2 : Hid (cntP p (j + 1) = some (x * p)) := Lib.hid (by simp only [cntP]; rw [HX.out]; simp only []; rw [if_neg hbig])
          go_wp2
          go_round
          case rel => exact ⟨j + 1, x * p, by omega, by go_num, rfl, HX2⟩
          case measure => simp [intOf]; omega
      · obtain rfl : c - rk = j := by omega
        go_wp2
        go_ret2
        exact ⟨⟨some x, HC.out _ HX.out.symm, rfl⟩, below_drewN hbb3 _⟩
end Go.Proofs.Ytoblofilaegnaaa

/-! SolvC -/
namespace Go.Proofs.Ytoblofilaegnaaa
open Go.RowKit
set_option linter.unusedVariables false

theorem made_zerosS (n : Nat) : (madeCells (Value.int .i64 0).cells (n * 1)).toList = vals (List.replicate n 0) := by
  simp only [madeCells, vals, Value.cells]
  simp [Nat.mod_one]
  rw [List.map_const', List.length_range]
/-- The solution as it grows. -/
def solL (c : Nat) (lead : List Nat) (m : List (List Int)) (j : Nat) : List Int := (List.range c).map fun k => if k < j ∧ k ∈ lead then mx m (lead.idxOf k) c else 0
theorem cf_solL (c : Nat) (lead : List Nat) (m : List (List Int)) (j k : Nat) : cf (solL c lead m j) k = if k < c then (if k < j ∧ k ∈ lead then mx m (lead.idxOf k) c else 0) else 0 := by unfold solL; rw [cf_map_range]
theorem solL_len (c : Nat) (lead : List Nat) (m : List (List Int)) (j : Nat) : (solL c lead m j).length = c := by simp [solL]
theorem solL_zero (c : Nat) (lead : List Nat) (m : List (List Int)) : solL c lead m 0 = List.replicate c 0 := by
  unfold solL
  rw [List.eq_replicate_iff]
  refine ⟨by simp, fun b hb => ?_⟩
  obtain ⟨k, _, rfl⟩ := List.mem_map.1 hb
  rw [if_neg (by omega)]
theorem solL_skip {c : Nat} {lead : List Nat} {m : List (List Int)} {j : Nat} (h : j ∉ lead) : solL c lead m j = solL c lead m (j + 1) := by
  unfold solL
  refine List.map_congr_left fun k _ => ?_
  by_cases e : k = j
  · subst e; rw [if_neg (fun a => h a.2), if_neg (fun a => h a.2)]
  · by_cases e2 : k < j ∧ k ∈ lead
    · rw [if_pos e2, if_pos ⟨by omega, e2.2⟩]
    · rw [if_neg e2, if_neg (fun a => e2 ⟨by omega, a.2⟩)]
theorem solL_set {c : Nat} {lead : List Nat} {m : List (List Int)} {j : Nat} (hj : j < c) (h : j ∈ lead) : (solL c lead m j).set j (mx m (lead.idxOf j) c) = solL c lead m (j + 1) := by
  refine cf_ext (by rw [List.length_set, solL_len, solL_len]) fun k => ?_
  show ((solL c lead m j).set j _).getD k 0 = _
  rw [cf_solL, List.getD_eq_getElem?_getD, List.getElem?_set]
  by_cases e : j = k
  · subst e
    rw [if_pos rfl, if_pos (by rw [solL_len]; exact hj), if_pos hj, if_pos ⟨by omega, h⟩]; rfl
  · rw [if_neg e, ← List.getD_eq_getElem?_getD]
    show cf (solL c lead m j) k = _
    rw [cf_solL]
    by_cases hk : k < c
    · rw [if_pos hk, if_pos hk]
      by_cases e2 : k < j ∧ k ∈ lead
      · rw [if_pos e2, if_pos ⟨by omega, e2.2⟩]
      · rw [if_neg e2, if_neg (fun a => e2 ⟨by omega, a.2⟩)]
    · rw [if_neg hk, if_neg hk]
theorem solL_solX {p : Int} {c : Nat} {lead : List Nat} {m : List (List Int)} (h : RInv p c lead m) : SolX p c lead m (solL c lead m c) :=
  ⟨solL_len _ _ _ _, fun i hi => by rw [cf_solL, if_pos (h.lt i hi), if_pos ⟨h.lt i hi, lead_mem hi⟩, idxOf_lead h hi], fun j hj hm => by rw [cf_solL, if_pos hj, if_neg (fun a => hm a.2)]⟩

/-- What Solve leaves. -/
def SolvePost (p : Int) (c : Nat) (m0 : List (List Int)) (w : World) (e : Ending) (w' : World) : Prop :=
  ((SolveOf p c m0 none ∧ e = .returned (.tuple #[.slice none 0 0, .int .i64 6])) ∨
    ∃ (g : Nat) (x : List Int), SolveOf p c m0 (some x) ∧ e = .returned (.tuple #[.slice (some ⟨g, 0, none⟩) c c, .int .i64 0]) ∧ OwnI w' w.heap.size 3 (some ⟨g, 0, none⟩) c c x) ∧ Below w.heap.size w w'

set_option maxHeartbeats 800000 in
set_option maxRecDepth 100000 in
/-- A solution of valid equations. -/
theorem solve_ok {p : Int} {r c nc cc cd : Nat} {C D : Option Addr} {cells right : List Int} {w : World} (h : EqW w p r c nc C cc D cd cells right) :
    Calls Try.prog 97 #[eqV p r c C nc cc D r cd] w (SolvePost p c (augM r c cells right) w) := by
  obtain ⟨i0, hi0, hz0, hz1, hz2⟩ := info_parts info_int
  have hb0 : Below w.heap.size w (w.alloc (.cells (eqC p r c C nc cc D r cd) 106)) := bbox _
  have HE := Lib.hid (h.upto hb0)
  have HB0 := Lib.hid (Blk.new w 106 (eqC p r c C nc cc D r cd))
  have HL := h.ln
  have hc32 := h.ok.c32
  have hr32 := h.ok.r32
  have hp := okP_pos h.ok.ok
  clear h
  go_enter Try.func97, Try.ntmps97
  go_wp2_with (first
    | (go_at_call 103; refine (scheck_ok p r c nc C cc D cd cells right _ HE.out.ok (Lib.hid HL) HE.out.hC HE.out.hD).mono ?_; rintro e w1 ⟨rfl, hb1⟩
       have HB1 := Lib.hid (HB0.out.below hb1 HB0.out.lt)
       have HE1 := Lib.hid (HE.out.upto hb1)
       have hbb1 := hb0.trans (hb1.mono (by simp))
       have hs1 := HB1.out.lt
       have ha0 : w1.cell? ⟨w.heap.size, 0, none⟩ = some (.int .i64 p) := (HB1.out.cell 0).trans rfl
       have ha1 : w1.cell? ⟨w.heap.size, 1, none⟩ = some (.int .i64 r) := (HB1.out.cell 1).trans rfl
       have ha2 : w1.cell? ⟨w.heap.size, 2, none⟩ = some (.int .i64 c) := (HB1.out.cell 2).trans rfl
       have ha3 : w1.cell? ⟨w.heap.size, 3, none⟩ = some (.slice C nc cc) := (HB1.out.cell 3).trans rfl
       have ha4 : w1.cell? ⟨w.heap.size, 4, none⟩ = some (.slice D r cd) := (HB1.out.cell 4).trans rfl
       clear hb1)
    | (go_at_call 157; refine (reduce_ok p r c nc C cc D cd cells right _ HE1.out.ok (Lib.hid HL) HE1.out.hC HE1.out.hD HE1.out.cap).mono ?_; rintro e w2 ⟨R, cap, bs, m, lead, rfl, hR, hred, hb2⟩
       have hbb2 := bnext hbb1 hb2
       have HR2 := Lib.hid hR
       have HRed := Lib.hid hred
       have HB2 := Lib.hid (HB1.out.below hb2 HB1.out.lt)
       clear hb2 hR hred)
    | (go_at_call 159; refine (?_ : Hid _).out))
  refine Lib.hid ?_
  refine (solvable_any _ _ p c R r cap bs m lead lead.length _ HR2.out (Lib.hid rfl) (by rw [← HR2.out.ln]; exact HRed.out.inv.rm) hr32).mono ?_
  rintro e w3 ⟨b, rfl, hbi, hb3⟩
  have hbb3 := bnext hbb2 hb3
  have HR3 := Lib.hid (HR2.out.below hb3)
  have HB3 := Lib.hid (HB2.out.below hb3 HB2.out.lt)
  have HBI := Lib.hid hbi
  clear hb3 hbi ha0 ha1 ha2 ha3 ha4
  rcases b with _ | _
  · have hcl : ¬ NoClash c lead.length m := fun h => by cases HBI.out.2 h
    have HC : Hid (SolveOf p c (augM r c cells right) none) := Lib.hid ⟨m, lead, HRed.out, hcl⟩
    clear hcl
    go_wp2
    go_ret2
    exact ⟨.inl ⟨HC.out, rfl⟩, hbb3⟩
  · have hcl : NoClash c lead.length m := HBI.out.1 rfl
    have HC : Hid (SolveOf p c (augM r c cells right) (some (solL c lead m c))) := Lib.hid ⟨m, lead, HRed.out, hcl, solL_solX HRed.out.inv⟩
    have ha2 : w3.cell? ⟨w.heap.size, 2, none⟩ = some (.int .i64 c) := (HB3.out.cell 2).trans rfl
    have hc0 : (0 : Int) ≤ (c : Int) := by omega
    clear hcl HR2 HB2 HE HE1
    go_wp2_with (
        at_make
        refine wpList_make_full _ rfl _ _ 22 rfl w.heap.size 3 i0 (.int .i64 0) 1 Try.underlying22 hi0 hz0 hz1 .i64 .i64 c c c rfl rfl rfl rfl (by rw [hz2]; omega) (by unfold maxLen; omega) hbb3.size ?_
        intro w4 hown hgr
        have hown4 : OwnI w4 w.heap.size 3 (some ⟨w3.heap.size, 0, none⟩) c c (List.replicate c 0) := by rw [made_zerosS] at hown; exact hown
        have hb4 : Below w3.heap.size w3 w4 := (Below.refl _ _).grown hgr (Nat.le_refl _) (fun k hk => by cases hk)
        have ha24 : w4.cell? ⟨w.heap.size, 2, none⟩ = some (.int .i64 c) := (hb4.cell (p := ⟨w.heap.size, 2, none⟩) HB3.out.lt).trans ha2
        clear hown hgr ha2)
    obtain ⟨g, hg⟩ : ∃ g, w3.heap.size = g := ⟨_, rfl⟩
    rw [hg] at hown4 hb4 ⊢
    have HG := Lib.hid hg
    have hgw : w.heap.size ≤ g := by rw [← hg]; exact hbb3.size
    clear hg
    go_loopw [24] (fun v wx => ∃ j : Nat, j ≤ c ∧ v = .int .i64 j ∧ OwnI wx w.heap.size 3 (some ⟨g, 0, none⟩) c c (solL c lead m j) ∧ Below g w3 wx) (fun v _ => c - (intOf v).toNat)
    case atStart => exact ⟨0, Nat.zero_le _, rfl, by rw [solL_zero]; exact hown4, hb4⟩
    case round =>
      obtain ⟨j, hj, rfl, hown, hb⟩ := hrel
      by_cases hlt : j < c
      · have HRx := Lib.hid (HR3.out.below (by rw [HG.out]; exact hb))
        have hbx2 : wr.cell? ⟨w.heap.size, 2, none⟩ = some (.int .i64 c) := (hb.cell (p := ⟨w.heap.size, 2, none⟩) (by rw [← HG.out]; exact HB3.out.lt)).trans ((HB3.out.cell 2).trans rfl)
        have hx4 : wr.cell? ⟨w1.heap.size + 1, 4 + j, none⟩ = some (.int .i64 ((ldL lead).getD j 0)) := (HRx.out.blk.cell (4 + j)).trans (redC_ld _ _ _ _ (ldL_len lead) (by omega))
        rw [ldL_at _ (by omega)] at hx4
        have h1 : (j : Int) < (c : Int) := by omega
        have h0 : (0 : Int) ≤ (j : Int) := by omega
        have h32 : (j : Int) < 32 := by omega
        by_cases hjl : j ∈ lead
        · rw [if_pos hjl] at hx4
          have hidx := List.idxOf_lt_length_of_mem hjl
          have HST := Lib.hid (solL_set (m := m) hlt hjl)
          have hrm := HRed.out.inv.rm
          have hmn := HRx.out.ln
          have hx2 : wr.cell? ⟨w1.heap.size + 1, 2, none⟩ = some (.slice R r cap) := (HRx.out.blk.cell 2).trans (redC_2 _ _ _ _ _)
          obtain ⟨go, hRe, _, _, _, hbn, hrow⟩ := HRx.out.form (by omega)
          have hri := (hrow (lead.idxOf j) (by omega)).1
          have hcell := (HRx.out.rws.own (lead.idxOf j) (by omega)).cellAt (j := c) (by omega)
          subst hRe
          obtain ⟨i, hi⟩ : ∃ i, lead.idxOf j = i := ⟨_, rfl⟩
          rw [hi] at hx4 hidx hri hcell HST
          obtain ⟨bi, hbi⟩ : ∃ b, (bs.getD i (0, 0)).1 = b := ⟨_, rfl⟩
          obtain ⟨ci, hci⟩ : ∃ b, (bs.getD i (0, 0)).2 = b := ⟨_, rfl⟩
          rw [hbi, hci] at hri
          rw [hbi] at hcell
          obtain ⟨y, hy⟩ : ∃ y, mx m i c = y := ⟨_, rfl⟩
          rw [show (m.getD i []).getD c 0 = mx m i c from rfl, hy] at hcell
          rw [hy] at HST
          have hn1 : (i : Int) + 1 - 1 = (i : Int) := by omega
          have hi1 : (i : Int) < (r : Int) := by omega
          have hi0 : (0 : Int) ≤ (i : Int) := by omega
          have hin : (0 : Int) < (i : Int) + 1 := by omega
          have hcc : (c : Int) < ((c + 1 : Nat) : Int) := by omega
          have hfz := hown.frozenAt j
          have hoc := hown.cellAt hlt
          have hst := hown.stored j y
          rw [HST.out] at hst
          have HS := Lib.hid hst
          have HBS := Lib.hid (hb.setCell (p := ⟨g, j, none⟩) (Nat.le_refl _) (.int .i64 y))
          clear hst hown hbi hci hrow hbn
          go_wp2_with fail
          go_region
          all_goals go_wp2
          all_goals go_roundw
          all_goals first
            | exact ⟨⟨j + 1, by omega, by go_num, HS.out.drew, HBS.out.drew⟩, by simp [intOf]; omega⟩
            | exact ⟨j + 1, by omega, by go_num, HS.out.drew, HBS.out.drew⟩
            | exact ⟨⟨j + 1, by omega, by go_num, HS.out, HBS.out⟩, by simp [intOf]; omega⟩
            | exact ⟨j + 1, by omega, by go_num, HS.out, HBS.out⟩
            | (simp [intOf]; omega)
        · rw [if_neg hjl] at hx4
          have HST := Lib.hid (solL_skip (c := c) (m := m) hjl)
          clear hjl
          go_wp2
          go_roundw
          case rel => exact ⟨j + 1, by omega, by go_num, by rw [← HST.out]; exact hown, hb⟩
          case measure => simp [intOf]; omega
      · obtain rfl : j = c := by omega
        go_wp2
        go_ret2
        exact ⟨.inr ⟨g, _, HC.out, rfl, hown⟩, hbb3.trans (hb.mono hgw)⟩
end Go.Proofs.Ytoblofilaegnaaa

/-! SolvD -/
namespace Go.Proofs.Ytoblofilaegnaaa
open Go.RowKit
set_option linter.unusedVariables false

/-- A list of the kernel as it grows. -/
def kerP (p : Int) (c : Nat) (lead : List Nat) (m : List (List Int)) (f j : Nat) : List Int := (List.range c).map fun k => if k = f then 1 else if k < j ∧ k ∈ lead then subP p 0 (mx m (lead.idxOf k) f) else 0
theorem cf_kerP (p : Int) (c : Nat) (lead : List Nat) (m : List (List Int)) (f j k : Nat) : cf (kerP p c lead m f j) k = if k < c then (if k = f then 1 else if k < j ∧ k ∈ lead then subP p 0 (mx m (lead.idxOf k) f) else 0) else 0 := by unfold kerP; rw [cf_map_range]
theorem kerP_len (p : Int) (c : Nat) (lead : List Nat) (m : List (List Int)) (f j : Nat) : (kerP p c lead m f j).length = c := by simp [kerP]
theorem cf_setD (l : List Int) (i k : Nat) (v : Int) (hi : i < l.length) : cf (l.set i v) k = if i = k then v else cf l k := by
  unfold cf
  rw [List.getD_eq_getElem?_getD, List.getElem?_set]
  by_cases e : i = k
  · subst e; rw [if_pos rfl, if_pos rfl, if_pos hi]; rfl
  · rw [if_neg e, if_neg e, List.getD_eq_getElem?_getD]
theorem cf_zeros (c k : Nat) : cf (List.replicate c 0) k = 0 := by
  unfold cf
  rw [List.getD_eq_getElem?_getD, List.getElem?_replicate]
  split <;> rfl
theorem kerP_zero (p : Int) {c : Nat} (lead : List Nat) (m : List (List Int)) {f : Nat} (hf : f < c) : (List.replicate c 0).set f 1 = kerP p c lead m f 0 := by
  refine cf_ext (by rw [List.length_set, List.length_replicate, kerP_len]) fun k => ?_
  rw [cf_setD _ _ _ _ (by rw [List.length_replicate]; exact hf), cf_kerP, cf_zeros]
  by_cases e : f = k
  · subst e; rw [if_pos rfl, if_pos hf, if_pos rfl]
  · rw [if_neg e]
    by_cases hk : k < c
    · rw [if_pos hk, if_neg (fun a => e a.symm), if_neg (by omega)]
    · rw [if_neg hk]
theorem kerP_skip {p : Int} {c : Nat} {lead : List Nat} {m : List (List Int)} {f j : Nat} (h : j ∉ lead) : kerP p c lead m f j = kerP p c lead m f (j + 1) := by
  unfold kerP
  refine List.map_congr_left fun k _ => ?_
  by_cases e0 : k = f
  · rw [if_pos e0, if_pos e0]
  · rw [if_neg e0, if_neg e0]
    by_cases e : k = j
    · subst e; rw [if_neg (fun a => h a.2), if_neg (fun a => h a.2)]
    · by_cases e2 : k < j ∧ k ∈ lead
      · rw [if_pos e2, if_pos ⟨by omega, e2.2⟩]
      · rw [if_neg e2, if_neg (fun a => e2 ⟨by omega, a.2⟩)]
theorem kerP_set {p : Int} {c : Nat} {lead : List Nat} {m : List (List Int)} {f j : Nat} (hj : j < f) (hf : f < c) (h : j ∈ lead) : (kerP p c lead m f j).set j (subP p 0 (mx m (lead.idxOf j) f)) = kerP p c lead m f (j + 1) := by
  refine cf_ext (by rw [List.length_set, kerP_len, kerP_len]) fun k => ?_
  rw [cf_setD _ _ _ _ (by rw [kerP_len]; omega), cf_kerP, cf_kerP]
  by_cases e : j = k
  · subst e
    rw [if_pos rfl, if_pos (by omega), if_neg (by omega), if_pos ⟨by omega, h⟩]
  · rw [if_neg e]
    by_cases hk : k < c
    · rw [if_pos hk, if_pos hk]
      by_cases e0 : k = f
      · rw [if_pos e0, if_pos e0]
      · rw [if_neg e0, if_neg e0]
        by_cases e2 : k < j ∧ k ∈ lead
        · rw [if_pos e2, if_pos ⟨by omega, e2.2⟩]
        · rw [if_neg e2, if_neg (fun a => e2 ⟨by omega, a.2⟩)]
    · rw [if_neg hk, if_neg hk]
theorem kerP_all {p : Int} {c : Nat} {lead : List Nat} {m : List (List Int)} {f : Nat} (h : RInv p c lead m) (hp : 2 ≤ p) (hf : f < c) (hfl : f ∉ lead) : kerP p c lead m f f = kerX p c lead m f := by
  refine cf_ext (by simp [kerP, kerX]) fun k => ?_
  rw [cf_kerP, cf_kerX]
  by_cases hk : k < c
  · rw [if_pos hk, if_pos hk]
    by_cases e : k = f
    · rw [if_pos e]; unfold kerZ; rw [if_pos e]
    · rw [if_neg e]
      by_cases h1 : k < f
      · by_cases h2 : k ∈ lead
        · rw [if_pos ⟨h1, h2⟩]; unfold kerZ; rw [if_neg e, if_neg (by omega), if_pos h2]
        · rw [if_neg (fun a => h2 a.2), kerZ_free h2 e]
      · rw [if_neg (fun a => h1 a.1), kerZ_above h hp hf hfl (by omega)]
  · rw [if_neg hk, if_neg hk]
/-- The lists of the kernel for the free ones among the first f columns. -/
def kerR (p : Int) (c : Nat) (lead : List Nat) (m : List (List Int)) (f : Nat) : List (List Int) := ((List.range f).filter fun j => decide (j ∉ lead)).map (kerX p c lead m)
theorem kerR_skip {p : Int} {c : Nat} {lead : List Nat} {m : List (List Int)} {f : Nat} (h : f ∈ lead) : kerR p c lead m (f + 1) = kerR p c lead m f := by
  unfold kerR
  rw [List.range_succ, List.filter_append]; simp [h]
theorem kerR_snoc {p : Int} {c : Nat} {lead : List Nat} {m : List (List Int)} {f : Nat} (h : f ∉ lead) : kerR p c lead m (f + 1) = kerR p c lead m f ++ [kerX p c lead m f] := by
  unfold kerR
  rw [List.range_succ, List.filter_append]; simp [h]
theorem kerR_len (p : Int) (c : Nat) (lead : List Nat) (m : List (List Int)) (f : Nat) : (kerR p c lead m f).length ≤ f := by
  unfold kerR
  rw [List.length_map]
  exact Nat.le_trans (List.length_filter_le _ _) (by simp)

/-- What Kernel leaves. -/
def KernPost (p : Int) (c : Nat) (m0 : List (List Int)) (w : World) (e : Ending) (w' : World) : Prop :=
  ∃ (A : Option Addr) (n ca : Nat) (rows : List (List Int)), e = .returned (.tuple #[.slice A n ca, .int .i64 0]) ∧ OwnM w' w.heap.size w.heap.size 22 A n ca rows ∧ KernOf p c m0 rows ∧ n ≤ c ∧ Below w.heap.size w w'

set_option maxHeartbeats 800000 in
set_option maxRecDepth 100000 in
/-- A kernel of valid equations. -/
theorem kern_ok {p : Int} {r c nc cc cd : Nat} {C D : Option Addr} {cells right : List Int} {w : World} (h : EqW w p r c nc C cc D cd cells right) :
    Calls Try.prog 99 #[eqV p r c C nc cc D r cd] w (KernPost p c (augM r c cells right) w) := by
  obtain ⟨i0, hi0, hz0, hz1, hz2⟩ := info_parts info_int
  obtain ⟨i1, hi1, hy0, hy1, hy2⟩ := info_parts info_rowR
  have hb0 : Below w.heap.size w (w.alloc (.cells (eqC p r c C nc cc D r cd) 106)) := bbox _
  have HE := Lib.hid (h.upto hb0)
  have HB0 := Lib.hid (Blk.new w 106 (eqC p r c C nc cc D r cd))
  have HL := h.ln
  have hc32 := h.ok.c32
  have hr32 := h.ok.r32
  have hp := okP_pos h.ok.ok
  clear h
  go_enter Try.func99, Try.ntmps99
  go_wp2_with (first
    | (go_at_call 103; refine (scheck_ok p r c nc C cc D cd cells right _ HE.out.ok (Lib.hid HL) HE.out.hC HE.out.hD).mono ?_; rintro e w1 ⟨rfl, hb1⟩
       have HB1 := Lib.hid (HB0.out.below hb1 HB0.out.lt)
       have HE1 := Lib.hid (HE.out.upto hb1)
       have hbb1 := hb0.trans (hb1.mono (by simp))
       have hs1 := HB1.out.lt
       have ha0 : w1.cell? ⟨w.heap.size, 0, none⟩ = some (.int .i64 p) := (HB1.out.cell 0).trans rfl
       have ha1 : w1.cell? ⟨w.heap.size, 1, none⟩ = some (.int .i64 r) := (HB1.out.cell 1).trans rfl
       have ha2 : w1.cell? ⟨w.heap.size, 2, none⟩ = some (.int .i64 c) := (HB1.out.cell 2).trans rfl
       have ha3 : w1.cell? ⟨w.heap.size, 3, none⟩ = some (.slice C nc cc) := (HB1.out.cell 3).trans rfl
       have ha4 : w1.cell? ⟨w.heap.size, 4, none⟩ = some (.slice D r cd) := (HB1.out.cell 4).trans rfl
       clear hb1)
    | (go_at_call 157; refine (reduce_ok p r c nc C cc D cd cells right _ HE1.out.ok (Lib.hid HL) HE1.out.hC HE1.out.hD HE1.out.cap).mono ?_; rintro e w2 ⟨R, cap, bs, m, lead, rfl, hR, hred, hb2⟩
       have hbb2 := bnext hbb1 hb2
       have HR2 := Lib.hid hR
       have HRed := Lib.hid hred
       have HB2 := Lib.hid (HB1.out.below hb2 HB1.out.lt)
       have hk2 : w2.cell? ⟨w.heap.size, 2, none⟩ = some (.int .i64 c) := (HB2.out.cell 2).trans rfl
       clear hb2 hR hred))
  obtain ⟨g2, hg2⟩ : ∃ g, w2.heap.size = g := ⟨_, rfl⟩
  have HG := Lib.hid hg2
  have hgw : w.heap.size ≤ g2 := by rw [← hg2]; exact hbb2.size
  have hbg2 : w.heap.size < g2 := by rw [← hg2]; exact HB2.out.lt
  clear hg2 ha0 ha1 ha2 ha3 ha4 hk2
  go_loopw [6, 20] (fun v i wx => ∃ (f : Nat) (A : Option Addr) (n ca : Nat) (rows : List (List Int)), f ≤ c ∧ i = .int .i64 f ∧ v = .slice A n ca ∧ OwnM wx g2 g2 22 A n ca rows ∧ Hid (rows = kerR p c lead m f) ∧ n ≤ f ∧ Below g2 w2 wx) (fun _ i _ => c - (intOf i).toNat)
  case atStart => exact ⟨0, none, 0, 0, [], Nat.zero_le _, rfl, rfl, OwnM.nil_, Lib.hid rfl, Nat.le_refl _, Below.refl _ _⟩
  case round =>
    obtain ⟨f, A, n, ca, rows, hf, rfl, rfl, hM, HROWS, hnf, hb⟩ := hrel
    by_cases hlt : f < c
    · have HRx := Lib.hid (HR2.out.below (by rw [HG.out]; exact hb))
      have hx2 : wr.cell? ⟨w.heap.size, 2, none⟩ = some (.int .i64 c) := (hb.cell (p := ⟨w.heap.size, 2, none⟩) hbg2).trans ((HB2.out.cell 2).trans rfl)
      have hx4 : wr.cell? ⟨w1.heap.size + 1, 4 + f, none⟩ = some (.int .i64 ((ldL lead).getD f 0)) := (HRx.out.blk.cell (4 + f)).trans (redC_ld _ _ _ _ (ldL_len lead) (by omega))
      rw [ldL_at _ (by omega)] at hx4
      have h1 : (f : Int) < (c : Int) := by omega
      have h0 : (0 : Int) ≤ (f : Int) := by omega
      have h32 : (f : Int) < 32 := by omega
      by_cases hfl : f ∈ lead
      · rw [if_pos hfl] at hx4
        have hpos : (0 : Int) < (lead.idxOf f : Int) + 1 := by omega
        have HKS := Lib.hid (kerR_skip (p := p) (c := c) (m := m) hfl)
        obtain ⟨i, hi⟩ : ∃ i, lead.idxOf f = i := ⟨_, rfl⟩
        rw [hi] at hx4 hpos
        clear hi hfl
        go_wp2
        go_roundw
        case rel => exact ⟨f + 1, A, n, ca, rows, by omega, by go_num, rfl, hM, Lib.hid (by rw [HKS.out]; exact HROWS.out), by omega, hb⟩
        case measure => simp [intOf]; omega
      · rw [if_neg hfl] at hx4
        have HKS := Lib.hid (kerR_snoc (p := p) (c := c) (m := m) hfl)
        have HKA := Lib.hid (kerP_all HRed.out.inv hp.1 hlt hfl)
        have HK0 := Lib.hid (kerP_zero p lead m hlt)
        have hgb : g2 ≤ wr.heap.size := by rw [← HG.out]; have := hb.size; rw [HG.out] at this ⊢; exact this
        have hc0 : (0 : Int) ≤ (c : Int) := by omega
        clear hfl
        go_wp2_with (
          at_make
          refine wpList_make_full _ rfl _ _ 22 rfl g2 3 i0 (.int .i64 0) 1 Try.underlying22 hi0 hz0 hz1 .i64 .i64 c c c rfl rfl rfl rfl (by rw [hz2]; omega) (by unfold maxLen; omega) hgb ?_
          intro w4 hown hgr
          have hown4 : OwnI w4 g2 3 (some ⟨wr.heap.size, 0, none⟩) c c (List.replicate c 0) := by rw [made_zerosS] at hown; exact hown
          have hb4 : Below wr.heap.size wr w4 := (Below.refl _ _).grown hgr (Nat.le_refl _) (fun k hk => by cases hk)
          have hfz4 := hown4.frozenAt f
          have hoc4 := hown4.cellAt hlt
          have hst4 := hown4.stored f 1
          rw [HK0.out] at hst4
          have HS4 := Lib.hid hst4
          have HBS4 := Lib.hid (hb4.setCell (p := ⟨wr.heap.size, f, none⟩) (Nat.le_refl _) (.int .i64 1))
          clear hown hgr hst4 hown4 hb4)
        obtain ⟨g, hg⟩ : ∃ g, wr.heap.size = g := ⟨_, rfl⟩
        rw [hg] at HS4 HBS4 hgb ⊢
        have HGG := Lib.hid hg
        clear hg
        go_loopw [37] (fun v wx => ∃ j : Nat, j ≤ f ∧ v = .int .i64 j ∧ OwnI wx g2 3 (some ⟨g, 0, none⟩) c c (kerP p c lead m f j) ∧ Below g wr wx) (fun v _ => f - (intOf v).toNat)
        case atStart => exact ⟨0, Nat.zero_le _, rfl, HS4.out, HBS4.out⟩
        case round =>
          rename_i wo _
          obtain ⟨j, hj, rfl, hown, hbj⟩ := hrel
          by_cases hlt2 : j < f
          · have HRz := Lib.hid (HR2.out.below (by rw [HG.out]; exact hb.trans (hbj.mono hgb)))
            have hz0 : wr.cell? ⟨w1.heap.size + 1, 0, none⟩ = some (.int .i64 p) := (HRz.out.blk.cell 0).trans (redC_0 _ _ _ _ _)
            have hz2 : wr.cell? ⟨w1.heap.size + 1, 2, none⟩ = some (.slice R r cap) := (HRz.out.blk.cell 2).trans (redC_2 _ _ _ _ _)
            have hz4 : wr.cell? ⟨w1.heap.size + 1, 4 + j, none⟩ = some (.int .i64 ((ldL lead).getD j 0)) := (HRz.out.blk.cell (4 + j)).trans (redC_ld _ _ _ _ (ldL_len lead) (by omega))
            rw [ldL_at _ (by omega)] at hz4
            have h1j : (j : Int) < (f : Int) := by omega
            have h0j : (0 : Int) ≤ (j : Int) := by omega
            have h32j : (j : Int) < 32 := by omega
            have hjc : (j : Int) < (c : Int) := by omega
            by_cases hjl : j ∈ lead
            · rw [if_pos hjl] at hz4
              have hidx := List.idxOf_lt_length_of_mem hjl
              have HST := Lib.hid (kerP_set (p := p) (m := m) hlt2 hlt hjl)
              have hrm := HRed.out.inv.rm
              have hmn := HRz.out.ln
              obtain ⟨go, hRe, _, _, _, hbn, hrow⟩ := HRz.out.form (by omega)
              have hri := (hrow (lead.idxOf j) (by omega)).1
              have hcell := (HRz.out.rws.own (lead.idxOf j) (by omega)).cellAt (j := f) (by omega)
              have hyb := HRed.out.el.mx_in hp.1 (i := lead.idxOf j) (by omega) f
              subst hRe
              obtain ⟨i, hi⟩ : ∃ i, lead.idxOf j = i := ⟨_, rfl⟩
              rw [hi] at hz4 hidx hri hcell HST hyb
              obtain ⟨bi, hbi⟩ : ∃ b, (bs.getD i (0, 0)).1 = b := ⟨_, rfl⟩
              obtain ⟨ci, hci⟩ : ∃ b, (bs.getD i (0, 0)).2 = b := ⟨_, rfl⟩
              rw [hbi, hci] at hri
              rw [hbi] at hcell
              obtain ⟨y, hy⟩ : ∃ y, mx m i f = y := ⟨_, rfl⟩
              rw [show (m.getD i []).getD f 0 = mx m i f from rfl, hy] at hcell
              rw [hy] at HST hyb
              have hn1 : (i : Int) + 1 - 1 = (i : Int) := by omega
              have hi1 : (i : Int) < (r : Int) := by omega
              have hi0 : (0 : Int) ≤ (i : Int) := by omega
              have hin : (0 : Int) < (i : Int) + 1 := by omega
              have hfc : (f : Int) < ((c + 1 : Nat) : Int) := by omega
              have hwr : IntKind.i64.wrap (i : Int) = (i : Int) := IntWalk.i64_in _ (by omega)
              have hfz := hown.frozenAt j
              have hoc := hown.cellAt (j := j) (by omega)
              have hst := hown.stored j (subP p 0 y)
              rw [HST.out] at hst
              have HS := Lib.hid hst
              have HBS := Lib.hid (hbj.setCell (p := ⟨g, j, none⟩) (Nat.le_refl _) (.int .i64 (subP p 0 y)))
              clear hst hown hbi hci hrow hbn
              go_wp2_with fail
              go_region_with (go_at_call 136; refine (subP_any p 0 y _ hp (by omega) hyb).mono ?_; rintro e w8 ⟨rfl, rfl⟩)
              all_goals go_wp2
              all_goals go_roundw
              all_goals first
                | exact ⟨⟨j + 1, by omega, by go_num, HS.out.drew, HBS.out.drew⟩, by simp [intOf]; omega⟩
                | exact ⟨j + 1, by omega, by go_num, HS.out.drew, HBS.out.drew⟩
                | exact ⟨⟨j + 1, by omega, by go_num, HS.out, HBS.out⟩, by simp [intOf]; omega⟩
                | exact ⟨j + 1, by omega, by go_num, HS.out, HBS.out⟩
                | (simp [intOf]; omega)
            · rw [if_neg hjl] at hz4
              have HST := Lib.hid (kerP_skip (p := p) (c := c) (m := m) (f := f) hjl)
              clear hjl
              go_wp2
              go_roundw
              case rel => exact ⟨j + 1, by omega, by go_num, by rw [← HST.out]; exact hown, hbj⟩
              case measure => simp [intOf]; omega
          · obtain rfl : j = f := by omega
            rw [HKA.out] at hown
            have hsz : g ≤ wr.heap.size := by have := hbj.size; rw [HGG.out] at this; exact this
            have hgr := World.ownsRow.lt hown g rfl
            have hAlt := hM.row
            have HM2 := Lib.hid (hM.belowAll (by rw [HGG.out]; exact hbj))
            have HI2 := Lib.hid (hown.ints)
            have HAP : Hid (0 < c → ∀ b off s, (some ⟨g, 0, none⟩ : Option Addr) = some ⟨b, off, s⟩ → (Value.slice A n ca).ownBlock ≠ some b) := Lib.hid fun _ b off s e e2 => by
              injection e with e
              injection e with e
              have := (hAlt b e2).2
              rw [HGG.out] at this
              omega
            have HLO : Hid (Lo g2 (some ⟨g, 0, none⟩) c) := Lib.hid fun _ b off s e => by
              injection e with e
              injection e with e
              omega
            have hM3 := HM2.out.belowAll (bbox (.cells #[.slice (some ⟨g, 0, none⟩) c c] 22))
            have hI3 := HI2.out.upto (bbox (.cells #[.slice (some ⟨g, 0, none⟩) c c] 22))
            have hcl : (wr.alloc (.cells #[.slice (some ⟨g, 0, none⟩) c c] 22)).cell? ⟨wr.heap.size, 0, none⟩ = some (.slice (some ⟨g, 0, none⟩) c c) := by rw [World.cell?_alloc_at _ _ _ _ rfl]; rfl
            have HM3 := Lib.hid hM3
            have HI3 := Lib.hid hI3
            have hbw := ((hb.trans (hbj.mono hgb)).alloc (by omega) (.cells #[.slice (some ⟨g, 0, none⟩) c c] 22))
            have HBW := Lib.hid hbw
            clear hM3 hI3 hAlt hown hM hbw
            go_wp2_with (at_builtin; refine (?_ : Hid _).out)
            refine Lib.hid ?_
            refine wpList_append_row rfl _ _ 25 rfl g2 g2 22 i1 _ Try.underlying25 hi1 hy0 hy1 hy2 rfl A n ca rows rfl HM3.out wr.heap.size 1 (some ⟨g, 0, none⟩) c c (kerX p c lead m j) rfl hcl (by simp) (by omega) HI3.out HLO.out HAP.out (n + 1) rfl (by omega) (le_alloc (by omega) _) ?_
            intro A2 c2 w9 hown2 hgr2 hbw2
            have HBW2 := Lib.hid (HBW.out.trans hbw2)
            have HM9 := Lib.hid hown2
            clear hgr2 hbw2 hown2
            go_wp2
            go_roundw
            case rel => exact ⟨j + 1, A2, n + 1, c2, rows ++ [kerX p c lead m j], by omega, by go_num, rfl, HM9.out, Lib.hid (by rw [HKS.out, HROWS.out]), by omega, HBW2.out⟩
            case measure => simp [intOf]; omega
    · obtain rfl : f = c := by omega
      go_wp2
      go_ret2
      exact ⟨A, n, ca, rows, rfl, hM.weaken hgw hgw, ⟨m, lead, HRed.out, HROWS.out⟩, hnf, hbb2.trans (hb.mono hgw)⟩
end Go.Proofs.Ytoblofilaegnaaa

/-! SolR -/
namespace Go.Proofs.Ytoblofilaegnaaa
open Go.RowKit
set_option linter.unusedVariables false

/-- The solution as it grows, leading column by leading column. -/
def solR (c : Nat) (lead : List Nat) (m : List (List Int)) (n : Nat) : List Int := (List.range c).map fun k => if k ∈ lead ∧ lead.idxOf k < n then mx m (lead.idxOf k) c else 0
theorem cf_solR (c : Nat) (lead : List Nat) (m : List (List Int)) (n k : Nat) : cf (solR c lead m n) k = if k < c then (if k ∈ lead ∧ lead.idxOf k < n then mx m (lead.idxOf k) c else 0) else 0 := by unfold solR; rw [cf_map_range]
theorem solR_len (c : Nat) (lead : List Nat) (m : List (List Int)) (n : Nat) : (solR c lead m n).length = c := by simp [solR]
theorem solR_zero (c : Nat) (lead : List Nat) (m : List (List Int)) : solR c lead m 0 = List.replicate c 0 := by
  unfold solR
  rw [List.eq_replicate_iff]
  refine ⟨by simp, fun b hb => ?_⟩
  obtain ⟨k, _, rfl⟩ := List.mem_map.1 hb
  rw [if_neg (by omega)]
theorem getD_idxOf_ {lead : List Nat} {k : Nat} (h : k ∈ lead) : lead.getD (lead.idxOf k) 0 = k := by
  have h1 := List.idxOf_lt_length_of_mem h
  rw [List.getD_eq_getElem?_getD, List.getElem?_eq_getElem h1]
  simp
theorem solR_set {p : Int} {c : Nat} {lead : List Nat} {m : List (List Int)} (h : RInv p c lead m) {n : Nat} (hn : n < lead.length) : (solR c lead m n).set (lead.getD n 0) (mx m n c) = solR c lead m (n + 1) := by
  refine cf_ext (by rw [List.length_set, solR_len, solR_len]) fun k => ?_
  show ((solR c lead m n).set (lead.getD n 0) _).getD k 0 = _
  rw [cf_solR, List.getD_eq_getElem?_getD, List.getElem?_set]
  have hl := h.lt n hn
  by_cases e : lead.getD n 0 = k
  · have hx := idxOf_lead h hn
    have hm := lead_mem hn
    rw [e] at hx hm hl
    rw [if_pos e, e, if_pos (by rw [solR_len]; exact hl), if_pos hl, if_pos ⟨hm, by omega⟩, hx]; rfl
  · rw [if_neg e, ← List.getD_eq_getElem?_getD]
    show cf (solR c lead m n) k = _
    rw [cf_solR]
    by_cases hk : k < c
    · rw [if_pos hk, if_pos hk]
      by_cases e2 : k ∈ lead ∧ lead.idxOf k < n
      · rw [if_pos e2, if_pos ⟨e2.1, by omega⟩]
      · rw [if_neg e2, if_neg (fun a => e2 ⟨a.1, by
          have h1 := getD_idxOf_ a.1
          have : lead.idxOf k ≠ n := fun e3 => e (by rw [← e3]; exact h1)
          omega⟩)]
    · rw [if_neg hk, if_neg hk]
theorem solR_all (c : Nat) (lead : List Nat) (m : List (List Int)) : solR c lead m lead.length = solL c lead m c := by
  refine cf_ext (by rw [solR_len, solL_len]) fun k => ?_
  rw [cf_solR, cf_solL]
  by_cases hk : k < c
  · rw [if_pos hk, if_pos hk]
    by_cases e : k ∈ lead
    · rw [if_pos ⟨e, List.idxOf_lt_length_of_mem e⟩, if_pos ⟨hk, e⟩]
    · rw [if_neg (fun a => e a.1), if_neg (fun a => e a.2)]
  · rw [if_neg hk, if_neg hk]
end Go.Proofs.Ytoblofilaegnaaa
