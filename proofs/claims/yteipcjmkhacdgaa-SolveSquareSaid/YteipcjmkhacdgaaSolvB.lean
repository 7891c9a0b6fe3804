/-
  What solve's Count hands back for valid equations. Conditions: the lists read as their numbers.
-/
import Derived.Test.YteipcjmkhacdgaaSolvA
namespace Go.Proofs.Yteipcjmkhacdgaa
open Go.RowKit
set_option linter.unusedVariables false

/-- What Count leaves. -/
def CountPost (p : Int) (c : Nat) (m0 : List (List Int)) (w : World) (e : Ending) (w' : World) : Prop :=
  (∃ v : Option Int, CountOf p c m0 v ∧ e = .returned (match v with | some u => .tuple #[.int .i64 u, .int .i64 0] | none => .tuple #[.int .i64 0, .int .i64 4])) ∧ Below w.heap.size w w'
theorem cntP_none {p : Int} (n : Nat) (h : cntP p n = none) : ∀ d, cntP p (n + d) = none
  | 0 => h
  | d + 1 => by rw [← Nat.add_assoc]; simp only [cntP]; rw [cntP_none n h d]

set_option maxHeartbeats 800000 in
set_option maxRecDepth 100000 in
/-- The number of solutions of valid equations. -/
theorem count_ok {p : Int} {r c nc cc cd : Nat} {C D : Option Addr} {cells right : List Int} {w : World} (h : EqW w p r c nc C cc D cd cells right) :
    Calls Try.prog 16 #[eqV p r c C nc cc D r cd] w (CountPost p c (augM r c cells right) w) := by
  have hb0 : Below w.heap.size w (w.alloc (.cells (eqC p r c C nc cc D r cd) 30)) := bbox _
  have HE := Lib.hid (h.upto hb0)
  have HB0 := Lib.hid (Blk.new w 30 (eqC p r c C nc cc D r cd))
  have HL := h.ln
  have hc32 := h.ok.c32
  have hr32 := h.ok.r32
  have hp := okP_pos h.ok.ok
  clear h
  go_enter Try.func16, Try.ntmps16
  go_wp2_with (first
    | (go_at_call 29; refine (scheck_ok p r c nc C cc D cd cells right _ HE.out.ok (Lib.hid HL) HE.out.hC HE.out.hD).mono ?_; rintro e w1 ⟨rfl, hb1⟩
       have HB1 := Lib.hid (HB0.out.below hb1 HB0.out.lt)
       have HE1 := Lib.hid (HE.out.upto hb1)
       have hbb1 := hb0.trans (hb1.mono (by simp))
       have hs1 := HB1.out.lt
       have ha0 : w1.cell? ⟨w.heap.size, 0, none⟩ = some (.int .i64 p) := (HB1.out.cell 0).trans rfl
       have ha1 : w1.cell? ⟨w.heap.size, 1, none⟩ = some (.int .i64 r) := (HB1.out.cell 1).trans rfl
       have ha2 : w1.cell? ⟨w.heap.size, 2, none⟩ = some (.int .i64 c) := (HB1.out.cell 2).trans rfl
       have ha3 : w1.cell? ⟨w.heap.size, 3, none⟩ = some (.slice C nc cc) := (HB1.out.cell 3).trans rfl
       have ha4 : w1.cell? ⟨w.heap.size, 4, none⟩ = some (.slice D r cd) := (HB1.out.cell 4).trans rfl
       clear hb1)
    | (go_at_call 34; refine (reduce_ok p r c nc C cc D cd cells right _ HE1.out.ok (Lib.hid HL) HE1.out.hC HE1.out.hD HE1.out.cap).mono ?_; rintro e w2 ⟨R, cap, bs, m, lead, rfl, hR, hred, hb2⟩
       have hbb2 := bnext hbb1 hb2
       have HR2 := Lib.hid hR
       have HRed := Lib.hid hred
       have HB2 := Lib.hid (HB1.out.below hb2 HB1.out.lt)
       clear hb2 hR hred)
    | (go_at_call 35; refine (?_ : Hid _).out))
  refine Lib.hid ?_
  refine (solvable_any _ _ p c R r cap bs m lead lead.length _ HR2.out (Lib.hid rfl) (by rw [← HR2.out.ln]; exact HRed.out.inv.rm) hr32).mono ?_
  rintro e w3 ⟨b, rfl, hbi, hb3⟩
  have hbb3 := bnext hbb2 hb3
  have HR3 := Lib.hid (HR2.out.below hb3)
  have HB3 := Lib.hid (HB2.out.below hb3 HB2.out.lt)
  have HBI := Lib.hid hbi
  clear hb3 hbi ha0 ha1 ha2 ha3 ha4
  rcases b with _ | _
  · have hcl : ¬ NoClash c lead.length m := fun h => by cases HBI.out.2 h
    have HC : Hid (CountOf p c (augM r c cells right) (some 0)) := Lib.hid ⟨m, lead, HRed.out, .inl ⟨hcl, rfl⟩⟩
    clear hcl
    go_wp2
    go_ret2
    exact ⟨⟨some 0, HC.out, rfl⟩, hbb3⟩
  · have hcl : NoClash c lead.length m := HBI.out.1 rfl
    have hrk := HRed.out.inv.rank_le
    have HC : Hid (∀ v, v = cntP p (c - lead.length) → CountOf p c (augM r c cells right) v) := Lib.hid fun v hv => ⟨m, lead, HRed.out, .inr ⟨hcl, hv⟩⟩
    have ha0 : w3.cell? ⟨w.heap.size, 0, none⟩ = some (.int .i64 p) := (HB3.out.cell 0).trans rfl
    have ha2 : w3.cell? ⟨w.heap.size, 2, none⟩ = some (.int .i64 c) := (HB3.out.cell 2).trans rfl
    have hg3 : w3.cell? ⟨w1.heap.size + 1, 3, none⟩ = some (.int .i64 lead.length) := (HR3.out.blk.cell 3).trans (redC_3 _ _ _ _ _)
    clear hcl HRed HR3 HR2
    obtain ⟨rk, hrke⟩ : ∃ k, lead.length = k := ⟨_, rfl⟩
    rw [hrke] at hg3 hrk HC
    have hsub : (c : Int) - (rk : Int) = ((c - rk : Nat) : Int) := by omega
    clear hrke
    go_wp2
    go_quiet (fail)
    go_wp2
    go_loop [6, 24] (fun u v => ∃ (j : Nat) (x : Int), j ≤ c - rk ∧ v = .int .i64 j ∧ u = .int .i64 x ∧ Hid (cntP p j = some x)) (fun _ v => c - rk - (intOf v).toNat)
    case atStart => exact ⟨0, 1, Nat.zero_le _, rfl, rfl, Lib.hid rfl⟩
    case round =>
      obtain ⟨j, x, hj, rfl, rfl, HX⟩ := hrel
      by_cases hlt : j < c - rk
      · have h1 : (j : Int) < ((c - rk : Nat) : Int) := by omega
        have hx1 := (cntP_pow hp.1 _ _ HX.out).2
        have hp1 : ¬ p = 0 := by omega
        have hqt : Int.tdiv 1099511627776 p = 1099511627776 / p := Int.tdiv_eq_ediv_of_nonneg (by omega)
        have hq1 : 0 ≤ 1099511627776 / p := Int.ediv_nonneg (by omega) (by omega)
        have hq2 : 1099511627776 / p ≤ 1099511627776 := Int.ediv_le_self _ (by omega)
        by_cases hbig : 1099511627776 / p < x
        · have HN : Hid (cntP p (c - rk) = none) := Lib.hid (by
            have := cntP_none (p := p) (j + 1) (by simp only [cntP]; rw [HX.out]; simp only []; rw [if_pos hbig]) (c - rk - (j + 1))
            rwa [show j + 1 + (c - rk - (j + 1)) = c - rk by omega] at this)
          go_wp2
          go_ret2
          exact ⟨⟨none, HC.out none HN.out.symm, rfl⟩, below_drewN hbb3 _⟩
        · have hm1 : x * p ≤ 1099511627776 := by
            have h2 : x ≤ 1099511627776 / p := by omega
            have h3 := Int.mul_le_mul_of_nonneg_right h2 (show (0 : Int) ≤ p by omega)
            have h4 := Int.ediv_mul_le 1099511627776 (show p ≠ 0 by omega)
            omega
          have hm0 : 0 ≤ x * p := Int.mul_nonneg (by omega) (by omega)
          have HX2 : Hid (cntP p (j + 1) = some (x * p)) := Lib.hid (by simp only [cntP]; rw [HX.out]; simp only []; rw [if_neg hbig])
          go_wp2
          go_round
          case rel => exact ⟨j + 1, x * p, by omega, by go_num, rfl, HX2⟩
          case measure => simp [intOf]; omega
      · obtain rfl : c - rk = j := by omega
        go_wp2
        go_ret2
        exact ⟨⟨some x, HC.out _ HX.out.symm, rfl⟩, below_drewN hbb3 _⟩
end Go.Proofs.Yteipcjmkhacdgaa
