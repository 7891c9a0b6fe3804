/-
  What solve's Solves answers for valid equations and any list. Conditions: the lists read as their numbers.
-/
import Derived.Test.YtoblofilaegnaaaSCheck
import Derived.Test.YtoblofilaegnaaaDotE
import Derived.Test.YtoblofilaegnaaaVec
import Derived.Deep.DeepCutAuto
import Derived.Deep.RegionHeld3
import Derived.Deep.QuietTactic
import Derived.BigQuiet
namespace Go.Proofs.Ytoblofilaegnaaa
open Go.RowKit
set_option linter.unusedVariables false

/-- The error of Solves. -/
def solvesE (p : Int) (c : Nat) (xs : List Int) : Int := if xs.length = c then (if allP p xs = true then 0 else 9) else 2
/-- What Solves leaves. -/
def SolvesPost (p : Int) (r c : Nat) (cells right xs : List Int) (w : World) (e : Ending) (w' : World) : Prop :=
  ∃ (b : Bool) (er : Int), e = .returned (.tuple #[.bool b, .int .i64 er]) ∧ er = solvesE p c xs ∧ (b = true ↔ er = 0 ∧ solvesB p r c cells right xs = true) ∧ Below w.heap.size w w'

theorem solvesB_no {p : Int} {r c : Nat} {cells right xs : List Int} {i : Nat} (hi : i < r) (h : dotP p ((cells.drop (i * c)).take c) xs ≠ right.getD i 0) : solvesB p r c cells right xs = false := by
  rw [← Bool.not_eq_true]
  intro e
  unfold solvesB at e
  rw [List.all_eq_true] at e
  exact h (by simpa using e i (List.mem_range.2 hi))
theorem solvesB_yes {p : Int} {r c : Nat} {cells right xs : List Int} (h : ∀ i, i < r → dotP p ((cells.drop (i * c)).take c) xs = right.getD i 0) : solvesB p r c cells right xs = true := by
  unfold solvesB
  rw [List.all_eq_true]
  intro i hi
  simpa using h i (List.mem_range.1 hi)

set_option maxHeartbeats 800000 in
set_option maxRecDepth 100000 in
/-- Whether a list solves valid equations. -/
theorem solves_ok {p : Int} {r c nc cc cd : Nat} {C D : Option Addr} {cells right : List Int} {w : World} (h : EqW w p r c nc C cc D cd cells right) {X : Option Addr} {m xc : Nat} {xs : List Int} (hX : Ints w w.heap.size X m xs) (hm : m ≤ 17592186044416) :
    Calls Try.prog 105 #[eqV p r c C nc cc D r cd, .slice X m xc] w (SolvesPost p r c cells right xs w) := by
  have hb0 : Below w.heap.size w (w.alloc (.cells (eqC p r c C nc cc D r cd) 106)) := bbox _
  have HE := Lib.hid (h.upto hb0)
  have HX := Lib.hid (hX.upto hb0)
  have HB0 := Lib.hid (Blk.new w 106 (eqC p r c C nc cc D r cd))
  have HL := h.ln
  have hc32 := h.ok.c32
  have hr32 := h.ok.r32
  have hp := okP_pos h.ok.ok
  have hxl := hX.len
  have HXL := Lib.hid hxl
  clear h hX
  by_cases hmc : m = c
  · subst hmc
    by_cases ha : allP p xs = true
    · have HA := Lib.hid ha
      have HSE : Hid (solvesE p m xs = 0) := Lib.hid (by unfold solvesE; rw [if_pos hxl, if_pos ha])
      clear hxl
      go_enter Try.func105, Try.ntmps105
      go_wp2_with (first
        | (go_at_call 103; refine (scheck_ok p r m nc C cc D cd cells right _ HE.out.ok (Lib.hid HL) HE.out.hC HE.out.hD).mono ?_; rintro e w1 ⟨rfl, hb1⟩
           have HB1 := Lib.hid (HB0.out.below hb1 HB0.out.lt)
           have HE1 := Lib.hid (HE.out.upto hb1)
           have HX1 := Lib.hid (HX.out.upto hb1)
           have hbb1 := hb0.trans (hb1.mono (by simp))
           have hs1 := HB1.out.lt
           have ha0 : w1.cell? ⟨w.heap.size, 0, none⟩ = some (.int .i64 p) := (HB1.out.cell 0).trans rfl
           have ha1 : w1.cell? ⟨w.heap.size, 1, none⟩ = some (.int .i64 r) := (HB1.out.cell 1).trans rfl
           have ha2 : w1.cell? ⟨w.heap.size, 2, none⟩ = some (.int .i64 m) := (HB1.out.cell 2).trans rfl
           clear hb1)
        | (go_at_call 119; refine (all_any p X m xc xs _ HX1.out (by omega)).mono ?_; rintro e w2 ⟨rfl, hb2⟩
           have HB2 := Lib.hid (HB1.out.below hb2 HB1.out.lt)
           have HE2 := Lib.hid (HE1.out.upto hb2)
           have HX2 := Lib.hid (HX1.out.upto hb2)
           have hbb2 := bnext hbb1 hb2
           have hs2 := HB2.out.lt
           have ha21 : w2.cell? ⟨w.heap.size, 1, none⟩ = some (.int .i64 r) := (HB2.out.cell 1).trans rfl
           clear hb2))
      clear ha0 ha1 ha2 ha21
      go_loopw [28] (fun v wr => ∃ q : Nat, q ≤ r ∧ v = .int .i64 q ∧ Hid (∀ i, i < q → dotP p ((cells.drop (i * m)).take m) xs = right.getD i 0) ∧ Below w2.heap.size w2 wr) (fun v _ => r - (intOf v).toNat)
      case atStart => exact ⟨0, Nat.zero_le _, rfl, Lib.hid fun i hi => absurd hi (by omega), Below.refl _ _⟩
      case round =>
        obtain ⟨q, hq, rfl, HQ, hb⟩ := hrel
        have HBr := HB2.out.below hb HB2.out.lt
        by_cases hlt : q < r
        · have hr0 : wr.cell? ⟨w.heap.size, 0, none⟩ = some (.int .i64 p) := (HBr.cell 0).trans rfl
          have hr2 : wr.cell? ⟨w.heap.size, 2, none⟩ = some (.int .i64 m) := (HBr.cell 2).trans rfl
          have hr3 : wr.cell? ⟨w.heap.size, 3, none⟩ = some (.slice C nc cc) := (HBr.cell 3).trans rfl
          have hr4 : wr.cell? ⟨w.heap.size, 4, none⟩ = some (.slice D r cd) := (HBr.cell 4).trans rfl
          have HEr := Lib.hid (HE2.out.upto hb)
          have HXr := Lib.hid (HX2.out.upto hb)
          have hcc := HE2.out.cap
          have hle : r * m ≤ 32 * 32 := Nat.mul_le_mul hr32 hc32
          have hrle := row_le (c := m) hlt
          rw [HL] at hrle hle
          obtain ⟨l, hl⟩ : ∃ l, q * m = l := ⟨_, rfl⟩
          rw [hl] at hrle
          have hw1 : (q : Int) * (m : Int) = (l : Int) := by rw [← hl]; simp
          have hw2 : ((q : Int) + 1) * (m : Int) = ((l + m : Nat) : Int) := by rw [← hl, Int.add_mul]; simp
          have HI := Lib.hid (HEr.out.hC.sub_ hcc l m hrle)
          have HQD : Hid (∀ z, dotP p ((cells.drop l).take m) xs = z → dotP p ((cells.drop (q * m)).take m) xs = z) := Lib.hid (by rw [hl]; exact fun z h => h)
          have HRA : Hid (allP p ((cells.drop l).take m) = true) := Lib.hid (allP_iff.2 fun x hx => allP_iff.1 HE2.out.ok.ac x (List.mem_of_mem_drop (List.mem_of_mem_take hx)))
          have HOK := Lib.hid HE2.out.ok.ok
          obtain ⟨yq, hyq⟩ : ∃ y, right.getD q 0 = y := ⟨_, rfl⟩
          have HYQ := Lib.hid hyq
          obtain ⟨row, hrow⟩ : ∃ z, (cells.drop l).take m = z := ⟨_, rfl⟩
          rw [hrow] at HI HQD HRA
          obtain ⟨bD, oD, hDe, hbD, hcD⟩ := HEr.out.hD.2 (by omega)
          subst hDe
          have hcq := hcD q hlt
          rw [hyq] at hcq
          have h1 : (q : Int) < (r : Int) := by omega
          have h0 : (0 : Int) ≤ (q : Int) := by omega
          clear hcD hrow hyq hl
          obtain ⟨e, he⟩ : ∃ e, l + m = e := ⟨_, rfl⟩
          have hem : e - l = m := by omega
          rw [he] at hw2 hrle
          obtain ⟨A4, hA4, HI4⟩ : ∃ A4 : Option Addr, (if cc = l then C else Option.map (fun x => x.add l) C) = A4 ∧ Hid (Ints wr wr.heap.size A4 m row) := by
            refine ⟨_, rfl, ?_⟩
            have := HI
            rwa [Nat.mul_one] at this
          have he1024 : e ≤ 1024 := by omega
          have s1 : (0 : Int) ≤ (l : Int) := by omega
          have s2 : (l : Int) ≤ (e : Int) := by omega
          have s3 : (e : Int) ≤ (cc : Int) := by omega
          have s4 : IntKind.i64.wrap (l : Int) = (l : Int) := IntWalk.i64_in _ (by omega)
          have s5 : IntKind.i64.wrap (e : Int) = (e : Int) := IntWalk.i64_in _ (by omega)
          have s6 : IntKind.i64.wrap ((q : Int) + 1) = (q : Int) + 1 := IntWalk.i64_in _ (by omega)
          go_wp2_with fail
          go_region_held3 (fun w' => w'.cell? ⟨w.heap.size, 0, none⟩ = some (.int .i64 p) ∧ w'.cell? ⟨w.heap.size, 2, none⟩ = some (.int .i64 m) ∧ w'.cell? ⟨w.heap.size, 3, none⟩ = some (.slice C nc cc)) (first | exact ⟨hr0, hr2, hr3⟩ | exact ⟨hk0, hk2, hk3⟩ | go_keep) (first | (go_at_call 28; (try rw [hem]); refine (dot_ok p A4 X m (cc - l) xc row xs _ HOK.out (by exact HI4.out) (by exact HXr.out) HRA.out HA.out hm).mono ?_; rintro e w3 ⟨rfl, hb3⟩; have hb3' : Below wr.heap.size wr w3 := ⟨hb3.os, hb3.tape, hb3.output, hb3.size, hb3.block⟩; have hr43 : w3.cell? ⟨w.heap.size, 4, none⟩ = some (.slice (some ⟨bD, oD, none⟩) r cd) := (hb3'.cell (p := ⟨w.heap.size, 4, none⟩) HBr.lt).trans hr4; have hcq3 : w3.cell? ⟨bD, oD + q, none⟩ = some (.int .i64 yq) := (hb3'.cell (p := ⟨bD, oD + q, none⟩) hbD).trans hcq; have hbx := hb.trans (hb3'.mono hb.size); have hk0 := (hb3'.cell (p := ⟨w.heap.size, 0, none⟩) HBr.lt).trans hr0; have hk2 := (hb3'.cell (p := ⟨w.heap.size, 2, none⟩) HBr.lt).trans hr2; have hk3 := (hb3'.cell (p := ⟨w.heap.size, 3, none⟩) HBr.lt).trans hr3; clear hb3))
          all_goals (
            by_cases hy : dotP p row xs = yq
            · have HQ2 : Hid (∀ i, i < q + 1 → dotP p ((cells.drop (i * m)).take m) xs = right.getD i 0) := Lib.hid fun i hi => by
                by_cases e : i = q
                · rw [e, HYQ.out]; exact HQD.out _ hy
                · exact HQ.out i (by omega)
              go_wp2
              go_roundw
              case rel => exact ⟨q + 1, by omega, by go_num, HQ2, hbx⟩
              case measure => simp [intOf]; omega
            · have HNO : Hid (solvesB p r m cells right xs = false) := Lib.hid (solvesB_no hlt (by rw [HQD.out _ rfl, HYQ.out]; exact hy))
              go_wp2
              go_ret2
              exact ⟨false, 0, rfl, HSE.out.symm, ⟨fun h => (by cases h), fun h => (by have := h.2; rw [HNO.out] at this; cases this)⟩, hbb2.trans (hbx.mono (by omega))⟩)
        · obtain rfl : r = q := by omega
          have ha21 : wr.cell? ⟨w.heap.size, 1, none⟩ = some (.int .i64 r) := (HBr.cell 1).trans rfl
          go_wp2
          go_ret2
          exact ⟨true, 0, rfl, HSE.out.symm, ⟨fun _ => ⟨rfl, solvesB_yes HQ.out⟩, fun _ => rfl⟩, hbb2.trans (hb.mono (by omega))⟩
    · have HSE : Hid (solvesE p m xs = 9) := Lib.hid (by unfold solvesE; rw [if_pos hxl, if_neg ha])
      have haf : allP p xs = false := by simpa using ha
      go_enter Try.func105, Try.ntmps105
      go_wp2_with (first
        | (go_at_call 103; refine (scheck_ok p r m nc C cc D cd cells right _ HE.out.ok (Lib.hid HL) HE.out.hC HE.out.hD).mono ?_; rintro e w1 ⟨rfl, hb1⟩
           have HB1 := Lib.hid (HB0.out.below hb1 HB0.out.lt)
           have HX1 := Lib.hid (HX.out.upto hb1)
           have hbb1 := hb0.trans (hb1.mono (by simp))
           have ha0 : w1.cell? ⟨w.heap.size, 0, none⟩ = some (.int .i64 p) := (HB1.out.cell 0).trans rfl
           have ha2 : w1.cell? ⟨w.heap.size, 2, none⟩ = some (.int .i64 m) := (HB1.out.cell 2).trans rfl
           clear hb1)
        | (go_at_call 119; refine (all_any p X m xc xs _ HX1.out (by omega)).mono ?_; rintro e w2 ⟨rfl, hb2⟩
           have hbb2 := bnext hbb1 hb2
           clear hb2))
      go_ret2
      exact ⟨false, 9, rfl, HSE.out.symm, ⟨fun h => (by cases h), fun h => (by have := h.1; omega)⟩, hbb2⟩
  · have HSE : Hid (solvesE p c xs = 2) := Lib.hid (by unfold solvesE; rw [if_neg (by omega)])
    have hmi : ¬ (m : Int) = (c : Int) := by omega
    go_enter Try.func105, Try.ntmps105
    go_wp2_with (first
      | (go_at_call 103; refine (scheck_ok p r c nc C cc D cd cells right _ HE.out.ok (Lib.hid HL) HE.out.hC HE.out.hD).mono ?_; rintro e w1 ⟨rfl, hb1⟩
         have HB1 := Lib.hid (HB0.out.below hb1 HB0.out.lt)
         have hbb1 := hb0.trans (hb1.mono (by simp))
         have ha2 : w1.cell? ⟨w.heap.size, 2, none⟩ = some (.int .i64 c) := (HB1.out.cell 2).trans rfl
         clear hb1))
    go_ret2
    exact ⟨false, 2, rfl, HSE.out.symm, ⟨fun h => (by cases h), fun h => (by have := h.1; omega)⟩, hbb1⟩
end Go.Proofs.Ytoblofilaegnaaa
