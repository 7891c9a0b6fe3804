/-
  Words for memory and contracts of small functions of the second form. Conditions: those of each lemma.
-/
import Derived.Test.YtmcgnpdfpfgfpaaGreatDoorSrt4
import Derived.Test.YtmcgnpdfpfgfpaaGreatDoorGSrA
/-! Srt8 -/
namespace Go.Proofs.YtmcgnpdfpfgfpaaGreatDoor
open Go.RowKit
set_option linter.unusedVariables false

set_option maxRecDepth 100000 in
set_option maxHeartbeats 4000000 in
theorem partEq_any (w0 : World) (base b n c g : Nat) (vs0 us : List Value) (cv : Value → Value → Int) (HC : Hid (CmpV w0 b g vs0 cv)) (lo hi pv : Nat) (w : World) (h : SrtW w0 w base b n c vs0 us) (hh : hi ≤ n) (hn : n ≤ 100000) (hlo : lo < hi) (hpv : lo ≤ pv ∧ pv < hi) :
    Calls Tryz.prog 146 #[.slice (some ⟨b, 0, none⟩) n c, .int .i64 lo, .int .i64 hi, .int .i64 pv, ordV g] w fun e w' => (∃ q : Nat, e = .returned (.int .i64 q) ∧ lo < q ∧ q ≤ hi) ∧ ∃ us, SrtW w0 w' base b n c vs0 us := by
  go_enter Tryz.func146, Tryz.ntmps146
  have hS := h
  go_upto_region 1 with fail
  go_cut [] (fun wx => ∃ us, SrtW w0 wx base b n c vs0 us)
  case first =>
    obtain ⟨xA, xk, xd, hx, hxm, hcx, hfx⟩ := hS.at_ (show lo < n by omega)
    have hx0 : (0 : Int) ≤ (lo : Int) := by omega
    have hxn : (lo : Int) < (n : Int) := by omega
    obtain ⟨yA, yk, yd, hy, hym, hcy, hfy⟩ := hS.at_ (show pv < n by omega)
    have hy0 : (0 : Int) ≤ (pv : Int) := by omega
    have hyn : (pv : Int) < (n : Int) := by omega
    obtain ⟨us3, hS3⟩ := hS.swap hx hy
    by_cases heq : lo = pv
    · subst heq
      rw [hx] at hy
      cases hy
      go_region
      all_goals go_wp2
      all_goals go_meet
      all_goals exact ⟨us3, hS3.drew⟩
    · go_region
      all_goals go_wp2
      all_goals go_meet
      all_goals exact ⟨us3, hS3.drew⟩
  case rest =>
  clear hS
  obtain ⟨us, hS⟩ := hcut
  obtain ⟨w2, hw2⟩ : ∃ v, v = wc := ⟨_, rfl⟩
  subst hw2
  obtain ⟨i, hi'⟩ : ∃ t, lo + 1 = t := ⟨_, rfl⟩
  have hii : (lo : Int) + 1 = (i : Int) := by omega
  obtain ⟨j, hj'⟩ : ∃ t, hi - 1 = t := ⟨_, rfl⟩
  have hji : (hi : Int) - 1 = (j : Int) := by omega
  have hiw : IntKind.i64.wrap (i : Int) = (i : Int) := IntWalk.i64_in _ (by omega)
  have hjw : IntKind.i64.wrap (j : Int) = (j : Int) := IntWalk.i64_in _ (by omega)
  go_upto_region 3 with fail
  go_loopw [11, 12] (fun v11 v12 wz => ∃ (i j : Nat) (us : List Value), v11 = .int .i64 i ∧ v12 = .int .i64 j ∧ lo < i ∧ i ≤ hi ∧ lo ≤ j ∧ j < hi ∧ i ≤ j + 2 ∧ SrtW w0 wz base b n c vs0 us) (fun v11 v12 _ => (intOf v12 - intOf v11 + 3).toNat)
  case atStart => exact ⟨i, j, us, rfl, rfl, by omega, by omega, by omega, by omega, by omega, hS⟩
  case round =>
  clear hS
  obtain ⟨i2, j2, us, rfl, rfl, hb1, hb2, hb3, hb4, hb5, hS⟩ := hrel
  go_step
  go_step
  go_step
  go_cut [11] (fun v wx => ∃ (q : Nat) (us : List Value), v = .int .i64 q ∧ i2 ≤ q ∧ (q ≤ j2 + 1 ∨ q = i2) ∧ SrtW w0 wx base b n c vs0 us)
  case first =>
    go_wp2_with fail
    go_loopw [11] (fun v wz => ∃ (q : Nat) (us : List Value), v = .int .i64 q ∧ i2 ≤ q ∧ (q ≤ j2 + 1 ∨ q = i2) ∧ SrtW w0 wz base b n c vs0 us) (fun v _ => j2 + 1 - (intOf v).toNat)
    case atStart => exact ⟨i2, us, rfl, Nat.le_refl _, .inr rfl, hS⟩
    case round =>
      clear hS
      obtain ⟨q, us, rfl, hq1, hq2, hS⟩ := hrel
      by_cases hle : q ≤ j2
      · have hlei : (q : Int) ≤ (j2 : Int) := by omega
        obtain ⟨xA, xk, xd, hx, hxm, hcx, hfx⟩ := hS.at_ (show lo < n by omega)
        have hx0 : (0 : Int) ≤ (lo : Int) := by omega
        have hxn : (lo : Int) < (n : Int) := by omega
        obtain ⟨yA, yk, yd, hy, hym, hcy, hfy⟩ := hS.at_ (show q < n by omega)
        have hy0 : (0 : Int) ≤ (q : Int) := by omega
        have hyn : (q : Int) < (n : Int) := by omega
        have HQr := Lib.hid (HC.out.quiet hS hxm hym)
        obtain ⟨r, hre⟩ : ∃ r, cv (.slice xA xk xd) (.slice yA yk yd) = r := ⟨_, rfl⟩
        rw [hre] at HQr
        clear hre
        by_cases hr : r < 0
        · go_upto_region 3 with fail
          go_quiet ((go_at_call 98; exact HQr.out _))
          have hS3 := hS.drewN nq
          go_wp2
          go_meet
          exact ⟨q, us, rfl, hq1, hq2, hS3⟩
        · go_upto_region 3 with fail
          go_quiet ((go_at_call 98; exact HQr.out _))
          have hS3 := hS.drewN nq
          go_wp2
          go_roundw
          case rel => exact ⟨q + 1, us, by go_num, by omega, by omega, hS3⟩
          case measure => (simp [intOf] <;> omega)
      · have hlei : ¬ (q : Int) ≤ (j2 : Int) := by omega
        go_upto_region 3 with fail
        go_quiet (fail)
        have hS3 := hS.drewN nq
        go_wp2
        go_meet
        exact ⟨q, us, rfl, hq1, hq2, hS3⟩
  case rest =>
  clear hS
  obtain ⟨i3, us, rfl, hi3a, hi3b, hS⟩ := hcut
  obtain ⟨w2, hw2⟩ : ∃ v, v = wc := ⟨_, rfl⟩
  subst hw2
  rename_i K hk
  refine hk _ _ ?_
  go_step
  go_cut [12] (fun v wx => ∃ (q : Nat) (us : List Value), v = .int .i64 q ∧ (i3 ≤ q + 1 ∨ q = j2) ∧ q ≤ j2 ∧ SrtW w0 wx base b n c vs0 us)
  case first =>
    go_wp2_with fail
    go_loopw [12] (fun v wz => ∃ (q : Nat) (us : List Value), v = .int .i64 q ∧ (i3 ≤ q + 1 ∨ q = j2) ∧ q ≤ j2 ∧ SrtW w0 wz base b n c vs0 us) (fun v _ => (intOf v).toNat)
    case atStart => exact ⟨j2, us, rfl, .inr rfl, Nat.le_refl _, hS⟩
    case round =>
      clear hS
      obtain ⟨q, us, rfl, hq1, hq2, hS⟩ := hrel
      by_cases hle : i3 ≤ q
      · have hlei : (i3 : Int) ≤ (q : Int) := by omega
        obtain ⟨xA, xk, xd, hx, hxm, hcx, hfx⟩ := hS.at_ (show lo < n by omega)
        have hx0 : (0 : Int) ≤ (lo : Int) := by omega
        have hxn : (lo : Int) < (n : Int) := by omega
        obtain ⟨yA, yk, yd, hy, hym, hcy, hfy⟩ := hS.at_ (show q < n by omega)
        have hy0 : (0 : Int) ≤ (q : Int) := by omega
        have hyn : (q : Int) < (n : Int) := by omega
        have HQr := Lib.hid (HC.out.quiet hS hxm hym)
        obtain ⟨r, hre⟩ : ∃ r, cv (.slice xA xk xd) (.slice yA yk yd) = r := ⟨_, rfl⟩
        rw [hre] at HQr
        clear hre
        by_cases hr : r < 0
        · go_upto_region 5 with fail
          go_quiet ((go_at_call 98; exact HQr.out _))
          have hS3 := hS.drewN nq
          go_wp2
          go_roundw
          case rel => exact ⟨q - 1, us, by go_num, by omega, by omega, hS3⟩
          case measure => (simp [intOf] <;> omega)
        · go_upto_region 5 with fail
          go_quiet ((go_at_call 98; exact HQr.out _))
          have hS3 := hS.drewN nq
          go_wp2
          go_meet
          exact ⟨q, us, rfl, hq1, hq2, hS3⟩
      · have hlei : ¬ (i3 : Int) ≤ (q : Int) := by omega
        go_upto_region 5 with fail
        go_quiet (fail)
        have hS3 := hS.drewN nq
        go_wp2
        go_meet
        exact ⟨q, us, rfl, hq1, hq2, hS3⟩
  case rest =>
  clear hS
  obtain ⟨j3, us, rfl, hj3a, hj3b, hS⟩ := hcut
  obtain ⟨w2, hw2⟩ : ∃ v, v = wc := ⟨_, rfl⟩
  subst hw2
  by_cases hgt : j3 < i3
  · have hgti : (j3 : Int) < (i3 : Int) := by omega
    go_wp2
    go_ret
    exact ⟨⟨i3, rfl, by omega, by omega⟩, us, hS⟩
  · have hgti : ¬ (j3 : Int) < (i3 : Int) := by omega
    go_upto_region 8 with fail
    go_cut [] (fun wx => ∃ us, SrtW w0 wx base b n c vs0 us)
    case first =>
      obtain ⟨xA, xk, xd, hx, hxm, hcx, hfx⟩ := hS.at_ (show i3 < n by omega)
      have hx0 : (0 : Int) ≤ (i3 : Int) := by omega
      have hxn : (i3 : Int) < (n : Int) := by omega
      obtain ⟨yA, yk, yd, hy, hym, hcy, hfy⟩ := hS.at_ (show j3 < n by omega)
      have hy0 : (0 : Int) ≤ (j3 : Int) := by omega
      have hyn : (j3 : Int) < (n : Int) := by omega
      obtain ⟨us3, hS3⟩ := hS.swap hx hy
      by_cases heq : i3 = j3
      · subst heq
        rw [hx] at hy
        cases hy
        go_region
        all_goals go_wp2
        all_goals go_meet
        all_goals exact ⟨us3, hS3.drew⟩
      · go_region
        all_goals go_wp2
        all_goals go_meet
        all_goals exact ⟨us3, hS3.drew⟩
    case rest =>
    clear hS
    obtain ⟨us, hS⟩ := hcut
    obtain ⟨w2, hw2⟩ : ∃ v, v = wc := ⟨_, rfl⟩
    subst hw2
    go_wp2
    go_roundw
    case rel => exact ⟨i3 + 1, j3 - 1, us, by go_num, by go_num, by omega, by omega, by omega, by omega, by omega, hS⟩
    case measure => (simp [intOf] <;> omega)
end Go.Proofs.YtmcgnpdfpfgfpaaGreatDoor

/-! Srt9 -/
namespace Go.Proofs.YtmcgnpdfpfgfpaaGreatDoor
open Go.RowKit
set_option linter.unusedVariables false

/-- Some truth value was handed back. -/
def BoolE (e : Ending) : Prop := ∃ t : Bool, e = .returned (.bool t)

set_option maxRecDepth 100000 in
set_option maxHeartbeats 4000000 in
theorem partIns_any (w0 : World) (base b n c g : Nat) (vs0 us : List Value) (cv : Value → Value → Int) (HC : Hid (CmpV w0 b g vs0 cv)) (lo hi : Nat) (w : World) (hS : SrtW w0 w base b n c vs0 us) (hh : hi ≤ n) (hn : n ≤ 100000) (hlo : lo < hi) (h50 : hi < lo + 50) :
    Calls Tryz.prog 145 #[.slice (some ⟨b, 0, none⟩) n c, .int .i64 lo, .int .i64 hi, ordV g] w fun e w' => BoolE e ∧ ∃ us, SrtW w0 w' base b n c vs0 us := by
  obtain ⟨i, hi'⟩ : ∃ t, lo + 1 = t := ⟨_, rfl⟩
  have hii : (lo : Int) + 1 = (i : Int) := by omega
  have hiw : IntKind.i64.wrap (i : Int) = (i : Int) := IntWalk.i64_in _ (by omega)
  obtain ⟨l, hl⟩ : ∃ t, hi - lo = t := ⟨_, rfl⟩
  have hli : (hi : Int) - (lo : Int) = (l : Int) := by omega
  have hlw : IntKind.i64.wrap (l : Int) = (l : Int) := IntWalk.i64_in _ (by omega)
  have hl50 : (l : Int) < 50 := by omega
  have hl50N : l < 50 := by omega
  go_enter Tryz.func145, Tryz.ntmps145
  go_upto_region 3 with fail
  go_loopw [9, 10] (fun v9 v10 wz => v9 = .int .i64 i ∧ v10 = .int .i64 0 ∧ SrtW w0 wz base b n c vs0 us) (fun _ _ _ => 0)
  case atStart => exact ⟨rfl, rfl, hS⟩
  case round =>
    clear hS
    obtain ⟨rfl, rfl, hS⟩ := hrel
    go_upto_region 5 with fail
    go_loopw [9] (fun v wz => ∃ (q : Nat) (us : List Value), v = .int .i64 q ∧ lo < q ∧ q ≤ hi ∧ SrtW w0 wz base b n c vs0 us) (fun v _ => hi - (intOf v).toNat)
    case atStart => exact ⟨i, us, rfl, by omega, by omega, hS⟩
    case round =>
      clear hS
      obtain ⟨q, us, rfl, hq1, hq2, hS⟩ := hrel
      by_cases hle : q < hi
      · have hlei : (q : Int) < (hi : Int) := by omega
        obtain ⟨p, hp⟩ : ∃ p, q - 1 = p := ⟨_, rfl⟩
        have hpi : (q : Int) - 1 = (p : Int) := by omega
        obtain ⟨xA, xk, xd, hx, hxm, hcx, hfx⟩ := hS.at_ (show q < n by omega)
        obtain ⟨yA, yk, yd, hy, hym, hcy, hfy⟩ := hS.at_ (show p < n by omega)
        have hx0 : (0 : Int) ≤ (q : Int) := by omega
        have hxn : (q : Int) < (n : Int) := by omega
        have hy0 : (0 : Int) ≤ (p : Int) := by omega
        have hyn : (p : Int) < (n : Int) := by omega
        have hpw : IntKind.i64.wrap (p : Int) = (p : Int) := IntWalk.i64_in _ (by omega)
        have HQ := Lib.hid (HC.out.quiet hS hxm hym)
        obtain ⟨r, hr⟩ : ∃ r, cv (.slice xA xk xd) (.slice yA yk yd) = r := ⟨_, rfl⟩
        rw [hr] at HQ
        have hqb : ((q : Int) == (hi : Int)) = false := by simp; omega
        have hqbN : (q == hi) = false := by simp; omega
        clear hr
        by_cases hr0 : r < 0
        · go_upto_region 5 with fail
          go_quiet ((go_at_call 98; exact HQ.out _))
          have hS3 := hS.drewN nq
          go_wp2
          go_ret
          exact ⟨⟨_, rfl⟩, us, hS3⟩
        · go_upto_region 5 with fail
          go_quiet ((go_at_call 98; exact HQ.out _))
          have hS3 := hS.drewN nq
          go_wp2
          go_roundw
          case rel => exact ⟨q + 1, us, by go_num, by omega, by omega, hS3⟩
          case measure => simp [intOf]; omega
      · have hlei : ¬ (q : Int) < (hi : Int) := by omega
        have hqe : q = hi := by omega
        have hqb : ((q : Int) == (hi : Int)) = true := by simp; omega
        have hqbN : (q == hi) = true := by simp; omega
        clear hqe
        go_upto_region 5 with fail
        go_quiet (fail)
        have hS3 := hS.drewN nq
        go_wp2
        go_ret
        exact ⟨⟨_, rfl⟩, us, hS3⟩
end Go.Proofs.YtmcgnpdfpfgfpaaGreatDoor
