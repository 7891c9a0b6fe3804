/-
  What the sort's partitions leave, for a comparing method: a row of the same values in another order, and where it is parted. Conditions: the places lie in the row.
-/
import Derived.Test.YtmcgnpdfpfgfpaaGreatDoorSrt4
namespace Go.Proofs.YtmcgnpdfpfgfpaaGreatDoor
open Go.RowKit
set_option linter.unusedVariables false

set_option maxRecDepth 100000 in
set_option maxHeartbeats 4000000 in
theorem part_any (w0 : World) (base b n c g : Nat) (vs0 us : List Value) (cv : Value → Value → Int) (HC : Hid (CmpV w0 b g vs0 cv)) (lo hi pv : Nat) (w : World) (h : SrtW w0 w base b n c vs0 us) (hh : hi ≤ n) (hn : n ≤ 100000) (hlo : lo < hi) (hpv : lo ≤ pv ∧ pv < hi) :
    Calls Tryz.prog 147 #[.slice (some ⟨b, 0, none⟩) n c, .int .i64 lo, .int .i64 hi, .int .i64 pv, ordV g] w fun e w' => (∃ (q : Nat) (t : Bool), e = .returned (.tuple #[.int .i64 q, .bool t]) ∧ lo ≤ q ∧ q < hi) ∧ ∃ us, SrtW w0 w' base b n c vs0 us := by
  go_enter Tryz.func147, Tryz.ntmps147
  have hS := h
  go_upto_region 1 with fail
  go_cut [] (fun wx => ∃ us, SrtW w0 wx base b n c vs0 us)
  case first =>
    obtain ⟨xA, xk, xd, hx, hxm, hcx, hfx⟩ := hS.at_ (show lo < n by omega)
    have hx0 : (0 : Int) ≤ (lo : Int) := by omega
    have hxn : (lo : Int) < (n : Int) := by omega
    obtain ⟨yA, yk, yd, hy, hym, hcy, hfy⟩ := hS.at_ (show pv < n by omega)
    have hy0 : (0 : Int) ≤ (pv : Int) := by omega
    have hyn : (pv : Int) < (n : Int) := by omega
    obtain ⟨us3, hS3⟩ := hS.swap hx hy
    by_cases heq : lo = pv
    · subst heq
      rw [hx] at hy
      cases hy
      go_region
      all_goals go_wp2
      all_goals go_meet
      all_goals exact ⟨us3, hS3.drew⟩
    · go_region
      all_goals go_wp2
      all_goals go_meet
      all_goals exact ⟨us3, hS3.drew⟩
  case rest =>
  clear hS
  obtain ⟨us, hS⟩ := hcut
  obtain ⟨w2, hw2⟩ : ∃ v, v = wc := ⟨_, rfl⟩
  subst hw2
  obtain ⟨i, hi'⟩ : ∃ t, lo + 1 = t := ⟨_, rfl⟩
  have hii : (lo : Int) + 1 = (i : Int) := by omega
  obtain ⟨j, hj'⟩ : ∃ t, hi - 1 = t := ⟨_, rfl⟩
  have hji : (hi : Int) - 1 = (j : Int) := by omega
  go_upto_region 2 with fail
  go_cut [12, 13] (fun s12 s13 wx => s12 = .int .i64 i ∧ s13 = .int .i64 j ∧ SrtW w0 wx base b n c vs0 us)
  case first =>
    go_wp2
    go_meet
    exact ⟨rfl, rfl, hS⟩
  case rest =>
  clear hS
  obtain ⟨rfl, rfl, hS⟩ := hcut
  obtain ⟨w2, hw2⟩ : ∃ v, v = wc := ⟨_, rfl⟩
  subst hw2
  rename_i K hk
  refine hk _ _ ?_
  go_step
  go_cut [12] (fun v wx => ∃ (q : Nat) (us : List Value), v = .int .i64 q ∧ i ≤ q ∧ (q ≤ j + 1 ∨ q = i) ∧ SrtW w0 wx base b n c vs0 us)
  case first =>
    go_wp2_with fail
    go_loopw [12] (fun v wz => ∃ (q : Nat) (us : List Value), v = .int .i64 q ∧ i ≤ q ∧ (q ≤ j + 1 ∨ q = i) ∧ SrtW w0 wz base b n c vs0 us) (fun v _ => j + 1 - (intOf v).toNat)
    case atStart => exact ⟨i, us, rfl, Nat.le_refl _, .inr rfl, hS⟩
    case round =>
      clear hS
      obtain ⟨q, us, rfl, hq1, hq2, hS⟩ := hrel
      by_cases hle : q ≤ j
      · have hlei : (q : Int) ≤ (j : Int) := by omega
        obtain ⟨xA, xk, xd, hx, hxm, hcx, hfx⟩ := hS.at_ (show q < n by omega)
        have hx0 : (0 : Int) ≤ (q : Int) := by omega
        have hxn : (q : Int) < (n : Int) := by omega
        obtain ⟨yA, yk, yd, hy, hym, hcy, hfy⟩ := hS.at_ (show lo < n by omega)
        have hy0 : (0 : Int) ≤ (lo : Int) := by omega
        have hyn : (lo : Int) < (n : Int) := by omega
        have HQr := Lib.hid (HC.out.quiet hS hxm hym)
        obtain ⟨r, hre⟩ : ∃ r, cv (.slice xA xk xd) (.slice yA yk yd) = r := ⟨_, rfl⟩
        rw [hre] at HQr
        clear hre
        by_cases hr : r < 0
        · go_upto_region 3 with fail
          go_quiet ((go_at_call 98; exact HQr.out _))
          have hS3 := hS.drewN nq
          go_wp2
          go_roundw
          case rel => exact ⟨q + 1, us, by go_num, by omega, by omega, hS3⟩
          case measure => (simp [intOf] <;> omega)
        · go_upto_region 3 with fail
          go_quiet ((go_at_call 98; exact HQr.out _))
          have hS3 := hS.drewN nq
          go_wp2
          go_meet
          exact ⟨q, us, rfl, hq1, hq2, hS3⟩
      · have hlei : ¬ (q : Int) ≤ (j : Int) := by omega
        go_upto_region 3 with fail
        go_quiet (fail)
        have hS3 := hS.drewN nq
        go_wp2
        go_meet
        exact ⟨q, us, rfl, hq1, hq2, hS3⟩
  case rest =>
  clear hS
  obtain ⟨i1, us, rfl, hi1a, hi1b, hS⟩ := hcut
  obtain ⟨w2, hw2⟩ : ∃ v, v = wc := ⟨_, rfl⟩
  subst hw2
  rename_i K hk
  refine hk _ _ ?_
  go_step
  go_cut [13] (fun v wx => ∃ (q : Nat) (us : List Value), v = .int .i64 q ∧ (i1 ≤ q + 1 ∨ q = j) ∧ q ≤ j ∧ SrtW w0 wx base b n c vs0 us)
  case first =>
    go_wp2_with fail
    go_loopw [13] (fun v wz => ∃ (q : Nat) (us : List Value), v = .int .i64 q ∧ (i1 ≤ q + 1 ∨ q = j) ∧ q ≤ j ∧ SrtW w0 wz base b n c vs0 us) (fun v _ => (intOf v).toNat)
    case atStart => exact ⟨j, us, rfl, .inr rfl, Nat.le_refl _, hS⟩
    case round =>
      clear hS
      obtain ⟨q, us, rfl, hq1, hq2, hS⟩ := hrel
      by_cases hle : i1 ≤ q
      · have hlei : (i1 : Int) ≤ (q : Int) := by omega
        obtain ⟨xA, xk, xd, hx, hxm, hcx, hfx⟩ := hS.at_ (show q < n by omega)
        have hx0 : (0 : Int) ≤ (q : Int) := by omega
        have hxn : (q : Int) < (n : Int) := by omega
        obtain ⟨yA, yk, yd, hy, hym, hcy, hfy⟩ := hS.at_ (show lo < n by omega)
        have hy0 : (0 : Int) ≤ (lo : Int) := by omega
        have hyn : (lo : Int) < (n : Int) := by omega
        have HQr := Lib.hid (HC.out.quiet hS hxm hym)
        obtain ⟨r, hre⟩ : ∃ r, cv (.slice xA xk xd) (.slice yA yk yd) = r := ⟨_, rfl⟩
        rw [hre] at HQr
        clear hre
        by_cases hr : r < 0
        · go_upto_region 5 with fail
          go_quiet ((go_at_call 98; exact HQr.out _))
          have hS3 := hS.drewN nq
          go_wp2
          go_meet
          exact ⟨q, us, rfl, hq1, hq2, hS3⟩
        · go_upto_region 5 with fail
          go_quiet ((go_at_call 98; exact HQr.out _))
          have hS3 := hS.drewN nq
          go_wp2
          go_roundw
          case rel => exact ⟨q - 1, us, by go_num, by omega, by omega, hS3⟩
          case measure => (simp [intOf] <;> omega)
      · have hlei : ¬ (i1 : Int) ≤ (q : Int) := by omega
        go_upto_region 5 with fail
        go_quiet (fail)
        have hS3 := hS.drewN nq
        go_wp2
        go_meet
        exact ⟨q, us, rfl, hq1, hq2, hS3⟩
  case rest =>
  clear hS
  obtain ⟨j1, us, rfl, hj1a, hj1b, hS⟩ := hcut
  obtain ⟨w2, hw2⟩ : ∃ v, v = wc := ⟨_, rfl⟩
  subst hw2
  by_cases hgt : j1 < i1
  · have hgti : (j1 : Int) < (i1 : Int) := by omega
    go_upto_region 8 with fail
    go_cut [] (fun wx => ∃ us, SrtW w0 wx base b n c vs0 us)
    case first =>
      obtain ⟨xA, xk, xd, hx, hxm, hcx, hfx⟩ := hS.at_ (show j1 < n by omega)
      have hx0 : (0 : Int) ≤ (j1 : Int) := by omega
      have hxn : (j1 : Int) < (n : Int) := by omega
      obtain ⟨yA, yk, yd, hy, hym, hcy, hfy⟩ := hS.at_ (show lo < n by omega)
      have hy0 : (0 : Int) ≤ (lo : Int) := by omega
      have hyn : (lo : Int) < (n : Int) := by omega
      obtain ⟨us3, hS3⟩ := hS.swap hx hy
      by_cases heq : j1 = lo
      · subst heq
        rw [hx] at hy
        cases hy
        go_region
        all_goals go_wp2
        all_goals go_meet
        all_goals exact ⟨us3, hS3.drew⟩
      · go_region
        all_goals go_wp2
        all_goals go_meet
        all_goals exact ⟨us3, hS3.drew⟩
    case rest =>
    clear hS
    obtain ⟨us, hS⟩ := hcut
    obtain ⟨w2, hw2⟩ : ∃ v, v = wc := ⟨_, rfl⟩
    subst hw2
    go_wp2
    go_ret2
    exact ⟨⟨j1, true, rfl, by omega, by omega⟩, us, hS⟩
  · have hgti : ¬ (j1 : Int) < (i1 : Int) := by omega
    go_upto_region 10 with fail
    go_cut [] (fun wx => ∃ us, SrtW w0 wx base b n c vs0 us)
    case first =>
      obtain ⟨xA, xk, xd, hx, hxm, hcx, hfx⟩ := hS.at_ (show i1 < n by omega)
      have hx0 : (0 : Int) ≤ (i1 : Int) := by omega
      have hxn : (i1 : Int) < (n : Int) := by omega
      obtain ⟨yA, yk, yd, hy, hym, hcy, hfy⟩ := hS.at_ (show j1 < n by omega)
      have hy0 : (0 : Int) ≤ (j1 : Int) := by omega
      have hyn : (j1 : Int) < (n : Int) := by omega
      obtain ⟨us3, hS3⟩ := hS.swap hx hy
      by_cases heq : i1 = j1
      · subst heq
        rw [hx] at hy
        cases hy
        go_region
        all_goals go_wp2
        all_goals go_meet
        all_goals exact ⟨us3, hS3.drew⟩
      · go_region
        all_goals go_wp2
        all_goals go_meet
        all_goals exact ⟨us3, hS3.drew⟩
    case rest =>
    clear hS
    obtain ⟨us, hS⟩ := hcut
    obtain ⟨w2, hw2⟩ : ∃ v, v = wc := ⟨_, rfl⟩
    subst hw2
    go_upto_region 13 with fail
    go_loopw [12, 13] (fun v12 v13 wz => ∃ (i j : Nat) (us : List Value), v12 = .int .i64 i ∧ v13 = .int .i64 j ∧ lo < i ∧ i ≤ hi ∧ lo ≤ j ∧ j < hi ∧ i ≤ j + 2 ∧ SrtW w0 wz base b n c vs0 us) (fun v12 v13 _ => (intOf v13 - intOf v12 + 3).toNat)
    case atStart => exact ⟨i1 + 1, j1 - 1, us, by go_num, by go_num, by omega, by omega, by omega, by omega, by omega, hS⟩
    case round =>
    clear hS
    obtain ⟨i2, j2, us, rfl, rfl, hb1, hb2, hb3, hb4, hb5, hS⟩ := hrel
    go_step
    go_step
    go_step
    go_cut [12] (fun v wx => ∃ (q : Nat) (us : List Value), v = .int .i64 q ∧ i2 ≤ q ∧ (q ≤ j2 + 1 ∨ q = i2) ∧ SrtW w0 wx base b n c vs0 us)
    case first =>
      go_wp2_with fail
      go_loopw [12] (fun v wz => ∃ (q : Nat) (us : List Value), v = .int .i64 q ∧ i2 ≤ q ∧ (q ≤ j2 + 1 ∨ q = i2) ∧ SrtW w0 wz base b n c vs0 us) (fun v _ => j2 + 1 - (intOf v).toNat)
      case atStart => exact ⟨i2, us, rfl, Nat.le_refl _, .inr rfl, hS⟩
      case round =>
        clear hS
        obtain ⟨q, us, rfl, hq1, hq2, hS⟩ := hrel
        by_cases hle : q ≤ j2
        · have hlei : (q : Int) ≤ (j2 : Int) := by omega
          obtain ⟨xA, xk, xd, hx, hxm, hcx, hfx⟩ := hS.at_ (show q < n by omega)
          have hx0 : (0 : Int) ≤ (q : Int) := by omega
          have hxn : (q : Int) < (n : Int) := by omega
          obtain ⟨yA, yk, yd, hy, hym, hcy, hfy⟩ := hS.at_ (show lo < n by omega)
          have hy0 : (0 : Int) ≤ (lo : Int) := by omega
          have hyn : (lo : Int) < (n : Int) := by omega
          have HQr := Lib.hid (HC.out.quiet hS hxm hym)
          obtain ⟨r, hre⟩ : ∃ r, cv (.slice xA xk xd) (.slice yA yk yd) = r := ⟨_, rfl⟩
          rw [hre] at HQr
          clear hre
          by_cases hr : r < 0
          · go_upto_region 13 with fail
            go_quiet ((go_at_call 98; exact HQr.out _))
            have hS3 := hS.drewN nq
            go_wp2
            go_roundw
            case rel => exact ⟨q + 1, us, by go_num, by omega, by omega, hS3⟩
            case measure => (simp [intOf] <;> omega)
          · go_upto_region 13 with fail
            go_quiet ((go_at_call 98; exact HQr.out _))
            have hS3 := hS.drewN nq
            go_wp2
            go_meet
            exact ⟨q, us, rfl, hq1, hq2, hS3⟩
        · have hlei : ¬ (q : Int) ≤ (j2 : Int) := by omega
          go_upto_region 13 with fail
          go_quiet (fail)
          have hS3 := hS.drewN nq
          go_wp2
          go_meet
          exact ⟨q, us, rfl, hq1, hq2, hS3⟩
    case rest =>
    clear hS
    obtain ⟨i3, us, rfl, hi3a, hi3b, hS⟩ := hcut
    obtain ⟨w2, hw2⟩ : ∃ v, v = wc := ⟨_, rfl⟩
    subst hw2
    rename_i K hk
    refine hk _ _ ?_
    go_step
    go_cut [13] (fun v wx => ∃ (q : Nat) (us : List Value), v = .int .i64 q ∧ (i3 ≤ q + 1 ∨ q = j2) ∧ q ≤ j2 ∧ SrtW w0 wx base b n c vs0 us)
    case first =>
      go_wp2_with fail
      go_loopw [13] (fun v wz => ∃ (q : Nat) (us : List Value), v = .int .i64 q ∧ (i3 ≤ q + 1 ∨ q = j2) ∧ q ≤ j2 ∧ SrtW w0 wz base b n c vs0 us) (fun v _ => (intOf v).toNat)
      case atStart => exact ⟨j2, us, rfl, .inr rfl, Nat.le_refl _, hS⟩
      case round =>
        clear hS
        obtain ⟨q, us, rfl, hq1, hq2, hS⟩ := hrel
        by_cases hle : i3 ≤ q
        · have hlei : (i3 : Int) ≤ (q : Int) := by omega
          obtain ⟨xA, xk, xd, hx, hxm, hcx, hfx⟩ := hS.at_ (show q < n by omega)
          have hx0 : (0 : Int) ≤ (q : Int) := by omega
          have hxn : (q : Int) < (n : Int) := by omega
          obtain ⟨yA, yk, yd, hy, hym, hcy, hfy⟩ := hS.at_ (show lo < n by omega)
          have hy0 : (0 : Int) ≤ (lo : Int) := by omega
          have hyn : (lo : Int) < (n : Int) := by omega
          have HQr := Lib.hid (HC.out.quiet hS hxm hym)
          obtain ⟨r, hre⟩ : ∃ r, cv (.slice xA xk xd) (.slice yA yk yd) = r := ⟨_, rfl⟩
          rw [hre] at HQr
          clear hre
          by_cases hr : r < 0
          · go_upto_region 15 with fail
            go_quiet ((go_at_call 98; exact HQr.out _))
            have hS3 := hS.drewN nq
            go_wp2
            go_meet
            exact ⟨q, us, rfl, hq1, hq2, hS3⟩
          · go_upto_region 15 with fail
            go_quiet ((go_at_call 98; exact HQr.out _))
            have hS3 := hS.drewN nq
            go_wp2
            go_roundw
            case rel => exact ⟨q - 1, us, by go_num, by omega, by omega, hS3⟩
            case measure => (simp [intOf] <;> omega)
        · have hlei : ¬ (i3 : Int) ≤ (q : Int) := by omega
          go_upto_region 15 with fail
          go_quiet (fail)
          have hS3 := hS.drewN nq
          go_wp2
          go_meet
          exact ⟨q, us, rfl, hq1, hq2, hS3⟩
    case rest =>
    clear hS
    obtain ⟨j3, us, rfl, hj3a, hj3b, hS⟩ := hcut
    obtain ⟨w2, hw2⟩ : ∃ v, v = wc := ⟨_, rfl⟩
    subst hw2
    by_cases hgt : j3 < i3
    · have hgti : (j3 : Int) < (i3 : Int) := by omega
      obtain ⟨xA, xk, xd, hx, hxm, hcx, hfx⟩ := hS.at_ (show j3 < n by omega)
      have hx0 : (0 : Int) ≤ (j3 : Int) := by omega
      have hxn : (j3 : Int) < (n : Int) := by omega
      obtain ⟨yA, yk, yd, hy, hym, hcy, hfy⟩ := hS.at_ (show lo < n by omega)
      have hy0 : (0 : Int) ≤ (lo : Int) := by omega
      have hyn : (lo : Int) < (n : Int) := by omega
      obtain ⟨us3, hS3⟩ := hS.swap hx hy
      have hS4 := hS3.drew
      by_cases heq : j3 = lo
      · subst heq
        rw [hx] at hy
        cases hy
        go_upto_region 21 with fail
        go_region
        go_wp2
        go_ret2
        exact ⟨⟨_, false, rfl, by omega, by omega⟩, us3, hS4⟩
      · go_upto_region 21 with fail
        go_region
        go_wp2
        go_ret2
        exact ⟨⟨_, false, rfl, by omega, by omega⟩, us3, hS4⟩
    · have hgti : ¬ (j3 : Int) < (i3 : Int) := by omega
      go_upto_region 18 with fail
      go_cut [] (fun wx => ∃ us, SrtW w0 wx base b n c vs0 us)
      case first =>
        obtain ⟨xA, xk, xd, hx, hxm, hcx, hfx⟩ := hS.at_ (show i3 < n by omega)
        have hx0 : (0 : Int) ≤ (i3 : Int) := by omega
        have hxn : (i3 : Int) < (n : Int) := by omega
        obtain ⟨yA, yk, yd, hy, hym, hcy, hfy⟩ := hS.at_ (show j3 < n by omega)
        have hy0 : (0 : Int) ≤ (j3 : Int) := by omega
        have hyn : (j3 : Int) < (n : Int) := by omega
        obtain ⟨us3, hS3⟩ := hS.swap hx hy
        by_cases heq : i3 = j3
        · subst heq
          rw [hx] at hy
          cases hy
          go_region
          all_goals go_wp2
          all_goals go_meet
          all_goals exact ⟨us3, hS3.drew⟩
        · go_region
          all_goals go_wp2
          all_goals go_meet
          all_goals exact ⟨us3, hS3.drew⟩
      case rest =>
      clear hS
      obtain ⟨us, hS⟩ := hcut
      obtain ⟨w2, hw2⟩ : ∃ v, v = wc := ⟨_, rfl⟩
      subst hw2
      go_wp2
      go_roundw
      case rel => exact ⟨i3 + 1, j3 - 1, us, by go_num, by go_num, by omega, by omega, by omega, by omega, by omega, hS⟩
      case measure => (simp [intOf] <;> omega)
end Go.Proofs.YtmcgnpdfpfgfpaaGreatDoor
