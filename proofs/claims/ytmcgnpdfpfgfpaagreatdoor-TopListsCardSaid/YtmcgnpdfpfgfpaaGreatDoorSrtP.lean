/-
  What the whole sort leaves, for a comparing method: a row of the same values in another order. Conditions: there are fewer than 50 values.
-/
import Derived.Test.YtmcgnpdfpfgfpaaGreatDoorSrt5
import Derived.Test.YtmcgnpdfpfgfpaaGreatDoorGSrB
import Derived.Test.YtmcgnpdfpfgfpaaGreatDoorGSrC
import Derived.Test.YtmcgnpdfpfgfpaaGreatDoorGSrD
namespace Go.Proofs.YtmcgnpdfpfgfpaaGreatDoor
open Go.RowKit
set_option linter.unusedVariables false

set_option maxRecDepth 100000 in
set_option maxHeartbeats 16000000 in
theorem pdq_any (w0 : World) (base b n c g : Nat) (vs0 : List Value) (cv : Value → Value → Int) (HC : Hid (CmpV w0 b g vs0 cv)) (hn : n < 50) (d : Nat) :
    ∀ (lo hi : Nat) (lim : Int) (us : List Value) (w : World), hi - lo ≤ d → lo ≤ hi → hi ≤ n → SrtW w0 w base b n c vs0 us →
    Calls Tryz.prog 127 #[.slice (some ⟨b, 0, none⟩) n c, .int .i64 lo, .int .i64 hi, .int .i64 lim, ordV g] w (SrtPost w0 base b n c vs0) := by
  induction d using Nat.strongRecOn with
  | _ d ih =>
  intro lo hi lim us w hd hlh hhn hS
  have HIH := Lib.hid ih
  clear ih
  go_enter Tryz.func127, Tryz.ntmps127
  go_upto_region 2 with fail
  go_loopw [1, 2, 3, 10, 11] (fun v1 v2 v3 v10 v11 wz => ∃ (a e : Nat) (lm : Int) (t1 t2 : Bool) (us : List Value), v1 = .int .i64 a ∧ v2 = .int .i64 e ∧ v3 = .int .i64 lm ∧ v10 = .bool t1 ∧ v11 = .bool t2 ∧ lo ≤ a ∧ a ≤ e ∧ e ≤ hi ∧ SrtW w0 wz base b n c vs0 us) (fun v1 v2 _ _ _ _ => (intOf v2 - intOf v1).toNat)
  case atStart => exact ⟨lo, hi, lim, true, true, us, rfl, rfl, rfl, rfl, rfl, Nat.le_refl _, hlh, Nat.le_refl _, hS⟩
  case round =>
    clear hS
    obtain ⟨a, e, lm, t1, t2, us, rfl, rfl, rfl, rfl, rfl, ha, hae, he, hS⟩ := hrel
    obtain ⟨l, hl⟩ : ∃ t, e - a = t := ⟨_, rfl⟩
    have hli : (e : Int) - (a : Int) = (l : Int) := by omega
    have hlw : IntKind.i64.wrap (l : Int) = (l : Int) := IntWalk.i64_in _ (by omega)
    by_cases hl12 : l ≤ 12
    · have hl12i : (l : Int) ≤ 12 := by omega
      go_wp2_with (go_at_call 140; refine (insSort_any w0 base b n c g vs0 us cv HC a e _ hS (by omega) (by omega) hae).mono ?_; rintro e1 w1 ⟨rfl, us1, hS1⟩)
      go_end0
      exact ⟨rfl, us1, hS1⟩
    · have hl12i : ¬ (l : Int) ≤ 12 := by omega
      by_cases hlm : lm = 0
      · subst hlm
        go_wp2_with (go_at_call 141; refine (heap_any w0 base b n c g vs0 us cv HC a e _ hS (by omega) (by omega) hae).mono ?_; rintro e1 w1 ⟨rfl, us1, hS1⟩)
        go_end0
        exact ⟨rfl, us1, hS1⟩
      · have hlmb : (lm == 0) = false := by simpa using hlm
        go_upto_if 39 with fail
        go_cut [3] (fun v3 wx => ∃ (lm : Int) (us : List Value), v3 = .int .i64 lm ∧ SrtW w0 wx base b n c vs0 us)
        case first =>
          cases t1
          · go_wp2_with (go_at_call 142; refine (breakP_any w0 base b n c g vs0 us a e _ hS (by omega) (by omega) (by omega)).mono ?_; rintro e1 w1 ⟨rfl, us1, hS1⟩)
            go_meet
            exact ⟨_, us1, rfl, hS1⟩
          · go_wp2
            go_meet
            exact ⟨_, us, rfl, hS⟩
        case rest =>
        clear hS
        obtain ⟨lm2, us, rfl, hS⟩ := hcut
        go_upto_region 11 with (go_at_call 143; refine (pivot_any w0 base b n c g vs0 us cv HC a e _ hS (by omega) (by omega) (by omega)).mono ?_; rintro e1 w1 ⟨⟨x, t, rfl, hx, ht⟩, us1, hS1⟩)
        clear hS
        go_upto_if 56 with fail
        go_cut [13, 14] (fun v13 v14 wx => ∃ (x : Nat) (t : Int) (us : List Value), v13 = .int .i64 x ∧ v14 = .int .i64 t ∧ a ≤ x ∧ x < e ∧ SrtW w0 wx base b n c vs0 us)
        case first =>
          by_cases ht2 : t = 2
          · subst ht2
            obtain ⟨e1, he1⟩ : ∃ t, e - 1 = t := ⟨_, rfl⟩
            have he1i : (e : Int) - 1 = (e1 : Int) := by omega
            have he1w : IntKind.i64.wrap (e1 : Int) = (e1 : Int) := IntWalk.i64_in _ (by omega)
            obtain ⟨x1, hx1⟩ : ∃ t, x - a = t := ⟨_, rfl⟩
            have hx1i : (x : Int) - (a : Int) = (x1 : Int) := by omega
            have hx1w : IntKind.i64.wrap (x1 : Int) = (x1 : Int) := IntWalk.i64_in _ (by omega)
            obtain ⟨x2, hx2⟩ : ∃ t, e1 - x1 = t := ⟨_, rfl⟩
            have hx2i : (e1 : Int) - (x1 : Int) = (x2 : Int) := by omega
            have hx2w : IntKind.i64.wrap (x2 : Int) = (x2 : Int) := IntWalk.i64_in _ (by omega)
            go_wp2_with (go_at_call 144; refine (revRange_any w0 base b n c g vs0 us1 a e _ hS1 (by omega) (by omega) hae).mono ?_; rintro e9 w1 ⟨rfl, us2, hS2⟩)
            go_meet
            exact ⟨x2, 1, us2, rfl, rfl, by omega, by omega, hS2⟩
          · have ht2b : (t == 2) = false := by simpa using ht2
            go_wp2
            go_meet
            exact ⟨x, t, us1, rfl, rfl, hx.1, hx.2, hS1⟩
        case rest =>
        clear hS1 hx ht
        obtain ⟨y, s, us, rfl, rfl, hy1, hy2, hS⟩ := hcut
        obtain ⟨w3, hw3⟩ : ∃ v, v = wc := ⟨_, rfl⟩
        subst hw3
        have hyi : (y : Int) < (n : Int) := by omega
        have hy0 : (0 : Int) ≤ (y : Int) := by omega
        go_upto_region 15 with fail
        go_cut [75] (fun v wx => ∃ (q : Bool), v = .bool q ∧ SrtW w0 wx base b n c vs0 us)
        case first =>
          cases t1 <;> cases t2 <;> (go_wp2; go_meet; exact ⟨_, rfl, hS⟩)
        case rest =>
        clear hS
        obtain ⟨q, rfl, hS⟩ := hcut
        obtain ⟨w3, hw3⟩ : ∃ v, v = wc := ⟨_, rfl⟩
        subst hw3
        go_upto_if 75 with fail
        go_cut [] (fun wx => ∃ us, SrtW w0 wx base b n c vs0 us)
        case first =>
          cases q
          · go_wp2
            go_meet
            exact ⟨us, hS⟩
          · go_wp2_with (go_at_call 145; refine (partIns_any w0 base b n c g vs0 us cv HC a e _ hS (by omega) (by omega) (by omega) (by omega)).mono ?_; rintro e9 w1 ⟨⟨t, rfl⟩, us1, hS1⟩; cases t)
            · go_meet
              exact ⟨us1, hS1⟩
            · go_end0
              exact ⟨rfl, us1, hS1⟩
        case rest =>
        clear hS
        obtain ⟨us, hS⟩ := hcut
        obtain ⟨w3, hw3⟩ : ∃ v, v = wc := ⟨_, rfl⟩
        subst hw3
        go_upto_region 17 with fail
        go_cut [97] (fun v wx => ∃ (q : Bool), v = .bool q ∧ ∃ us, SrtW w0 wx base b n c vs0 us)
        case first =>
          by_cases ha0 : 0 < a
          · have ha0i : (0 : Int) < (a : Int) := by omega
            obtain ⟨am, ham⟩ : ∃ t, a - 1 = t := ⟨_, rfl⟩
            have hami : (a : Int) - 1 = (am : Int) := by omega
            have hamw : IntKind.i64.wrap (am : Int) = (am : Int) := IntWalk.i64_in _ (by omega)
            obtain ⟨xA, xk, xd, hx, hxm, hcx, hfx⟩ := hS.at_ (show am < n by omega)
            obtain ⟨yA, yk, yd, hy, hym, hcy, hfy⟩ := hS.at_ (show y < n by omega)
            have hx0 : (0 : Int) ≤ (am : Int) := by omega
            have hxn : (am : Int) < (n : Int) := by omega
            have HQ := Lib.hid (HC.out.quiet hS hxm hym)
            obtain ⟨r, hr⟩ : ∃ r, cv (.slice xA xk xd) (.slice yA yk yd) = r := ⟨_, rfl⟩
            rw [hr] at HQ
            clear hr
            go_quiet ((go_at_call 98; exact HQ.out _))
            have hS3 := hS.drewN nq
            go_wp2
            go_meet
            exact ⟨_, rfl, us, hS3⟩
          · have ha0i : ¬ (0 : Int) < (a : Int) := by omega
            go_quiet (fail)
            have hS3 := hS.drewN nq
            go_wp2
            go_meet
            exact ⟨_, rfl, us, hS3⟩
        case rest =>
        clear hS
        obtain ⟨q, rfl, us, hS⟩ := hcut
        obtain ⟨w3, hw3⟩ : ∃ v, v = wc := ⟨_, rfl⟩
        subst hw3
        cases q
        · go_upto_region 21 with (go_at_call 147; refine (part_any w0 base b n c g vs0 us cv HC a e y _ hS (by omega) (by omega) (by omega) (by omega)).mono ?_; rintro e9 w1 ⟨⟨m, tb, rfl, hm1, hm2⟩, us1, hS1⟩)
          clear hS
          obtain ⟨ll, hll⟩ : ∃ t, m - a = t := ⟨_, rfl⟩
          have hlli : (m : Int) - (a : Int) = (ll : Int) := by omega
          have hllw : IntKind.i64.wrap (ll : Int) = (ll : Int) := IntWalk.i64_in _ (by omega)
          obtain ⟨rl, hrl⟩ : ∃ t, e - m = t := ⟨_, rfl⟩
          have hrli : (e : Int) - (m : Int) = (rl : Int) := by omega
          have hrlw : IntKind.i64.wrap (rl : Int) = (rl : Int) := IntWalk.i64_in _ (by omega)
          obtain ⟨m1, hm1'⟩ : ∃ t, m + 1 = t := ⟨_, rfl⟩
          have hm1i : (m : Int) + 1 = (m1 : Int) := by omega
          have hm1w : IntKind.i64.wrap (m1 : Int) = (m1 : Int) := IntWalk.i64_in _ (by omega)
          obtain ⟨th, hth⟩ : ∃ th : Int, (l : Int).tdiv 8 = th := ⟨_, rfl⟩
          by_cases hlr : ll < rl
          · have hlri : (ll : Int) < (rl : Int) := by omega
            go_wp2_with (go_at_call 127; refine (HIH.out (m - a) (by omega) a m lm2 us1 _ (Nat.le_refl _) (by omega) (by omega) hS1).mono ?_; rintro e9 w1 ⟨rfl, us2, hS2⟩)
            go_roundw
            case rel => exact ⟨m1, e, lm2, _, tb, us2, rfl, rfl, rfl, rfl, rfl, by omega, by omega, by omega, hS2⟩
            case measure => (simp [intOf] <;> omega)
          · have hlri : ¬ (ll : Int) < (rl : Int) := by omega
            go_wp2_with (go_at_call 127; refine (HIH.out (e - m1) (by omega) m1 e lm2 us1 _ (Nat.le_refl _) (by omega) (by omega) hS1).mono ?_; rintro e9 w1 ⟨rfl, us2, hS2⟩)
            go_roundw
            case rel => exact ⟨a, m, lm2, _, tb, us2, rfl, rfl, rfl, rfl, rfl, by omega, by omega, by omega, hS2⟩
            case measure => (simp [intOf] <;> omega)
        · go_wp2_with (go_at_call 146; refine (partEq_any w0 base b n c g vs0 us cv HC a e y _ hS (by omega) (by omega) (by omega) (by omega)).mono ?_; rintro e9 w1 ⟨⟨m, rfl, hm1, hm2⟩, us1, hS1⟩)
          go_roundw
          case rel => exact ⟨m, e, lm2, t1, t2, us1, rfl, rfl, rfl, rfl, rfl, by omega, by omega, by omega, hS1⟩
          case measure => (simp [intOf] <;> omega)
end Go.Proofs.YtmcgnpdfpfgfpaaGreatDoor
