/-
  What the sort's parts leave that compare by the method: a row of the same values in another order. Conditions: the places lie in the row.
-/
import Derived.Test.YtmcgnpdfpfgfpaaGreatDoorGSrA
namespace Go.Proofs.YtmcgnpdfpfgfpaaGreatDoor
open Go.RowKit
set_option linter.unusedVariables false

set_option maxRecDepth 100000 in
set_option maxHeartbeats 4000000 in
theorem sift_any (w0 : World) (base b n c g : Nat) (vs0 vs : List Value) (cv : Value → Value → Int) (HC : Hid (CmpV w0 b g vs0 cv)) (lo hi fi : Nat) (w : World) (h : SrtW w0 w base b n c vs0 vs) (hh : fi + hi ≤ n) (hn : n ≤ 100000) (hlo : lo ≤ 100000) :
    Calls Tryz.prog 170 #[.slice (some ⟨b, 0, none⟩) n c, .int .i64 lo, .int .i64 hi, .int .i64 fi, ordV g] w (SrtPost w0 base b n c vs0) := by
  go_enter Tryz.func170, Tryz.ntmps170
  go_wp2
  go_loopw [10] (fun v10 wz => ∃ (i : Nat) (us : List Value), v10 = .int .i64 i ∧ i ≤ 100000 ∧ SrtW w0 wz base b n c vs0 us) (fun v10 _ => hi - (intOf v10).toNat)
  case atStart => exact ⟨lo, vs, rfl, hlo, h⟩
  case round =>
    obtain ⟨i, us, rfl, hi1, hS⟩ := hrel
    obtain ⟨i2, hi2⟩ : ∃ t, 2 * i = t := ⟨_, rfl⟩
    have hi2i : (2 : Int) * (i : Int) = (i2 : Int) := by omega
    obtain ⟨ch, hch⟩ : ∃ t, i2 + 1 = t := ⟨_, rfl⟩
    have hchi : (i2 : Int) + 1 = (ch : Int) := by omega
    have hi2w : IntKind.i64.wrap (i2 : Int) = (i2 : Int) := IntWalk.i64_in _ (by omega)
    have hchw : IntKind.i64.wrap (ch : Int) = (ch : Int) := IntWalk.i64_in _ (by omega)
    by_cases hlt : hi ≤ ch
    · have hlti : (hi : Int) ≤ (ch : Int) := by omega
      go_wp2
      go_end0
      exact ⟨rfl, us, hS⟩
    · have hlti : ¬ (hi : Int) ≤ (ch : Int) := by omega
      obtain ⟨c1, hc1⟩ : ∃ t, ch + 1 = t := ⟨_, rfl⟩
      have hc1i : (ch : Int) + 1 = (c1 : Int) := by omega
      have hc1w : IntKind.i64.wrap (c1 : Int) = (c1 : Int) := IntWalk.i64_in _ (by omega)
      obtain ⟨fr, hfr⟩ : ∃ t, fi + i = t := ⟨_, rfl⟩
      have hfri : (fi : Int) + (i : Int) = (fr : Int) := by omega
      have hfrw : IntKind.i64.wrap (fr : Int) = (fr : Int) := IntWalk.i64_in _ (by omega)
      obtain ⟨fch, hfch⟩ : ∃ t, fi + ch = t := ⟨_, rfl⟩
      have hfchi : (fi : Int) + (ch : Int) = (fch : Int) := by omega
      have hfchw : IntKind.i64.wrap (fch : Int) = (fch : Int) := IntWalk.i64_in _ (by omega)
      obtain ⟨fc1, hfc1⟩ : ∃ t, fi + c1 = t := ⟨_, rfl⟩
      have hfc1i : (fi : Int) + (c1 : Int) = (fc1 : Int) := by omega
      have hfc1i2 : (fch : Int) + 1 = (fc1 : Int) := by omega
      have hfc1w : IntKind.i64.wrap (fc1 : Int) = (fc1 : Int) := IntWalk.i64_in _ (by omega)
      by_cases hlt2 : c1 < hi
      · have hlt2i : (c1 : Int) < (hi : Int) := by omega
        obtain ⟨xA, xk, xd, hx, hxm, hcx, hfx⟩ := hS.at_ (show fch < n by omega)
        have hx0 : (0 : Int) ≤ (fch : Int) := by omega
        have hxn : (fch : Int) < (n : Int) := by omega
        obtain ⟨yA, yk, yd, hy, hym, hcy, hfy⟩ := hS.at_ (show fc1 < n by omega)
        have hy0 : (0 : Int) ≤ (fc1 : Int) := by omega
        have hyn : (fc1 : Int) < (n : Int) := by omega
        have HQr1 := Lib.hid (HC.out.quiet hS hxm hym)
        obtain ⟨r1, hr1e⟩ : ∃ r, cv (.slice xA xk xd) (.slice yA yk yd) = r := ⟨_, rfl⟩
        rw [hr1e] at HQr1
        clear hr1e
        by_cases hr1 : r1 < 0
        · go_upto_region 3 with fail
          go_quiet ((go_at_call 98; exact HQr1.out _))
          have hS1 := hS.drewN nq
          clear hS hcx hfx hx hxm hcy hfy hy hym
          generalize wr.drewN nq = w1 at *
          clear HQr1 hx0 hxn hy0 hyn
          have hS := hS1
          clear hS1
          obtain ⟨xA, xk, xd, hx, hxm, hcx, hfx⟩ := hS.at_ (show fr < n by omega)
          have hx0 : (0 : Int) ≤ (fr : Int) := by omega
          have hxn : (fr : Int) < (n : Int) := by omega
          obtain ⟨yA, yk, yd, hy, hym, hcy, hfy⟩ := hS.at_ (show fc1 < n by omega)
          have hy0 : (0 : Int) ≤ (fc1 : Int) := by omega
          have hyn : (fc1 : Int) < (n : Int) := by omega
          have HQr2 := Lib.hid (HC.out.quiet hS hxm hym)
          obtain ⟨r2, hr2e⟩ : ∃ r, cv (.slice xA xk xd) (.slice yA yk yd) = r := ⟨_, rfl⟩
          rw [hr2e] at HQr2
          clear hr2e
          by_cases hr2 : r2 < 0
          · go_upto_region 5 with fail
            go_quiet ((go_at_call 98; exact HQr2.out _))
            have hS1 := hS.drewN nq
            have hne : ¬ fr = fc1 := by omega
            clear hcx hfx hcy hfy hx hy hS HQr2 hxm hym
            generalize w1.drewN nq = w2 at *
            have hS := hS1
            obtain ⟨xA, xk, xd, hx, hxm, hcx, hfx⟩ := hS.at_ (show fr < n by omega)
            have hx0 : (0 : Int) ≤ (fr : Int) := by omega
            have hxn : (fr : Int) < (n : Int) := by omega
            obtain ⟨yA, yk, yd, hy, hym, hcy, hfy⟩ := hS.at_ (show fc1 < n by omega)
            have hy0 : (0 : Int) ≤ (fc1 : Int) := by omega
            have hyn : (fc1 : Int) < (n : Int) := by omega
            obtain ⟨us3, hS3⟩ := hS.swap hx hy
            go_upto_region 6 with fail
            go_region
            have hS4 := hS3.drew
            clear hcx hfx hcy hfy hx hy hS hS1 hS3
            go_wp2
            go_roundw
            case rel => exact ⟨c1, us3, rfl, by omega, hS4⟩
            case measure => simp [intOf]; omega
          · go_upto_region 5 with fail
            go_quiet ((go_at_call 98; exact HQr2.out _))
            have hS1 := hS.drewN nq
            go_wp2
            go_end0
            exact ⟨rfl, us, hS1⟩
        · go_upto_region 3 with fail
          go_quiet ((go_at_call 98; exact HQr1.out _))
          have hS1 := hS.drewN nq
          clear hS hcx hfx hx hxm hcy hfy hy hym
          generalize wr.drewN nq = w1 at *
          clear HQr1 hx0 hxn hy0 hyn
          have hS := hS1
          clear hS1
          obtain ⟨xA, xk, xd, hx, hxm, hcx, hfx⟩ := hS.at_ (show fr < n by omega)
          have hx0 : (0 : Int) ≤ (fr : Int) := by omega
          have hxn : (fr : Int) < (n : Int) := by omega
          obtain ⟨yA, yk, yd, hy, hym, hcy, hfy⟩ := hS.at_ (show fch < n by omega)
          have hy0 : (0 : Int) ≤ (fch : Int) := by omega
          have hyn : (fch : Int) < (n : Int) := by omega
          have HQr2 := Lib.hid (HC.out.quiet hS hxm hym)
          obtain ⟨r2, hr2e⟩ : ∃ r, cv (.slice xA xk xd) (.slice yA yk yd) = r := ⟨_, rfl⟩
          rw [hr2e] at HQr2
          clear hr2e
          by_cases hr2 : r2 < 0
          · go_upto_region 5 with fail
            go_quiet ((go_at_call 98; exact HQr2.out _))
            have hS1 := hS.drewN nq
            have hne : ¬ fr = fch := by omega
            clear hcx hfx hcy hfy hx hy hS HQr2 hxm hym
            generalize w1.drewN nq = w2 at *
            have hS := hS1
            obtain ⟨xA, xk, xd, hx, hxm, hcx, hfx⟩ := hS.at_ (show fr < n by omega)
            have hx0 : (0 : Int) ≤ (fr : Int) := by omega
            have hxn : (fr : Int) < (n : Int) := by omega
            obtain ⟨yA, yk, yd, hy, hym, hcy, hfy⟩ := hS.at_ (show fch < n by omega)
            have hy0 : (0 : Int) ≤ (fch : Int) := by omega
            have hyn : (fch : Int) < (n : Int) := by omega
            obtain ⟨us3, hS3⟩ := hS.swap hx hy
            go_upto_region 6 with fail
            go_region
            have hS4 := hS3.drew
            clear hcx hfx hcy hfy hx hy hS hS1 hS3
            go_wp2
            go_roundw
            case rel => exact ⟨ch, us3, rfl, by omega, hS4⟩
            case measure => simp [intOf]; omega
          · go_upto_region 5 with fail
            go_quiet ((go_at_call 98; exact HQr2.out _))
            have hS1 := hS.drewN nq
            go_wp2
            go_end0
            exact ⟨rfl, us, hS1⟩
      · have hlt2i : ¬ (c1 : Int) < (hi : Int) := by omega
        go_upto_region 3 with fail
        go_quiet (fail)
        have hS1 := hS.drewN nq
        clear hS 
        generalize wr.drewN nq = w1 at *
        have hS := hS1
        clear hS1
        obtain ⟨xA, xk, xd, hx, hxm, hcx, hfx⟩ := hS.at_ (show fr < n by omega)
        have hx0 : (0 : Int) ≤ (fr : Int) := by omega
        have hxn : (fr : Int) < (n : Int) := by omega
        obtain ⟨yA, yk, yd, hy, hym, hcy, hfy⟩ := hS.at_ (show fch < n by omega)
        have hy0 : (0 : Int) ≤ (fch : Int) := by omega
        have hyn : (fch : Int) < (n : Int) := by omega
        have HQr2 := Lib.hid (HC.out.quiet hS hxm hym)
        obtain ⟨r2, hr2e⟩ : ∃ r, cv (.slice xA xk xd) (.slice yA yk yd) = r := ⟨_, rfl⟩
        rw [hr2e] at HQr2
        clear hr2e
        by_cases hr2 : r2 < 0
        · go_upto_region 5 with fail
          go_quiet ((go_at_call 98; exact HQr2.out _))
          have hS1 := hS.drewN nq
          have hne : ¬ fr = fch := by omega
          clear hcx hfx hcy hfy hx hy hS HQr2 hxm hym
          generalize w1.drewN nq = w2 at *
          have hS := hS1
          obtain ⟨xA, xk, xd, hx, hxm, hcx, hfx⟩ := hS.at_ (show fr < n by omega)
          have hx0 : (0 : Int) ≤ (fr : Int) := by omega
          have hxn : (fr : Int) < (n : Int) := by omega
          obtain ⟨yA, yk, yd, hy, hym, hcy, hfy⟩ := hS.at_ (show fch < n by omega)
          have hy0 : (0 : Int) ≤ (fch : Int) := by omega
          have hyn : (fch : Int) < (n : Int) := by omega
          obtain ⟨us3, hS3⟩ := hS.swap hx hy
          go_upto_region 6 with fail
          go_region
          have hS4 := hS3.drew
          clear hcx hfx hcy hfy hx hy hS hS1 hS3
          go_wp2
          go_roundw
          case rel => exact ⟨ch, us3, rfl, by omega, hS4⟩
          case measure => simp [intOf]; omega
        · go_upto_region 5 with fail
          go_quiet ((go_at_call 98; exact HQr2.out _))
          have hS1 := hS.drewN nq
          go_wp2
          go_end0
          exact ⟨rfl, us, hS1⟩
end Go.Proofs.YtmcgnpdfpfgfpaaGreatDoor
