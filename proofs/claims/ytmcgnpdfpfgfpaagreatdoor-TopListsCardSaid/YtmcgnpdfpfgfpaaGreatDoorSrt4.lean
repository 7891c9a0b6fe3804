/-
  What the sort's heap leaves, for a comparing method: a row of the same values in another order. Conditions: the places lie in the row.
-/
import Derived.Test.YtmcgnpdfpfgfpaaGreatDoorSrt3
namespace Go.Proofs.YtmcgnpdfpfgfpaaGreatDoor
open Go.RowKit
set_option linter.unusedVariables false

set_option maxRecDepth 100000 in
set_option maxHeartbeats 4000000 in
theorem heap_any (w0 : World) (base b n c g : Nat) (vs0 vs : List Value) (cv : Value → Value → Int) (HC : Hid (CmpV w0 b g vs0 cv)) (lo hi : Nat) (w : World) (h : SrtW w0 w base b n c vs0 vs) (hh : hi ≤ n) (hn : n ≤ 100000) (hlo : lo ≤ hi) :
    Calls Tryz.prog 141 #[.slice (some ⟨b, 0, none⟩) n c, .int .i64 lo, .int .i64 hi, ordV g] w (SrtPost w0 base b n c vs0) := by
  obtain ⟨m, hm⟩ : ∃ m, hi - lo = m := ⟨_, rfl⟩
  have hmi : (hi : Int) - (lo : Int) = (m : Int) := by omega
  have hmw : IntKind.i64.wrap (m : Int) = (m : Int) := IntWalk.i64_in _ (by omega)
  obtain ⟨st, hst⟩ : ∃ st : Int, ((m : Int) - 1).tdiv 2 = st := ⟨_, rfl⟩
  have hstb : -1 ≤ st ∧ st ≤ (m : Int) := by
    by_cases h0 : m = 0
    · subst h0; rw [← hst]; decide
    · have : ((m : Int) - 1).tdiv 2 = ((m : Int) - 1) / 2 := Int.tdiv_eq_ediv_of_nonneg (by omega)
      omega
  go_enter Tryz.func141, Tryz.ntmps141
  go_wp2
  go_loopw [11] (fun v11 wz => ∃ (i : Int) (us : List Value), v11 = .int .i64 i ∧ -1 ≤ i ∧ i ≤ (m : Int) ∧ SrtW w0 wz base b n c vs0 us) (fun v11 _ => (intOf v11 + 1).toNat)
  case atStart => exact ⟨st, vs, rfl, hstb.1, hstb.2, h⟩
  case round =>
    obtain ⟨i, us, rfl, hi1, hi2, hS⟩ := hrel
    by_cases hlt : 0 ≤ i
    · obtain ⟨k, rfl⟩ : ∃ k : Nat, i = k := ⟨i.toNat, by omega⟩
      go_wp2_with (go_at_call 170; refine (sift_any w0 base b n c g vs0 us cv HC k m lo _ hS (by omega) hn (by omega)).mono ?_; rintro e w1 ⟨rfl, us1, hS1⟩)
      go_roundw
      case rel => exact ⟨(k : Int) - 1, us1, by go_num, by omega, by omega, hS1⟩
      case measure => simp [intOf]
    · go_wp2
      go_loopw [12] (fun v12 wz => ∃ (i : Int) (us : List Value), v12 = .int .i64 i ∧ -1 ≤ i ∧ i < (m : Int) ∧ SrtW w0 wz base b n c vs0 us) (fun v12 _ => (intOf v12 + 1).toNat)
      case atStart => exact ⟨(m : Int) - 1, us, by go_num, by omega, by omega, hS⟩
      case round =>
        obtain ⟨i, us, rfl, hi1, hi2, hS⟩ := hrel
        by_cases hlt : 0 ≤ i
        · obtain ⟨k, rfl⟩ : ∃ k : Nat, i = k := ⟨i.toNat, by omega⟩
          obtain ⟨q, hq⟩ : ∃ q, lo + k = q := ⟨_, rfl⟩
          have hqi : (lo : Int) + (k : Int) = (q : Int) := by omega
          have hqw : IntKind.i64.wrap (q : Int) = (q : Int) := IntWalk.i64_in _ (by omega)
          obtain ⟨xA, xk, xd, hx, hxm, hcx, hfx⟩ := hS.at_ (show lo < n by omega)
          obtain ⟨yA, yk, yd, hy, hym, hcy, hfy⟩ := hS.at_ (show q < n by omega)
          have hx0 : (0 : Int) ≤ (lo : Int) := by omega
          have hxn : (lo : Int) < (n : Int) := by omega
          have hy0 : (0 : Int) ≤ (q : Int) := by omega
          have hyn : (q : Int) < (n : Int) := by omega
          obtain ⟨us3, hS3⟩ := hS.swap hx hy
          by_cases hk0 : lo = q
          · subst hk0
            rw [hx] at hy
            cases hy
            go_upto_region 10 with fail
            go_region
            have hS4 := hS3.drew
            clear hcx hfx hcy hfy hx hS hS3
            go_wp2_with (go_at_call 170; refine (sift_any w0 base b n c g vs0 us3 cv HC 0 k lo _ hS4 (by omega) hn (by omega)).mono ?_; rintro e w1 ⟨rfl, us1, hS1⟩)
            go_roundw
            case rel => exact ⟨(k : Int) - 1, us1, by go_num, by omega, by omega, hS1⟩
            case measure => simp [intOf]
          · go_upto_region 10 with fail
            go_region
            have hS4 := hS3.drew
            clear hcx hfx hcy hfy hx hS hS3
            go_wp2_with (go_at_call 170; refine (sift_any w0 base b n c g vs0 us3 cv HC 0 k lo _ hS4 (by omega) hn (by omega)).mono ?_; rintro e w1 ⟨rfl, us1, hS1⟩)
            go_roundw
            case rel => exact ⟨(k : Int) - 1, us1, by go_num, by omega, by omega, hS1⟩
            case measure => simp [intOf]
        · go_wp2
          go_end0
          exact ⟨rfl, us, hS⟩
end Go.Proofs.YtmcgnpdfpfgfpaaGreatDoor
