/-
  What residue's Inverse and Sub hand back for elements. Conditions: the number is an element that is not 0.
-/
import Derived.Test.YtnjdjcgandfnfaaDoorRes
import Derived.Test.YtnjdjcgandfnfaaDoorPlain
namespace Go.Proofs.YtnjdjcgandfnfaaDoor
open Go.RowKit
set_option linter.unusedVariables false

theorem subP_any (p x y : Int) (w : World) (hp : 2 ≤ p ∧ p ≤ 65521) (hx : 0 ≤ x ∧ x < p) (hy : 0 ≤ y ∧ y < p) :
    Calls Tryd.prog 48 #[.int .i64 p, .int .i64 x, .int .i64 y] w fun e w' => e = .returned (.int .i64 (subP p x y)) ∧ w = w' := by
  have hp0 : ¬ p = 0 := by omega
  go_enter Tryd.func48, Tryd.ntmps48
  go_wp2
  go_ret
  exact ⟨rfl, rfl⟩

set_option maxHeartbeats 400000 in
theorem inv_ok (p a : Int) (w : World) (hok : okP p = true) (ha : 0 < a ∧ a < p) :
    Calls Tryd.prog 78 #[.int .i64 p, .int .i64 a] w fun e w' => (∃ v, e = .returned (.int .i64 v) ∧ (0 ≤ v ∧ v < p) ∧ Hid (Cong p (a * v) 1)) ∧ w = w' := by
  have hp := okP_pos hok
  have HST := Lib.hid (Euc.start hok ha)
  clear hok
  go_enter Tryd.func78, Tryd.ntmps78
  go_wp2
  go_loop [5, 6, 7, 8] (fun v1 v2 v3 v4 => ∃ r s x y : Int, v1 = .int .i64 r ∧ v2 = .int .i64 s ∧ v3 = .int .i64 x ∧ v4 = .int .i64 y ∧ Hid (Euc p a r s x y)) (fun _ v2 _ _ => (intOf v2).toNat)
  case atStart => exact ⟨p, a, 0, 1, rfl, rfl, rfl, rfl, HST⟩
  case round =>
    obtain ⟨r, s, x, y, rfl, rfl, rfl, rfl, HE⟩ := hrel
    have h0 := HE.out.s0
    have h1 := HE.out.sr
    have h2 := HE.out.rp
    have h3 := HE.out.bx
    have h4 := HE.out.by_
    by_cases hs : 0 < s
    · have HE2 := Lib.hid (HE.out.step hs)
      have hb := HE.out.bounds hs
      have hsn : ¬ s = 0 := by omega
      have h6 := HE2.out.sr
      have h7 := HE2.out.s0
      go_wp2
      go_round
      case rel => exact ⟨s, r - r / s * s, y, x - r / s * y, rfl, rfl, rfl, rfl, HE2⟩
      case measure => simp [intOf]; omega
    · obtain rfl : s = 0 := by omega
      have HD := Lib.hid HE.out.done
      have hpn : ¬ p = 0 := by omega
      have ht := tmod_facts x p (by omega)
      have hT : Hid ((x.tmod p + p).tmod p = x % p) := Lib.hid (by rw [Int.tmod_eq_emod_of_nonneg (by omega), mod_of_go x p (by omega)])
      have hin : 0 ≤ x % p ∧ x % p < p := ⟨Int.emod_nonneg _ (by omega), Int.emod_lt_of_pos _ (by omega)⟩
      have HW : Hid (x.tmod p % p = x % p) := Lib.hid (by rw [← mod_of_go x p (by omega), Int.add_emod_right])
      go_wp2
      go_ret
      exact ⟨⟨x % p, ret_int HW.out, hin, HD⟩, rfl⟩
end Go.Proofs.YtnjdjcgandfnfaaDoor
