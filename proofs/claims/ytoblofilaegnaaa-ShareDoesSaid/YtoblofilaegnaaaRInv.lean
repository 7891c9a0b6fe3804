/-
  What the second form's Pow and Inv hand back: a power, the inverse. Conditions: the field is valid, the numbers are elements.
-/
import Derived.Test.YtoblofilaegnaaaPlain
import Derived.Test.YtoblofilaegnaaaBase
import Derived.Laws.BitsLemmas
namespace Go.Proofs.Ytoblofilaegnaaa
open Go.RowKit
set_option linter.unusedVariables false

theorem i64_and1 (n : Int) : bits .and .i64 n 1 = n % 2 := by
  have h1 : (BitVec.ofInt 64 1).toNat = 2 ^ 1 - 1 := by decide
  have key : (BitVec.ofInt 64 n &&& BitVec.ofInt 64 1).toNat = (n % ((2 ^ 64 : Nat) : Int)).toNat % 2 ^ 1 := by
    rw [BitVec.toNat_and, BitVec.toNat_ofInt, h1, Nat.and_two_pow_sub_one_eq_mod]
  show IntKind.i64.wrap ((BitVec.ofInt 64 n &&& BitVec.ofInt 64 1).toNat : Nat) = n % 2
  rw [key, IntKind.wrap_i64]
  omega

/-- Pow: a power. -/
def PowPost (p a : Int) (n : Nat) (w : World) (e : Ending) (w' : World) : Prop := ∃ r : Int, e = .returned (.int .i64 r) ∧ (0 ≤ r ∧ r < p) ∧ Hid (Cong p r (a ^ n)) ∧ Below w.heap.size w w'

set_option maxHeartbeats 800000 in
theorem rpow_ok (p a : Int) (n : Nat) (w : World) (hp : 2 ≤ p ∧ p ≤ 65521) (ha : 0 ≤ a ∧ a < p) (hn : n ≤ 1000000) :
    Calls Try.prog 171 #[.agg #[.int .i64 p], .int .i64 a, .int .i64 n] w (PowPost p a n w) := by
  have hF := Blk.new w 24 #[.int .i64 p]
  have hc : (w.alloc (.cells #[.int .i64 p] 24)).cell? ⟨w.heap.size, 0, none⟩ = some (.int .i64 p) := (hF.cell 0).trans rfl
  have h1p : (1 : Int) % p = 1 := Int.emod_eq_of_lt (by omega) (by omega)
  go_enter Try.func171, Try.ntmps171
  go_wp2
  go_loop [1, 2, 7] (fun v1 v2 v7 => ∃ (b x : Int) (k : Nat), v1 = .int .i64 b ∧ v2 = .int .i64 k ∧ v7 = .int .i64 x ∧ k ≤ 1000000 ∧ (0 ≤ b ∧ b < p) ∧ (0 ≤ x ∧ x < p) ∧ Hid (Cong p (x * b ^ k) (a ^ n))) (fun _ v2 _ => (intOf v2).toNat)
  case atStart => exact ⟨a, 1, n, rfl, rfl, by rw [h1p], hn, ha, by omega, Lib.hid (by rw [Int.one_mul]; exact Cong.refl _ _)⟩
  case round =>
    obtain ⟨b, x, k, rfl, rfl, rfl, hk, hb, hx, HC⟩ := hrel
    by_cases hk0 : 0 < k
    · have hbb : 0 ≤ b * b ∧ b * b ≤ 65521 * 65521 := ⟨Int.mul_nonneg hb.1 hb.1, Int.mul_le_mul (by omega) (by omega) hb.1 (by omega)⟩
      have hxb : 0 ≤ x * b ∧ x * b ≤ 65521 * 65521 := ⟨Int.mul_nonneg hx.1 hb.1, Int.mul_le_mul (by omega) (by omega) hb.1 (by omega)⟩
      have hst := pow_step HC.out
      have hb2 : 0 ≤ b * b % p ∧ b * b % p < p := ⟨Int.emod_nonneg _ (by omega), Int.emod_lt_of_pos _ (by omega)⟩
      have hx2 : 0 ≤ x * b % p ∧ x * b % p < p := ⟨Int.emod_nonneg _ (by omega), Int.emod_lt_of_pos _ (by omega)⟩
      have hk2 : ((k : Int) / 2) = ((k / 2 : Nat) : Int) := by omega
      have HK2 := Lib.hid hk2
      have hk3 : k / 2 ≤ 1000000 := by omega
      have hk4 : (intOf (Value.int .i64 ((k / 2 : Nat) : Int))).toNat < (intOf (Value.int .i64 (k : Int))).toNat := by simp [intOf]; omega
      have HK4 := Lib.hid hk4
      clear hk2 hk4
      by_cases h2 : k % 2 = 1
      · rw [if_pos h2] at hst
        have HN := Lib.hid hst
        have hand : bits .and .i64 (k : Int) 1 = 1 := by rw [i64_and1]; omega
        clear hst h2
        go_wp2
        rw [HK2.out]
        exact ⟨⟨_, _, _, rfl, rfl, rfl, hk3, hb2, hx2, HN⟩, HK4.out⟩
      · rw [if_neg h2] at hst
        have HN := Lib.hid hst
        have hand : bits .and .i64 (k : Int) 1 = 0 := by rw [i64_and1]; omega
        clear hst h2
        go_wp2
        rw [HK2.out]
        exact ⟨⟨_, _, _, rfl, rfl, rfl, hk3, hb2, hx, HN⟩, HK4.out⟩
    · obtain rfl : k = 0 := by omega
      have HC0 : Hid (Cong p x (a ^ n)) := Lib.hid (by have := HC.out; rwa [Int.pow_zero, Int.mul_one] at this)
      go_wp2
      go_ret
      exact ⟨x, rfl, hx, HC0, bbox _⟩

/-- Inv: the inverse. -/
theorem rinv_ok (p a : Int) (w : World) (hok : okP p = true) (ha : 0 < a ∧ a < p) :
    Calls Try.prog 137 #[.agg #[.int .i64 p], .int .i64 a] w fun e w' => (∃ v, e = .returned (.int .i64 v) ∧ (0 ≤ v ∧ v < p) ∧ Hid (Cong p (a * v) 1)) ∧ Below w.heap.size w w' := by
  have hp := okP_pos hok
  obtain ⟨n, hn⟩ : ∃ n : Nat, p - 2 = n := ⟨(p - 2).toNat, by omega⟩
  have HI : Hid (Cong p (a * a ^ n) 1) := Lib.hid (by have := inv_pow hok ha; rwa [hn, Int.toNat_natCast] at this)
  have hF := Blk.new w 24 #[.int .i64 p]
  have hc : (w.alloc (.cells #[.int .i64 p] 24)).cell? ⟨w.heap.size, 0, none⟩ = some (.int .i64 p) := (hF.cell 0).trans rfl
  have hnn : n ≤ 1000000 := by omega
  clear hok
  go_enter Try.func137, Try.ntmps137
  go_wp2_with (go_at_call 171; refine (rpow_ok p a n _ hp (by omega) hnn).mono ?_; rintro e w1 ⟨r, rfl, hr, HR, hb1⟩
               have hb := bnext (bbox _) hb1)
  go_ret
  exact ⟨⟨r, rfl, hr, Lib.hid (((Cong.refl p a).mul HR.out).trans HI.out)⟩, hb⟩
end Go.Proofs.Ytoblofilaegnaaa
