/-
  What the functions of residue hand back: Of, Has, All, Mul, Add. Conditions: a list reads as its numbers.
-/
import Derived.Test.YtnjdjcgandfnfaaDoorProg
import Derived.Test.YtnjdjcgandfnfaaDoorPlain
import Derived.WalkKit
import Derived.WalkSpells
import Derived.Lib.Hide
namespace Go.Proofs.YtnjdjcgandfnfaaDoor
open Go.RowKit
set_option linter.unusedVariables false

theorem of_yes (p : Int) (w : World) (h : okP p = true) :
    Calls Tryd.prog 80 #[.agg #[.int .i64 p]] w fun e w' => e = .returned (.tuple #[.int .i64 p, .bool true]) ∧ Below w.heap.size w w' := by
  obtain ⟨h1, h2, h3⟩ := (okP_iff p).1 h
  have H3 := Lib.hid h3
  clear h h3
  go_enter Tryd.func80, Tryd.ntmps80
  go_wp2
  go_loop [4] (fun d => ∃ k : Nat, 2 ≤ k ∧ k ≤ 256 ∧ d = .int .i64 k) (fun d => 256 - (intOf d).toNat)
  case atStart => exact ⟨2, by omega, by omega, rfl⟩
  case round =>
    obtain ⟨k, hk1, hk2, rfl⟩ := hrel
    have hkk : 0 ≤ (k : Int) * k ∧ (k : Int) * k ≤ 65536 := ⟨Int.mul_nonneg (by omega) (by omega), by have := Int.mul_le_mul (show (k : Int) ≤ 256 by omega) (show (k : Int) ≤ 256 by omega) (by omega) (by omega); omega⟩
    by_cases hc : (k : Int) * k ≤ p
    · have hne : (p % (k : Int) == 0) = false := by
        rw [beq_eq_false_iff_ne]; exact H3.out k hk1 (by rw [Int.natCast_mul]; exact hc)
      have hlt : k < 256 := by
        rcases Nat.lt_or_ge k 256 with h | h
        · exact h
        · have : k = 256 := by omega
          subst this; omega
      go_wp2
      go_round
      case rel => exact ⟨k + 1, by omega, by omega, by go_num⟩
      case measure => simp [intOf]; omega
    · go_wp2
      go_ret2
      exact ⟨rfl, (Below.refl _ _).alloc (Nat.le_refl _) _⟩

theorem of_no (p : Int) (w : World) (hw : -9223372036854775808 ≤ p ∧ p ≤ 9223372036854775807) (h : okP p = false) :
    Calls Tryd.prog 80 #[.agg #[.int .i64 p]] w fun e w' => e = .returned (.tuple #[.int .i64 0, .bool false]) ∧ Below w.heap.size w w' := by
  by_cases h1 : p < 2
  · clear h
    go_enter Tryd.func80, Tryd.ntmps80
    go_wp2
    go_ret2
    exact ⟨rfl, (Below.refl _ _).alloc (Nat.le_refl _) _⟩
  by_cases h2 : 65521 < p
  · clear h
    go_enter Tryd.func80, Tryd.ntmps80
    go_wp2
    go_ret2
    exact ⟨rfl, (Below.refl _ _).alloc (Nat.le_refl _) _⟩
  have h3 : ¬ ∀ d : Nat, 2 ≤ d → ((d * d : Nat) : Int) ≤ p → p % (d : Int) ≠ 0 := by
    intro h3
    have := (okP_iff p).2 ⟨by omega, by omega, h3⟩
    rw [this] at h; cases h
  have H3 := Lib.hid h3
  clear h h3
  go_enter Tryd.func80, Tryd.ntmps80
  go_wp2
  go_loop [4] (fun d => ∃ k : Nat, 2 ≤ k ∧ k ≤ 256 ∧ d = .int .i64 k ∧ Hid (∀ j : Nat, 2 ≤ j → j < k → p % (j : Int) ≠ 0)) (fun d => 256 - (intOf d).toNat)
  case atStart => exact ⟨2, by omega, by omega, rfl, Lib.hid fun j h1 h2 => by omega⟩
  case round =>
    obtain ⟨k, hk1, hk2, rfl, HJ⟩ := hrel
    have hkk : 0 ≤ (k : Int) * k ∧ (k : Int) * k ≤ 65536 := ⟨Int.mul_nonneg (by omega) (by omega), by have := Int.mul_le_mul (show (k : Int) ≤ 256 by omega) (show (k : Int) ≤ 256 by omega) (by omega) (by omega); omega⟩
    by_cases hc : (k : Int) * k ≤ p
    · have hlt : k < 256 := by
        rcases Nat.lt_or_ge k 256 with h | h
        · exact h
        · have : k = 256 := by omega
          subst this; omega
      by_cases hd : p % (k : Int) = 0
      · have hne : (p % (k : Int) == 0) = true := by rw [beq_iff_eq]; exact hd
        clear hd
        go_wp2
        go_ret2
        exact ⟨rfl, (Below.refl _ _).alloc (Nat.le_refl _) _⟩
      · have hne : (p % (k : Int) == 0) = false := by rw [beq_eq_false_iff_ne]; exact hd
        have HJ2 : Hid (∀ j : Nat, 2 ≤ j → j < k + 1 → p % (j : Int) ≠ 0) := Lib.hid fun j h1 h2 => by
          rcases Nat.lt_or_ge j k with h | h
          · exact HJ.out j h1 h
          · have : j = k := by omega
            subst this; exact hd
        clear hd HJ
        go_wp2
        go_round
        case rel => exact ⟨k + 1, by omega, by omega, by go_num, HJ2⟩
        case measure => simp [intOf]; omega
    · exfalso
      refine H3.out fun d hd hdd hm => HJ.out d hd ?_ hm
      rcases Nat.lt_or_ge d k with h | h
      · exact h
      · exfalso
        have : k * k ≤ d * d := Nat.mul_le_mul h h
        have h5 : ((k * k : Nat) : Int) ≤ ((d * d : Nat) : Int) := by omega
        rw [Int.natCast_mul] at h5
        omega

theorem has_any (p a : Int) (w : World) :
    Calls Tryd.prog 82 #[.int .i64 p, .int .i64 a] w fun e w' => e = .returned (.bool (inP p a)) ∧ w = w' := by
  by_cases h1 : 0 ≤ a
  · by_cases h2 : a < p
    · have : inP p a = true := inP_iff.2 ⟨h1, h2⟩
      go_enter Tryd.func82, Tryd.ntmps82
      go_wp2
      go_ret
      first | exact ⟨rfl, rfl⟩ | exact ⟨ret_bool this.symm, rfl⟩
    · have : inP p a = false := by rw [← Bool.not_eq_true, inP_iff]; omega
      go_enter Tryd.func82, Tryd.ntmps82
      go_wp2
      go_ret
      first | exact ⟨rfl, rfl⟩ | exact ⟨ret_bool this.symm, rfl⟩
  · have : inP p a = false := by rw [← Bool.not_eq_true, inP_iff]; omega
    go_enter Tryd.func82, Tryd.ntmps82
    go_wp2
    go_ret
    first | exact ⟨rfl, rfl⟩ | exact ⟨ret_bool this.symm, rfl⟩

theorem mulP_any (p x y : Int) (w : World) (hp : 2 ≤ p ∧ p ≤ 65521) (hx : 0 ≤ x ∧ x < p) (hy : 0 ≤ y ∧ y < p) :
    Calls Tryd.prog 47 #[.int .i64 p, .int .i64 x, .int .i64 y] w fun e w' => e = .returned (.int .i64 (mulP p x y)) ∧ w = w' := by
  have hm : 0 ≤ x * y ∧ x * y ≤ 65521 * 65521 := ⟨Int.mul_nonneg hx.1 hy.1, Int.mul_le_mul (by omega) (by omega) hy.1 (by omega)⟩
  go_enter Tryd.func47, Tryd.ntmps47
  go_wp2
  go_ret
  exact ⟨rfl, rfl⟩

theorem addP_any (p x y : Int) (w : World) (hp : 2 ≤ p ∧ p ≤ 65521) (hx : 0 ≤ x ∧ x < p) (hy : 0 ≤ y ∧ y < p) :
    Calls Tryd.prog 86 #[.int .i64 p, .int .i64 x, .int .i64 y] w fun e w' => e = .returned (.int .i64 (addP p x y)) ∧ w = w' := by
  go_enter Tryd.func86, Tryd.ntmps86
  go_wp2
  go_ret
  exact ⟨rfl, rfl⟩

/-- The closure in All. -/
theorem all1_any (p a : Int) (b : Nat) (w : World) (hb : w.cell? ⟨b, 0, none⟩ = some (.int .i64 p)) :
    Calls Tryd.prog 90 #[.int .i64 a, .pointer (some ⟨b, 0, none⟩)] w fun e w' => e = .returned (.bool (!inP p a)) ∧ w = w' := by
  go_enter Tryd.func90, Tryd.ntmps90
  go_wp2_with (go_at_call 82; refine (has_any p a _).mono ?_; rintro e w' ⟨rfl, rfl⟩)
  go_ret
  exact ⟨rfl, rfl⟩

/-- The first index at which a number is no element; -1. -/
def idxP (p : Int) (xs : List Int) : Int := if allP p xs then -1 else 0

/-- slices.IndexFunc with the closure of All: -1 just where all are elements. -/
theorem indexFunc_any (p : Int) (b : Nat) (A : Option Addr) (n c : Nat) (xs : List Int) (w : World) {B : Nat} (h : Ints w B A n xs) (hn : n ≤ 4611686018427387904) (hb : w.cell? ⟨b, 0, none⟩ = some (.int .i64 p)) :
    Calls Tryd.prog 92 #[.slice A n c, .func (.func 90) #[] #[.pointer (some ⟨b, 0, none⟩)]] w fun e w' =>
      (∃ i : Int, e = .returned (.int .i64 i) ∧ (0 ≤ i ↔ allP p xs = false)) ∧ w = w' := by
  obtain ⟨hl, hc⟩ := h
  have HL := Lib.hid hl
  clear hl
  go_enter Tryd.func92, Tryd.ntmps92
  go_wp2
  go_loop [8] (fun i => ∃ k : Nat, k ≤ n ∧ i = .int .i64 k ∧ Hid (allP p (xs.take k) = true)) (fun i => n - (intOf i).toNat)
  case atStart => exact ⟨0, Nat.zero_le _, rfl, Lib.hid rfl⟩
  case round =>
    obtain ⟨k, hk, rfl, HA⟩ := hrel
    by_cases hlt : k < n
    · obtain ⟨b', off, rfl, hb', hcell⟩ := hc (by omega)
      have hck := hcell k hlt
      clear hc hcell
      have HT := Lib.hid (take_snoc_int xs k (by rw [HL.out]; exact hlt))
      generalize xs.getD k 0 = x at *
      by_cases hx : inP p x = true
      · go_wp2_with (go_at_call 90; refine (all1_any p x b _ hb).mono ?_; rintro e w' ⟨rfl, rfl⟩)
        go_round
        case rel => exact ⟨k + 1, by omega, by go_num, Lib.hid (by rw [HT.out, allP_append]; exact ⟨HA.out, by simp [allP, hx]⟩)⟩
        case measure => simp [intOf]; omega
      · have hx' : inP p x = false := by simpa using hx
        clear hx
        go_wp2_with (go_at_call 90; refine (all1_any p x b _ hb).mono ?_; rintro e w' ⟨rfl, rfl⟩)
        go_ret
        refine ⟨⟨k, rfl, fun _ => ?_, fun _ => by omega⟩, rfl⟩
        rw [← Bool.not_eq_true]
        intro ha
        have hs : allP p (xs.take (k + 1)) = true := allP_iff.2 fun u hu => allP_iff.1 ha u (List.mem_of_mem_take hu)
        rw [HT.out, allP_append] at hs
        have := hs.2
        simp [allP, hx'] at this
    · go_wp2
      go_ret
      refine ⟨⟨-1, rfl, fun h => by omega, fun h => ?_⟩, rfl⟩
      have := HA.out
      rw [List.take_of_length_le (by rw [HL.out]; omega), h] at this
      cases this

theorem contains_any (p : Int) (b : Nat) (A : Option Addr) (n c : Nat) (xs : List Int) (w : World) {B : Nat} (h : Ints w B A n xs) (hn : n ≤ 4611686018427387904) (hb : w.cell? ⟨b, 0, none⟩ = some (.int .i64 p)) :
    Calls Tryd.prog 89 #[.slice A n c, .func (.func 90) #[] #[.pointer (some ⟨b, 0, none⟩)]] w fun e w' =>
      e = .returned (.bool (!allP p xs)) ∧ w = w' := by
  go_enter Tryd.func89, Tryd.ntmps89
  go_wp2_with (go_at_call 92; refine (indexFunc_any p b A n c xs _ h hn hb).mono ?_; rintro e w' ⟨⟨i, rfl, hi⟩, rfl⟩; have HI := Lib.hid hi; clear hi)
  go_ret
  refine ⟨ret_bool ?_, rfl⟩
  show decide (0 ≤ i) = _
  rw [Bool.eq_iff_iff, decide_eq_true_eq, HI.out]
  simp

/-- residue's All. -/
theorem all_any (p : Int) (A : Option Addr) (n c : Nat) (xs : List Int) (w : World) (h : Ints w w.heap.size A n xs) (hn : n ≤ 4611686018427387904) :
    Calls Tryd.prog 84 #[.int .i64 p, .slice A n c] w fun e w' => e = .returned (.bool (allP p xs)) ∧ Below w.heap.size w w' := by
  have h2 : Ints (w.alloc (.cells #[.int .i64 p] 82)) w.heap.size A n xs := h.alloc (Nat.le_refl _) _
  go_enter Tryd.func84, Tryd.ntmps84
  go_wp2_with (go_at_call 89; refine (contains_any p _ A n c xs _ h2 hn (by simp)).mono ?_; rintro e w' ⟨rfl, rfl⟩)
  go_ret
  refine ⟨ret_bool (by simp), (Below.refl _ _).alloc (Nat.le_refl _) _⟩
end Go.Proofs.YtnjdjcgandfnfaaDoor
