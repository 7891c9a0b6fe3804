/-
  What the reference's Check and In hand back. Conditions: the lists read as their numbers.
-/
import Derived.Test.YtnjdjcgandfnfaaDoorBase
import Derived.Test.YtnjdjcgandfnfaaDoorRes
import Derived.Deep.RegionHeld3
import Derived.Deep.RegionLaw
namespace Go.Proofs.YtnjdjcgandfnfaaDoor
open Go.RowKit
set_option linter.unusedVariables false

theorem check_yes (p : Int) (w : World) (h : okP p = true) :
    Calls Tryd.prog 71 #[.agg #[.int .i64 p]] w fun e w' => e = .returned (.int .i64 0) ∧ Below w.heap.size w w' := by
  obtain ⟨h1, h2, h3⟩ := (okP_iff p).1 h
  have H3 := Lib.hid h3
  clear h h3
  go_enter Tryd.func71, Tryd.ntmps71
  go_wp2
  go_loop [3] (fun d => ∃ k : Nat, 2 ≤ k ∧ k ≤ 256 ∧ d = .int .i64 k) (fun d => 256 - (intOf d).toNat)
  case atStart => exact ⟨2, by omega, by omega, rfl⟩
  case round =>
    obtain ⟨k, hk1, hk2, rfl⟩ := hrel
    have hkk : 0 ≤ (k : Int) * k ∧ (k : Int) * k ≤ 65536 := ⟨Int.mul_nonneg (by omega) (by omega), by have := Int.mul_le_mul (show (k : Int) ≤ 256 by omega) (show (k : Int) ≤ 256 by omega) (by omega) (by omega); omega⟩
    by_cases hc : (k : Int) * k ≤ p
    · have hne : (p % (k : Int) == 0) = false := by
        rw [beq_eq_false_iff_ne]; exact H3.out k hk1 (by rw [Int.natCast_mul]; exact hc)
      have hlt : k < 256 := by
        rcases Nat.lt_or_ge k 256 with h | h
        · exact h
        · have : k = 256 := by omega
          subst this; omega
      go_wp2
      go_round
      case rel => exact ⟨k + 1, by omega, by omega, by go_num⟩
      case measure => simp [intOf]; omega
    · go_wp2
      go_ret
      exact ⟨rfl, (Below.refl _ _).alloc (Nat.le_refl _) _⟩

theorem check_no (p : Int) (w : World) (h : okP p = false) :
    Calls Tryd.prog 71 #[.agg #[.int .i64 p]] w fun e w' => e = .returned (.int .i64 9) ∧ Below w.heap.size w w' := by
  by_cases h1 : p < 2
  · clear h
    go_enter Tryd.func71, Tryd.ntmps71
    go_wp2
    go_ret
    exact ⟨rfl, (Below.refl _ _).alloc (Nat.le_refl _) _⟩
  by_cases h2 : 65521 < p
  · clear h
    go_enter Tryd.func71, Tryd.ntmps71
    go_wp2
    go_ret
    exact ⟨rfl, (Below.refl _ _).alloc (Nat.le_refl _) _⟩
  have h3 : ¬ ∀ d : Nat, 2 ≤ d → ((d * d : Nat) : Int) ≤ p → p % (d : Int) ≠ 0 := by
    intro h3
    have := (okP_iff p).2 ⟨by omega, by omega, h3⟩
    rw [this] at h; cases h
  have H3 := Lib.hid h3
  clear h h3
  go_enter Tryd.func71, Tryd.ntmps71
  go_wp2
  go_loop [3] (fun d => ∃ k : Nat, 2 ≤ k ∧ k ≤ 256 ∧ d = .int .i64 k ∧ Hid (∀ j : Nat, 2 ≤ j → j < k → p % (j : Int) ≠ 0)) (fun d => 256 - (intOf d).toNat)
  case atStart => exact ⟨2, by omega, by omega, rfl, Lib.hid fun j h1 h2 => by omega⟩
  case round =>
    obtain ⟨k, hk1, hk2, rfl, HJ⟩ := hrel
    have hkk : 0 ≤ (k : Int) * k ∧ (k : Int) * k ≤ 65536 := ⟨Int.mul_nonneg (by omega) (by omega), by have := Int.mul_le_mul (show (k : Int) ≤ 256 by omega) (show (k : Int) ≤ 256 by omega) (by omega) (by omega); omega⟩
    by_cases hc : (k : Int) * k ≤ p
    · have hlt : k < 256 := by
        rcases Nat.lt_or_ge k 256 with h | h
        · exact h
        · have : k = 256 := by omega
          subst this; omega
      by_cases hd : p % (k : Int) = 0
      · have hne : (p % (k : Int) == 0) = true := by rw [beq_iff_eq]; exact hd
        clear hd
        go_wp2
        go_ret
        exact ⟨rfl, (Below.refl _ _).alloc (Nat.le_refl _) _⟩
      · have hne : (p % (k : Int) == 0) = false := by rw [beq_eq_false_iff_ne]; exact hd
        have HJ2 : Hid (∀ j : Nat, 2 ≤ j → j < k + 1 → p % (j : Int) ≠ 0) := Lib.hid fun j h1 h2 => by
          rcases Nat.lt_or_ge j k with h | h
          · exact HJ.out j h1 h
          · have : j = k := by omega
            subst this; exact hd
        clear hd HJ
        go_wp2
        go_round
        case rel => exact ⟨k + 1, by omega, by omega, by go_num, HJ2⟩
        case measure => simp [intOf]; omega
    · exfalso
      refine H3.out fun d hd hdd hm => HJ.out d hd ?_ hm
      rcases Nat.lt_or_ge d k with h | h
      · exact h
      · exfalso
        have : k * k ≤ d * d := Nat.mul_le_mul h h
        have h5 : ((k * k : Nat) : Int) ≤ ((d * d : Nat) : Int) := by omega
        rw [Int.natCast_mul] at h5
        omega

/-- All numbers are elements of a valid field. -/
def inF (p : Int) (xs : List Int) : Bool := okP p && allP p xs
theorem inF_iff {p : Int} {xs : List Int} : inF p xs = true ↔ okP p = true ∧ allP p xs = true := by simp [inF]
theorem inF_false {p : Int} {xs : List Int} : inF p xs = false ↔ (okP p = true → allP p xs = false) := by
  unfold inF; cases okP p <;> simp

theorem in_any (p : Int) (A : Option Addr) (n c : Nat) (xs : List Int) (w : World) (h : Ints w w.heap.size A n xs) (hn : n ≤ 17592186044416) :
    Calls Tryd.prog 72 #[.agg #[.int .i64 p], .slice A n c] w fun e w' => e = .returned (.bool (inF p xs)) ∧ Below w.heap.size w w' := by
  by_cases hok : okP p = true
  · have hp := okP_pos hok
    have HO := Lib.hid hok
    have HL := Lib.hid h.len
    have HR : Hid (inF p xs = allP p xs) := Lib.hid (by unfold inF; rw [hok]; rfl)
    clear hok
    go_enter Tryd.func72, Tryd.ntmps72
    go_wp2_with (go_at_call 71; refine (check_yes p _ HO.out).mono ?_; rintro e w1 ⟨rfl, hb1⟩
                 have hb := bnext (bbox _) hb1
                 have hF := (Blk.new w 24 #[.int .i64 p]).below hb1 (by simp)
                 have hfc : w1.cell? ⟨w.heap.size, 0, none⟩ = some (.int .i64 p) := (hF.cell 0).trans rfl
                 have hI := h.upto hb)
    clear hb1
    go_loop [12] (fun i => ∃ k : Nat, k ≤ n ∧ i = .int .i64 k ∧ Hid (allP p (xs.take k) = true)) (fun i => n - (intOf i).toNat)
    case atStart => exact ⟨0, Nat.zero_le _, rfl, Lib.hid rfl⟩
    case round =>
      obtain ⟨k, hk, rfl, HA⟩ := hrel
      by_cases hlt : k < n
      · obtain ⟨b', off, rfl, hb', hcell⟩ := hI.2 (by omega)
        have hck := hcell k hlt
        clear hcell
        have HT := Lib.hid (take_snoc_int xs k (by rw [HL.out]; exact hlt))
        have hbad : ∀ x, xs.getD k 0 = x → inP p x = false → inF p xs = false := fun x hx hi => by
          rw [HR.out, ← Bool.not_eq_true]
          intro ha
          have hs : allP p (xs.take (k + 1)) = true := allP_iff.2 fun u hu => allP_iff.1 ha u (List.mem_of_mem_take hu)
          rw [HT.out, allP_append, hx] at hs
          have := hs.2
          simp [allP, hi] at this
        have HB := Lib.hid (hbad _ rfl)
        clear hbad
        generalize xs.getD k 0 = x at *
        by_cases hx0 : x < 0
        · have HF := Lib.hid (HB.out (by rw [← Bool.not_eq_true, inP_iff]; omega))
          clear HB
          go_wp2
          go_ret
          exact ⟨ret_bool HF.out.symm, hb⟩
        by_cases hxp : p ≤ x
        · have HF := Lib.hid (HB.out (by rw [← Bool.not_eq_true, inP_iff]; omega))
          clear HB
          go_wp2
          go_ret
          exact ⟨ret_bool HF.out.symm, hb⟩
        clear HB
        have hx : inP p x = true := inP_iff.2 (by omega)
        have HX := Lib.hid hx
        clear hx
        go_wp2
        go_round
        case rel => exact ⟨k + 1, by omega, by go_num, Lib.hid (by rw [HT.out, allP_append]; exact ⟨HA.out, by simp [allP, HX.out]⟩)⟩
        case measure => simp [intOf]; omega
      · go_wp2
        go_ret
        refine ⟨ret_bool ?_, hb⟩
        have := HA.out
        rw [List.take_of_length_le (by rw [HL.out]; omega)] at this
        rw [HR.out, this]
  · have hok' : okP p = false := by simpa using hok
    have HO := Lib.hid hok'
    have HR : Hid (inF p xs = false) := Lib.hid (by unfold inF; rw [hok']; rfl)
    clear hok hok'
    go_enter Tryd.func72, Tryd.ntmps72
    go_wp2_with (go_at_call 71; refine (check_no p _ HO.out).mono ?_; rintro e w1 ⟨rfl, hb1⟩
                 have hb := bnext (bbox _) hb1)
    go_ret
    exact ⟨ret_bool HR.out.symm, hb⟩

end Go.Proofs.YtnjdjcgandfnfaaDoor
