/-
  What residue's One and the second form's Only hand back for any lists. Conditions: the list reads as its numbers.
-/
import Derived.Test.YtoblofilaegnaaaMat
import Derived.Test.YtoblofilaegnaaaParB
namespace Go.Proofs.Ytoblofilaegnaaa
open Go.RowKit
set_option linter.unusedVariables false

theorem one_any (A : Option Addr) (n c : Nat) (l : List Int) (w : World) {B : Nat} (h : Ints w B A n l) (hn : n ≤ 17592186044416) :
    Calls Try.prog 154 #[.slice A n c] w fun e w' => e = .returned (.tuple #[.int .i64 (oneR l).1, .bool (oneR l).2]) ∧ w = w' := by
  have HL := Lib.hid h.len
  have HN : Hid (∀ k, k ≤ n → oneT l k = none → oneR l = (0, false)) := Lib.hid fun k hk h0 => oneR_none h0 (by rw [HL.out]; exact hk)
  have HE : Hid (∀ a f, oneT l n = some (a, f) → oneR l = (a, f)) := Lib.hid fun a f h0 => by unfold oneR; rw [HL.out, h0]; rfl
  go_enter Try.func154, Try.ntmps154
  go_wp2
  go_loopw [4, 5, 10] (fun x f v wr => ∃ (k : Nat) (a : Int) (b : Bool), k ≤ n ∧ v = .int .i64 k ∧ wr = w ∧ x = .int .i64 a ∧ f = .bool b ∧ Hid (oneT l k = some (a, b))) (fun _ _ v _ => n - (intOf v).toNat)
  case atStart => exact ⟨0, 0, false, Nat.zero_le _, rfl, rfl, rfl, rfl, Lib.hid rfl⟩
  case round =>
    obtain ⟨k, a, b, hk, rfl, rfl, rfl, rfl, HT⟩ := hrel
    by_cases hlt : k < n
    · obtain ⟨bb, off, rfl, hb, hcell⟩ := h.2 (by omega)
      have hck := hcell k hlt
      have hk0 : (0 : Int) ≤ (k : Int) := by omega
      have hk1 : (k : Int) < (n : Int) := by omega
      have H0 : Hid (l.getD k 0 = 0 → oneT l (k + 1) = some (a, b)) := Lib.hid fun e => by rw [oneT_skip e, HT.out]
      have H1 : Hid (l.getD k 0 = 1 → b = false → oneT l (k + 1) = some ((k : Int), true)) := Lib.hid fun e e2 => oneT_hit (a := a) e (by rw [HT.out, e2])
      have H2 : Hid (l.getD k 0 = 1 → b = true → oneR l = (0, false)) := Lib.hid fun e e2 => HN.out (k + 1) (by omega) (oneT_two (a := a) e (by rw [HT.out, e2]))
      have H3 : Hid (l.getD k 0 ≠ 0 → l.getD k 0 ≠ 1 → oneR l = (0, false)) := Lib.hid fun e e2 => HN.out (k + 1) (by omega) (oneT_bad e e2)
      generalize l.getD k 0 = y at *
      clear hcell
      by_cases hy0 : y = 0
      · subst hy0
        have HS := Lib.hid (H0.out rfl)
        clear H0 H1 H2 H3
        go_wp2
        go_roundw
        case rel => exact ⟨k + 1, a, b, by omega, by go_num, trivial, rfl, rfl, HS⟩
        case measure => simp [intOf]; omega
      · by_cases hy1 : y = 1
        · subst hy1
          cases b
          · have HS := Lib.hid (H1.out rfl rfl)
            clear H0 H1 H2 H3
            go_wp2
            go_roundw
            case rel => exact ⟨k + 1, (k : Int), true, by omega, by go_num, trivial, rfl, rfl, HS⟩
            case measure => simp [intOf]; omega
          · have HS := Lib.hid (H2.out rfl rfl)
            clear H0 H1 H2 H3
            go_wp2
            go_ret2
            exact ⟨by (rw [HS.out]; rfl), rfl⟩
        · have HS := Lib.hid (H3.out hy0 hy1)
          have hb0 : (y == 0) = false := by simpa using hy0
          have hb1 : (y == 1) = false := by simpa using hy1
          clear H0 H1 H2 H3
          go_wp2
          all_goals go_ret2
          all_goals exact ⟨by (rw [HS.out]; rfl), rfl⟩
    · obtain rfl : k = n := by omega
      have HS := Lib.hid (HE.out a b HT.out)
      go_wp2
      go_ret2
      exact ⟨by (rw [HS.out]; rfl), rfl⟩

theorem only_any (A : Option Addr) (n c : Nat) (l : List Int) (w : World) {B : Nat} (h : Ints w B A n l) (hn : n ≤ 17592186044416) :
    Calls Try.prog 155 #[.slice A n c] w fun e w' => e = .returned (.tuple #[.int .i64 (oneR l).1, .bool (oneR l).2]) ∧ w = w' := by
  have HL := Lib.hid h.len
  have HN : Hid (∀ k, k ≤ n → oneT l k = none → oneR l = (0, false)) := Lib.hid fun k hk h0 => oneR_none h0 (by rw [HL.out]; exact hk)
  have HE : Hid (∀ a f, oneT l n = some (a, f) → oneR l = (a, f)) := Lib.hid fun a f h0 => by unfold oneR; rw [HL.out, h0]; rfl
  go_enter Try.func155, Try.ntmps155
  go_wp2
  go_loopw [4, 5, 10] (fun x f v wr => ∃ (k : Nat) (a : Int) (m : Nat), k ≤ n ∧ v = .int .i64 k ∧ wr = w ∧ x = .int .i64 a ∧ f = .int .i64 m ∧ m ≤ k ∧ Hid ((m = 0 ∧ oneT l k = some (0, false)) ∨ (m = 1 ∧ oneT l k = some (a, true)) ∨ (2 ≤ m ∧ oneT l k = none))) (fun _ _ v _ => n - (intOf v).toNat)
  case atStart => exact ⟨0, 0, 0, Nat.zero_le _, rfl, rfl, rfl, rfl, Nat.le_refl _, Lib.hid (.inl ⟨rfl, rfl⟩)⟩
  case round =>
    obtain ⟨k, a, m, hk, rfl, rfl, rfl, rfl, hmk, HT⟩ := hrel
    by_cases hlt : k < n
    · obtain ⟨bb, off, rfl, hb, hcell⟩ := h.2 (by omega)
      have hck := hcell k hlt
      have hk0 : (0 : Int) ≤ (k : Int) := by omega
      have hk1 : (k : Int) < (n : Int) := by omega
      have H0 : Hid (l.getD k 0 = 0 → (m = 0 ∧ oneT l (k + 1) = some (0, false)) ∨ (m = 1 ∧ oneT l (k + 1) = some (a, true)) ∨ (2 ≤ m ∧ oneT l (k + 1) = none)) := Lib.hid fun e => by rw [oneT_skip e]; exact HT.out
      have H1 : Hid (l.getD k 0 = 1 → (m + 1 = 0 ∧ oneT l (k + 1) = some (0, false)) ∨ (m + 1 = 1 ∧ oneT l (k + 1) = some ((k : Int), true)) ∨ (2 ≤ m + 1 ∧ oneT l (k + 1) = none)) := Lib.hid fun e => by
        rcases HT.out with ⟨h1, h2⟩ | ⟨h1, h2⟩ | ⟨h1, h2⟩
        · exact .inr (.inl ⟨by omega, oneT_hit e h2⟩)
        · exact .inr (.inr ⟨by omega, oneT_two e h2⟩)
        · exact .inr (.inr ⟨by omega, oneT_more h2⟩)
      have H3 : Hid (l.getD k 0 ≠ 0 → l.getD k 0 ≠ 1 → oneR l = (0, false)) := Lib.hid fun e e2 => HN.out (k + 1) (by omega) (oneT_bad e e2)
      generalize l.getD k 0 = y at *
      clear hcell
      by_cases hy1 : y = 1
      · subst hy1
        have HS := Lib.hid (H1.out rfl)
        clear H0 H1 H3
        go_wp2
        go_roundw
        case rel => exact ⟨k + 1, (k : Int), m + 1, by omega, by go_num, trivial, rfl, by go_num, by omega, HS⟩
        case measure => simp [intOf]; omega
      · by_cases hy0 : y = 0
        · subst hy0
          have HS := Lib.hid (H0.out rfl)
          clear H0 H1 H3
          go_wp2
          go_roundw
          case rel => exact ⟨k + 1, a, m, by omega, by go_num, trivial, rfl, rfl, by omega, HS⟩
          case measure => simp [intOf]; omega
        · have HS := Lib.hid (H3.out hy0 hy1)
          have hb0 : (y == 0) = false := by simpa using hy0
          have hb1 : (y == 1) = false := by simpa using hy1
          have hb2 : (y != 0) = true := by simpa using hy0
          clear H0 H1 H3
          go_wp2
          all_goals go_ret2
          all_goals exact ⟨by (rw [HS.out]; rfl), rfl⟩
    · obtain rfl : k = n := by omega
      rcases HT.out with ⟨h1, h2⟩ | ⟨h1, h2⟩ | ⟨h1, h2⟩
      · have HS := Lib.hid (HE.out _ _ h2)
        subst h1
        clear h2
        go_wp2
        go_ret2
        exact ⟨by (rw [HS.out]; rfl), rfl⟩
      · have HS := Lib.hid (HE.out _ _ h2)
        subst h1
        clear h2
        go_wp2
        go_ret2
        exact ⟨by (rw [HS.out]; rfl), rfl⟩
      · have HS := Lib.hid (HN.out k (Nat.le_refl _) h2)
        have hne : ((m : Int) != 1) = true := by simp; omega
        have hne2 : ¬ (m : Int) = 1 := by omega
        clear h2
        go_wp2
        go_ret2
        exact ⟨by (rw [HS.out]; rfl), rfl⟩
end Go.Proofs.Ytoblofilaegnaaa
