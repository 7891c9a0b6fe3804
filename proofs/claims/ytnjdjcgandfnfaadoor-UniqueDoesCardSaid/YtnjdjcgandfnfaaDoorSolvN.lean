/-
  Whether a reduced form has a solution, and the rank of equations. Conditions: the block of a reduced form, as reduce lays it; the lists read as their numbers.
-/
import Derived.Test.YtnjdjcgandfnfaaDoorSCheck
import Derived.Deep.DeepCutAuto
import Derived.Deep.QuietTactic
import Derived.BigQuiet
namespace Go.Proofs.YtnjdjcgandfnfaaDoor
open Go.RowKit
set_option linter.unusedVariables false

theorem RedW.cap {w : World} {base gs : Nat} {p : Int} {c : Nat} {R : Option Addr} {n cap : Nat} {bs : List (Nat × Nat)} {m : List (List Int)} {lead : List Nat} (h : RedW w base gs p c R n cap bs m lead) : n ≤ cap := by
  rcases h.out.2 with ⟨hv, _⟩ | ⟨g, cp, cur, hv, _, _, hnc, _⟩
  · injection hv with _ h1 h2
    omega
  · injection hv with _ h1 h2
    omega

/-- What solvable leaves. -/
def SolvPost (c rk : Nat) (m : List (List Int)) (w : World) (e : Ending) (w' : World) : Prop := ∃ b, e = .returned (.bool b) ∧ (b = true ↔ NoClash c rk m) ∧ Below w.heap.size w w'
set_option maxHeartbeats 800000 in
set_option maxRecDepth 100000 in
theorem solvable_any (base gs : Nat) (p : Int) (c : Nat) (R : Option Addr) (n cap : Nat) (bs : List (Nat × Nat)) (m : List (List Int)) (lead : List Nat) (rk : Nat) (w : World)
    (h : RedW w base gs p c R n cap bs m lead) (hr : Hid (lead.length = rk)) (hrn : rk ≤ n) (hn : n ≤ 32) :
    Calls Tryd.prog 76 #[.pointer (some ⟨gs, 0, none⟩)] w (SolvPost c rk m w) := by
  have hc1 : w.cell? ⟨gs, 1, none⟩ = some (.int .i64 c) := (h.blk.cell 1).trans (redC_1 _ _ _ _ _)
  have hc2 : w.cell? ⟨gs, 2, none⟩ = some (.slice R n cap) := (h.blk.cell 2).trans (redC_2 _ _ _ _ _)
  have hc3 : w.cell? ⟨gs, 3, none⟩ = some (.int .i64 rk) := by rw [← hr.out]; exact (h.blk.cell 3).trans (redC_3 _ _ _ _ _)
  have hcap := h.cap
  have hmn := h.ln
  have HF : Hid (∀ j, j < n → ∃ go b cb, R = some ⟨go, 0, none⟩ ∧ w.cell? ⟨go, j, none⟩ = some (.slice (some ⟨b, 0, none⟩) (c + 1) cb) ∧ w.cell? ⟨b, c, none⟩ = some (.int .i64 (mx m j c))) := Lib.hid fun j hj => by
    obtain ⟨go, h1, _, _, _, _, h2⟩ := h.form (by omega)
    exact ⟨go, _, _, h1, (h2 j hj).1, (h.rws.own j (by omega)).cellAt (by omega)⟩
  have hk0 : (0 : Int) ≤ (rk : Int) := by omega
  have hk1 : (rk : Int) ≤ (n : Int) := by omega
  obtain ⟨A4, hA4, HA4⟩ : ∃ A4 : Option Addr, (if cap = rk then R else Option.map (fun x => x.add rk) R) = A4 ∧ Hid (rk < n → ∀ go, R = some ⟨go, 0, none⟩ → A4 = some ⟨go, rk, none⟩) := by
    refine ⟨_, rfl, Lib.hid fun h1 go h2 => ?_⟩
    rw [if_neg (by omega), h2]; simp [Addr.add]; omega
  have HM : Hid (m.length = n) := Lib.hid hmn
  clear hmn h
  go_enter Tryd.func76, Tryd.ntmps76
  go_wp2
  go_quiet (fail)
  go_wp2
  go_loop [15] (fun v => ∃ j : Nat, j ≤ n - rk ∧ v = .int .i64 j ∧ Hid (∀ i, i < j → mx m (rk + i) c = 0)) (fun v => n - rk - (intOf v).toNat)
  case atStart => exact ⟨0, Nat.zero_le _, rfl, Lib.hid fun i hi => absurd hi (by omega)⟩
  case round =>
    obtain ⟨j, hj, rfl, HZ⟩ := hrel
    by_cases hlt : j < n - rk
    · obtain ⟨go, b, cb, hR, hrow, hcell⟩ := HF.out (rk + j) (by omega)
      have hA := HA4.out (by omega) go hR
      subst hA
      have h1 : (j : Int) < ((n - rk : Nat) : Int) := by omega
      have h0 : (0 : Int) ≤ (j : Int) := by omega
      have hcc : (c : Int) < ((c + 1 : Nat) : Int) := by omega
      have hc0 : (0 : Int) ≤ (c : Int) := by omega
      by_cases hz : mx m (rk + j) c = 0
      · rw [hz] at hcell
        go_wp2
        go_round
        case rel => exact ⟨j + 1, by omega, by go_num, Lib.hid fun i hi => by
          by_cases e : i = j
          · rw [e]; exact hz
          · exact HZ.out i (by omega)⟩
        case measure => simp [intOf]; omega
      · have HNZ := Lib.hid hz
        obtain ⟨y, hy⟩ : ∃ y, mx m (rk + j) c = y := ⟨_, rfl⟩
        rw [hy] at hcell hz
        go_wp2
        go_ret
        exact ⟨false, rfl, ⟨fun h => (by cases h), fun h => absurd (h (rk + j) (by omega) (by have := HM.out; omega)) HNZ.out⟩, below_drewN (Below.refl _ _) _⟩
    · obtain rfl : n - rk = j := by omega
      go_wp2
      go_ret
      exact ⟨true, rfl, ⟨fun _ i hi1 hi2 => by
        have := HZ.out (i - rk) (by have := HM.out; omega)
        rwa [show rk + (i - rk) = i by omega] at this, fun _ => rfl⟩, below_drewN (Below.refl _ _) _⟩

end Go.Proofs.YtnjdjcgandfnfaaDoor
