/-
  What the maker's Big hands back. Conditions: the bound lies below the greatest prime of the list.
-/
import Derived.Test.YteipcjmkhacdgaaDoorDeck
import Derived.Test.YteipcjmkhacdgaaDoorOrder
namespace Go.Proofs.YteipcjmkhacdgaaDoor
open Go.RowKit
set_option linter.unusedVariables false

theorem known_sorted (i j : Nat) (hij : i ≤ j) (hj : j < 9) : knownL.getD i 0 ≤ knownL.getD j 0 := by
  have h : ∀ a : Fin 9, ∀ b : Fin 9, a.1 ≤ b.1 → knownL.getD a.1 0 ≤ knownL.getD b.1 0 := by decide
  exact h ⟨i, by omega⟩ ⟨j, hj⟩ hij

def BigPost (g : Nat) (A : Option Addr) (n c : Nat) (xs : List Int) (least : Int) (w : World) (e : Ending) (w' : World) : Prop :=
  ∃ (p : Int) (q' : Nat), e = .returned (.agg #[.int .i64 p]) ∧ isKnown p ∧ least < p ∧ Deck w' g A n c xs q' ∧ Step g w w'

set_option maxRecDepth 100000 in
set_option maxHeartbeats 800000 in
theorem big_any (g : Nat) (A : Option Addr) (n c : Nat) (xs : List Int) (q : Nat) (least : Int) (w : World) (h : Deck w g A n c xs q) (hl : 0 ≤ least ∧ least ≤ 60000) :
    Calls Tryd.prog 12 #[.pointer (some ⟨g, 0, none⟩), .int .i64 least] w (BigPost g A n c xs least w) := by
  have hg := h.1.lt
  have hR0 := Blk.new w 24 #[.int .i64 0]
  have hL0 := Blk.new (w.alloc (.cells #[.int .i64 0] 24)) 3 #[Value.int .i64 2, .int .i64 3, .int .i64 5, .int .i64 7, .int .i64 11, .int .i64 13, .int .i64 17, .int .i64 257, .int .i64 65521]
  rw [World.size_alloc] at hL0
  go_enter Tryd.func12, Tryd.ntmps12
  go_wp2
  go_loop [5] (fun v => ∃ i m : Nat, i + m = 9 ∧ 1 ≤ m ∧ v = .slice (some ⟨w.heap.size + 1, i, none⟩) m m) (fun v => sliceLen v)
  case atStart => exact ⟨0, 9, rfl, by omega, rfl⟩
  case round =>
    obtain ⟨i, m, him, hm, rfl⟩ := hrel
    have hcl := (hL0.cell i).trans (known_cell (j := i) (by omega))
    obtain ⟨v, HV⟩ : ∃ v, Hid (knownL.getD i 0 = v) := ⟨_, Lib.hid rfl⟩
    rw [HV.out] at hcl
    by_cases hv : v ≤ least
    · have hi8 : i < 8 := by
        rcases Nat.lt_or_ge i 8 with h1 | h1
        · exact h1
        · exfalso
          obtain rfl : i = 8 := by omega
          have : (65521 : Int) = v := HV.out
          omega
      obtain ⟨m1, hm1⟩ : ∃ m1 : Nat, (m : Int) - 1 = m1 := ⟨m - 1, by omega⟩
      have hmm : (1 : Int) ≤ (m : Int) := by omega
      have hmm2 : (1 : Int) < (m : Int) := by omega
      go_wp2
      go_round
      case rel => exact ⟨i + 1, m - 1, by omega, by omega, rfl⟩
      case measure => simp [sliceLen]; omega
    · have hvl : least < v := by omega
      go_wp2_with (go_at_call 13; refine (next_any g A n c xs q m _ ((h.alloc _).alloc _) (by omega)).mono ?_; rintro e w1 ⟨r, q', rfl, hr, hr0, hD, hS, hz⟩
                   obtain ⟨j, rfl⟩ : ∃ j : Nat, r = j := ⟨r.toNat, by have := hr (by omega); omega⟩
                   have hj : j < m := by have := hr (by omega); omega
                   have hcl1 := ((Step.block hS hL0 (by omega)).cell (i + j)).trans (known_cell (j := i + j) (by omega))
                   have hbf := Step.block hS (hR0.alloc _) (by omega)
                   have hcf : w1.cell? ⟨w.heap.size, 0, none⟩ = some (.int .i64 0) := (hbf.cell 0).trans rfl
                   have hff := hbf.frozen 0
                   obtain ⟨p0, hp0, HK⟩ : ∃ p0, knownL.getD (i + j) 0 = p0 ∧ Hid (isKnown p0 ∧ least < p0) := ⟨_, rfl, Lib.hid ⟨known_of (by omega), by have := known_sorted i (i + j) (by omega) (by omega); rw [HV.out] at this; omega⟩⟩
                   rw [hp0] at hcl1
                   have hj0 : (0 : Int) ≤ (j : Int) := by omega
                   have hjm : (j : Int) < (m : Int) := by omega
                   have hfin : (w1.setCell ⟨w.heap.size, 0, none⟩ (.int .i64 p0)).cell? ⟨w.heap.size, 0, none⟩ = some (.int .i64 p0) := World.cell?_setCell_same' _ _ _ (by rw [hcf]; rfl)
                   clear hr hr0 hz hp0)
      refine bodyPost_ret (v := .agg #[.int .i64 p0]) (by simp [results, Tryd.results12, go_sem, hfin]) rfl ⟨_, q', rfl, HK.out.1, HK.out.2, hD.setCell hg _, ?_⟩
      exact Step.setNew (((Step.of_below (bbox _)).alloc _).trans hS) (Nat.le_refl _) _
end Go.Proofs.YteipcjmkhacdgaaDoor
