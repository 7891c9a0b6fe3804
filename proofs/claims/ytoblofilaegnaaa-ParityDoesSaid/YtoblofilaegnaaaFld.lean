/-
  What the maker's Field hands back. No conditions.
-/
import Derived.Test.YtoblofilaegnaaaDeck
namespace Go.Proofs.Ytoblofilaegnaaa
open Go.RowKit
set_option linter.unusedVariables false

/-- What Field leaves. -/
def FieldPost (g : Nat) (A : Option Addr) (n c : Nat) (xs : List Int) (w : World) (e : Ending) (w' : World) : Prop :=
  ∃ (p : Int) (q' : Nat), e = .returned (.agg #[.int .i64 p]) ∧ isKnown p ∧ Deck w' g A n c xs q' ∧ Step g w w'

theorem field_any (g : Nat) (A : Option Addr) (n c : Nat) (xs : List Int) (q : Nat) (w : World) (h : Deck w g A n c xs q) :
    Calls Try.prog 19 #[.pointer (some ⟨g, 0, none⟩)] w (FieldPost g A n c xs w) := by
  have hg := h.1.lt
  go_enter Try.func19, Try.ntmps19
  go_wp2_with (go_at_call 20; refine (next_any g A n c xs q 9 _ ((h.alloc _).alloc _) (by omega)).mono ?_; rintro e w1 ⟨r, q', rfl, hr, hr0, hD, hS, hz⟩
               obtain ⟨j, rfl⟩ : ∃ j : Nat, r = j := ⟨r.toNat, by have := hr (by omega); omega⟩
               have hj : j < 9 := by have := hr (by omega); omega
               have hcl := ((Step.block hS (Blk.new _ _ _) (by simp; omega)).cell j).trans (known_cell hj)
               have hbf := Step.block hS ((Blk.new w _ _).alloc _) (by omega)
               have hcf := hbf.cell 0
               have hff := hbf.frozen 0
               have hsz : w1.heap.size = w.heap.size + 2 := by rw [hz]; simp
               simp only [World.size_alloc] at hcl
               obtain ⟨p0, hp0, HK⟩ : ∃ p0, knownL.getD j 0 = p0 ∧ Hid (isKnown p0) := ⟨_, rfl, Lib.hid (known_of hj)⟩
               rw [hp0] at hcl
               have hfin : (w1.setCell ⟨w.heap.size, 0, none⟩ (.int .i64 p0)).cell? ⟨w.heap.size, 0, none⟩ = some (.int .i64 p0) := World.cell?_setCell_same' _ _ _ (by rw [hcf]; rfl)
               clear hr hr0 hz hp0)
  refine bodyPost_ret (v := .agg #[.int .i64 p0]) (by simp [results, Try.results19, go_sem, hfin]) rfl ⟨_, q', rfl, HK.out, hD.setCell hg _, ?_⟩
  exact Step.setNew (((Step.of_below (bbox _)).alloc _).trans hS) (Nat.le_refl _) _
end Go.Proofs.Ytoblofilaegnaaa
