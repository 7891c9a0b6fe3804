/-
  Words for memory: a slice of slices that reads as rows; no program in sight. No conditions.
-/
import Derived.Test.YtnjdjcgandfnfaaDoorOrder
namespace Go.Proofs.YtnjdjcgandfnfaaDoor
open Go.RowKit
set_option linter.unusedVariables false

/-- The slice's block is not below lo. -/
def Lo (lo : Nat) (A : Option Addr) (n : Nat) : Prop := 0 < n → ∀ b off s, A = some ⟨b, off, s⟩ → lo ≤ b

/-- The slice of slices reads as these rows; all of it lies from block lo on, and below block B. -/
def Mat (w : World) (lo B : Nat) (A : Option Addr) (n : Nat) (rows : List (List Int)) : Prop :=
  rows.length = n ∧ (0 < n → ∃ b off, A = some ⟨b, off, none⟩ ∧ lo ≤ b ∧ b < B ∧ ∀ j, j < n → ∃ A' n' c', w.cell? ⟨b, off + j, none⟩ = some (.slice A' n' c') ∧ n' ≤ 17592186044416 ∧ Ints w B A' n' (rows.getD j []) ∧ Lo lo A' n')

section
variable {w w' : World} {lo B B' n : Nat} {A : Option Addr} {rows : List (List Int)}
theorem Mat.nil_ : Mat w lo B A 0 [] := ⟨rfl, fun h => absurd h (by omega)⟩
theorem Mat.len (h : Mat w lo B A n rows) : rows.length = n := h.1
theorem Mat.keep (h : Mat w lo B A n rows) (hk : ∀ p : Addr, lo ≤ p.block → p.block < B → w'.cell? p = w.cell? p) : Mat w' lo B A n rows :=
  ⟨h.1, fun hn => by
    obtain ⟨b, off, e, hl, hb, hc⟩ := h.2 hn
    refine ⟨b, off, e, hl, hb, fun j hj => ?_⟩
    obtain ⟨A', n', c', h1, h2, h3, h4⟩ := hc j hj
    refine ⟨A', n', c', (hk _ hl hb).trans h1, h2, ⟨h3.1, fun h0 => ?_⟩, h4⟩
    obtain ⟨b2, o2, e2, hb2, hc2⟩ := h3.2 h0
    exact ⟨b2, o2, e2, hb2, fun i hi => (hk _ (h4 h0 b2 o2 _ e2) hb2).trans (hc2 i hi)⟩⟩
theorem Mat.more (h : Mat w lo B A n rows) (hB : B ≤ B') : Mat w lo B' A n rows :=
  ⟨h.1, fun hn => by
    obtain ⟨b, off, e, hl, hb, hc⟩ := h.2 hn
    refine ⟨b, off, e, hl, by omega, fun j hj => ?_⟩
    obtain ⟨A', n', c', h1, h2, h3, h4⟩ := hc j hj
    exact ⟨A', n', c', h1, h2, h3.more hB, h4⟩⟩
theorem Mat.below (h : Mat w lo B A n rows) (hb : Below B w w') : Mat w' lo B A n rows := h.keep fun _ _ hp => hb.cell hp
theorem Mat.upto (h : Mat w lo w.heap.size A n rows) (hb : Below w.heap.size w w') : Mat w' lo w'.heap.size A n rows := (h.below hb).more hb.size
theorem Mat.low {lo' : Nat} (h : Mat w lo B A n rows) (hl : lo' ≤ lo) : Mat w lo' B A n rows :=
  ⟨h.1, fun hn => by
    obtain ⟨b, off, e, h0, hb, hc⟩ := h.2 hn
    refine ⟨b, off, e, by omega, hb, fun j hj => ?_⟩
    obtain ⟨A', n', c', h1, h2, h3, h4⟩ := hc j hj
    exact ⟨A', n', c', h1, h2, h3, fun hp b o s e => by have := h4 hp b o s e; omega⟩⟩
theorem Mat.at_ (h : Mat w lo B A n rows) {j : Nat} (hj : j < n) : ∃ b off A' n' c', A = some ⟨b, off, none⟩ ∧ lo ≤ b ∧ b < B ∧ w.cell? ⟨b, off + j, none⟩ = some (.slice A' n' c') ∧ n' ≤ 17592186044416 ∧ Ints w B A' n' (rows.getD j []) ∧ Lo lo A' n' := by
  obtain ⟨b, off, e, hl, hb, hc⟩ := h.2 (by omega)
  obtain ⟨A', n', c', h1, h2, h3, h4⟩ := hc j hj
  exact ⟨b, off, A', n', c', e, hl, hb, h1, h2, h3, h4⟩
end

theorem Mat.step {g lo n : Nat} {w w' : World} {A : Option Addr} {rows : List (List Int)} (h : Mat w lo w.heap.size A n rows) (hs : Step g w w') (hg : g < lo) : Mat w' lo w'.heap.size A n rows :=
  (h.keep fun p hl hb => World.cell?_of_block (World.grownBy.block hs p.block hb (fun e => by injection e; omega))).more (World.grownBy.size hs)

/-- A slice of one row. -/
theorem Mat.one (w : World) (A : Option Addr) (n c : Nat) (xs : List Int) (t : TypeId) (g : Nat) (hg : g = w.heap.size) (h : Ints w w.heap.size A n xs) (hn : n ≤ 17592186044416) :
    Mat (w.alloc (.cells #[.slice A n c] t)) 0 (w.alloc (.cells #[.slice A n c] t)).heap.size (some ⟨g, 0, none⟩) 1 [xs] := by
  subst hg
  refine ⟨rfl, fun _ => ⟨_, _, rfl, Nat.zero_le _, by simp, fun j hj => ?_⟩⟩
  obtain rfl : j = 0 := by omega
  refine ⟨A, n, c, ?_, hn, h.upto (bbox _), fun _ _ _ _ _ => Nat.zero_le _⟩
  rw [World.cell?_alloc_at _ _ _ _ rfl]; rfl
end Go.Proofs.YtnjdjcgandfnfaaDoor
