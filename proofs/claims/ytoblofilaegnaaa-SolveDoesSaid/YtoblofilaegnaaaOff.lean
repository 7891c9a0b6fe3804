/-
  Words for memory: lists and rows that do not lie in one named block (the deck's), and so stay while only that block changes; no program in sight. No conditions.
-/
import Derived.Test.YtoblofilaegnaaaOwnM
namespace Go.Proofs.Ytoblofilaegnaaa
open Go.RowKit
set_option linter.unusedVariables false

/-- The list lies in some other block than g. -/
def IntsO (g : Nat) (w : World) (A : Option Addr) (n : Nat) (xs : List Int) : Prop := Ints w w.heap.size A n xs ∧ (0 < n → ∀ b off s, A = some ⟨b, off, s⟩ → b ≠ g)

section
variable {g : Nat} {w w' : World} {n : Nat} {A : Option Addr} {xs : List Int} {rows : List (List Int)}
theorem IntsO.ints (h : IntsO g w A n xs) : Ints w w.heap.size A n xs := h.1
theorem IntsO.len (h : IntsO g w A n xs) : xs.length = n := h.1.len
theorem IntsO.nil_ : IntsO g w A 0 [] := ⟨Ints.nil_, fun h => absurd h (by omega)⟩
theorem IntsO.step (h : IntsO g w A n xs) (hs : Step g w w') : IntsO g w' A n xs :=
  ⟨h.1.keepBlk (World.grownBy.size hs) (fun h0 b off s e hb => World.grownBy.block hs b hb (fun e2 => h.2 h0 b off s e (by injection e2))), h.2⟩
theorem IntsO.below (h : IntsO g w A n xs) (hb : Below w.heap.size w w') : IntsO g w' A n xs := h.step (Step.of_below hb)
theorem IntsO.of_raw {w0 : World} (h : Ints w0 w0.heap.size A n xs) (hb : Below w0.heap.size w0 w) (hg : w0.heap.size ≤ g) : IntsO g w A n xs :=
  ⟨h.upto hb, fun h0 b off s e => by subst e; have := h.lt h0; omega⟩
theorem IntsO.of_own {base c : Nat} {e : TypeId} (h : OwnI w base e A n c xs) (hg : g < base) : IntsO g w A n xs :=
  ⟨h.ints, fun h0 b off s e => by subst e; have := h.row b rfl; omega⟩
theorem IntsO.of_ne (h : Ints w w.heap.size A n xs) (hb : ∀ b off s, A = some ⟨b, off, s⟩ → b ≠ g) : IntsO g w A n xs := ⟨h, fun _ => hb⟩

/-- The rows lie in other blocks than g. -/
def MatO (g : Nat) (w : World) (A : Option Addr) (n : Nat) (rows : List (List Int)) : Prop :=
  rows.length = n ∧ (0 < n → ∃ b off, A = some ⟨b, off, none⟩ ∧ b < w.heap.size ∧ b ≠ g ∧ ∀ j, j < n → ∃ A' n' c', w.cell? ⟨b, off + j, none⟩ = some (.slice A' n' c') ∧ n' ≤ 17592186044416 ∧ IntsO g w A' n' (rows.getD j []))
theorem MatO.len (h : MatO g w A n rows) : rows.length = n := h.1
theorem MatO.nil_ : MatO g w A 0 [] := ⟨rfl, fun h => absurd h (by omega)⟩
theorem MatO.mat (h : MatO g w A n rows) : Mat w 0 w.heap.size A n rows :=
  ⟨h.1, fun hn => by
    obtain ⟨b, off, e, hb, _, hc⟩ := h.2 hn
    refine ⟨b, off, e, Nat.zero_le _, hb, fun j hj => ?_⟩
    obtain ⟨A', n', c', h1, h2, h3⟩ := hc j hj
    exact ⟨A', n', c', h1, h2, h3.1, fun _ _ _ _ _ => Nat.zero_le _⟩⟩
theorem MatO.step (h : MatO g w A n rows) (hs : Step g w w') : MatO g w' A n rows :=
  ⟨h.1, fun hn => by
    obtain ⟨b, off, e, hb, hbg, hc⟩ := h.2 hn
    refine ⟨b, off, e, by have := World.grownBy.size hs; omega, hbg, fun j hj => ?_⟩
    obtain ⟨A', n', c', h1, h2, h3⟩ := hc j hj
    exact ⟨A', n', c', (World.cell?_of_block (World.grownBy.block hs b hb (fun e2 => hbg (by injection e2)))).trans h1, h2, h3.step hs⟩⟩
theorem MatO.below (h : MatO g w A n rows) (hb : Below w.heap.size w w') : MatO g w' A n rows := h.step (Step.of_below hb)
theorem MatO.of_raw {w0 : World} {lo : Nat} (h : Mat w0 lo w0.heap.size A n rows) (hb : Below w0.heap.size w0 w) (hg : w0.heap.size ≤ g) : MatO g w A n rows := by
  refine ⟨h.1, fun hn => ?_⟩
  obtain ⟨b, off, e, _, hlt, hc⟩ := h.2 hn
  refine ⟨b, off, e, by have := hb.size; omega, by omega, fun j hj => ?_⟩
  obtain ⟨A', n', c', h1, h2, h3, _⟩ := hc j hj
  exact ⟨A', n', c', (hb.cell (p := ⟨b, off + j, none⟩) hlt).trans h1, h2, IntsO.of_raw h3 hb hg⟩
theorem MatO.of_mat {lo : Nat} (h : Mat w lo w.heap.size A n rows) (hg : g < lo) : MatO g w A n rows := by
  refine ⟨h.1, fun hn => ?_⟩
  obtain ⟨b, off, e, hl, hlt, hc⟩ := h.2 hn
  refine ⟨b, off, e, hlt, by omega, fun j hj => ?_⟩
  obtain ⟨A', n', c', h1, h2, h3, h4⟩ := hc j hj
  exact ⟨A', n', c', h1, h2, h3, fun h0 b off s e => by have := h4 h0 b off s e; omega⟩
end

theorem Step.cell {g : Nat} {w w' : World} (hs : Step g w w') {p : Addr} {v : Value} (hlt : p.block < w.heap.size) (hg : p.block ≠ g) (h : w.cell? p = some v) : w'.cell? p = some v :=
  (World.cell?_of_block (World.grownBy.block hs p.block hlt (fun e => hg (by injection e)))).trans h
theorem Step.at_ {g : Nat} {w w' : World} (hs : Step g w w') {b o : Nat} {v : Value} (hlt : b < w.heap.size) (hg : b ≠ g) (h : w.cell? ⟨b, o, none⟩ = some v) : w'.cell? ⟨b, o, none⟩ = some v := hs.cell (p := ⟨b, o, none⟩) hlt hg h
theorem Step.far {g : Nat} {w w' w'' : World} (hs : Step g w w') (hb : Below w'.heap.size w' w'') : Step g w w'' := hs.trans (Step.of_below hb)
theorem IntsO.drewN {g n : Nat} {w : World} {A : Option Addr} {xs : List Int} (h : IntsO g w A n xs) (k : Nat) : IntsO g (w.drewN k) A n xs := h
theorem MatO.drewN {g n : Nat} {w : World} {A : Option Addr} {rows : List (List Int)} (h : MatO g w A n rows) (k : Nat) : MatO g (w.drewN k) A n rows := h
theorem IntsO.alloc {g n : Nat} {w : World} {A : Option Addr} {xs : List Int} (h : IntsO g w A n xs) (o : Obj) : IntsO g (w.alloc o) A n xs := h.below (bbox o)
theorem MatO.alloc {g n : Nat} {w : World} {A : Option Addr} {rows : List (List Int)} (h : MatO g w A n rows) (o : Obj) : MatO g (w.alloc o) A n rows := h.below (bbox o)
theorem Step.size_le {g : Nat} {w w' : World} (hs : Step g w w') : w.heap.size ≤ w'.heap.size := World.grownBy.size hs
end Go.Proofs.Ytoblofilaegnaaa
