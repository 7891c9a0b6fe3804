/-
  What stays where only a deck and one row of the call's own are written: words for memory. No conditions.
-/
import Derived.Test.YteipcjmkhacdgaaDoorUDecode
import Derived.Test.YteipcjmkhacdgaaDoorUCel
namespace Go.Proofs.YteipcjmkhacdgaaDoor
open Go.RowKit
set_option linter.unusedVariables false

theorem ErrW.step {g : Nat} {w w' : World} (h : ErrW w) (hs : Step g w w') (hg : 0 < g) : ErrW w' :=
  ⟨(World.cell?_of_block (World.grownBy.block hs 0 h.2 (fun e => by injection e with e; omega))).trans h.1, Nat.lt_of_lt_of_le h.2 (World.grownBy.size hs)⟩

/-- Only the blocks g and m, and what is new, have turned. -/
def KP (g m : Nat) (a b : World) : Prop := a.heap.size ≤ b.heap.size ∧ ∀ k, k < a.heap.size → k ≠ g → k ≠ m → b.heap[k]? = a.heap[k]?
section
variable {g m : Nat} {a b c : World}
theorem KP.refl (g m : Nat) (a : World) : KP g m a a := ⟨Nat.le_refl _, fun _ _ _ _ => rfl⟩
theorem KP.trans (h : KP g m a b) (k : KP g m b c) : KP g m a c := ⟨Nat.le_trans h.1 k.1, fun i hi h1 h2 => (k.2 i (Nat.lt_of_lt_of_le hi h.1) h1 h2).trans (h.2 i hi h1 h2)⟩
theorem KP.step (h : KP g m a b) (k : Step g b c) : KP g m a c := h.trans ⟨World.grownBy.size k, fun i hi h1 _ => World.grownBy.block k i hi (fun e => h1 (by injection e))⟩
theorem KP.below (h : KP g m a b) (k : Below b.heap.size b c) : KP g m a c := h.trans ⟨k.size, fun i hi _ _ => k.block i hi⟩
theorem KP.belowA (h : KP g m a b) (k : Below a.heap.size b c) : KP g m a c := ⟨Nat.le_trans h.1 k.size, fun i hi h1 h2 => (k.block i hi).trans (h.2 i hi h1 h2)⟩
theorem KP.alloc (h : KP g m a b) (o : Obj) : KP g m a (b.alloc o) := h.below (bbox o)
theorem KP.drew (h : KP g m a b) : KP g m a b.drew := h
theorem KP.drewN (h : KP g m a b) (n : Nat) : KP g m a (b.drewN n) := h
theorem KP.set (h : KP g m a b) (i : Nat) (v : Value) : KP g m a (b.setCell ⟨m, i, none⟩ v) := ⟨by simpa [World.setCell] using h.1, fun k hk h1 h2 => (Below.heap_setCell b ⟨m, i, none⟩ v k h2).trans (h.2 k hk h1 h2)⟩
theorem KP.cell (h : KP g m a b) {p : Addr} (hp : p.block < a.heap.size) (h1 : p.block ≠ g) (h2 : p.block ≠ m) : b.cell? p = a.cell? p := World.cell?_of_block (h.2 _ hp h1 h2)
theorem KP.blk (h : KP g m a b) {k : Nat} {t : TypeId} {cs : Array Value} (hb : Blk a k t cs) (h1 : k ≠ g) (h2 : k ≠ m) : Blk b k t cs := (h.2 k hb.lt h1 h2).trans hb
theorem KP.errW (h : KP g m a b) (hE : ErrW a) (h1 : 0 < g) (h2 : 0 < m) : ErrW b := ⟨(h.cell (p := ⟨0, 0, none⟩) hE.2 (by show 0 ≠ g; omega) (by show 0 ≠ m; omega)).trans hE.1, Nat.lt_of_lt_of_le hE.2 h.1⟩
end
/-- A list that lies neither in block g nor in block m. -/
def IntsA (g m : Nat) (w : World) (A : Option Addr) (n : Nat) (xs : List Int) : Prop :=
  xs.length = n ∧ (0 < n → ∃ b off, A = some ⟨b, off, none⟩ ∧ b < w.heap.size ∧ b ≠ g ∧ b ≠ m ∧ ∀ j, j < n → w.cell? ⟨b, off + j, none⟩ = some (.int .i64 (xs.getD j 0)))
section
variable {g m : Nat} {a b : World} {A : Option Addr} {n : Nat} {xs : List Int}
theorem IntsA.kp (h : IntsA g m a A n xs) (k : KP g m a b) : IntsA g m b A n xs := ⟨h.1, fun h0 => by
  obtain ⟨c, off, e, h1, h2, h3, h4⟩ := h.2 h0
  exact ⟨c, off, e, Nat.lt_of_lt_of_le h1 k.1, h2, h3, fun j hj => (k.cell (p := ⟨c, off + j, none⟩) h1 h2 h3).trans (h4 j hj)⟩⟩
theorem IntsA.ints (h : IntsA g m a A n xs) : Ints a a.heap.size A n xs := ⟨h.1, fun h0 => by
  obtain ⟨c, off, e, h1, _, _, h4⟩ := h.2 h0
  exact ⟨c, off, e, h1, h4⟩⟩
theorem IntsA.of {B : Nat} (h : Ints a B A n xs) (hB : B ≤ a.heap.size) (hl : ∀ b o s, A = some ⟨b, o, s⟩ → 0 < n → b < B → b ≠ g ∧ b ≠ m) : IntsA g m a A n xs := ⟨h.1, fun h0 => by
  obtain ⟨c, off, e, h1, h4⟩ := h.2 h0
  obtain ⟨h2, h3⟩ := hl c off none e h0 h1
  exact ⟨c, off, e, Nat.lt_of_lt_of_le h1 hB, h2, h3, h4⟩⟩
end
theorem OwnI.frs {w : World} {base n c : Nat} {e : TypeId} {A : Option Addr} {xs : List Int} (h : OwnI w base e A n c xs) : Frs base A n := fun b o s he h0 => by
  obtain ⟨g, e2, h1, _⟩ := h.form h0
  rw [e2] at he
  injection he with he
  injection he with he
  omega
end Go.Proofs.YteipcjmkhacdgaaDoor
