/-
  What a range over a function keeps: all that lay below a block, but for one block. No conditions.
-/
import Derived.RangeFuncNested
import Derived.RangeFuncBound
import Derived.RangeFuncCalls
import Derived.RangeFuncLeaves
import Derived.RangeFuncBox
import Derived.Test.YtnjdjcgandfnfaaDoorPlain
namespace Go.Proofs.YtnjdjcgandfnfaaDoor
open Go.RowKit
set_option linter.unusedVariables false

/-- What lay below n₁ lies as it lay, but for block gs; nothing is gone. -/
def KeepsB (n₁ gs : Nat) (W W' : World) : Prop := W.heap.size ≤ W'.heap.size ∧ ∀ k, k < n₁ → k ≠ gs → W'.heap[k]? = W.heap[k]?
theorem KeepsB.refl (n₁ gs : Nat) (W : World) : KeepsB n₁ gs W W := ⟨Nat.le_refl _, fun _ _ _ => rfl⟩
theorem KeepsB.trans {n₁ gs : Nat} {A B C : World} (h : KeepsB n₁ gs A B) (k : KeepsB n₁ gs B C) : KeepsB n₁ gs A C := ⟨Nat.le_trans h.1 k.1, fun i h1 h2 => (k.2 i h1 h2).trans (h.2 i h1 h2)⟩
theorem KeepsB.cell {n₁ gs : Nat} {W W' : World} (h : KeepsB n₁ gs W W') {b o : Nat} (h1 : b < n₁) (h2 : b ≠ gs) : W'.cell? ⟨b, o, none⟩ = W.cell? ⟨b, o, none⟩ := World.cell?_of_block (h.2 b h1 h2)
theorem KeepsB.put {n₁ gs : Nat} {w : World} (hn : n₁ ≤ w.heap.size) (W : World) (l : Nat) (o o' : Obj) (hl : w.heap.size ≤ l) (_ : W.heap[l]? = some o) (_ : o.isCells = false) (_ : o.isWalk = false) : KeepsB n₁ gs W (W.putObj l o') :=
  ⟨by simp, fun k hk _ => World.putObj_heap_other (by omega)⟩
theorem KeepsB.alloc {n₁ gs : Nat} {W : World} (hn : n₁ ≤ W.heap.size) (o : Obj) : KeepsB n₁ gs W (W.alloc o) := ⟨by simp, fun k hk _ => Below.heap_alloc W o k (by omega)⟩
theorem ownFrom_keepsB {β : Type} {n₁ gs B : Nat} {W0 : World} (h : n₁ ≤ B) (h0 : n₁ ≤ W0.heap.size) : OwnFrom B (fun (_ : β) W => KeepsB n₁ gs W0 W) :=
  fun _ A C row hs hg hr => hs.trans ⟨hg.size, fun k hk _ => hg.block k (by have := hs.1; omega) (fun e => by have := (hr k e.symm).1; omega)⟩
theorem KeepsB.blk {n₁ gs : Nat} {W W' : World} (h : KeepsB n₁ gs W W') {b : Nat} {t : TypeId} {cs : Array Value} (h1 : b < n₁) (h2 : b ≠ gs) (hb : Blk W b t cs) : Blk W' b t cs := (h.2 b h1 h2).trans hb
theorem KeepsB.grown {n₁ gs : Nat} {W W' : World} (hg : W.grownBy W' (some gs)) (hn : n₁ ≤ W.heap.size) : KeepsB n₁ gs W W' := ⟨hg.size, fun k hk hne => hg.block k (by omega) (fun e => hne (by injection e))⟩
end Go.Proofs.YtnjdjcgandfnfaaDoor
