/-
  What list's search does at one choice of cells. Conditions: the field is valid, the cells and the choice read as their values.
-/
import Derived.Test.YtmcgnpdfpfgfpaaGreatDoorPlain
import Derived.Test.YtmcgnpdfpfgfpaaGreatDoorGMem
import Derived.Test.YtmcgnpdfpfgfpaaGreatDoorAgrC
import Derived.Test.YtmcgnpdfpfgfpaaGreatDoorItp
import Derived.Test.YtmcgnpdfpfgfpaaGreatDoorMkRows
import Derived.Deep.RegionLaw
import Derived.Deep.RegionHeld3
import Derived.Deep.RegionLawGrows
namespace Go.Proofs.YtmcgnpdfpfgfpaaGreatDoor
open Go.RowKit
set_option linter.unusedVariables false

theorem wpList_append_rowH {P : Program} {w : World} {ops : Array Oper} {rest : List Oper} {o : Oper} {a : Act} {Q : Exit → Act → World → Prop} (hgd : o.guard = none) (s x : Operand) (t : TypeId)
    (ho : o.op = .call { callee := .builtin .append, args := #[s, x], argTypes := #[t, t] })
    (base lo : Nat) (e : TypeId) (i : TypeInfo) (z : Value) (ht : P.underlying t = some (.slice e)) (hi : P.info? e = some i) (hz : i.zero = some z)
    (hsize : i.size = 1) (hby : i.bytes = 24) (hzs : z.cells.size = 1)
    (A : Option Addr) (n c : Nat) (rows : List (List Int)) (hs : a.eval s = .slice A n c) (hown : OwnM w base lo e A n c rows)
    (g c2 : Nat) (A' : Option Addr) (n' c' : Nat) (row : List Int) (hx : a.eval x = .slice (some ⟨g, 0, none⟩) 1 c2) (hcell : w.cell? ⟨g, 0, none⟩ = some (.slice A' n' c')) (hglt : g < w.heap.size)
    (hn' : n' ≤ 17592186044416) (hI : Ints w w.heap.size A' n' row) (hlo : Lo lo A' n') (hap : 0 < n' → ∀ b off s, A' = some ⟨b, off, s⟩ → (Value.slice A n c).ownBlock ≠ some b)
    (N : Nat) (hN : n + 1 = N) (hcap : N ≤ 1099511627776) (hbase : base ≤ w.heap.size)
    (h : ∀ A2 c2 w', OwnM w' base lo e A2 N c2 (rows ++ [row]) → w.grownBy w' (Value.slice A n c).ownBlock → Below base w w' → ((Value.slice A2 N c2).ownBlock = (Value.slice A n c).ownBlock ∨ (Value.slice A2 N c2).ownBlock = some w.heap.size) → wpList P ops Q rest (a.put o.dst (.slice A2 N c2)) w') : wpList P ops Q (o :: rest) a w := by
  subst hN
  obtain ⟨hl, vs, hv, hr⟩ := hown
  refine wpList_append_any w hgd s x t ho base e i z 1 24 ht hi hz hsize hby hzs (by omega) (.slice A n c) n vs hs hv w.heap.size (some ⟨g, 0, none⟩) 1 c2 [.slice A' n' c'] hx ⟨rfl, fun _ => ⟨_, rfl, hglt, fun j u hj => ?_⟩⟩ (fun u hu => by simp at hu; subst hu; rfl) (by unfold maxLen; omega) (by omega) hbase ?_
  · match j, hj with
    | 0, hj => simp at hj; subst hj; simpa [Addr.add] using hcell
  · intro v' w' hown' hg hat
    have hb : Below base w w' := (Below.refl base w).grown hg hbase (fun k hk => (World.ownsRow.lt hv k hk).1)
    rcases hown'.2 with ⟨_, h0⟩ | ⟨g2, cap, cur, rfl, hrest⟩
    · omega
    · refine h _ cap w' (OwnM.snoc (c' := c') ⟨hl, vs, hv, hr⟩ hn' hI hlo hap (fun us hus => ?_) hg hat) hg hb hat
      have : us = vs := by
        rcases hus.2 with ⟨e1, e2⟩ | ⟨g3, cap3, cur3, e3, _, e4, _, _, _, e5⟩
        · rcases hv.2 with ⟨e6, e7⟩ | ⟨g4, cap4, cur4, e8, _⟩
          · have h1 : us.length = 0 := by have := hus.1; omega
            have h2 : vs.length = 0 := by have := hv.1; omega
            rw [List.eq_nil_of_length_eq_zero h1, List.eq_nil_of_length_eq_zero h2]
          · rw [e1] at e8; cases e8
        · rcases hv.2 with ⟨e6, e7⟩ | ⟨g4, cap4, cur4, e8, _, e9, _, _, _, e10⟩
          · rw [e6] at e3; cases e3
          · rw [e3] at e8
            injection e8 with e11 _ e12
            injection e11 with e11
            injection e11 with e11 _ _
            subst e11
            rw [e4] at e9
            injection e9 with e9
            injection e9 with e9
            rw [← e5, ← e10, e9]
      rw [this]; exact hown'

/-- What stays where one block, and the row that a slice owns, have turned. -/
structure Keep2 (g : Nat) (v : Value) (w w' : World) : Prop where
  os : w'.os = w.os
  tape : w'.tape = w.tape
  output : w'.output = w.output
  size : w.heap.size ≤ w'.heap.size
  block : ∀ b, b < w.heap.size → b ≠ g → v.ownBlock ≠ some b → w'.heap[b]? = w.heap[b]?

/-- The block of a search, and what it has found. -/
structure SrchW (w : World) (g : Nat) (p k agree : Int) (L : Option Addr) (N lc : Nat) (F : Option Addr) (fn fc : Nat) (most : Int) (rows : List (List Int)) : Prop where
  blk : Blk w g 179 #[.int .i64 p, .slice L N lc, .int .i64 k, .int .i64 agree, .slice F fn fc, .int .i64 most]
  own : OwnM w (g + 1) (g + 1) 22 F fn fc rows

section
variable {w w' : World} {g N lc fn fc : Nat} {p k agree most : Int} {L F : Option Addr} {rows : List (List Int)}
end

end Go.Proofs.YtmcgnpdfpfgfpaaGreatDoor
