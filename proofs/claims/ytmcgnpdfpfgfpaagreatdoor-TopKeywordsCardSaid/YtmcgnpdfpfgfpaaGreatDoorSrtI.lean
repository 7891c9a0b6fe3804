/-
  The kit's contracts of slices.Sort and slices.Compact for numbers, laid at this program, for a row that the call itself made. Conditions: the row is not too long.
-/
import Derived.Test.YtmcgnpdfpfgfpaaGreatDoorGBas
import Derived.Test.YtmcgnpdfpfgfpaaGreatDoorLay1
import Derived.Shelf.Sort.Plain
import Derived.Shelf.Slices.In.SortNone
import Derived.Shelf.Slices.CompactI
import Derived.Sort.OwnSortedInts
namespace Go.Proofs.YtmcgnpdfpfgfpaaGreatDoor
open Go.RowKit Go.Sort
set_option linter.unusedVariables false

theorem sortI_ok (base n c : Nat) (A : Option Addr) (xs : List Int) (w : World) (h : OwnI w base 3 A n c xs) (hn : n ≤ 1000000000000) :
    Calls Tryz.prog 103 #[.slice A n c] w fun e w' => e = .returned (.tuple #[]) ∧ ∃ ys, OwnI w' base 3 A n c ys ∧ w.grownBy w' (Value.slice A n c).ownBlock := by
  have hl := h.len
  rcases h.2 with ⟨hv, hn0⟩ | ⟨g, cap, cur, hv, hb, hg, h1, h2, h3, h4⟩
  · injection hv with e1 e2 e3
    subst e1 e2 e3
    refine (Any.slices_Sort_int_none Tryz.slSort none 0 w).mono ?_
    rintro e w' ⟨rfl, rfl⟩
    exact ⟨rfl, [], OwnI.nil_, World.grownBy.refl _ _⟩
  · injection hv with e1 e2 e3
    subst e1 e3 hl
    have hH : Holds (Value.int .i64) w g 0 xs.toArray := Go.holds_of_blockI hg (by simpa [vals] using h4)
    refine (Any.slices_Sort_int Tryz.slSort g 0 c xs w hH (Array.getElem?_eq_some_iff.1 hg).1 (by omega)).mono ?_
    rintro e w' ⟨rfl, q, os, rfl⟩
    refine ⟨rfl, xs.mergeSort fun x y => decide (x ≤ y), ?_, Go.grownBy_sortedI _⟩
    exact Go.ownsRow_sortedI (by simp) hb hg h1 h2 h3

theorem compact_le (zs : List Int) : (Lib.compact zs).length ≤ zs.length := by
  unfold Lib.compact Lib.compactUpTo
  rw [List.length_map]
  exact Nat.le_trans (List.length_filter_le _ _) (by simp)

theorem compactI_ok (base n c : Nat) (A : Option Addr) (xs : List Int) (w : World) (h : OwnI w base 3 A n c xs) (hn : n ≤ 1000000000000) :
    Calls Tryz.prog 104 #[.slice A n c] w fun e w' => ∃ (m : Nat) (ys : List Int), e = .returned (.slice A m c) ∧ m ≤ n ∧ Ints w' w'.heap.size A m ys ∧ w.grownBy w' (Value.slice A n c).ownBlock := by
  have hl := h.len
  rcases h.2 with ⟨hv, hn0⟩ | ⟨g, cap, cur, hv, hb, hg, h1, h2, h3, h4⟩
  · injection hv with e1 e2 e3
    subst e1 e2 e3
    refine (Any.slices_Compact_int_empty Tryz.slCompact none 0 w).mono ?_
    rintro e w' ⟨rfl, rfl⟩
    exact ⟨0, [], rfl, Nat.le_refl _, Ints.nil_, World.grownBy.refl _ _⟩
  · injection hv with e1 e2 e3
    subst e1 e3 hl
    have hH : Holds (Value.int .i64) w g 0 xs.toArray := Go.holds_of_blockI hg (by simpa [vals] using h4)
    refine (Any.slices_Compact_int Tryz.slCompact g 0 c xs w hH (by omega) (by omega)).mono ?_
    rintro e w' ⟨rfl, q, rfl⟩
    have hle := compact_le xs
    have hg2 := Go.grownBy_sortedI (w := w) (g := g) (n := q) (os := #[]) (Lib.compact xs ++ List.replicate (xs.length - (Lib.compact xs).length) 0).toArray
    have ho := Go.ownsRow_sortedI (n := q) (os := #[]) (ts := Lib.compact xs ++ List.replicate (xs.length - (Lib.compact xs).length) 0) (ss := xs) (by simp; omega) hb hg h1 h2 h3
    rw [grow_empty] at hg2 ho
    have hO : OwnI _ base 3 (some ⟨g, 0, none⟩) xs.length c _ := ho
    exact ⟨(Lib.compact xs).length, _, rfl, hle, hO.ints.take_ _ hle, hg2⟩
end Go.Proofs.YtmcgnpdfpfgfpaaGreatDoor
