/-
  What solve's Check hands back for valid equations. Conditions: the lists read as their numbers.
-/
import Derived.Test.YtnjdjcgandfnfaaDoorReduce
import Derived.Test.YtnjdjcgandfnfaaDoorRes
import Derived.Outline
namespace Go.Proofs.YtnjdjcgandfnfaaDoor
open Go.RowKit
set_option linter.unusedVariables false

set_option maxRecDepth 100000 in
theorem scheck_ok (p : Int) (r c nc : Nat) (C : Option Addr) (cc : Nat) (D : Option Addr) (cd : Nat) (cells right : List Int) (w : World) (h : EqOk p r c cells right) (hnc : Hid (r * c = nc)) (hC : Ints w w.heap.size C nc cells) (hD : Ints w w.heap.size D r right) :
    Calls Tryd.prog 74 #[eqV p r c C nc cc D r cd] w fun e w' => e = .returned (.int .i64 0) ∧ Below w.heap.size w w' := by
  have HO := Lib.hid h.ok
  have HA := Lib.hid h.ac
  have HR := Lib.hid h.ar
  have h1 : ¬ (r : Int) < 0 := by omega
  have h2 : ¬ (32 : Int) < (r : Int) := by have := h.r32; omega
  have h3 : ¬ (c : Int) < 0 := by omega
  have h4 : ¬ (32 : Int) < (c : Int) := by have := h.c32; omega
  have hle : r * c ≤ 32 * 32 := Nat.mul_le_mul h.r32 h.c32
  have hnc2 : nc ≤ 1024 := by rw [hnc.out] at hle; exact hle
  have hr32 := h.r32
  have hprod : (r : Int) * (c : Int) = (nc : Int) := by rw [← Int.natCast_mul, hnc.out]
  have hB := Blk.new w 46 (eqC p r c C nc cc D r cd)
  have hb0 : Below w.heap.size w (w.alloc (.cells (eqC p r c C nc cc D r cd) 46)) := bbox _
  clear h hle
  go_enter Tryd.func74, Tryd.ntmps74
  go_wp2_with (first
    | (go_at_call 80; refine (of_yes p _ HO.out).mono ?_; rintro e w1 ⟨rfl, hb1⟩
       have hbb1 := bnext hb0 hb1
       have hB1 := hB.below hb1 hB.lt
       have hc1 : w1.cell? ⟨w.heap.size, 1, none⟩ = some (.int .i64 r) := (hB1.cell 1).trans rfl
       have hc2 : w1.cell? ⟨w.heap.size, 2, none⟩ = some (.int .i64 c) := (hB1.cell 2).trans rfl
       have hc3 : w1.cell? ⟨w.heap.size, 3, none⟩ = some (.slice C nc cc) := (hB1.cell 3).trans rfl
       have hc4 : w1.cell? ⟨w.heap.size, 4, none⟩ = some (.slice D r cd) := (hB1.cell 4).trans rfl
       clear hb1)
    | (go_at_call 84; (with_reducible refine (all_any p C nc cc cells w1 (hC.upto hbb1) (by omega)).mono ?_); rintro e w2 ⟨rfl, hb2⟩; rw [HA.out]
       have hbb2 := bnext hbb1 hb2
       have hB2 := hB1.below hb2 hB1.lt
       have hc5 : w2.cell? ⟨w.heap.size, 4, none⟩ = some (.slice D r cd) := (hB2.cell 4).trans rfl
       clear hb2)
    | (go_at_call 84; (with_reducible refine (all_any p D r cd right w2 (hD.upto hbb2) (by omega)).mono ?_); rintro e w3 ⟨rfl, hb3⟩; rw [HR.out]
       have hbb3 := bnext hbb2 hb3
       clear hb3))
  go_ret
  exact ⟨rfl, hbb3⟩

/-- Valid equations as a value, and the lists that it leads to. -/
structure EqW (w : World) (p : Int) (r c nc : Nat) (C : Option Addr) (cc : Nat) (D : Option Addr) (cd : Nat) (cells right : List Int) : Prop where
  ok : EqOk p r c cells right
  ln : r * c = nc
  hC : Ints w w.heap.size C nc cells
  hD : Ints w w.heap.size D r right
  cap : nc ≤ cc
theorem EqW.upto {w w' : World} {p : Int} {r c nc cc cd : Nat} {C D : Option Addr} {cells right : List Int} (h : EqW w p r c nc C cc D cd cells right) (hb : Below w.heap.size w w') : EqW w' p r c nc C cc D cd cells right :=
  ⟨h.ok, h.ln, h.hC.upto hb, h.hD.upto hb, h.cap⟩
end Go.Proofs.YtnjdjcgandfnfaaDoor
