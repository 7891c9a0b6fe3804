/-
  From the row's listed variable to its cell, and a world in which it lies so. No conditions.
-/
import Derived.Test.YteipcjmkhacdgaaDoorRows
import Derived.Test.YteipcjmkhacdgaaDoorUDec
import Derived.LaidLaws
import Derived.LaidHandle
import Derived.ChangeSame
import Derived.ChangeVars
import Derived.ChangeArms
import Derived.JoinedOf
import Derived.WideShapes
import Derived.Stop.Joined
import Derived.Deep.DeepLaidRun
namespace Go.Proofs.YteipcjmkhacdgaaDoor
open Go Go.ChangeShapes Go.WideShapes Go.RowKit
set_option linter.unusedVariables false

def laidL : List (String × DataW Unit) := [("privatefetch/unique.errWrong", Rows.laid_privatefetch_unique_errWrong)]

theorem glob0 : Tryd.prog.globalNamed "privatefetch/unique.errWrong" = some 0 := by kernel_rfl
theorem globT : (Tryd.prog.globals[0]?).map (·.type) = some 74 := by kernel_rfl
theorem rowsFail : ((List.range Tryd.prog.types.size).all fun u => Tryd.prog.typeName? 3 u != some "privatefetch/unique.failure" || u == 103) = true := by kernel_rfl
theorem cellsFail : Tryd.prog.cellsOf 103 = 1 := by kernel_rfl

/-- A type of that name is the type. -/
theorem typeName_named {P : Program} {nm : String} {tp : TypeId} (hrows : ((List.range P.types.size).all fun u => P.typeName? 3 u != some nm || u == tp) = true) (hstar : nm.toList.head? ≠ some '*')
    (u : TypeId) (hu : P.typeName? 3 u = some nm) : u = tp := by
  by_cases hlt : u < P.types.size
  · have := List.all_eq_true.1 hrows u (List.mem_range.2 hlt)
    simpa [hu] using this
  · exfalso
    unfold Program.typeName? at hu
    cases hi : P.info? u with
    | none => simp [hi] at hu
    | some i =>
      have hb := Tables.info?_beyond hlt hi
      simp only [hi] at hu
      cases hd : i.desc <;> simp only [hd, TypeDesc.tableOnly] at hu hb <;> try cases hb
      all_goals try cases hu
      rename_i e
      simp only [Option.map_eq_some_iff] at hu
      obtain ⟨n', hn', hs⟩ := hu
      apply hstar
      rw [← hs]
      simp [String.toList_append]

set_option maxRecDepth 100000 in
/-- What the condition gives a walk: the variable's cell. -/
theorem errW_of_laid {W : World} (h : laidMetH Tryd.prog laidL W) : ErrW W := by
  have h' : laidMet Tryd.prog laidL W := h
  obtain ⟨ps, hV, hnd, hrow⟩ := h'
  obtain ⟨g, t, cs, fuel, p, q, hg, ht, hv, htr, hq, rfl⟩ := hV
  obtain rfl := Option.some.inj (glob0.symm.trans hg)
  obtain rfl := Option.some.inj (globT.symm.trans ht)
  obtain ⟨f1, u, v, hcs, hn, h1⟩ := iface_of_trod Tryd.underlying74 htr
  obtain rfl := typeName_named rowsFail (by decide) u hn
  have hcs' : cs = #[.iface 103 v] := by cases cs; simp_all
  subst hcs'
  have hc0 : W.cell? ⟨0, 0, none⟩ = some (.iface 103 v) := by
    have := World.var?_cell glob0 hv 0
    simpa using this
  have hok := (hrow 0 0 (by simp [MemPlace.row])).2 _ _ hc0
  obtain ⟨vs, rfl, hsz⟩ := okWide_struct Tryd.underlying103 hok
  obtain ⟨y0, n, hx, hl, hy⟩ := trod_struct1 Tryd.underlying103 h1
  rw [cellsFail] at hl
  obtain ⟨c, hc⟩ : ∃ c, (Value.agg vs).cells.toList = [c] := by
    match hm : (Value.agg vs).cells.toList, hl with
    | [c], _ => exact ⟨c, rfl⟩
  rw [hc] at hy
  obtain ⟨m, hm, rfl, hwf⟩ := DataW.trod_int (k := .i64) Tryd.underlying36 hy
  have hm12 : m = 12 := by
    simp only [Prod.mk.injEq, DataW.agg.injEq, List.cons.injEq, DataW.lit.injEq, Lit.int.injEq, and_true] at hx
    exact hx.1.2.symm
  subst hm12
  have hvs : vs = #[.int .i64 12] := by
    have h1 : vs.toList = [c] := hc
    have h2 : [c] = [.int .i64 12] := hm
    cases vs
    simp_all
  subst hvs
  exact ⟨hc0, block_lt_of_cell hc0⟩

/-- A world that meets the condition: the settled one, the variable's cell laid. -/
noncomputable def laidWorld (os : Os) : World :=
  let w0 := World.holding Tryd.prog os ⟨#[], #[], []⟩
  { w0 with heap := w0.heap.modify 0 fun
      | .cells _ t frozen => .cells #[failV 12] t frozen
      | o => o }
theorem laidWorld_met (os : Os) (args : Array Value) : laidMetH Tryd.prog laidL ((laidWorld os).forCall (fun _ _ => 0) ⟨#[], args, []⟩).memory := by
  show laidMet Tryd.prog laidL _
  exact laidMet_of_run3 8 (by kernel_rfl) (by kernel_rfl) (by kernel_rfl)
end Go.Proofs.YteipcjmkhacdgaaDoor
