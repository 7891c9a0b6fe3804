/-
  Words for memory and contracts of small functions of the second form. Conditions: those of each lemma.
-/
import Derived.Test.YtnjdjcgandfnfaaDoorPlain
import Derived.Test.YtnjdjcgandfnfaaDoorChecked
import Derived.WalkKit
import Derived.LaidEql
import Derived.Stop.Asserts
import Derived.RowKitTokens
/-! UIs -/
namespace Go.Proofs.YtnjdjcgandfnfaaDoor
open Go.RowKit Go.Extern.Stop Go.Stop Go.Extern
set_option linter.unusedVariables false

theorem isTypeOf (v : Value) (w : World) : (Extern.ReflectliteType.typeOf #[.iface 103 v]).run Tryd.prog w = .ok (.iface 122 (.agg #[.pointer (some ⟨1, 103, none⟩)])) w := by kernel_rfl
/-- What the model runs for 'Comparable'. -/
def compE : Array Value → Sem Value := Extern.ReflectliteType.method fun t => do Extern.Rtype.noPackHeld "Comparable" t; pure (.bool (← typeInfo t).comparable)
theorem isComparable (w : World) : (compE #[.agg #[.pointer (some ⟨1, 103, none⟩)]]).run Tryd.prog w = .ok (.bool true) w := by kernel_rfl
theorem isMethodComparable (v : Value) (w : World) : (Go.method 282 122 v "Comparable").run Tryd.prog w = .ok (113, v) w := by kernel_rfl
theorem noIs (v : Value) (xT : TypeId) (w : World) : (Instr.typeAssert (.iface 103 v) xT 124 true).run Tryd.prog w = .ok (.tuple #[.nilIface, .bool false]) w := run_typeAssert_lacksB Tryd.underlying124 (by kernel_rfl) (by kernel_rfl) v xT w
theorem noUnwrap (v : Value) (xT : TypeId) (w : World) : (Instr.typeAssert (.iface 103 v) xT 127 true).run Tryd.prog w = .ok (.tuple #[.nilIface, .bool false]) w := run_typeAssert_lacksB Tryd.underlying127 (by kernel_rfl) (by kernel_rfl) v xT w
theorem noUnwraps (v : Value) (xT : TypeId) (w : World) : (Instr.typeAssert (.iface 103 v) xT 129 true).run Tryd.prog w = .ok (.tuple #[.nilIface, .bool false]) w := run_typeAssert_lacksB Tryd.underlying129 (by kernel_rfl) (by kernel_rfl) v xT w
/-- A failure. -/
abbrev failV (c : Int) : Value := .iface 103 (.agg #[.int .i64 c])
theorem failEq (w : World) : (binOp .eql 74 (failV 12) (failV 12)).run Tryd.prog w = .ok (.bool true) w := by kernel_rfl
theorem failNe (w : World) : (binOp .eql 74 (failV 11) (failV 12)).run Tryd.prog w = .ok (.bool false) w := by kernel_rfl

set_option maxRecDepth 100000 in
/-- errors.Is of the failure itself. -/
theorem is_same (w : World) : Calls Tryd.prog 39 #[failV 12, failV 12] w fun e w' => e = .returned (.bool true) ∧ w = w' := by
  have h8 := @run_callFunc_extern Tryd.prog 63 _ Extern.ReflectliteType.typeOf Tryd.func63 (by kernel_rfl) (by kernel_rfl) (by kernel_rfl) (by kernel_rfl)
  have h32 := @run_callFunc_extern Tryd.prog 113 _ compE Tryd.func113 (by kernel_rfl) (by kernel_rfl) (by kernel_rfl) (by kernel_rfl)
  have tT := isTypeOf
  have cT := isComparable
  have mR := isMethodComparable
  have heq := failEq
  go_enter Tryd.func39, Tryd.ntmps39
  go_wp2
  refine wp_loop_rounds 1 ?_
  rw [rounds_succ]
  go_wp2
  go_ret
  exact ⟨rfl, rfl⟩
set_option maxRecDepth 100000 in
/-- errors.Is of another failure. -/
theorem is_few (w : World) : Calls Tryd.prog 39 #[failV 11, failV 12] w fun e w' => e = .returned (.bool false) ∧ w = w' := by
  have h8 := @run_callFunc_extern Tryd.prog 63 _ Extern.ReflectliteType.typeOf Tryd.func63 (by kernel_rfl) (by kernel_rfl) (by kernel_rfl) (by kernel_rfl)
  have h32 := @run_callFunc_extern Tryd.prog 113 _ compE Tryd.func113 (by kernel_rfl) (by kernel_rfl) (by kernel_rfl) (by kernel_rfl)
  have tT := isTypeOf
  have cT := isComparable
  have mR := isMethodComparable
  have nE := noIs
  have uE := noUnwrap
  have vE := noUnwraps
  have heq := failNe
  go_enter Tryd.func39, Tryd.ntmps39
  go_wp2
  refine wp_loop_rounds 1 ?_
  rw [rounds_succ]
  go_wp2
  go_ret
  exact ⟨rfl, rfl⟩
/-- errors.Is of nil. -/
theorem is_none (w : World) : Calls Tryd.prog 39 #[.nilIface, failV 12] w fun e w' => e = .returned (.bool false) ∧ w = w' := by
  have hn := run_eql_iface_nil_left (P := Tryd.prog) w 103 (.agg #[.int .i64 12]) Tryd.underlying74
  go_enter Tryd.func39, Tryd.ntmps39
  go_wp2
  go_ret
  exact ⟨rfl, rfl⟩
theorem of_few (w : World) : Calls Tryd.prog 59 #[.int .i64 11] w fun e w' => e = .returned (failV 11) ∧ w = w' := by
  go_enter Tryd.func59, Tryd.ntmps59
  go_wp2
  go_ret
  exact ⟨rfl, rfl⟩
theorem number_none (w : World) : Calls Tryd.prog 40 #[.nilIface] w fun e w' => e = .returned (.int .i64 0) ∧ w = w' := by
  go_enter Tryd.func40, Tryd.ntmps40
  go_wp2
  go_ret
  exact ⟨rfl, rfl⟩
theorem asFail (v : Value) (w : World) : (Instr.typeAssert (.iface 103 v) 74 103 true).run Tryd.prog w = .ok (.tuple #[v, .bool true]) w := by kernel_rfl
theorem number_few (w : World) : Calls Tryd.prog 40 #[failV 11] w fun e w' => e = .returned (.int .i64 11) ∧ Below w.heap.size w w' := by
  have hA := asFail
  go_enter Tryd.func40, Tryd.ntmps40
  go_wp2
  go_ret
  exact ⟨rfl, bbox _⟩
end Go.Proofs.YtnjdjcgandfnfaaDoor

/-! UIsG -/
namespace Go.Proofs.YtnjdjcgandfnfaaDoor
open Go.RowKit Go.Extern.Stop Go.Stop Go.Extern
set_option linter.unusedVariables false

theorem failNe1 (w : World) : (binOp .eql 74 (failV 1) (failV 12)).run Tryd.prog w = .ok (.bool false) w := by kernel_rfl
theorem failNe4 (w : World) : (binOp .eql 74 (failV 4) (failV 12)).run Tryd.prog w = .ok (.bool false) w := by kernel_rfl
theorem failNe9 (w : World) : (binOp .eql 74 (failV 9) (failV 12)).run Tryd.prog w = .ok (.bool false) w := by kernel_rfl
set_option maxRecDepth 100000 in
/-- errors.Is of any other failure. -/
theorem is_other (v : Int) (hne : ∀ w : World, (binOp .eql 74 (failV v) (failV 12)).run Tryd.prog w = .ok (.bool false) w) (w : World) : Calls Tryd.prog 39 #[failV v, failV 12] w fun e w' => e = .returned (.bool false) ∧ w = w' := by
  have h8 := @run_callFunc_extern Tryd.prog 63 _ Extern.ReflectliteType.typeOf Tryd.func63 (by kernel_rfl) (by kernel_rfl) (by kernel_rfl) (by kernel_rfl)
  have h32 := @run_callFunc_extern Tryd.prog 113 _ compE Tryd.func113 (by kernel_rfl) (by kernel_rfl) (by kernel_rfl) (by kernel_rfl)
  have tT := isTypeOf
  have cT := isComparable
  have mR := isMethodComparable
  have nE := noIs
  have uE := noUnwrap
  have vE := noUnwraps
  have heq := hne
  go_enter Tryd.func39, Tryd.ntmps39
  go_wp2
  refine wp_loop_rounds 1 ?_
  rw [rounds_succ]
  go_wp2
  go_ret
  exact ⟨rfl, rfl⟩
theorem of_fail (v : Int) (hv : v ≠ 0) (w : World) : Calls Tryd.prog 59 #[.int .i64 v] w fun e w' => e = .returned (failV v) ∧ w = w' := by
  have hb : (v == 0) = false := by simpa using hv
  go_enter Tryd.func59, Tryd.ntmps59
  go_wp2
  go_ret
  exact ⟨rfl, rfl⟩
theorem number_fail (v : Int) (w : World) : Calls Tryd.prog 40 #[failV v] w fun e w' => e = .returned (.int .i64 v) ∧ Below w.heap.size w w' := by
  have hA := asFail
  go_enter Tryd.func40, Tryd.ntmps40
  go_wp2
  go_ret
  exact ⟨rfl, bbox _⟩
end Go.Proofs.YtnjdjcgandfnfaaDoor
