/-
  The first error of one or two lists, and what a division leaves. Conditions: none.
-/
import Derived.Test.YtoblofilaegnaaaOpenA
import Derived.Test.YtoblofilaegnaaaPlain
namespace Go.Proofs.Ytoblofilaegnaaa
open Go.RowKit
set_option linter.unusedVariables false

theorem errL_one {p : Int} {xs : List Int} (h : errL p [xs] = 0) : okP p = true ∧ allP p xs = true ∧ xs.length ≤ 512 := by
  have h1 := errL_yes h
  exact ⟨h1.1, h1.2 xs List.mem_cons_self⟩
theorem errL_two {p : Int} {xs ys : List Int} (h : errL p [xs, ys] = 0) : okP p = true ∧ (allP p xs = true ∧ xs.length ≤ 512) ∧ (allP p ys = true ∧ ys.length ≤ 512) := by
  have h1 := errL_yes h
  exact ⟨h1.1, h1.2 xs List.mem_cons_self, h1.2 ys (List.mem_cons_of_mem _ List.mem_cons_self)⟩

/-- What Divide leaves: quotient and remainder, or the error. -/
def DivPost (p : Int) (xs ys : List Int) (w : World) (e : Ending) (w' : World) : Prop :=
  (¬ errL p [xs, ys] = 0 ∧ e = .returned (.tuple #[.slice none 0 0, .slice none 0 0, .int .i64 (errL p [xs, ys])]) ∧ Below w.heap.size w w') ∨
  (errL p [xs, ys] = 0 ∧ (trimL ys).length = 0 ∧ e = .returned (.tuple #[.slice none 0 0, .slice none 0 0, .int .i64 10]) ∧ Below w.heap.size w w') ∨
  (errL p [xs, ys] = 0 ∧ 0 < (trimL ys).length ∧ ∃ (Q R : Option Addr) (nq nr cq cr : Nat) (q r : List Int), e = .returned (.tuple #[.slice Q nq cq, .slice R nr cr, .int .i64 0]) ∧ OwnI w' w.heap.size 3 Q nq cq q ∧ OwnI w' w.heap.size 3 R nr cr r ∧ DivOf p xs ys q r ∧ Below w.heap.size w w')

end Go.Proofs.Ytoblofilaegnaaa
