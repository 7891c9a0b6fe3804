/-
  A list of numbers that make makes. No conditions.
-/
import Derived.Test.YtoblofilaegnaaaBase
import Derived.Test.YtoblofilaegnaaaPlain
import Derived.Deep.DeepFit
namespace Go.Proofs.Ytoblofilaegnaaa
open Go.RowKit

theorem made_zeros (n : Nat) : (madeCells (Value.int .i64 0).cells (n * 1)).toList = vals (List.replicate n 0) := by
  simp only [madeCells, vals, Value.cells]
  simp [Nat.mod_one]
  rw [List.map_const', List.length_range]
end Go.Proofs.Ytoblofilaegnaaa
