/-
  No cell of these rows narrows 'for every input' (looked for: loops, veiled, ifaces, maps, wideKeys, modest, calm, conditions, laid).
  DERIVED. THE GIVEN ROWS OF THIS SEAT. 11 by the template 'for every input the law returns true; each argument reads behind the call as it read before'; 0 by the template 'total and deterministic' (their statements: YtefgjkkgddeemaaTotals.lean).
  GIVEN WITH THE SEED: the statements are not yours to turn. If you find one false, say at which input.
  Laid BY PROGRAM, IN A SANDBOX (cutbox-rows.mjs): the forced cells as the released guide's own fill.sh prints them over the translation 761ae9f5619e0eee… (all of the seat's roots in one cut). By AI agents, Wed Nov 11 2026. No macro, syntax, notation, axiom, sorry.
-/
import Derived.Test.YtefgjkkgddeemaaChecked
import GoSem.Claim
import GoSem.ClaimJoined
import GoSem.ClaimMapViews
import Derived.JoinedTies
import Derived.KernelRfl
namespace Go.Proofs.Ytefgjkkgddeemaa
/- THE CELL 'sum', in the pinned program and in every row, IS THE sha256 OF THE DUMP (.gsa) THAT YtefgjkkgddeemaaProg.lean LOADS. Nothing in Lean hashes anything: it is a label: what it is worth is what the hold of that sum in a sandbox is worth. -/
noncomputable def Try.pinned : Pinned := { name := "ytefgjkkgddeemaa", sum := "761ae9f5619e0eee43723b26398fd150a33e51db667dce8db8fe4f08c3f28ba4", checked := Try.checked }
namespace Rows
def none {H : Type} : Left H := { results := [], args := [] }

/-- 'privatefetchlaw16.ParityHides': WHATEVER THE INPUT: true; the input reads as it did. -/
def parityHidesSpec : ChangeSpec := { name := "parityHides", fn := fun _ => fun
  | [d1, d2, d3, d4] => { results := [.lit (.bool true)], args := [d1, d2, d3, d4] }
  | _ => none }
def parityHidesRow : OpenClaim := { program := "ytefgjkkgddeemaa", sum := "761ae9f5619e0eee43723b26398fd150a33e51db667dce8db8fe4f08c3f28ba4", func := "privatefetch/privatefetchlaw16.ParityHides", spec := "parityHides", unfollowed := true, recurses := true, apart := false }
def ParityHidesSaid : Prop := parityHidesRow.holds Try.pinned (OpenSpec.ofChange parityHidesSpec)

/-- ITS FALSE NEIGHBOUR: 'it returns false'. Refute it at one input. -/
def parityHidesWrong : ChangeSpec := { name := "parityHides", fn := fun _ => fun
  | [d1, d2, d3, d4] => { results := [.lit (.bool false)], args := [d1, d2, d3, d4] }
  | _ => none }
def ParityHidesWrongFalsely : Prop := parityHidesRow.holds Try.pinned (OpenSpec.ofChange parityHidesWrong)

/-- 'privatefetchlaw16.ParityTapes': WHATEVER THE INPUT: true; the input reads as it did. -/
def parityTapesSpec : ChangeSpec := { name := "parityTapes", fn := fun _ => fun
  | [d1, d2, d3] => { results := [.lit (.bool true)], args := [d1, d2, d3] }
  | _ => none }
def parityTapesRow : OpenClaim := { program := "ytefgjkkgddeemaa", sum := "761ae9f5619e0eee43723b26398fd150a33e51db667dce8db8fe4f08c3f28ba4", func := "privatefetch/privatefetchlaw16.ParityTapes", spec := "parityTapes", unfollowed := true, recurses := true, apart := false }
def ParityTapesSaid : Prop := parityTapesRow.holds Try.pinned (OpenSpec.ofChange parityTapesSpec)

/-- ITS FALSE NEIGHBOUR: 'it returns false'. Refute it at one input. -/
def parityTapesWrong : ChangeSpec := { name := "parityTapes", fn := fun _ => fun
  | [d1, d2, d3] => { results := [.lit (.bool false)], args := [d1, d2, d3] }
  | _ => none }
def ParityTapesWrongFalsely : Prop := parityTapesRow.holds Try.pinned (OpenSpec.ofChange parityTapesWrong)

/-- 'privatefetchlaw16.ParityWrong': WHATEVER THE INPUT: true; the input reads as it did. -/
def parityWrongSpec : ChangeSpec := { name := "parityWrong", fn := fun _ => fun
  | [d] => { results := [.lit (.bool true)], args := [d] }
  | _ => none }
def parityWrongRow : OpenClaim := { program := "ytefgjkkgddeemaa", sum := "761ae9f5619e0eee43723b26398fd150a33e51db667dce8db8fe4f08c3f28ba4", func := "privatefetch/privatefetchlaw16.ParityWrong", spec := "parityWrong", unfollowed := true, recurses := true, apart := false }
def ParityWrongSaid : Prop := parityWrongRow.holds Try.pinned (OpenSpec.ofChange parityWrongSpec)

/-- ITS FALSE NEIGHBOUR: 'it returns false'. Refute it at one input. -/
def parityWrongWrong : ChangeSpec := { name := "parityWrong", fn := fun _ => fun
  | [d] => { results := [.lit (.bool false)], args := [d] }
  | _ => none }
def ParityWrongWrongFalsely : Prop := parityWrongRow.holds Try.pinned (OpenSpec.ofChange parityWrongWrong)

/-- 'privatefetchlaw16.ParityDoes': WHATEVER THE INPUT: true; the input reads as it did. -/
def parityDoesSpec : ChangeSpec := { name := "parityDoes", fn := fun _ => fun
  | [d1, d2, d3, d4, d5, d6, d7, d8, d9] => { results := [.lit (.bool true)], args := [d1, d2, d3, d4, d5, d6, d7, d8, d9] }
  | _ => none }
def parityDoesRow : OpenClaim := { program := "ytefgjkkgddeemaa", sum := "761ae9f5619e0eee43723b26398fd150a33e51db667dce8db8fe4f08c3f28ba4", func := "privatefetch/privatefetchlaw16.ParityDoes", spec := "parityDoes", unfollowed := true, recurses := true, apart := false }
def ParityDoesSaid : Prop := parityDoesRow.holds Try.pinned (OpenSpec.ofChange parityDoesSpec)

/-- ITS FALSE NEIGHBOUR: 'it returns false'. Refute it at one input. -/
def parityDoesWrong : ChangeSpec := { name := "parityDoes", fn := fun _ => fun
  | [d1, d2, d3, d4, d5, d6, d7, d8, d9] => { results := [.lit (.bool false)], args := [d1, d2, d3, d4, d5, d6, d7, d8, d9] }
  | _ => none }
def ParityDoesWrongFalsely : Prop := parityDoesRow.holds Try.pinned (OpenSpec.ofChange parityDoesWrong)

/-- 'privatefetchlaw16.ParityReads': WHATEVER THE INPUT: true; the input reads as it did. -/
def parityReadsSpec : ChangeSpec := { name := "parityReads", fn := fun _ => fun
  | [d1, d2] => { results := [.lit (.bool true)], args := [d1, d2] }
  | _ => none }
def parityReadsRow : OpenClaim := { program := "ytefgjkkgddeemaa", sum := "761ae9f5619e0eee43723b26398fd150a33e51db667dce8db8fe4f08c3f28ba4", func := "privatefetch/privatefetchlaw16.ParityReads", spec := "parityReads", unfollowed := true, recurses := true, apart := false }
def ParityReadsSaid : Prop := parityReadsRow.holds Try.pinned (OpenSpec.ofChange parityReadsSpec)

/-- ITS FALSE NEIGHBOUR: 'it returns false'. Refute it at one input. -/
def parityReadsWrong : ChangeSpec := { name := "parityReads", fn := fun _ => fun
  | [d1, d2] => { results := [.lit (.bool false)], args := [d1, d2] }
  | _ => none }
def ParityReadsWrongFalsely : Prop := parityReadsRow.holds Try.pinned (OpenSpec.ofChange parityReadsWrong)

/-- 'privatefetchlaw06.SolveScales': WHATEVER THE INPUT: true; the input reads as it did. -/
def solveScalesSpec : ChangeSpec := { name := "solveScales", fn := fun _ => fun
  | [d] => { results := [.lit (.bool true)], args := [d] }
  | _ => none }
def solveScalesRow : OpenClaim := { program := "ytefgjkkgddeemaa", sum := "761ae9f5619e0eee43723b26398fd150a33e51db667dce8db8fe4f08c3f28ba4", func := "privatefetch/privatefetchlaw06.SolveScales", spec := "solveScales", unfollowed := true, recurses := true, apart := false }
def SolveScalesSaid : Prop := solveScalesRow.holds Try.pinned (OpenSpec.ofChange solveScalesSpec)

/-- ITS FALSE NEIGHBOUR: 'it returns false'. Refute it at one input. -/
def solveScalesWrong : ChangeSpec := { name := "solveScales", fn := fun _ => fun
  | [d] => { results := [.lit (.bool false)], args := [d] }
  | _ => none }
def SolveScalesWrongFalsely : Prop := solveScalesRow.holds Try.pinned (OpenSpec.ofChange solveScalesWrong)

/-- 'privatefetchlaw06.SolveRanks': WHATEVER THE INPUT: true; the input reads as it did. -/
def solveRanksSpec : ChangeSpec := { name := "solveRanks", fn := fun _ => fun
  | [d] => { results := [.lit (.bool true)], args := [d] }
  | _ => none }
def solveRanksRow : OpenClaim := { program := "ytefgjkkgddeemaa", sum := "761ae9f5619e0eee43723b26398fd150a33e51db667dce8db8fe4f08c3f28ba4", func := "privatefetch/privatefetchlaw06.SolveRanks", spec := "solveRanks", unfollowed := true, recurses := true, apart := false }
def SolveRanksSaid : Prop := solveRanksRow.holds Try.pinned (OpenSpec.ofChange solveRanksSpec)

/-- ITS FALSE NEIGHBOUR: 'it returns false'. Refute it at one input. -/
def solveRanksWrong : ChangeSpec := { name := "solveRanks", fn := fun _ => fun
  | [d] => { results := [.lit (.bool false)], args := [d] }
  | _ => none }
def SolveRanksWrongFalsely : Prop := solveRanksRow.holds Try.pinned (OpenSpec.ofChange solveRanksWrong)

/-- 'privatefetchlaw06.SolveSquare': WHATEVER THE INPUT: true; the input reads as it did. -/
def solveSquareSpec : ChangeSpec := { name := "solveSquare", fn := fun _ => fun
  | [d1, d2] => { results := [.lit (.bool true)], args := [d1, d2] }
  | _ => none }
def solveSquareRow : OpenClaim := { program := "ytefgjkkgddeemaa", sum := "761ae9f5619e0eee43723b26398fd150a33e51db667dce8db8fe4f08c3f28ba4", func := "privatefetch/privatefetchlaw06.SolveSquare", spec := "solveSquare", unfollowed := true, recurses := true, apart := false }
def SolveSquareSaid : Prop := solveSquareRow.holds Try.pinned (OpenSpec.ofChange solveSquareSpec)

/-- ITS FALSE NEIGHBOUR: 'it returns false'. Refute it at one input. -/
def solveSquareWrong : ChangeSpec := { name := "solveSquare", fn := fun _ => fun
  | [d1, d2] => { results := [.lit (.bool false)], args := [d1, d2] }
  | _ => none }
def SolveSquareWrongFalsely : Prop := solveSquareRow.holds Try.pinned (OpenSpec.ofChange solveSquareWrong)

/-- 'privatefetchlaw06.SolveFinds': WHATEVER THE INPUT: true; the input reads as it did. -/
def solveFindsSpec : ChangeSpec := { name := "solveFinds", fn := fun _ => fun
  | [d] => { results := [.lit (.bool true)], args := [d] }
  | _ => none }
def solveFindsRow : OpenClaim := { program := "ytefgjkkgddeemaa", sum := "761ae9f5619e0eee43723b26398fd150a33e51db667dce8db8fe4f08c3f28ba4", func := "privatefetch/privatefetchlaw06.SolveFinds", spec := "solveFinds", unfollowed := true, recurses := true, apart := false }
def SolveFindsSaid : Prop := solveFindsRow.holds Try.pinned (OpenSpec.ofChange solveFindsSpec)

/-- ITS FALSE NEIGHBOUR: 'it returns false'. Refute it at one input. -/
def solveFindsWrong : ChangeSpec := { name := "solveFinds", fn := fun _ => fun
  | [d] => { results := [.lit (.bool false)], args := [d] }
  | _ => none }
def SolveFindsWrongFalsely : Prop := solveFindsRow.holds Try.pinned (OpenSpec.ofChange solveFindsWrong)

/-- 'privatefetchlaw06.SolveDoes': WHATEVER THE INPUT: true; the input reads as it did. -/
def solveDoesSpec : ChangeSpec := { name := "solveDoes", fn := fun _ => fun
  | [d1, d2, d3] => { results := [.lit (.bool true)], args := [d1, d2, d3] }
  | _ => none }
def solveDoesRow : OpenClaim := { program := "ytefgjkkgddeemaa", sum := "761ae9f5619e0eee43723b26398fd150a33e51db667dce8db8fe4f08c3f28ba4", func := "privatefetch/privatefetchlaw06.SolveDoes", spec := "solveDoes", unfollowed := true, recurses := true, apart := false }
def SolveDoesSaid : Prop := solveDoesRow.holds Try.pinned (OpenSpec.ofChange solveDoesSpec)

/-- ITS FALSE NEIGHBOUR: 'it returns false'. Refute it at one input. -/
def solveDoesWrong : ChangeSpec := { name := "solveDoes", fn := fun _ => fun
  | [d1, d2, d3] => { results := [.lit (.bool false)], args := [d1, d2, d3] }
  | _ => none }
def SolveDoesWrongFalsely : Prop := solveDoesRow.holds Try.pinned (OpenSpec.ofChange solveDoesWrong)

/-- 'privatefetchlaw06.SolveCounts': WHATEVER THE INPUT: true; the input reads as it did. -/
def solveCountsSpec : ChangeSpec := { name := "solveCounts", fn := fun _ => fun
  | [d1, d2, d3] => { results := [.lit (.bool true)], args := [d1, d2, d3] }
  | _ => none }
def solveCountsRow : OpenClaim := { program := "ytefgjkkgddeemaa", sum := "761ae9f5619e0eee43723b26398fd150a33e51db667dce8db8fe4f08c3f28ba4", func := "privatefetch/privatefetchlaw06.SolveCounts", spec := "solveCounts", unfollowed := true, recurses := true, apart := false }
def SolveCountsSaid : Prop := solveCountsRow.holds Try.pinned (OpenSpec.ofChange solveCountsSpec)

/-- ITS FALSE NEIGHBOUR: 'it returns false'. Refute it at one input. -/
def solveCountsWrong : ChangeSpec := { name := "solveCounts", fn := fun _ => fun
  | [d1, d2, d3] => { results := [.lit (.bool false)], args := [d1, d2, d3] }
  | _ => none }
def SolveCountsWrongFalsely : Prop := solveCountsRow.holds Try.pinned (OpenSpec.ofChange solveCountsWrong)

/- THE SECOND FORM. 'bulk': how many values and letters a reading holds, each counted each time it is reached (what is shared counts as often as it is met; a slice's spare places count too). A statement '..UptoSaid' is the law's where the arguments, and the package variables that the reading takes, are together of bulk at most 1048576: NARROWER than '..Said'. Prove '..Said' where nothing that the law and all that it calls make is longer than what came in: it says more and counts as full. Else prove '..UptoSaid'. A law counts once. -/
mutual
def uptoBulk {H : Type} : DataW H → Nat
  | .lit (.string bytes) => bytes.length + 1
  | .lit _ => 1
  | .nil => 1
  | .ptr d => uptoBulk d + 1
  | .slice elems spare => uptoBulkAll elems + uptoBulkAll spare + 1
  | .agg parts => uptoBulkAll parts + 1
  | .iface _ d => uptoBulk d + 1
  | .map entries => uptoBulkEntries entries + 1
  | .held _ => 1
def uptoBulkAll {H : Type} : List (DataW H) → Nat
  | [] => 0
  | d :: r => uptoBulk d + uptoBulkAll r
def uptoBulkEntries {H : Type} : List (Lit × DataW H) → Nat
  | [] => 0
  | x :: r => uptoBulkEntry x + uptoBulkEntries r
def uptoBulkEntry {H : Type} : Lit × DataW H → Nat
  | (.string bytes, d) => bytes.length + uptoBulk d + 1
  | (_, d) => uptoBulk d + 1
 end
def uptoSmall : (H : Type) → List (DataW H) → Bool := fun _ ds => decide (uptoBulkAll ds ≤ 1048576)
def OpenSpec.upto (s : _root_.Go.ChangeSpec) : _root_.Go.OpenSpec := { _root_.Go.OpenSpec.ofChange s with cond := some uptoSmall }

/-- 'privatefetchlaw16.ParityHides', WHERE WHAT IT READS IS OF BULK AT MOST 1048576: true; the input reads as it did. -/
def parityHidesUptoRow : OpenClaim := { program := "ytefgjkkgddeemaa", sum := "761ae9f5619e0eee43723b26398fd150a33e51db667dce8db8fe4f08c3f28ba4", func := "privatefetch/privatefetchlaw16.ParityHides", spec := "parityHides", unfollowed := true, recurses := true, apart := false, narrowed := true }
def ParityHidesUptoSaid : Prop := parityHidesUptoRow.holds Try.pinned (OpenSpec.upto parityHidesSpec)

/-- 'privatefetchlaw16.ParityTapes', WHERE WHAT IT READS IS OF BULK AT MOST 1048576: true; the input reads as it did. -/
def parityTapesUptoRow : OpenClaim := { program := "ytefgjkkgddeemaa", sum := "761ae9f5619e0eee43723b26398fd150a33e51db667dce8db8fe4f08c3f28ba4", func := "privatefetch/privatefetchlaw16.ParityTapes", spec := "parityTapes", unfollowed := true, recurses := true, apart := false, narrowed := true }
def ParityTapesUptoSaid : Prop := parityTapesUptoRow.holds Try.pinned (OpenSpec.upto parityTapesSpec)

/-- 'privatefetchlaw16.ParityWrong', WHERE WHAT IT READS IS OF BULK AT MOST 1048576: true; the input reads as it did. -/
def parityWrongUptoRow : OpenClaim := { program := "ytefgjkkgddeemaa", sum := "761ae9f5619e0eee43723b26398fd150a33e51db667dce8db8fe4f08c3f28ba4", func := "privatefetch/privatefetchlaw16.ParityWrong", spec := "parityWrong", unfollowed := true, recurses := true, apart := false, narrowed := true }
def ParityWrongUptoSaid : Prop := parityWrongUptoRow.holds Try.pinned (OpenSpec.upto parityWrongSpec)

/-- 'privatefetchlaw16.ParityDoes', WHERE WHAT IT READS IS OF BULK AT MOST 1048576: true; the input reads as it did. -/
def parityDoesUptoRow : OpenClaim := { program := "ytefgjkkgddeemaa", sum := "761ae9f5619e0eee43723b26398fd150a33e51db667dce8db8fe4f08c3f28ba4", func := "privatefetch/privatefetchlaw16.ParityDoes", spec := "parityDoes", unfollowed := true, recurses := true, apart := false, narrowed := true }
def ParityDoesUptoSaid : Prop := parityDoesUptoRow.holds Try.pinned (OpenSpec.upto parityDoesSpec)

/-- 'privatefetchlaw16.ParityReads', WHERE WHAT IT READS IS OF BULK AT MOST 1048576: true; the input reads as it did. -/
def parityReadsUptoRow : OpenClaim := { program := "ytefgjkkgddeemaa", sum := "761ae9f5619e0eee43723b26398fd150a33e51db667dce8db8fe4f08c3f28ba4", func := "privatefetch/privatefetchlaw16.ParityReads", spec := "parityReads", unfollowed := true, recurses := true, apart := false, narrowed := true }
def ParityReadsUptoSaid : Prop := parityReadsUptoRow.holds Try.pinned (OpenSpec.upto parityReadsSpec)

/-- 'privatefetchlaw06.SolveScales', WHERE WHAT IT READS IS OF BULK AT MOST 1048576: true; the input reads as it did. -/
def solveScalesUptoRow : OpenClaim := { program := "ytefgjkkgddeemaa", sum := "761ae9f5619e0eee43723b26398fd150a33e51db667dce8db8fe4f08c3f28ba4", func := "privatefetch/privatefetchlaw06.SolveScales", spec := "solveScales", unfollowed := true, recurses := true, apart := false, narrowed := true }
def SolveScalesUptoSaid : Prop := solveScalesUptoRow.holds Try.pinned (OpenSpec.upto solveScalesSpec)

/-- 'privatefetchlaw06.SolveRanks', WHERE WHAT IT READS IS OF BULK AT MOST 1048576: true; the input reads as it did. -/
def solveRanksUptoRow : OpenClaim := { program := "ytefgjkkgddeemaa", sum := "761ae9f5619e0eee43723b26398fd150a33e51db667dce8db8fe4f08c3f28ba4", func := "privatefetch/privatefetchlaw06.SolveRanks", spec := "solveRanks", unfollowed := true, recurses := true, apart := false, narrowed := true }
def SolveRanksUptoSaid : Prop := solveRanksUptoRow.holds Try.pinned (OpenSpec.upto solveRanksSpec)

/-- 'privatefetchlaw06.SolveSquare', WHERE WHAT IT READS IS OF BULK AT MOST 1048576: true; the input reads as it did. -/
def solveSquareUptoRow : OpenClaim := { program := "ytefgjkkgddeemaa", sum := "761ae9f5619e0eee43723b26398fd150a33e51db667dce8db8fe4f08c3f28ba4", func := "privatefetch/privatefetchlaw06.SolveSquare", spec := "solveSquare", unfollowed := true, recurses := true, apart := false, narrowed := true }
def SolveSquareUptoSaid : Prop := solveSquareUptoRow.holds Try.pinned (OpenSpec.upto solveSquareSpec)

/-- 'privatefetchlaw06.SolveFinds', WHERE WHAT IT READS IS OF BULK AT MOST 1048576: true; the input reads as it did. -/
def solveFindsUptoRow : OpenClaim := { program := "ytefgjkkgddeemaa", sum := "761ae9f5619e0eee43723b26398fd150a33e51db667dce8db8fe4f08c3f28ba4", func := "privatefetch/privatefetchlaw06.SolveFinds", spec := "solveFinds", unfollowed := true, recurses := true, apart := false, narrowed := true }
def SolveFindsUptoSaid : Prop := solveFindsUptoRow.holds Try.pinned (OpenSpec.upto solveFindsSpec)

/-- 'privatefetchlaw06.SolveDoes', WHERE WHAT IT READS IS OF BULK AT MOST 1048576: true; the input reads as it did. -/
def solveDoesUptoRow : OpenClaim := { program := "ytefgjkkgddeemaa", sum := "761ae9f5619e0eee43723b26398fd150a33e51db667dce8db8fe4f08c3f28ba4", func := "privatefetch/privatefetchlaw06.SolveDoes", spec := "solveDoes", unfollowed := true, recurses := true, apart := false, narrowed := true }
def SolveDoesUptoSaid : Prop := solveDoesUptoRow.holds Try.pinned (OpenSpec.upto solveDoesSpec)

/-- 'privatefetchlaw06.SolveCounts', WHERE WHAT IT READS IS OF BULK AT MOST 1048576: true; the input reads as it did. -/
def solveCountsUptoRow : OpenClaim := { program := "ytefgjkkgddeemaa", sum := "761ae9f5619e0eee43723b26398fd150a33e51db667dce8db8fe4f08c3f28ba4", func := "privatefetch/privatefetchlaw06.SolveCounts", spec := "solveCounts", unfollowed := true, recurses := true, apart := false, narrowed := true }
def SolveCountsUptoSaid : Prop := solveCountsUptoRow.holds Try.pinned (OpenSpec.upto solveCountsSpec)

end Rows
end Go.Proofs.Ytefgjkkgddeemaa
