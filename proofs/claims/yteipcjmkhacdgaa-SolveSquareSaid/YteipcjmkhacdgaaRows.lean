/-
  No cell of these rows narrows 'for every input' (looked for: loops, veiled, ifaces, maps, wideKeys, modest, calm, conditions, laid).
  DERIVED. THE GIVEN ROWS OF THIS SEAT. 6 by the template 'for every input the law returns true; each argument reads behind the call as it read before'; 0 by the template 'total and deterministic' (their statements: YteipcjmkhacdgaaTotals.lean).
  GIVEN WITH THE SEED: the statements are not yours to turn. If you find one false, say at which input.
  Laid BY PROGRAM, IN A SANDBOX (cutbox-rows.mjs): the forced cells as the released guide's own fill.sh prints them over the translation a8d970b0d60b24a7… (all of the seat's roots in one cut). By AI agents, Wed Nov 11 2026. No macro, syntax, notation, axiom, sorry.
-/
import Derived.Test.YteipcjmkhacdgaaChecked
import GoSem.Claim
import GoSem.ClaimJoined
import GoSem.ClaimMapViews
import Derived.JoinedTies
import Derived.KernelRfl
namespace Go.Proofs.Yteipcjmkhacdgaa
/- THE CELL 'sum', in the pinned program and in every row, IS THE sha256 OF THE DUMP (.gsa) THAT YteipcjmkhacdgaaProg.lean LOADS. Nothing in Lean hashes anything: it is a label: what it is worth is what the hold of that sum in a sandbox is worth. -/
noncomputable def Try.pinned : Pinned := { name := "yteipcjmkhacdgaa", sum := "a8d970b0d60b24a7e34ceee4f3635ebdc0a941af01a4e8ed681ebf2c9e2be6f9", checked := Try.checked }
namespace Rows
def none {H : Type} : Left H := { results := [], args := [] }

/-- 'privatefetchlaw06.SolveScales': WHATEVER THE INPUT: true; the input reads as it did. -/
def solveScalesSpec : ChangeSpec := { name := "solveScales", fn := fun _ => fun
  | [d] => { results := [.lit (.bool true)], args := [d] }
  | _ => none }
def solveScalesRow : OpenClaim := { program := "yteipcjmkhacdgaa", sum := "a8d970b0d60b24a7e34ceee4f3635ebdc0a941af01a4e8ed681ebf2c9e2be6f9", func := "privatefetch/privatefetchlaw06.SolveScales", spec := "solveScales", unfollowed := true, recurses := true, apart := false }
def SolveScalesSaid : Prop := solveScalesRow.holds Try.pinned (OpenSpec.ofChange solveScalesSpec)

/-- ITS FALSE NEIGHBOUR: 'it returns false'. Refute it at one input. -/
def solveScalesWrong : ChangeSpec := { name := "solveScales", fn := fun _ => fun
  | [d] => { results := [.lit (.bool false)], args := [d] }
  | _ => none }
def SolveScalesWrongFalsely : Prop := solveScalesRow.holds Try.pinned (OpenSpec.ofChange solveScalesWrong)

/-- 'privatefetchlaw06.SolveRanks': WHATEVER THE INPUT: true; the input reads as it did. -/
def solveRanksSpec : ChangeSpec := { name := "solveRanks", fn := fun _ => fun
  | [d] => { results := [.lit (.bool true)], args := [d] }
  | _ => none }
def solveRanksRow : OpenClaim := { program := "yteipcjmkhacdgaa", sum := "a8d970b0d60b24a7e34ceee4f3635ebdc0a941af01a4e8ed681ebf2c9e2be6f9", func := "privatefetch/privatefetchlaw06.SolveRanks", spec := "solveRanks", unfollowed := true, recurses := true, apart := false }
def SolveRanksSaid : Prop := solveRanksRow.holds Try.pinned (OpenSpec.ofChange solveRanksSpec)

/-- ITS FALSE NEIGHBOUR: 'it returns false'. Refute it at one input. -/
def solveRanksWrong : ChangeSpec := { name := "solveRanks", fn := fun _ => fun
  | [d] => { results := [.lit (.bool false)], args := [d] }
  | _ => none }
def SolveRanksWrongFalsely : Prop := solveRanksRow.holds Try.pinned (OpenSpec.ofChange solveRanksWrong)

/-- 'privatefetchlaw06.SolveSquare': WHATEVER THE INPUT: true; the input reads as it did. -/
def solveSquareSpec : ChangeSpec := { name := "solveSquare", fn := fun _ => fun
  | [d1, d2] => { results := [.lit (.bool true)], args := [d1, d2] }
  | _ => none }
def solveSquareRow : OpenClaim := { program := "yteipcjmkhacdgaa", sum := "a8d970b0d60b24a7e34ceee4f3635ebdc0a941af01a4e8ed681ebf2c9e2be6f9", func := "privatefetch/privatefetchlaw06.SolveSquare", spec := "solveSquare", unfollowed := true, recurses := true, apart := false }
def SolveSquareSaid : Prop := solveSquareRow.holds Try.pinned (OpenSpec.ofChange solveSquareSpec)

/-- ITS FALSE NEIGHBOUR: 'it returns false'. Refute it at one input. -/
def solveSquareWrong : ChangeSpec := { name := "solveSquare", fn := fun _ => fun
  | [d1, d2] => { results := [.lit (.bool false)], args := [d1, d2] }
  | _ => none }
def SolveSquareWrongFalsely : Prop := solveSquareRow.holds Try.pinned (OpenSpec.ofChange solveSquareWrong)

/-- 'privatefetchlaw06.SolveFinds': WHATEVER THE INPUT: true; the input reads as it did. -/
def solveFindsSpec : ChangeSpec := { name := "solveFinds", fn := fun _ => fun
  | [d] => { results := [.lit (.bool true)], args := [d] }
  | _ => none }
def solveFindsRow : OpenClaim := { program := "yteipcjmkhacdgaa", sum := "a8d970b0d60b24a7e34ceee4f3635ebdc0a941af01a4e8ed681ebf2c9e2be6f9", func := "privatefetch/privatefetchlaw06.SolveFinds", spec := "solveFinds", unfollowed := true, recurses := true, apart := false }
def SolveFindsSaid : Prop := solveFindsRow.holds Try.pinned (OpenSpec.ofChange solveFindsSpec)

/-- ITS FALSE NEIGHBOUR: 'it returns false'. Refute it at one input. -/
def solveFindsWrong : ChangeSpec := { name := "solveFinds", fn := fun _ => fun
  | [d] => { results := [.lit (.bool false)], args := [d] }
  | _ => none }
def SolveFindsWrongFalsely : Prop := solveFindsRow.holds Try.pinned (OpenSpec.ofChange solveFindsWrong)

/-- 'privatefetchlaw06.SolveDoes': WHATEVER THE INPUT: true; the input reads as it did. -/
def solveDoesSpec : ChangeSpec := { name := "solveDoes", fn := fun _ => fun
  | [d1, d2, d3] => { results := [.lit (.bool true)], args := [d1, d2, d3] }
  | _ => none }
def solveDoesRow : OpenClaim := { program := "yteipcjmkhacdgaa", sum := "a8d970b0d60b24a7e34ceee4f3635ebdc0a941af01a4e8ed681ebf2c9e2be6f9", func := "privatefetch/privatefetchlaw06.SolveDoes", spec := "solveDoes", unfollowed := true, recurses := true, apart := false }
def SolveDoesSaid : Prop := solveDoesRow.holds Try.pinned (OpenSpec.ofChange solveDoesSpec)

/-- ITS FALSE NEIGHBOUR: 'it returns false'. Refute it at one input. -/
def solveDoesWrong : ChangeSpec := { name := "solveDoes", fn := fun _ => fun
  | [d1, d2, d3] => { results := [.lit (.bool false)], args := [d1, d2, d3] }
  | _ => none }
def SolveDoesWrongFalsely : Prop := solveDoesRow.holds Try.pinned (OpenSpec.ofChange solveDoesWrong)

/-- 'privatefetchlaw06.SolveCounts': WHATEVER THE INPUT: true; the input reads as it did. -/
def solveCountsSpec : ChangeSpec := { name := "solveCounts", fn := fun _ => fun
  | [d1, d2, d3] => { results := [.lit (.bool true)], args := [d1, d2, d3] }
  | _ => none }
def solveCountsRow : OpenClaim := { program := "yteipcjmkhacdgaa", sum := "a8d970b0d60b24a7e34ceee4f3635ebdc0a941af01a4e8ed681ebf2c9e2be6f9", func := "privatefetch/privatefetchlaw06.SolveCounts", spec := "solveCounts", unfollowed := true, recurses := true, apart := false }
def SolveCountsSaid : Prop := solveCountsRow.holds Try.pinned (OpenSpec.ofChange solveCountsSpec)

/-- ITS FALSE NEIGHBOUR: 'it returns false'. Refute it at one input. -/
def solveCountsWrong : ChangeSpec := { name := "solveCounts", fn := fun _ => fun
  | [d1, d2, d3] => { results := [.lit (.bool false)], args := [d1, d2, d3] }
  | _ => none }
def SolveCountsWrongFalsely : Prop := solveCountsRow.holds Try.pinned (OpenSpec.ofChange solveCountsWrong)

/- THE SECOND FORM. 'bulk': how many values and letters a reading holds, each counted each time it is reached (what is shared counts as often as it is met; a slice's spare places count too). A statement '..UptoSaid' is the law's where the arguments, and the package variables that the reading takes, are together of bulk at most 1048576: NARROWER than '..Said'. Prove '..Said' where nothing that the law and all that it calls make is longer than what came in: it says more and counts as full. Else prove '..UptoSaid'. A law counts once. -/
mutual
def uptoBulk {H : Type} : DataW H → Nat
  | .lit (.string bytes) => bytes.length + 1
  | .lit _ => 1
  | .nil => 1
  | .ptr d => uptoBulk d + 1
  | .slice elems spare => uptoBulkAll elems + uptoBulkAll spare + 1
  | .agg parts => uptoBulkAll parts + 1
  | .iface _ d => uptoBulk d + 1
  | .map entries => uptoBulkEntries entries + 1
  | .held _ => 1
def uptoBulkAll {H : Type} : List (DataW H) → Nat
  | [] => 0
  | d :: r => uptoBulk d + uptoBulkAll r
def uptoBulkEntries {H : Type} : List (Lit × DataW H) → Nat
  | [] => 0
  | x :: r => uptoBulkEntry x + uptoBulkEntries r
def uptoBulkEntry {H : Type} : Lit × DataW H → Nat
  | (.string bytes, d) => bytes.length + uptoBulk d + 1
  | (_, d) => uptoBulk d + 1
 end
def uptoSmall : (H : Type) → List (DataW H) → Bool := fun _ ds => decide (uptoBulkAll ds ≤ 1048576)
def OpenSpec.upto (s : _root_.Go.ChangeSpec) : _root_.Go.OpenSpec := { _root_.Go.OpenSpec.ofChange s with cond := some uptoSmall }

/-- 'privatefetchlaw06.SolveScales', WHERE WHAT IT READS IS OF BULK AT MOST 1048576: true; the input reads as it did. -/
def solveScalesUptoRow : OpenClaim := { program := "yteipcjmkhacdgaa", sum := "a8d970b0d60b24a7e34ceee4f3635ebdc0a941af01a4e8ed681ebf2c9e2be6f9", func := "privatefetch/privatefetchlaw06.SolveScales", spec := "solveScales", unfollowed := true, recurses := true, apart := false, narrowed := true }
def SolveScalesUptoSaid : Prop := solveScalesUptoRow.holds Try.pinned (OpenSpec.upto solveScalesSpec)

/-- 'privatefetchlaw06.SolveRanks', WHERE WHAT IT READS IS OF BULK AT MOST 1048576: true; the input reads as it did. -/
def solveRanksUptoRow : OpenClaim := { program := "yteipcjmkhacdgaa", sum := "a8d970b0d60b24a7e34ceee4f3635ebdc0a941af01a4e8ed681ebf2c9e2be6f9", func := "privatefetch/privatefetchlaw06.SolveRanks", spec := "solveRanks", unfollowed := true, recurses := true, apart := false, narrowed := true }
def SolveRanksUptoSaid : Prop := solveRanksUptoRow.holds Try.pinned (OpenSpec.upto solveRanksSpec)

/-- 'privatefetchlaw06.SolveSquare', WHERE WHAT IT READS IS OF BULK AT MOST 1048576: true; the input reads as it did. -/
def solveSquareUptoRow : OpenClaim := { program := "yteipcjmkhacdgaa", sum := "a8d970b0d60b24a7e34ceee4f3635ebdc0a941af01a4e8ed681ebf2c9e2be6f9", func := "privatefetch/privatefetchlaw06.SolveSquare", spec := "solveSquare", unfollowed := true, recurses := true, apart := false, narrowed := true }
def SolveSquareUptoSaid : Prop := solveSquareUptoRow.holds Try.pinned (OpenSpec.upto solveSquareSpec)

/-- 'privatefetchlaw06.SolveFinds', WHERE WHAT IT READS IS OF BULK AT MOST 1048576: true; the input reads as it did. -/
def solveFindsUptoRow : OpenClaim := { program := "yteipcjmkhacdgaa", sum := "a8d970b0d60b24a7e34ceee4f3635ebdc0a941af01a4e8ed681ebf2c9e2be6f9", func := "privatefetch/privatefetchlaw06.SolveFinds", spec := "solveFinds", unfollowed := true, recurses := true, apart := false, narrowed := true }
def SolveFindsUptoSaid : Prop := solveFindsUptoRow.holds Try.pinned (OpenSpec.upto solveFindsSpec)

/-- 'privatefetchlaw06.SolveDoes', WHERE WHAT IT READS IS OF BULK AT MOST 1048576: true; the input reads as it did. -/
def solveDoesUptoRow : OpenClaim := { program := "yteipcjmkhacdgaa", sum := "a8d970b0d60b24a7e34ceee4f3635ebdc0a941af01a4e8ed681ebf2c9e2be6f9", func := "privatefetch/privatefetchlaw06.SolveDoes", spec := "solveDoes", unfollowed := true, recurses := true, apart := false, narrowed := true }
def SolveDoesUptoSaid : Prop := solveDoesUptoRow.holds Try.pinned (OpenSpec.upto solveDoesSpec)

/-- 'privatefetchlaw06.SolveCounts', WHERE WHAT IT READS IS OF BULK AT MOST 1048576: true; the input reads as it did. -/
def solveCountsUptoRow : OpenClaim := { program := "yteipcjmkhacdgaa", sum := "a8d970b0d60b24a7e34ceee4f3635ebdc0a941af01a4e8ed681ebf2c9e2be6f9", func := "privatefetch/privatefetchlaw06.SolveCounts", spec := "solveCounts", unfollowed := true, recurses := true, apart := false, narrowed := true }
def SolveCountsUptoSaid : Prop := solveCountsUptoRow.holds Try.pinned (OpenSpec.upto solveCountsSpec)

end Rows
end Go.Proofs.Yteipcjmkhacdgaa
