/-
  No cell of these rows narrows 'for every input' (looked for: loops, veiled, ifaces, maps, wideKeys, modest, calm, conditions, laid).
  DERIVED. THE GIVEN ROWS OF THIS SEAT. 12 by the template 'for every input the law returns true; each argument reads behind the call as it read before'; 0 by the template 'total and deterministic' (their statements: YtoblofilaegnaaaTotals.lean).
  GIVEN WITH THE SEED: the statements are not yours to turn. If you find one false, say at which input.
  Laid BY PROGRAM, IN A SANDBOX (cutbox-rows.mjs): the forced cells as the released guide's own fill.sh prints them over the translation ba35b4b7fb739057… (all of the seat's roots in one cut). By AI agents, Wed Nov 11 2026. No macro, syntax, notation, axiom, sorry.
-/
import Derived.Test.YtoblofilaegnaaaChecked
import GoSem.Claim
import GoSem.ClaimJoined
import GoSem.ClaimMapViews
import Derived.JoinedTies
import Derived.KernelRfl
namespace Go.Proofs.Ytoblofilaegnaaa
/- THE CELL 'sum', in the pinned program and in every row, IS THE sha256 OF THE DUMP (.gsa) THAT YtoblofilaegnaaaProg.lean LOADS. Nothing in Lean hashes anything: it is a label: what it is worth is what the hold of that sum in a sandbox is worth. -/
noncomputable def Try.pinned : Pinned := { name := "ytoblofilaegnaaa", sum := "ba35b4b7fb73905780fa663e49885b310e432cc8c7c0e2bcec858c0e9fd6c578", checked := Try.checked }
namespace Rows
def none {H : Type} : Left H := { results := [], args := [] }

/-- 'privatefetchlaw04.VectorDoes': WHATEVER THE INPUT: true; the input reads as it did. -/
def vectorDoesSpec : ChangeSpec := { name := "vectorDoes", fn := fun _ => fun
  | [d1, d2, d3, d4, d5, d6, d7, d8] => { results := [.lit (.bool true)], args := [d1, d2, d3, d4, d5, d6, d7, d8] }
  | _ => none }
def vectorDoesRow : OpenClaim := { program := "ytoblofilaegnaaa", sum := "ba35b4b7fb73905780fa663e49885b310e432cc8c7c0e2bcec858c0e9fd6c578", func := "privatefetch/privatefetchlaw04.VectorDoes", spec := "vectorDoes", unfollowed := true, recurses := true, apart := false }
def VectorDoesSaid : Prop := vectorDoesRow.holds Try.pinned (OpenSpec.ofChange vectorDoesSpec)

/-- ITS FALSE NEIGHBOUR: 'it returns false'. Refute it at one input. -/
def vectorDoesWrong : ChangeSpec := { name := "vectorDoes", fn := fun _ => fun
  | [d1, d2, d3, d4, d5, d6, d7, d8] => { results := [.lit (.bool false)], args := [d1, d2, d3, d4, d5, d6, d7, d8] }
  | _ => none }
def VectorDoesWrongFalsely : Prop := vectorDoesRow.holds Try.pinned (OpenSpec.ofChange vectorDoesWrong)

/-- 'privatefetchlaw05.PolyDoes': WHATEVER THE INPUT: true; the input reads as it did. -/
def polyDoesSpec : ChangeSpec := { name := "polyDoes", fn := fun _ => fun
  | [d1, d2, d3, d4, d5, d6] => { results := [.lit (.bool true)], args := [d1, d2, d3, d4, d5, d6] }
  | _ => none }
def polyDoesRow : OpenClaim := { program := "ytoblofilaegnaaa", sum := "ba35b4b7fb73905780fa663e49885b310e432cc8c7c0e2bcec858c0e9fd6c578", func := "privatefetch/privatefetchlaw05.PolyDoes", spec := "polyDoes", unfollowed := true, recurses := true, apart := false }
def PolyDoesSaid : Prop := polyDoesRow.holds Try.pinned (OpenSpec.ofChange polyDoesSpec)

/-- ITS FALSE NEIGHBOUR: 'it returns false'. Refute it at one input. -/
def polyDoesWrong : ChangeSpec := { name := "polyDoes", fn := fun _ => fun
  | [d1, d2, d3, d4, d5, d6] => { results := [.lit (.bool false)], args := [d1, d2, d3, d4, d5, d6] }
  | _ => none }
def PolyDoesWrongFalsely : Prop := polyDoesRow.holds Try.pinned (OpenSpec.ofChange polyDoesWrong)

/-- 'privatefetchlaw07.ShareDoes': WHATEVER THE INPUT: true; the input reads as it did. -/
def shareDoesSpec : ChangeSpec := { name := "shareDoes", fn := fun _ => fun
  | [d1, d2, d3, d4, d5, d6, d7, d8] => { results := [.lit (.bool true)], args := [d1, d2, d3, d4, d5, d6, d7, d8] }
  | _ => none }
def shareDoesRow : OpenClaim := { program := "ytoblofilaegnaaa", sum := "ba35b4b7fb73905780fa663e49885b310e432cc8c7c0e2bcec858c0e9fd6c578", func := "privatefetch/privatefetchlaw07.ShareDoes", spec := "shareDoes", unfollowed := true, recurses := true, apart := false }
def ShareDoesSaid : Prop := shareDoesRow.holds Try.pinned (OpenSpec.ofChange shareDoesSpec)

/-- ITS FALSE NEIGHBOUR: 'it returns false'. Refute it at one input. -/
def shareDoesWrong : ChangeSpec := { name := "shareDoes", fn := fun _ => fun
  | [d1, d2, d3, d4, d5, d6, d7, d8] => { results := [.lit (.bool false)], args := [d1, d2, d3, d4, d5, d6, d7, d8] }
  | _ => none }
def ShareDoesWrongFalsely : Prop := shareDoesRow.holds Try.pinned (OpenSpec.ofChange shareDoesWrong)

/-- 'privatefetchlaw07.ShareChanges': WHATEVER THE INPUT: true; the input reads as it did. -/
def shareChangesSpec : ChangeSpec := { name := "shareChanges", fn := fun _ => fun
  | [d1, d2, d3] => { results := [.lit (.bool true)], args := [d1, d2, d3] }
  | _ => none }
def shareChangesRow : OpenClaim := { program := "ytoblofilaegnaaa", sum := "ba35b4b7fb73905780fa663e49885b310e432cc8c7c0e2bcec858c0e9fd6c578", func := "privatefetch/privatefetchlaw07.ShareChanges", spec := "shareChanges", unfollowed := true, recurses := true, apart := false }
def ShareChangesSaid : Prop := shareChangesRow.holds Try.pinned (OpenSpec.ofChange shareChangesSpec)

/-- ITS FALSE NEIGHBOUR: 'it returns false'. Refute it at one input. -/
def shareChangesWrong : ChangeSpec := { name := "shareChanges", fn := fun _ => fun
  | [d1, d2, d3] => { results := [.lit (.bool false)], args := [d1, d2, d3] }
  | _ => none }
def ShareChangesWrongFalsely : Prop := shareChangesRow.holds Try.pinned (OpenSpec.ofChange shareChangesWrong)

/-- 'privatefetchlaw08.CodeDoes': WHATEVER THE INPUT: true; the input reads as it did. -/
def codeDoesSpec : ChangeSpec := { name := "codeDoes", fn := fun _ => fun
  | [d1, d2, d3, d4, d5, d6] => { results := [.lit (.bool true)], args := [d1, d2, d3, d4, d5, d6] }
  | _ => none }
def codeDoesRow : OpenClaim := { program := "ytoblofilaegnaaa", sum := "ba35b4b7fb73905780fa663e49885b310e432cc8c7c0e2bcec858c0e9fd6c578", func := "privatefetch/privatefetchlaw08.CodeDoes", spec := "codeDoes", unfollowed := true, recurses := true, apart := false }
def CodeDoesSaid : Prop := codeDoesRow.holds Try.pinned (OpenSpec.ofChange codeDoesSpec)

/-- ITS FALSE NEIGHBOUR: 'it returns false'. Refute it at one input. -/
def codeDoesWrong : ChangeSpec := { name := "codeDoes", fn := fun _ => fun
  | [d1, d2, d3, d4, d5, d6] => { results := [.lit (.bool false)], args := [d1, d2, d3, d4, d5, d6] }
  | _ => none }
def CodeDoesWrongFalsely : Prop := codeDoesRow.holds Try.pinned (OpenSpec.ofChange codeDoesWrong)

/-- 'privatefetchlaw08.CodeFills': WHATEVER THE INPUT: true; the input reads as it did. -/
def codeFillsSpec : ChangeSpec := { name := "codeFills", fn := fun _ => fun
  | [d] => { results := [.lit (.bool true)], args := [d] }
  | _ => none }
def codeFillsRow : OpenClaim := { program := "ytoblofilaegnaaa", sum := "ba35b4b7fb73905780fa663e49885b310e432cc8c7c0e2bcec858c0e9fd6c578", func := "privatefetch/privatefetchlaw08.CodeFills", spec := "codeFills", unfollowed := true, recurses := true, apart := false }
def CodeFillsSaid : Prop := codeFillsRow.holds Try.pinned (OpenSpec.ofChange codeFillsSpec)

/-- ITS FALSE NEIGHBOUR: 'it returns false'. Refute it at one input. -/
def codeFillsWrong : ChangeSpec := { name := "codeFills", fn := fun _ => fun
  | [d] => { results := [.lit (.bool false)], args := [d] }
  | _ => none }
def CodeFillsWrongFalsely : Prop := codeFillsRow.holds Try.pinned (OpenSpec.ofChange codeFillsWrong)

/-- 'privatefetchlaw16.ParityDoes': WHATEVER THE INPUT: true; the input reads as it did. -/
def parityDoesSpec : ChangeSpec := { name := "parityDoes", fn := fun _ => fun
  | [d1, d2, d3, d4, d5, d6, d7, d8, d9] => { results := [.lit (.bool true)], args := [d1, d2, d3, d4, d5, d6, d7, d8, d9] }
  | _ => none }
def parityDoesRow : OpenClaim := { program := "ytoblofilaegnaaa", sum := "ba35b4b7fb73905780fa663e49885b310e432cc8c7c0e2bcec858c0e9fd6c578", func := "privatefetch/privatefetchlaw16.ParityDoes", spec := "parityDoes", unfollowed := true, recurses := true, apart := false }
def ParityDoesSaid : Prop := parityDoesRow.holds Try.pinned (OpenSpec.ofChange parityDoesSpec)

/-- ITS FALSE NEIGHBOUR: 'it returns false'. Refute it at one input. -/
def parityDoesWrong : ChangeSpec := { name := "parityDoes", fn := fun _ => fun
  | [d1, d2, d3, d4, d5, d6, d7, d8, d9] => { results := [.lit (.bool false)], args := [d1, d2, d3, d4, d5, d6, d7, d8, d9] }
  | _ => none }
def ParityDoesWrongFalsely : Prop := parityDoesRow.holds Try.pinned (OpenSpec.ofChange parityDoesWrong)

/-- 'privatefetchlaw16.ParityReads': WHATEVER THE INPUT: true; the input reads as it did. -/
def parityReadsSpec : ChangeSpec := { name := "parityReads", fn := fun _ => fun
  | [d1, d2] => { results := [.lit (.bool true)], args := [d1, d2] }
  | _ => none }
def parityReadsRow : OpenClaim := { program := "ytoblofilaegnaaa", sum := "ba35b4b7fb73905780fa663e49885b310e432cc8c7c0e2bcec858c0e9fd6c578", func := "privatefetch/privatefetchlaw16.ParityReads", spec := "parityReads", unfollowed := true, recurses := true, apart := false }
def ParityReadsSaid : Prop := parityReadsRow.holds Try.pinned (OpenSpec.ofChange parityReadsSpec)

/-- ITS FALSE NEIGHBOUR: 'it returns false'. Refute it at one input. -/
def parityReadsWrong : ChangeSpec := { name := "parityReads", fn := fun _ => fun
  | [d1, d2] => { results := [.lit (.bool false)], args := [d1, d2] }
  | _ => none }
def ParityReadsWrongFalsely : Prop := parityReadsRow.holds Try.pinned (OpenSpec.ofChange parityReadsWrong)

/-- 'privatefetchlaw06.SolveDoes': WHATEVER THE INPUT: true; the input reads as it did. -/
def solveDoesSpec : ChangeSpec := { name := "solveDoes", fn := fun _ => fun
  | [d1, d2, d3] => { results := [.lit (.bool true)], args := [d1, d2, d3] }
  | _ => none }
def solveDoesRow : OpenClaim := { program := "ytoblofilaegnaaa", sum := "ba35b4b7fb73905780fa663e49885b310e432cc8c7c0e2bcec858c0e9fd6c578", func := "privatefetch/privatefetchlaw06.SolveDoes", spec := "solveDoes", unfollowed := true, recurses := true, apart := false }
def SolveDoesSaid : Prop := solveDoesRow.holds Try.pinned (OpenSpec.ofChange solveDoesSpec)

/-- ITS FALSE NEIGHBOUR: 'it returns false'. Refute it at one input. -/
def solveDoesWrong : ChangeSpec := { name := "solveDoes", fn := fun _ => fun
  | [d1, d2, d3] => { results := [.lit (.bool false)], args := [d1, d2, d3] }
  | _ => none }
def SolveDoesWrongFalsely : Prop := solveDoesRow.holds Try.pinned (OpenSpec.ofChange solveDoesWrong)

/-- 'privatefetchlaw06.SolveScales': WHATEVER THE INPUT: true; the input reads as it did. -/
def solveScalesSpec : ChangeSpec := { name := "solveScales", fn := fun _ => fun
  | [d] => { results := [.lit (.bool true)], args := [d] }
  | _ => none }
def solveScalesRow : OpenClaim := { program := "ytoblofilaegnaaa", sum := "ba35b4b7fb73905780fa663e49885b310e432cc8c7c0e2bcec858c0e9fd6c578", func := "privatefetch/privatefetchlaw06.SolveScales", spec := "solveScales", unfollowed := true, recurses := true, apart := false }
def SolveScalesSaid : Prop := solveScalesRow.holds Try.pinned (OpenSpec.ofChange solveScalesSpec)

/-- ITS FALSE NEIGHBOUR: 'it returns false'. Refute it at one input. -/
def solveScalesWrong : ChangeSpec := { name := "solveScales", fn := fun _ => fun
  | [d] => { results := [.lit (.bool false)], args := [d] }
  | _ => none }
def SolveScalesWrongFalsely : Prop := solveScalesRow.holds Try.pinned (OpenSpec.ofChange solveScalesWrong)

/-- 'privatefetchlaw06.SolveSquare': WHATEVER THE INPUT: true; the input reads as it did. -/
def solveSquareSpec : ChangeSpec := { name := "solveSquare", fn := fun _ => fun
  | [d1, d2] => { results := [.lit (.bool true)], args := [d1, d2] }
  | _ => none }
def solveSquareRow : OpenClaim := { program := "ytoblofilaegnaaa", sum := "ba35b4b7fb73905780fa663e49885b310e432cc8c7c0e2bcec858c0e9fd6c578", func := "privatefetch/privatefetchlaw06.SolveSquare", spec := "solveSquare", unfollowed := true, recurses := true, apart := false }
def SolveSquareSaid : Prop := solveSquareRow.holds Try.pinned (OpenSpec.ofChange solveSquareSpec)

/-- ITS FALSE NEIGHBOUR: 'it returns false'. Refute it at one input. -/
def solveSquareWrong : ChangeSpec := { name := "solveSquare", fn := fun _ => fun
  | [d1, d2] => { results := [.lit (.bool false)], args := [d1, d2] }
  | _ => none }
def SolveSquareWrongFalsely : Prop := solveSquareRow.holds Try.pinned (OpenSpec.ofChange solveSquareWrong)

/-- 'privatefetchlaw02.TapeDraws': WHATEVER THE INPUT: true; the input reads as it did. -/
def tapeDrawsSpec : ChangeSpec := { name := "tapeDraws", fn := fun _ => fun
  | [d1, d2, d3, d4] => { results := [.lit (.bool true)], args := [d1, d2, d3, d4] }
  | _ => none }
def tapeDrawsRow : OpenClaim := { program := "ytoblofilaegnaaa", sum := "ba35b4b7fb73905780fa663e49885b310e432cc8c7c0e2bcec858c0e9fd6c578", func := "privatefetch/privatefetchlaw02.TapeDraws", spec := "tapeDraws", unfollowed := true, recurses := true, apart := false }
def TapeDrawsSaid : Prop := tapeDrawsRow.holds Try.pinned (OpenSpec.ofChange tapeDrawsSpec)

/-- ITS FALSE NEIGHBOUR: 'it returns false'. Refute it at one input. -/
def tapeDrawsWrong : ChangeSpec := { name := "tapeDraws", fn := fun _ => fun
  | [d1, d2, d3, d4] => { results := [.lit (.bool false)], args := [d1, d2, d3, d4] }
  | _ => none }
def TapeDrawsWrongFalsely : Prop := tapeDrawsRow.holds Try.pinned (OpenSpec.ofChange tapeDrawsWrong)

/- THE SECOND FORM. 'bulk': how many values and letters a reading holds, each counted each time it is reached (what is shared counts as often as it is met; a slice's spare places count too). A statement '..UptoSaid' is the law's where the arguments, and the package variables that the reading takes, are together of bulk at most 1048576: NARROWER than '..Said'. Prove '..Said' where nothing that the law and all that it calls make is longer than what came in: it says more and counts as full. Else prove '..UptoSaid'. A law counts once. -/
mutual
def uptoBulk {H : Type} : DataW H → Nat
  | .lit (.string bytes) => bytes.length + 1
  | .lit _ => 1
  | .nil => 1
  | .ptr d => uptoBulk d + 1
  | .slice elems spare => uptoBulkAll elems + uptoBulkAll spare + 1
  | .agg parts => uptoBulkAll parts + 1
  | .iface _ d => uptoBulk d + 1
  | .map entries => uptoBulkEntries entries + 1
  | .held _ => 1
def uptoBulkAll {H : Type} : List (DataW H) → Nat
  | [] => 0
  | d :: r => uptoBulk d + uptoBulkAll r
def uptoBulkEntries {H : Type} : List (Lit × DataW H) → Nat
  | [] => 0
  | x :: r => uptoBulkEntry x + uptoBulkEntries r
def uptoBulkEntry {H : Type} : Lit × DataW H → Nat
  | (.string bytes, d) => bytes.length + uptoBulk d + 1
  | (_, d) => uptoBulk d + 1
 end
def uptoSmall : (H : Type) → List (DataW H) → Bool := fun _ ds => decide (uptoBulkAll ds ≤ 1048576)
def OpenSpec.upto (s : _root_.Go.ChangeSpec) : _root_.Go.OpenSpec := { _root_.Go.OpenSpec.ofChange s with cond := some uptoSmall }

/-- 'privatefetchlaw04.VectorDoes', WHERE WHAT IT READS IS OF BULK AT MOST 1048576: true; the input reads as it did. -/
def vectorDoesUptoRow : OpenClaim := { program := "ytoblofilaegnaaa", sum := "ba35b4b7fb73905780fa663e49885b310e432cc8c7c0e2bcec858c0e9fd6c578", func := "privatefetch/privatefetchlaw04.VectorDoes", spec := "vectorDoes", unfollowed := true, recurses := true, apart := false, narrowed := true }
def VectorDoesUptoSaid : Prop := vectorDoesUptoRow.holds Try.pinned (OpenSpec.upto vectorDoesSpec)

/-- 'privatefetchlaw05.PolyDoes', WHERE WHAT IT READS IS OF BULK AT MOST 1048576: true; the input reads as it did. -/
def polyDoesUptoRow : OpenClaim := { program := "ytoblofilaegnaaa", sum := "ba35b4b7fb73905780fa663e49885b310e432cc8c7c0e2bcec858c0e9fd6c578", func := "privatefetch/privatefetchlaw05.PolyDoes", spec := "polyDoes", unfollowed := true, recurses := true, apart := false, narrowed := true }
def PolyDoesUptoSaid : Prop := polyDoesUptoRow.holds Try.pinned (OpenSpec.upto polyDoesSpec)

/-- 'privatefetchlaw07.ShareDoes', WHERE WHAT IT READS IS OF BULK AT MOST 1048576: true; the input reads as it did. -/
def shareDoesUptoRow : OpenClaim := { program := "ytoblofilaegnaaa", sum := "ba35b4b7fb73905780fa663e49885b310e432cc8c7c0e2bcec858c0e9fd6c578", func := "privatefetch/privatefetchlaw07.ShareDoes", spec := "shareDoes", unfollowed := true, recurses := true, apart := false, narrowed := true }
def ShareDoesUptoSaid : Prop := shareDoesUptoRow.holds Try.pinned (OpenSpec.upto shareDoesSpec)

/-- 'privatefetchlaw07.ShareChanges', WHERE WHAT IT READS IS OF BULK AT MOST 1048576: true; the input reads as it did. -/
def shareChangesUptoRow : OpenClaim := { program := "ytoblofilaegnaaa", sum := "ba35b4b7fb73905780fa663e49885b310e432cc8c7c0e2bcec858c0e9fd6c578", func := "privatefetch/privatefetchlaw07.ShareChanges", spec := "shareChanges", unfollowed := true, recurses := true, apart := false, narrowed := true }
def ShareChangesUptoSaid : Prop := shareChangesUptoRow.holds Try.pinned (OpenSpec.upto shareChangesSpec)

/-- 'privatefetchlaw08.CodeDoes', WHERE WHAT IT READS IS OF BULK AT MOST 1048576: true; the input reads as it did. -/
def codeDoesUptoRow : OpenClaim := { program := "ytoblofilaegnaaa", sum := "ba35b4b7fb73905780fa663e49885b310e432cc8c7c0e2bcec858c0e9fd6c578", func := "privatefetch/privatefetchlaw08.CodeDoes", spec := "codeDoes", unfollowed := true, recurses := true, apart := false, narrowed := true }
def CodeDoesUptoSaid : Prop := codeDoesUptoRow.holds Try.pinned (OpenSpec.upto codeDoesSpec)

/-- 'privatefetchlaw08.CodeFills', WHERE WHAT IT READS IS OF BULK AT MOST 1048576: true; the input reads as it did. -/
def codeFillsUptoRow : OpenClaim := { program := "ytoblofilaegnaaa", sum := "ba35b4b7fb73905780fa663e49885b310e432cc8c7c0e2bcec858c0e9fd6c578", func := "privatefetch/privatefetchlaw08.CodeFills", spec := "codeFills", unfollowed := true, recurses := true, apart := false, narrowed := true }
def CodeFillsUptoSaid : Prop := codeFillsUptoRow.holds Try.pinned (OpenSpec.upto codeFillsSpec)

/-- 'privatefetchlaw16.ParityDoes', WHERE WHAT IT READS IS OF BULK AT MOST 1048576: true; the input reads as it did. -/
def parityDoesUptoRow : OpenClaim := { program := "ytoblofilaegnaaa", sum := "ba35b4b7fb73905780fa663e49885b310e432cc8c7c0e2bcec858c0e9fd6c578", func := "privatefetch/privatefetchlaw16.ParityDoes", spec := "parityDoes", unfollowed := true, recurses := true, apart := false, narrowed := true }
def ParityDoesUptoSaid : Prop := parityDoesUptoRow.holds Try.pinned (OpenSpec.upto parityDoesSpec)

/-- 'privatefetchlaw16.ParityReads', WHERE WHAT IT READS IS OF BULK AT MOST 1048576: true; the input reads as it did. -/
def parityReadsUptoRow : OpenClaim := { program := "ytoblofilaegnaaa", sum := "ba35b4b7fb73905780fa663e49885b310e432cc8c7c0e2bcec858c0e9fd6c578", func := "privatefetch/privatefetchlaw16.ParityReads", spec := "parityReads", unfollowed := true, recurses := true, apart := false, narrowed := true }
def ParityReadsUptoSaid : Prop := parityReadsUptoRow.holds Try.pinned (OpenSpec.upto parityReadsSpec)

/-- 'privatefetchlaw06.SolveDoes', WHERE WHAT IT READS IS OF BULK AT MOST 1048576: true; the input reads as it did. -/
def solveDoesUptoRow : OpenClaim := { program := "ytoblofilaegnaaa", sum := "ba35b4b7fb73905780fa663e49885b310e432cc8c7c0e2bcec858c0e9fd6c578", func := "privatefetch/privatefetchlaw06.SolveDoes", spec := "solveDoes", unfollowed := true, recurses := true, apart := false, narrowed := true }
def SolveDoesUptoSaid : Prop := solveDoesUptoRow.holds Try.pinned (OpenSpec.upto solveDoesSpec)

/-- 'privatefetchlaw06.SolveScales', WHERE WHAT IT READS IS OF BULK AT MOST 1048576: true; the input reads as it did. -/
def solveScalesUptoRow : OpenClaim := { program := "ytoblofilaegnaaa", sum := "ba35b4b7fb73905780fa663e49885b310e432cc8c7c0e2bcec858c0e9fd6c578", func := "privatefetch/privatefetchlaw06.SolveScales", spec := "solveScales", unfollowed := true, recurses := true, apart := false, narrowed := true }
def SolveScalesUptoSaid : Prop := solveScalesUptoRow.holds Try.pinned (OpenSpec.upto solveScalesSpec)

/-- 'privatefetchlaw06.SolveSquare', WHERE WHAT IT READS IS OF BULK AT MOST 1048576: true; the input reads as it did. -/
def solveSquareUptoRow : OpenClaim := { program := "ytoblofilaegnaaa", sum := "ba35b4b7fb73905780fa663e49885b310e432cc8c7c0e2bcec858c0e9fd6c578", func := "privatefetch/privatefetchlaw06.SolveSquare", spec := "solveSquare", unfollowed := true, recurses := true, apart := false, narrowed := true }
def SolveSquareUptoSaid : Prop := solveSquareUptoRow.holds Try.pinned (OpenSpec.upto solveSquareSpec)

/-- 'privatefetchlaw02.TapeDraws', WHERE WHAT IT READS IS OF BULK AT MOST 1048576: true; the input reads as it did. -/
def tapeDrawsUptoRow : OpenClaim := { program := "ytoblofilaegnaaa", sum := "ba35b4b7fb73905780fa663e49885b310e432cc8c7c0e2bcec858c0e9fd6c578", func := "privatefetch/privatefetchlaw02.TapeDraws", spec := "tapeDraws", unfollowed := true, recurses := true, apart := false, narrowed := true }
def TapeDrawsUptoSaid : Prop := tapeDrawsUptoRow.holds Try.pinned (OpenSpec.upto tapeDrawsSpec)

end Rows
end Go.Proofs.Ytoblofilaegnaaa
