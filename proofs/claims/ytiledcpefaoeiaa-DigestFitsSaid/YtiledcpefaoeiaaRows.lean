/-
  No cell of these rows narrows 'for every input' (looked for: loops, veiled, ifaces, maps, wideKeys, modest, calm, conditions, laid).
  DERIVED. THE GIVEN ROWS OF THIS SEAT. 10 by the template 'for every input the law returns true; each argument reads behind the call as it read before'; 0 by the template 'total and deterministic' (their statements: YtiledcpefaoeiaaTotals.lean).
  GIVEN WITH THE SEED: the statements are not yours to turn. If you find one false, say at which input.
  Laid BY PROGRAM, IN A SANDBOX (cutbox-rows.mjs): the forced cells as the released guide's own fill.sh prints them over the translation 596ae821ed744c76… (all of the seat's roots in one cut). By AI agents, Wed Nov 11 2026. No macro, syntax, notation, axiom, sorry.
-/
import Derived.Test.YtiledcpefaoeiaaChecked
import GoSem.Claim
import GoSem.ClaimJoined
import GoSem.ClaimMapViews
import Derived.JoinedTies
import Derived.KernelRfl
namespace Go.Proofs.Ytiledcpefaoeiaa
/- THE CELL 'sum', in the pinned program and in every row, IS THE sha256 OF THE DUMP (.gsa) THAT YtiledcpefaoeiaaProg.lean LOADS. Nothing in Lean hashes anything: it is a label: what it is worth is what the hold of that sum in a sandbox is worth. -/
noncomputable def Try.pinned : Pinned := { name := "ytiledcpefaoeiaa", sum := "596ae821ed744c76bc6df16f9b46c669713576f43d5022b6204788738a6f0620", checked := Try.checked }
namespace Rows
def none {H : Type} : Left H := { results := [], args := [] }

/-- 'privatefetchlaw11.DigestRows': WHATEVER THE INPUT: true; the input reads as it did. -/
def digestRowsSpec : ChangeSpec := { name := "digestRows", fn := fun _ => fun
  | [d1, d2, d3, d4, d5, d6] => { results := [.lit (.bool true)], args := [d1, d2, d3, d4, d5, d6] }
  | _ => none }
def digestRowsRow : OpenClaim := { program := "ytiledcpefaoeiaa", sum := "596ae821ed744c76bc6df16f9b46c669713576f43d5022b6204788738a6f0620", func := "privatefetch/privatefetchlaw11.DigestRows", spec := "digestRows", apart := false }
def DigestRowsSaid : Prop := digestRowsRow.holds Try.pinned (OpenSpec.ofChange digestRowsSpec)

/-- ITS FALSE NEIGHBOUR: 'it returns false'. Refute it at one input. -/
def digestRowsWrong : ChangeSpec := { name := "digestRows", fn := fun _ => fun
  | [d1, d2, d3, d4, d5, d6] => { results := [.lit (.bool false)], args := [d1, d2, d3, d4, d5, d6] }
  | _ => none }
def DigestRowsWrongFalsely : Prop := digestRowsRow.holds Try.pinned (OpenSpec.ofChange digestRowsWrong)

/-- 'privatefetchlaw11.DigestTexts': WHATEVER THE INPUT: true; the input reads as it did. -/
def digestTextsSpec : ChangeSpec := { name := "digestTexts", fn := fun _ => fun
  | [d1, d2, d3, d4] => { results := [.lit (.bool true)], args := [d1, d2, d3, d4] }
  | _ => none }
def digestTextsRow : OpenClaim := { program := "ytiledcpefaoeiaa", sum := "596ae821ed744c76bc6df16f9b46c669713576f43d5022b6204788738a6f0620", func := "privatefetch/privatefetchlaw11.DigestTexts", spec := "digestTexts", apart := false }
def DigestTextsSaid : Prop := digestTextsRow.holds Try.pinned (OpenSpec.ofChange digestTextsSpec)

/-- ITS FALSE NEIGHBOUR: 'it returns false'. Refute it at one input. -/
def digestTextsWrong : ChangeSpec := { name := "digestTexts", fn := fun _ => fun
  | [d1, d2, d3, d4] => { results := [.lit (.bool false)], args := [d1, d2, d3, d4] }
  | _ => none }
def DigestTextsWrongFalsely : Prop := digestTextsRow.holds Try.pinned (OpenSpec.ofChange digestTextsWrong)

/-- 'privatefetchlaw11.DigestLines': WHATEVER THE INPUT: true; the input reads as it did. -/
def digestLinesSpec : ChangeSpec := { name := "digestLines", fn := fun _ => fun
  | [d] => { results := [.lit (.bool true)], args := [d] }
  | _ => none }
def digestLinesRow : OpenClaim := { program := "ytiledcpefaoeiaa", sum := "596ae821ed744c76bc6df16f9b46c669713576f43d5022b6204788738a6f0620", func := "privatefetch/privatefetchlaw11.DigestLines", spec := "digestLines", unfollowed := true, recurses := true, apart := false }
def DigestLinesSaid : Prop := digestLinesRow.holds Try.pinned (OpenSpec.ofChange digestLinesSpec)

/-- ITS FALSE NEIGHBOUR: 'it returns false'. Refute it at one input. -/
def digestLinesWrong : ChangeSpec := { name := "digestLines", fn := fun _ => fun
  | [d] => { results := [.lit (.bool false)], args := [d] }
  | _ => none }
def DigestLinesWrongFalsely : Prop := digestLinesRow.holds Try.pinned (OpenSpec.ofChange digestLinesWrong)

/-- 'privatefetchlaw11.DigestFits': WHATEVER THE INPUT: true; the input reads as it did. -/
def digestFitsSpec : ChangeSpec := { name := "digestFits", fn := fun _ => fun
  | [d1, d2] => { results := [.lit (.bool true)], args := [d1, d2] }
  | _ => none }
def digestFitsRow : OpenClaim := { program := "ytiledcpefaoeiaa", sum := "596ae821ed744c76bc6df16f9b46c669713576f43d5022b6204788738a6f0620", func := "privatefetch/privatefetchlaw11.DigestFits", spec := "digestFits", unfollowed := true, recurses := true, apart := false }
def DigestFitsSaid : Prop := digestFitsRow.holds Try.pinned (OpenSpec.ofChange digestFitsSpec)

/-- ITS FALSE NEIGHBOUR: 'it returns false'. Refute it at one input. -/
def digestFitsWrong : ChangeSpec := { name := "digestFits", fn := fun _ => fun
  | [d1, d2] => { results := [.lit (.bool false)], args := [d1, d2] }
  | _ => none }
def DigestFitsWrongFalsely : Prop := digestFitsRow.holds Try.pinned (OpenSpec.ofChange digestFitsWrong)

/-- 'privatefetchlaw11.DigestDoes': WHATEVER THE INPUT: true; the input reads as it did. -/
def digestDoesSpec : ChangeSpec := { name := "digestDoes", fn := fun _ => fun
  | [d1, d2, d3, d4, d5, d6, d7, d8, d9, d10] => { results := [.lit (.bool true)], args := [d1, d2, d3, d4, d5, d6, d7, d8, d9, d10] }
  | _ => none }
def digestDoesRow : OpenClaim := { program := "ytiledcpefaoeiaa", sum := "596ae821ed744c76bc6df16f9b46c669713576f43d5022b6204788738a6f0620", func := "privatefetch/privatefetchlaw11.DigestDoes", spec := "digestDoes", unfollowed := true, recurses := true, apart := false }
def DigestDoesSaid : Prop := digestDoesRow.holds Try.pinned (OpenSpec.ofChange digestDoesSpec)

/-- ITS FALSE NEIGHBOUR: 'it returns false'. Refute it at one input. -/
def digestDoesWrong : ChangeSpec := { name := "digestDoes", fn := fun _ => fun
  | [d1, d2, d3, d4, d5, d6, d7, d8, d9, d10] => { results := [.lit (.bool false)], args := [d1, d2, d3, d4, d5, d6, d7, d8, d9, d10] }
  | _ => none }
def DigestDoesWrongFalsely : Prop := digestDoesRow.holds Try.pinned (OpenSpec.ofChange digestDoesWrong)

/-- 'privatefetchlaw04.VectorMoves': WHATEVER THE INPUT: true; the input reads as it did. -/
def vectorMovesSpec : ChangeSpec := { name := "vectorMoves", fn := fun _ => fun
  | [d] => { results := [.lit (.bool true)], args := [d] }
  | _ => none }
def vectorMovesRow : OpenClaim := { program := "ytiledcpefaoeiaa", sum := "596ae821ed744c76bc6df16f9b46c669713576f43d5022b6204788738a6f0620", func := "privatefetch/privatefetchlaw04.VectorMoves", spec := "vectorMoves", unfollowed := true, recurses := true, apart := false }
def VectorMovesSaid : Prop := vectorMovesRow.holds Try.pinned (OpenSpec.ofChange vectorMovesSpec)

/-- ITS FALSE NEIGHBOUR: 'it returns false'. Refute it at one input. -/
def vectorMovesWrong : ChangeSpec := { name := "vectorMoves", fn := fun _ => fun
  | [d] => { results := [.lit (.bool false)], args := [d] }
  | _ => none }
def VectorMovesWrongFalsely : Prop := vectorMovesRow.holds Try.pinned (OpenSpec.ofChange vectorMovesWrong)

/-- 'privatefetchlaw04.VectorColumns': WHATEVER THE INPUT: true; the input reads as it did. -/
def vectorColumnsSpec : ChangeSpec := { name := "vectorColumns", fn := fun _ => fun
  | [d] => { results := [.lit (.bool true)], args := [d] }
  | _ => none }
def vectorColumnsRow : OpenClaim := { program := "ytiledcpefaoeiaa", sum := "596ae821ed744c76bc6df16f9b46c669713576f43d5022b6204788738a6f0620", func := "privatefetch/privatefetchlaw04.VectorColumns", spec := "vectorColumns", unfollowed := true, recurses := true, apart := false }
def VectorColumnsSaid : Prop := vectorColumnsRow.holds Try.pinned (OpenSpec.ofChange vectorColumnsSpec)

/-- ITS FALSE NEIGHBOUR: 'it returns false'. Refute it at one input. -/
def vectorColumnsWrong : ChangeSpec := { name := "vectorColumns", fn := fun _ => fun
  | [d] => { results := [.lit (.bool false)], args := [d] }
  | _ => none }
def VectorColumnsWrongFalsely : Prop := vectorColumnsRow.holds Try.pinned (OpenSpec.ofChange vectorColumnsWrong)

/-- 'privatefetchlaw04.VectorUnits': WHATEVER THE INPUT: true; the input reads as it did. -/
def vectorUnitsSpec : ChangeSpec := { name := "vectorUnits", fn := fun _ => fun
  | [d] => { results := [.lit (.bool true)], args := [d] }
  | _ => none }
def vectorUnitsRow : OpenClaim := { program := "ytiledcpefaoeiaa", sum := "596ae821ed744c76bc6df16f9b46c669713576f43d5022b6204788738a6f0620", func := "privatefetch/privatefetchlaw04.VectorUnits", spec := "vectorUnits", unfollowed := true, recurses := true, apart := false }
def VectorUnitsSaid : Prop := vectorUnitsRow.holds Try.pinned (OpenSpec.ofChange vectorUnitsSpec)

/-- ITS FALSE NEIGHBOUR: 'it returns false'. Refute it at one input. -/
def vectorUnitsWrong : ChangeSpec := { name := "vectorUnits", fn := fun _ => fun
  | [d] => { results := [.lit (.bool false)], args := [d] }
  | _ => none }
def VectorUnitsWrongFalsely : Prop := vectorUnitsRow.holds Try.pinned (OpenSpec.ofChange vectorUnitsWrong)

/-- 'privatefetchlaw04.VectorDoes': WHATEVER THE INPUT: true; the input reads as it did. -/
def vectorDoesSpec : ChangeSpec := { name := "vectorDoes", fn := fun _ => fun
  | [d1, d2, d3, d4, d5, d6, d7, d8] => { results := [.lit (.bool true)], args := [d1, d2, d3, d4, d5, d6, d7, d8] }
  | _ => none }
def vectorDoesRow : OpenClaim := { program := "ytiledcpefaoeiaa", sum := "596ae821ed744c76bc6df16f9b46c669713576f43d5022b6204788738a6f0620", func := "privatefetch/privatefetchlaw04.VectorDoes", spec := "vectorDoes", unfollowed := true, recurses := true, apart := false }
def VectorDoesSaid : Prop := vectorDoesRow.holds Try.pinned (OpenSpec.ofChange vectorDoesSpec)

/-- ITS FALSE NEIGHBOUR: 'it returns false'. Refute it at one input. -/
def vectorDoesWrong : ChangeSpec := { name := "vectorDoes", fn := fun _ => fun
  | [d1, d2, d3, d4, d5, d6, d7, d8] => { results := [.lit (.bool false)], args := [d1, d2, d3, d4, d5, d6, d7, d8] }
  | _ => none }
def VectorDoesWrongFalsely : Prop := vectorDoesRow.holds Try.pinned (OpenSpec.ofChange vectorDoesWrong)

/-- 'privatefetchlaw04.VectorLinear': WHATEVER THE INPUT: true; the input reads as it did. -/
def vectorLinearSpec : ChangeSpec := { name := "vectorLinear", fn := fun _ => fun
  | [d1, d2] => { results := [.lit (.bool true)], args := [d1, d2] }
  | _ => none }
def vectorLinearRow : OpenClaim := { program := "ytiledcpefaoeiaa", sum := "596ae821ed744c76bc6df16f9b46c669713576f43d5022b6204788738a6f0620", func := "privatefetch/privatefetchlaw04.VectorLinear", spec := "vectorLinear", unfollowed := true, recurses := true, apart := false }
def VectorLinearSaid : Prop := vectorLinearRow.holds Try.pinned (OpenSpec.ofChange vectorLinearSpec)

/-- ITS FALSE NEIGHBOUR: 'it returns false'. Refute it at one input. -/
def vectorLinearWrong : ChangeSpec := { name := "vectorLinear", fn := fun _ => fun
  | [d1, d2] => { results := [.lit (.bool false)], args := [d1, d2] }
  | _ => none }
def VectorLinearWrongFalsely : Prop := vectorLinearRow.holds Try.pinned (OpenSpec.ofChange vectorLinearWrong)

/- THE SECOND FORM. 'bulk': how many values and letters a reading holds, each counted each time it is reached (what is shared counts as often as it is met; a slice's spare places count too). A statement '..UptoSaid' is the law's where the arguments, and the package variables that the reading takes, are together of bulk at most 1048576: NARROWER than '..Said'. Prove '..Said' where nothing that the law and all that it calls make is longer than what came in: it says more and counts as full. Else prove '..UptoSaid'. A law counts once. -/
mutual
def uptoBulk {H : Type} : DataW H → Nat
  | .lit (.string bytes) => bytes.length + 1
  | .lit _ => 1
  | .nil => 1
  | .ptr d => uptoBulk d + 1
  | .slice elems spare => uptoBulkAll elems + uptoBulkAll spare + 1
  | .agg parts => uptoBulkAll parts + 1
  | .iface _ d => uptoBulk d + 1
  | .map entries => uptoBulkEntries entries + 1
  | .held _ => 1
def uptoBulkAll {H : Type} : List (DataW H) → Nat
  | [] => 0
  | d :: r => uptoBulk d + uptoBulkAll r
def uptoBulkEntries {H : Type} : List (Lit × DataW H) → Nat
  | [] => 0
  | x :: r => uptoBulkEntry x + uptoBulkEntries r
def uptoBulkEntry {H : Type} : Lit × DataW H → Nat
  | (.string bytes, d) => bytes.length + uptoBulk d + 1
  | (_, d) => uptoBulk d + 1
 end
def uptoSmall : (H : Type) → List (DataW H) → Bool := fun _ ds => decide (uptoBulkAll ds ≤ 1048576)
def OpenSpec.upto (s : _root_.Go.ChangeSpec) : _root_.Go.OpenSpec := { _root_.Go.OpenSpec.ofChange s with cond := some uptoSmall }

/-- 'privatefetchlaw11.DigestRows', WHERE WHAT IT READS IS OF BULK AT MOST 1048576: true; the input reads as it did. -/
def digestRowsUptoRow : OpenClaim := { program := "ytiledcpefaoeiaa", sum := "596ae821ed744c76bc6df16f9b46c669713576f43d5022b6204788738a6f0620", func := "privatefetch/privatefetchlaw11.DigestRows", spec := "digestRows", apart := false, narrowed := true }
def DigestRowsUptoSaid : Prop := digestRowsUptoRow.holds Try.pinned (OpenSpec.upto digestRowsSpec)

/-- 'privatefetchlaw11.DigestTexts', WHERE WHAT IT READS IS OF BULK AT MOST 1048576: true; the input reads as it did. -/
def digestTextsUptoRow : OpenClaim := { program := "ytiledcpefaoeiaa", sum := "596ae821ed744c76bc6df16f9b46c669713576f43d5022b6204788738a6f0620", func := "privatefetch/privatefetchlaw11.DigestTexts", spec := "digestTexts", apart := false, narrowed := true }
def DigestTextsUptoSaid : Prop := digestTextsUptoRow.holds Try.pinned (OpenSpec.upto digestTextsSpec)

/-- 'privatefetchlaw11.DigestLines', WHERE WHAT IT READS IS OF BULK AT MOST 1048576: true; the input reads as it did. -/
def digestLinesUptoRow : OpenClaim := { program := "ytiledcpefaoeiaa", sum := "596ae821ed744c76bc6df16f9b46c669713576f43d5022b6204788738a6f0620", func := "privatefetch/privatefetchlaw11.DigestLines", spec := "digestLines", unfollowed := true, recurses := true, apart := false, narrowed := true }
def DigestLinesUptoSaid : Prop := digestLinesUptoRow.holds Try.pinned (OpenSpec.upto digestLinesSpec)

/-- 'privatefetchlaw11.DigestFits', WHERE WHAT IT READS IS OF BULK AT MOST 1048576: true; the input reads as it did. -/
def digestFitsUptoRow : OpenClaim := { program := "ytiledcpefaoeiaa", sum := "596ae821ed744c76bc6df16f9b46c669713576f43d5022b6204788738a6f0620", func := "privatefetch/privatefetchlaw11.DigestFits", spec := "digestFits", unfollowed := true, recurses := true, apart := false, narrowed := true }
def DigestFitsUptoSaid : Prop := digestFitsUptoRow.holds Try.pinned (OpenSpec.upto digestFitsSpec)

/-- 'privatefetchlaw11.DigestDoes', WHERE WHAT IT READS IS OF BULK AT MOST 1048576: true; the input reads as it did. -/
def digestDoesUptoRow : OpenClaim := { program := "ytiledcpefaoeiaa", sum := "596ae821ed744c76bc6df16f9b46c669713576f43d5022b6204788738a6f0620", func := "privatefetch/privatefetchlaw11.DigestDoes", spec := "digestDoes", unfollowed := true, recurses := true, apart := false, narrowed := true }
def DigestDoesUptoSaid : Prop := digestDoesUptoRow.holds Try.pinned (OpenSpec.upto digestDoesSpec)

/-- 'privatefetchlaw04.VectorMoves', WHERE WHAT IT READS IS OF BULK AT MOST 1048576: true; the input reads as it did. -/
def vectorMovesUptoRow : OpenClaim := { program := "ytiledcpefaoeiaa", sum := "596ae821ed744c76bc6df16f9b46c669713576f43d5022b6204788738a6f0620", func := "privatefetch/privatefetchlaw04.VectorMoves", spec := "vectorMoves", unfollowed := true, recurses := true, apart := false, narrowed := true }
def VectorMovesUptoSaid : Prop := vectorMovesUptoRow.holds Try.pinned (OpenSpec.upto vectorMovesSpec)

/-- 'privatefetchlaw04.VectorColumns', WHERE WHAT IT READS IS OF BULK AT MOST 1048576: true; the input reads as it did. -/
def vectorColumnsUptoRow : OpenClaim := { program := "ytiledcpefaoeiaa", sum := "596ae821ed744c76bc6df16f9b46c669713576f43d5022b6204788738a6f0620", func := "privatefetch/privatefetchlaw04.VectorColumns", spec := "vectorColumns", unfollowed := true, recurses := true, apart := false, narrowed := true }
def VectorColumnsUptoSaid : Prop := vectorColumnsUptoRow.holds Try.pinned (OpenSpec.upto vectorColumnsSpec)

/-- 'privatefetchlaw04.VectorUnits', WHERE WHAT IT READS IS OF BULK AT MOST 1048576: true; the input reads as it did. -/
def vectorUnitsUptoRow : OpenClaim := { program := "ytiledcpefaoeiaa", sum := "596ae821ed744c76bc6df16f9b46c669713576f43d5022b6204788738a6f0620", func := "privatefetch/privatefetchlaw04.VectorUnits", spec := "vectorUnits", unfollowed := true, recurses := true, apart := false, narrowed := true }
def VectorUnitsUptoSaid : Prop := vectorUnitsUptoRow.holds Try.pinned (OpenSpec.upto vectorUnitsSpec)

/-- 'privatefetchlaw04.VectorDoes', WHERE WHAT IT READS IS OF BULK AT MOST 1048576: true; the input reads as it did. -/
def vectorDoesUptoRow : OpenClaim := { program := "ytiledcpefaoeiaa", sum := "596ae821ed744c76bc6df16f9b46c669713576f43d5022b6204788738a6f0620", func := "privatefetch/privatefetchlaw04.VectorDoes", spec := "vectorDoes", unfollowed := true, recurses := true, apart := false, narrowed := true }
def VectorDoesUptoSaid : Prop := vectorDoesUptoRow.holds Try.pinned (OpenSpec.upto vectorDoesSpec)

/-- 'privatefetchlaw04.VectorLinear', WHERE WHAT IT READS IS OF BULK AT MOST 1048576: true; the input reads as it did. -/
def vectorLinearUptoRow : OpenClaim := { program := "ytiledcpefaoeiaa", sum := "596ae821ed744c76bc6df16f9b46c669713576f43d5022b6204788738a6f0620", func := "privatefetch/privatefetchlaw04.VectorLinear", spec := "vectorLinear", unfollowed := true, recurses := true, apart := false, narrowed := true }
def VectorLinearUptoSaid : Prop := vectorLinearUptoRow.holds Try.pinned (OpenSpec.upto vectorLinearSpec)

end Rows
end Go.Proofs.Ytiledcpefaoeiaa
