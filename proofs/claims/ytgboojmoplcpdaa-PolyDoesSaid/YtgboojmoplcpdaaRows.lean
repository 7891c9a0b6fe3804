/-
  No cell of these rows narrows 'for every input' (looked for: loops, veiled, ifaces, maps, wideKeys, modest, calm, conditions, laid).
  DERIVED. THE GIVEN ROWS OF THIS SEAT. 4 by the template 'for every input the law returns true; each argument reads behind the call as it read before'; 0 by the template 'total and deterministic' (their statements: YtgboojmoplcpdaaTotals.lean).
  GIVEN WITH THE SEED: the statements are not yours to turn. If you find one false, say at which input.
  Laid BY PROGRAM, IN A SANDBOX (cutbox-rows.mjs): the forced cells as the released guide's own fill.sh prints them over the translation 330e894cdcba1e60… (all of the seat's roots in one cut). By AI agents, Wed Nov 11 2026. No macro, syntax, notation, axiom, sorry.
-/
import Derived.Test.YtgboojmoplcpdaaChecked
import GoSem.Claim
import GoSem.ClaimJoined
import GoSem.ClaimMapViews
import Derived.JoinedTies
import Derived.KernelRfl
namespace Go.Proofs.Ytgboojmoplcpdaa
/- THE CELL 'sum', in the pinned program and in every row, IS THE sha256 OF THE DUMP (.gsa) THAT YtgboojmoplcpdaaProg.lean LOADS. Nothing in Lean hashes anything: it is a label: what it is worth is what the hold of that sum in a sandbox is worth. -/
noncomputable def Try.pinned : Pinned := { name := "ytgboojmoplcpdaa", sum := "330e894cdcba1e607bd4dd178b996f9b857e8654bff112b42b742d6f0bba7d34", checked := Try.checked }
namespace Rows
def none {H : Type} : Left H := { results := [], args := [] }

/-- 'privatefetchlaw04.VectorDoes': WHATEVER THE INPUT: true; the input reads as it did. -/
def vectorDoesSpec : ChangeSpec := { name := "vectorDoes", fn := fun _ => fun
  | [d1, d2, d3, d4, d5, d6, d7, d8] => { results := [.lit (.bool true)], args := [d1, d2, d3, d4, d5, d6, d7, d8] }
  | _ => none }
def vectorDoesRow : OpenClaim := { program := "ytgboojmoplcpdaa", sum := "330e894cdcba1e607bd4dd178b996f9b857e8654bff112b42b742d6f0bba7d34", func := "privatefetch/privatefetchlaw04.VectorDoes", spec := "vectorDoes", unfollowed := true, recurses := true, apart := false }
def VectorDoesSaid : Prop := vectorDoesRow.holds Try.pinned (OpenSpec.ofChange vectorDoesSpec)

/-- ITS FALSE NEIGHBOUR: 'it returns false'. Refute it at one input. -/
def vectorDoesWrong : ChangeSpec := { name := "vectorDoes", fn := fun _ => fun
  | [d1, d2, d3, d4, d5, d6, d7, d8] => { results := [.lit (.bool false)], args := [d1, d2, d3, d4, d5, d6, d7, d8] }
  | _ => none }
def VectorDoesWrongFalsely : Prop := vectorDoesRow.holds Try.pinned (OpenSpec.ofChange vectorDoesWrong)

/-- 'privatefetchlaw05.PolyDoes': WHATEVER THE INPUT: true; the input reads as it did. -/
def polyDoesSpec : ChangeSpec := { name := "polyDoes", fn := fun _ => fun
  | [d1, d2, d3, d4, d5, d6] => { results := [.lit (.bool true)], args := [d1, d2, d3, d4, d5, d6] }
  | _ => none }
def polyDoesRow : OpenClaim := { program := "ytgboojmoplcpdaa", sum := "330e894cdcba1e607bd4dd178b996f9b857e8654bff112b42b742d6f0bba7d34", func := "privatefetch/privatefetchlaw05.PolyDoes", spec := "polyDoes", unfollowed := true, recurses := true, apart := false }
def PolyDoesSaid : Prop := polyDoesRow.holds Try.pinned (OpenSpec.ofChange polyDoesSpec)

/-- ITS FALSE NEIGHBOUR: 'it returns false'. Refute it at one input. -/
def polyDoesWrong : ChangeSpec := { name := "polyDoes", fn := fun _ => fun
  | [d1, d2, d3, d4, d5, d6] => { results := [.lit (.bool false)], args := [d1, d2, d3, d4, d5, d6] }
  | _ => none }
def PolyDoesWrongFalsely : Prop := polyDoesRow.holds Try.pinned (OpenSpec.ofChange polyDoesWrong)

/-- 'privatefetchlaw07.ShareDoes': WHATEVER THE INPUT: true; the input reads as it did. -/
def shareDoesSpec : ChangeSpec := { name := "shareDoes", fn := fun _ => fun
  | [d1, d2, d3, d4, d5, d6, d7, d8] => { results := [.lit (.bool true)], args := [d1, d2, d3, d4, d5, d6, d7, d8] }
  | _ => none }
def shareDoesRow : OpenClaim := { program := "ytgboojmoplcpdaa", sum := "330e894cdcba1e607bd4dd178b996f9b857e8654bff112b42b742d6f0bba7d34", func := "privatefetch/privatefetchlaw07.ShareDoes", spec := "shareDoes", unfollowed := true, recurses := true, apart := false }
def ShareDoesSaid : Prop := shareDoesRow.holds Try.pinned (OpenSpec.ofChange shareDoesSpec)

/-- ITS FALSE NEIGHBOUR: 'it returns false'. Refute it at one input. -/
def shareDoesWrong : ChangeSpec := { name := "shareDoes", fn := fun _ => fun
  | [d1, d2, d3, d4, d5, d6, d7, d8] => { results := [.lit (.bool false)], args := [d1, d2, d3, d4, d5, d6, d7, d8] }
  | _ => none }
def ShareDoesWrongFalsely : Prop := shareDoesRow.holds Try.pinned (OpenSpec.ofChange shareDoesWrong)

/-- 'privatefetchlaw08.CodeDoes': WHATEVER THE INPUT: true; the input reads as it did. -/
def codeDoesSpec : ChangeSpec := { name := "codeDoes", fn := fun _ => fun
  | [d1, d2, d3, d4, d5, d6] => { results := [.lit (.bool true)], args := [d1, d2, d3, d4, d5, d6] }
  | _ => none }
def codeDoesRow : OpenClaim := { program := "ytgboojmoplcpdaa", sum := "330e894cdcba1e607bd4dd178b996f9b857e8654bff112b42b742d6f0bba7d34", func := "privatefetch/privatefetchlaw08.CodeDoes", spec := "codeDoes", unfollowed := true, recurses := true, apart := false }
def CodeDoesSaid : Prop := codeDoesRow.holds Try.pinned (OpenSpec.ofChange codeDoesSpec)

/-- ITS FALSE NEIGHBOUR: 'it returns false'. Refute it at one input. -/
def codeDoesWrong : ChangeSpec := { name := "codeDoes", fn := fun _ => fun
  | [d1, d2, d3, d4, d5, d6] => { results := [.lit (.bool false)], args := [d1, d2, d3, d4, d5, d6] }
  | _ => none }
def CodeDoesWrongFalsely : Prop := codeDoesRow.holds Try.pinned (OpenSpec.ofChange codeDoesWrong)

/- THE SECOND FORM. 'bulk': how many values and letters a reading holds, each counted each time it is reached (what is shared counts as often as it is met; a slice's spare places count too). A statement '..UptoSaid' is the law's where the arguments, and the package variables that the reading takes, are together of bulk at most 1048576: NARROWER than '..Said'. Prove '..Said' where nothing that the law and all that it calls make is longer than what came in: it says more and counts as full. Else prove '..UptoSaid'. A law counts once. -/
mutual
def uptoBulk {H : Type} : DataW H → Nat
  | .lit (.string bytes) => bytes.length + 1
  | .lit _ => 1
  | .nil => 1
  | .ptr d => uptoBulk d + 1
  | .slice elems spare => uptoBulkAll elems + uptoBulkAll spare + 1
  | .agg parts => uptoBulkAll parts + 1
  | .iface _ d => uptoBulk d + 1
  | .map entries => uptoBulkEntries entries + 1
  | .held _ => 1
def uptoBulkAll {H : Type} : List (DataW H) → Nat
  | [] => 0
  | d :: r => uptoBulk d + uptoBulkAll r
def uptoBulkEntries {H : Type} : List (Lit × DataW H) → Nat
  | [] => 0
  | x :: r => uptoBulkEntry x + uptoBulkEntries r
def uptoBulkEntry {H : Type} : Lit × DataW H → Nat
  | (.string bytes, d) => bytes.length + uptoBulk d + 1
  | (_, d) => uptoBulk d + 1
 end
def uptoSmall : (H : Type) → List (DataW H) → Bool := fun _ ds => decide (uptoBulkAll ds ≤ 1048576)
def OpenSpec.upto (s : _root_.Go.ChangeSpec) : _root_.Go.OpenSpec := { _root_.Go.OpenSpec.ofChange s with cond := some uptoSmall }

/-- 'privatefetchlaw04.VectorDoes', WHERE WHAT IT READS IS OF BULK AT MOST 1048576: true; the input reads as it did. -/
def vectorDoesUptoRow : OpenClaim := { program := "ytgboojmoplcpdaa", sum := "330e894cdcba1e607bd4dd178b996f9b857e8654bff112b42b742d6f0bba7d34", func := "privatefetch/privatefetchlaw04.VectorDoes", spec := "vectorDoes", unfollowed := true, recurses := true, apart := false, narrowed := true }
def VectorDoesUptoSaid : Prop := vectorDoesUptoRow.holds Try.pinned (OpenSpec.upto vectorDoesSpec)

/-- 'privatefetchlaw05.PolyDoes', WHERE WHAT IT READS IS OF BULK AT MOST 1048576: true; the input reads as it did. -/
def polyDoesUptoRow : OpenClaim := { program := "ytgboojmoplcpdaa", sum := "330e894cdcba1e607bd4dd178b996f9b857e8654bff112b42b742d6f0bba7d34", func := "privatefetch/privatefetchlaw05.PolyDoes", spec := "polyDoes", unfollowed := true, recurses := true, apart := false, narrowed := true }
def PolyDoesUptoSaid : Prop := polyDoesUptoRow.holds Try.pinned (OpenSpec.upto polyDoesSpec)

/-- 'privatefetchlaw07.ShareDoes', WHERE WHAT IT READS IS OF BULK AT MOST 1048576: true; the input reads as it did. -/
def shareDoesUptoRow : OpenClaim := { program := "ytgboojmoplcpdaa", sum := "330e894cdcba1e607bd4dd178b996f9b857e8654bff112b42b742d6f0bba7d34", func := "privatefetch/privatefetchlaw07.ShareDoes", spec := "shareDoes", unfollowed := true, recurses := true, apart := false, narrowed := true }
def ShareDoesUptoSaid : Prop := shareDoesUptoRow.holds Try.pinned (OpenSpec.upto shareDoesSpec)

/-- 'privatefetchlaw08.CodeDoes', WHERE WHAT IT READS IS OF BULK AT MOST 1048576: true; the input reads as it did. -/
def codeDoesUptoRow : OpenClaim := { program := "ytgboojmoplcpdaa", sum := "330e894cdcba1e607bd4dd178b996f9b857e8654bff112b42b742d6f0bba7d34", func := "privatefetch/privatefetchlaw08.CodeDoes", spec := "codeDoes", unfollowed := true, recurses := true, apart := false, narrowed := true }
def CodeDoesUptoSaid : Prop := codeDoesUptoRow.holds Try.pinned (OpenSpec.upto codeDoesSpec)

end Rows
end Go.Proofs.Ytgboojmoplcpdaa
