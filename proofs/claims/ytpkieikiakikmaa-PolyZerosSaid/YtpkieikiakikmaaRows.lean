/-
  No cell of these rows narrows 'for every input' (looked for: loops, veiled, ifaces, maps, wideKeys, modest, calm, conditions, laid).
  DERIVED. THE GIVEN ROWS OF THIS SEAT. 10 by the template 'for every input the law returns true; each argument reads behind the call as it read before'; 0 by the template 'total and deterministic' (their statements: YtpkieikiakikmaaTotals.lean).
  GIVEN WITH THE SEED: the statements are not yours to turn. If you find one false, say at which input.
  Laid BY PROGRAM, IN A SANDBOX (cutbox-rows.mjs): the forced cells as the released guide's own fill.sh prints them over the translation 706150534413a0c8… (all of the seat's roots in one cut). By AI agents, Wed Nov 11 2026. No macro, syntax, notation, axiom, sorry.
-/
import Derived.Test.YtpkieikiakikmaaChecked
import GoSem.Claim
import GoSem.ClaimJoined
import GoSem.ClaimMapViews
import Derived.JoinedTies
import Derived.KernelRfl
namespace Go.Proofs.Ytpkieikiakikmaa
/- THE CELL 'sum', in the pinned program and in every row, IS THE sha256 OF THE DUMP (.gsa) THAT YtpkieikiakikmaaProg.lean LOADS. Nothing in Lean hashes anything: it is a label: what it is worth is what the hold of that sum in a sandbox is worth. -/
noncomputable def Try.pinned : Pinned := { name := "ytpkieikiakikmaa", sum := "706150534413a0c8eec921555fcf78af124c5d8645e14f473ad3aed21b1e6c6d", checked := Try.checked }
namespace Rows
def none {H : Type} : Left H := { results := [], args := [] }

/-- 'privatefetchlaw02.TapeDraws': WHATEVER THE INPUT: true; the input reads as it did. -/
def tapeDrawsSpec : ChangeSpec := { name := "tapeDraws", fn := fun _ => fun
  | [d1, d2, d3, d4] => { results := [.lit (.bool true)], args := [d1, d2, d3, d4] }
  | _ => none }
def tapeDrawsRow : OpenClaim := { program := "ytpkieikiakikmaa", sum := "706150534413a0c8eec921555fcf78af124c5d8645e14f473ad3aed21b1e6c6d", func := "privatefetch/privatefetchlaw02.TapeDraws", spec := "tapeDraws", unfollowed := true, recurses := true, apart := false }
def TapeDrawsSaid : Prop := tapeDrawsRow.holds Try.pinned (OpenSpec.ofChange tapeDrawsSpec)

/-- ITS FALSE NEIGHBOUR: 'it returns false'. Refute it at one input. -/
def tapeDrawsWrong : ChangeSpec := { name := "tapeDraws", fn := fun _ => fun
  | [d1, d2, d3, d4] => { results := [.lit (.bool false)], args := [d1, d2, d3, d4] }
  | _ => none }
def TapeDrawsWrongFalsely : Prop := tapeDrawsRow.holds Try.pinned (OpenSpec.ofChange tapeDrawsWrong)

/-- 'privatefetchlaw02.TapeParts': WHATEVER THE INPUT: true; the input reads as it did. -/
def tapePartsSpec : ChangeSpec := { name := "tapeParts", fn := fun _ => fun
  | [d1, d2, d3] => { results := [.lit (.bool true)], args := [d1, d2, d3] }
  | _ => none }
def tapePartsRow : OpenClaim := { program := "ytpkieikiakikmaa", sum := "706150534413a0c8eec921555fcf78af124c5d8645e14f473ad3aed21b1e6c6d", func := "privatefetch/privatefetchlaw02.TapeParts", spec := "tapeParts", unfollowed := true, recurses := true, apart := false }
def TapePartsSaid : Prop := tapePartsRow.holds Try.pinned (OpenSpec.ofChange tapePartsSpec)

/-- ITS FALSE NEIGHBOUR: 'it returns false'. Refute it at one input. -/
def tapePartsWrong : ChangeSpec := { name := "tapeParts", fn := fun _ => fun
  | [d1, d2, d3] => { results := [.lit (.bool false)], args := [d1, d2, d3] }
  | _ => none }
def TapePartsWrongFalsely : Prop := tapePartsRow.holds Try.pinned (OpenSpec.ofChange tapePartsWrong)

/-- 'privatefetchlaw02.TapeNumbers': WHATEVER THE INPUT: true; the input reads as it did. -/
def tapeNumbersSpec : ChangeSpec := { name := "tapeNumbers", fn := fun _ => fun
  | [d1, d2, d3] => { results := [.lit (.bool true)], args := [d1, d2, d3] }
  | _ => none }
def tapeNumbersRow : OpenClaim := { program := "ytpkieikiakikmaa", sum := "706150534413a0c8eec921555fcf78af124c5d8645e14f473ad3aed21b1e6c6d", func := "privatefetch/privatefetchlaw02.TapeNumbers", spec := "tapeNumbers", unfollowed := true, recurses := true, apart := false }
def TapeNumbersSaid : Prop := tapeNumbersRow.holds Try.pinned (OpenSpec.ofChange tapeNumbersSpec)

/-- ITS FALSE NEIGHBOUR: 'it returns false'. Refute it at one input. -/
def tapeNumbersWrong : ChangeSpec := { name := "tapeNumbers", fn := fun _ => fun
  | [d1, d2, d3] => { results := [.lit (.bool false)], args := [d1, d2, d3] }
  | _ => none }
def TapeNumbersWrongFalsely : Prop := tapeNumbersRow.holds Try.pinned (OpenSpec.ofChange tapeNumbersWrong)

/-- 'privatefetchlaw02.TapeSeeds': WHATEVER THE INPUT: true; the input reads as it did. -/
def tapeSeedsSpec : ChangeSpec := { name := "tapeSeeds", fn := fun _ => fun
  | [d1, d2, d3] => { results := [.lit (.bool true)], args := [d1, d2, d3] }
  | _ => none }
def tapeSeedsRow : OpenClaim := { program := "ytpkieikiakikmaa", sum := "706150534413a0c8eec921555fcf78af124c5d8645e14f473ad3aed21b1e6c6d", func := "privatefetch/privatefetchlaw02.TapeSeeds", spec := "tapeSeeds", unfollowed := true, recurses := true, apart := false }
def TapeSeedsSaid : Prop := tapeSeedsRow.holds Try.pinned (OpenSpec.ofChange tapeSeedsSpec)

/-- ITS FALSE NEIGHBOUR: 'it returns false'. Refute it at one input. -/
def tapeSeedsWrong : ChangeSpec := { name := "tapeSeeds", fn := fun _ => fun
  | [d1, d2, d3] => { results := [.lit (.bool false)], args := [d1, d2, d3] }
  | _ => none }
def TapeSeedsWrongFalsely : Prop := tapeSeedsRow.holds Try.pinned (OpenSpec.ofChange tapeSeedsWrong)

/-- 'privatefetchlaw05.PolyReturns': WHATEVER THE INPUT: true; the input reads as it did. -/
def polyReturnsSpec : ChangeSpec := { name := "polyReturns", fn := fun _ => fun
  | [d] => { results := [.lit (.bool true)], args := [d] }
  | _ => none }
def polyReturnsRow : OpenClaim := { program := "ytpkieikiakikmaa", sum := "706150534413a0c8eec921555fcf78af124c5d8645e14f473ad3aed21b1e6c6d", func := "privatefetch/privatefetchlaw05.PolyReturns", spec := "polyReturns", unfollowed := true, recurses := true, apart := false }
def PolyReturnsSaid : Prop := polyReturnsRow.holds Try.pinned (OpenSpec.ofChange polyReturnsSpec)

/-- ITS FALSE NEIGHBOUR: 'it returns false'. Refute it at one input. -/
def polyReturnsWrong : ChangeSpec := { name := "polyReturns", fn := fun _ => fun
  | [d] => { results := [.lit (.bool false)], args := [d] }
  | _ => none }
def PolyReturnsWrongFalsely : Prop := polyReturnsRow.holds Try.pinned (OpenSpec.ofChange polyReturnsWrong)

/-- 'privatefetchlaw05.PolyZeros': WHATEVER THE INPUT: true; the input reads as it did. -/
def polyZerosSpec : ChangeSpec := { name := "polyZeros", fn := fun _ => fun
  | [d] => { results := [.lit (.bool true)], args := [d] }
  | _ => none }
def polyZerosRow : OpenClaim := { program := "ytpkieikiakikmaa", sum := "706150534413a0c8eec921555fcf78af124c5d8645e14f473ad3aed21b1e6c6d", func := "privatefetch/privatefetchlaw05.PolyZeros", spec := "polyZeros", unfollowed := true, recurses := true, apart := false }
def PolyZerosSaid : Prop := polyZerosRow.holds Try.pinned (OpenSpec.ofChange polyZerosSpec)

/-- ITS FALSE NEIGHBOUR: 'it returns false'. Refute it at one input. -/
def polyZerosWrong : ChangeSpec := { name := "polyZeros", fn := fun _ => fun
  | [d] => { results := [.lit (.bool false)], args := [d] }
  | _ => none }
def PolyZerosWrongFalsely : Prop := polyZerosRow.holds Try.pinned (OpenSpec.ofChange polyZerosWrong)

/-- 'privatefetchlaw05.PolyCommutes': WHATEVER THE INPUT: true; the input reads as it did. -/
def polyCommutesSpec : ChangeSpec := { name := "polyCommutes", fn := fun _ => fun
  | [d] => { results := [.lit (.bool true)], args := [d] }
  | _ => none }
def polyCommutesRow : OpenClaim := { program := "ytpkieikiakikmaa", sum := "706150534413a0c8eec921555fcf78af124c5d8645e14f473ad3aed21b1e6c6d", func := "privatefetch/privatefetchlaw05.PolyCommutes", spec := "polyCommutes", unfollowed := true, recurses := true, apart := false }
def PolyCommutesSaid : Prop := polyCommutesRow.holds Try.pinned (OpenSpec.ofChange polyCommutesSpec)

/-- ITS FALSE NEIGHBOUR: 'it returns false'. Refute it at one input. -/
def polyCommutesWrong : ChangeSpec := { name := "polyCommutes", fn := fun _ => fun
  | [d] => { results := [.lit (.bool false)], args := [d] }
  | _ => none }
def PolyCommutesWrongFalsely : Prop := polyCommutesRow.holds Try.pinned (OpenSpec.ofChange polyCommutesWrong)

/-- 'privatefetchlaw05.PolyValues': WHATEVER THE INPUT: true; the input reads as it did. -/
def polyValuesSpec : ChangeSpec := { name := "polyValues", fn := fun _ => fun
  | [d1, d2] => { results := [.lit (.bool true)], args := [d1, d2] }
  | _ => none }
def polyValuesRow : OpenClaim := { program := "ytpkieikiakikmaa", sum := "706150534413a0c8eec921555fcf78af124c5d8645e14f473ad3aed21b1e6c6d", func := "privatefetch/privatefetchlaw05.PolyValues", spec := "polyValues", unfollowed := true, recurses := true, apart := false }
def PolyValuesSaid : Prop := polyValuesRow.holds Try.pinned (OpenSpec.ofChange polyValuesSpec)

/-- ITS FALSE NEIGHBOUR: 'it returns false'. Refute it at one input. -/
def polyValuesWrong : ChangeSpec := { name := "polyValues", fn := fun _ => fun
  | [d1, d2] => { results := [.lit (.bool false)], args := [d1, d2] }
  | _ => none }
def PolyValuesWrongFalsely : Prop := polyValuesRow.holds Try.pinned (OpenSpec.ofChange polyValuesWrong)

/-- 'privatefetchlaw05.PolyDivides': WHATEVER THE INPUT: true; the input reads as it did. -/
def polyDividesSpec : ChangeSpec := { name := "polyDivides", fn := fun _ => fun
  | [d] => { results := [.lit (.bool true)], args := [d] }
  | _ => none }
def polyDividesRow : OpenClaim := { program := "ytpkieikiakikmaa", sum := "706150534413a0c8eec921555fcf78af124c5d8645e14f473ad3aed21b1e6c6d", func := "privatefetch/privatefetchlaw05.PolyDivides", spec := "polyDivides", unfollowed := true, recurses := true, apart := false }
def PolyDividesSaid : Prop := polyDividesRow.holds Try.pinned (OpenSpec.ofChange polyDividesSpec)

/-- ITS FALSE NEIGHBOUR: 'it returns false'. Refute it at one input. -/
def polyDividesWrong : ChangeSpec := { name := "polyDivides", fn := fun _ => fun
  | [d] => { results := [.lit (.bool false)], args := [d] }
  | _ => none }
def PolyDividesWrongFalsely : Prop := polyDividesRow.holds Try.pinned (OpenSpec.ofChange polyDividesWrong)

/-- 'privatefetchlaw05.PolyDoes': WHATEVER THE INPUT: true; the input reads as it did. -/
def polyDoesSpec : ChangeSpec := { name := "polyDoes", fn := fun _ => fun
  | [d1, d2, d3, d4, d5, d6] => { results := [.lit (.bool true)], args := [d1, d2, d3, d4, d5, d6] }
  | _ => none }
def polyDoesRow : OpenClaim := { program := "ytpkieikiakikmaa", sum := "706150534413a0c8eec921555fcf78af124c5d8645e14f473ad3aed21b1e6c6d", func := "privatefetch/privatefetchlaw05.PolyDoes", spec := "polyDoes", unfollowed := true, recurses := true, apart := false }
def PolyDoesSaid : Prop := polyDoesRow.holds Try.pinned (OpenSpec.ofChange polyDoesSpec)

/-- ITS FALSE NEIGHBOUR: 'it returns false'. Refute it at one input. -/
def polyDoesWrong : ChangeSpec := { name := "polyDoes", fn := fun _ => fun
  | [d1, d2, d3, d4, d5, d6] => { results := [.lit (.bool false)], args := [d1, d2, d3, d4, d5, d6] }
  | _ => none }
def PolyDoesWrongFalsely : Prop := polyDoesRow.holds Try.pinned (OpenSpec.ofChange polyDoesWrong)

/- THE SECOND FORM. 'bulk': how many values and letters a reading holds, each counted each time it is reached (what is shared counts as often as it is met; a slice's spare places count too). A statement '..UptoSaid' is the law's where the arguments, and the package variables that the reading takes, are together of bulk at most 1048576: NARROWER than '..Said'. Prove '..Said' where nothing that the law and all that it calls make is longer than what came in: it says more and counts as full. Else prove '..UptoSaid'. A law counts once. -/
mutual
def uptoBulk {H : Type} : DataW H → Nat
  | .lit (.string bytes) => bytes.length + 1
  | .lit _ => 1
  | .nil => 1
  | .ptr d => uptoBulk d + 1
  | .slice elems spare => uptoBulkAll elems + uptoBulkAll spare + 1
  | .agg parts => uptoBulkAll parts + 1
  | .iface _ d => uptoBulk d + 1
  | .map entries => uptoBulkEntries entries + 1
  | .held _ => 1
def uptoBulkAll {H : Type} : List (DataW H) → Nat
  | [] => 0
  | d :: r => uptoBulk d + uptoBulkAll r
def uptoBulkEntries {H : Type} : List (Lit × DataW H) → Nat
  | [] => 0
  | x :: r => uptoBulkEntry x + uptoBulkEntries r
def uptoBulkEntry {H : Type} : Lit × DataW H → Nat
  | (.string bytes, d) => bytes.length + uptoBulk d + 1
  | (_, d) => uptoBulk d + 1
 end
def uptoSmall : (H : Type) → List (DataW H) → Bool := fun _ ds => decide (uptoBulkAll ds ≤ 1048576)
def OpenSpec.upto (s : _root_.Go.ChangeSpec) : _root_.Go.OpenSpec := { _root_.Go.OpenSpec.ofChange s with cond := some uptoSmall }

/-- 'privatefetchlaw02.TapeDraws', WHERE WHAT IT READS IS OF BULK AT MOST 1048576: true; the input reads as it did. -/
def tapeDrawsUptoRow : OpenClaim := { program := "ytpkieikiakikmaa", sum := "706150534413a0c8eec921555fcf78af124c5d8645e14f473ad3aed21b1e6c6d", func := "privatefetch/privatefetchlaw02.TapeDraws", spec := "tapeDraws", unfollowed := true, recurses := true, apart := false, narrowed := true }
def TapeDrawsUptoSaid : Prop := tapeDrawsUptoRow.holds Try.pinned (OpenSpec.upto tapeDrawsSpec)

/-- 'privatefetchlaw02.TapeParts', WHERE WHAT IT READS IS OF BULK AT MOST 1048576: true; the input reads as it did. -/
def tapePartsUptoRow : OpenClaim := { program := "ytpkieikiakikmaa", sum := "706150534413a0c8eec921555fcf78af124c5d8645e14f473ad3aed21b1e6c6d", func := "privatefetch/privatefetchlaw02.TapeParts", spec := "tapeParts", unfollowed := true, recurses := true, apart := false, narrowed := true }
def TapePartsUptoSaid : Prop := tapePartsUptoRow.holds Try.pinned (OpenSpec.upto tapePartsSpec)

/-- 'privatefetchlaw02.TapeNumbers', WHERE WHAT IT READS IS OF BULK AT MOST 1048576: true; the input reads as it did. -/
def tapeNumbersUptoRow : OpenClaim := { program := "ytpkieikiakikmaa", sum := "706150534413a0c8eec921555fcf78af124c5d8645e14f473ad3aed21b1e6c6d", func := "privatefetch/privatefetchlaw02.TapeNumbers", spec := "tapeNumbers", unfollowed := true, recurses := true, apart := false, narrowed := true }
def TapeNumbersUptoSaid : Prop := tapeNumbersUptoRow.holds Try.pinned (OpenSpec.upto tapeNumbersSpec)

/-- 'privatefetchlaw02.TapeSeeds', WHERE WHAT IT READS IS OF BULK AT MOST 1048576: true; the input reads as it did. -/
def tapeSeedsUptoRow : OpenClaim := { program := "ytpkieikiakikmaa", sum := "706150534413a0c8eec921555fcf78af124c5d8645e14f473ad3aed21b1e6c6d", func := "privatefetch/privatefetchlaw02.TapeSeeds", spec := "tapeSeeds", unfollowed := true, recurses := true, apart := false, narrowed := true }
def TapeSeedsUptoSaid : Prop := tapeSeedsUptoRow.holds Try.pinned (OpenSpec.upto tapeSeedsSpec)

/-- 'privatefetchlaw05.PolyReturns', WHERE WHAT IT READS IS OF BULK AT MOST 1048576: true; the input reads as it did. -/
def polyReturnsUptoRow : OpenClaim := { program := "ytpkieikiakikmaa", sum := "706150534413a0c8eec921555fcf78af124c5d8645e14f473ad3aed21b1e6c6d", func := "privatefetch/privatefetchlaw05.PolyReturns", spec := "polyReturns", unfollowed := true, recurses := true, apart := false, narrowed := true }
def PolyReturnsUptoSaid : Prop := polyReturnsUptoRow.holds Try.pinned (OpenSpec.upto polyReturnsSpec)

/-- 'privatefetchlaw05.PolyZeros', WHERE WHAT IT READS IS OF BULK AT MOST 1048576: true; the input reads as it did. -/
def polyZerosUptoRow : OpenClaim := { program := "ytpkieikiakikmaa", sum := "706150534413a0c8eec921555fcf78af124c5d8645e14f473ad3aed21b1e6c6d", func := "privatefetch/privatefetchlaw05.PolyZeros", spec := "polyZeros", unfollowed := true, recurses := true, apart := false, narrowed := true }
def PolyZerosUptoSaid : Prop := polyZerosUptoRow.holds Try.pinned (OpenSpec.upto polyZerosSpec)

/-- 'privatefetchlaw05.PolyCommutes', WHERE WHAT IT READS IS OF BULK AT MOST 1048576: true; the input reads as it did. -/
def polyCommutesUptoRow : OpenClaim := { program := "ytpkieikiakikmaa", sum := "706150534413a0c8eec921555fcf78af124c5d8645e14f473ad3aed21b1e6c6d", func := "privatefetch/privatefetchlaw05.PolyCommutes", spec := "polyCommutes", unfollowed := true, recurses := true, apart := false, narrowed := true }
def PolyCommutesUptoSaid : Prop := polyCommutesUptoRow.holds Try.pinned (OpenSpec.upto polyCommutesSpec)

/-- 'privatefetchlaw05.PolyValues', WHERE WHAT IT READS IS OF BULK AT MOST 1048576: true; the input reads as it did. -/
def polyValuesUptoRow : OpenClaim := { program := "ytpkieikiakikmaa", sum := "706150534413a0c8eec921555fcf78af124c5d8645e14f473ad3aed21b1e6c6d", func := "privatefetch/privatefetchlaw05.PolyValues", spec := "polyValues", unfollowed := true, recurses := true, apart := false, narrowed := true }
def PolyValuesUptoSaid : Prop := polyValuesUptoRow.holds Try.pinned (OpenSpec.upto polyValuesSpec)

/-- 'privatefetchlaw05.PolyDivides', WHERE WHAT IT READS IS OF BULK AT MOST 1048576: true; the input reads as it did. -/
def polyDividesUptoRow : OpenClaim := { program := "ytpkieikiakikmaa", sum := "706150534413a0c8eec921555fcf78af124c5d8645e14f473ad3aed21b1e6c6d", func := "privatefetch/privatefetchlaw05.PolyDivides", spec := "polyDivides", unfollowed := true, recurses := true, apart := false, narrowed := true }
def PolyDividesUptoSaid : Prop := polyDividesUptoRow.holds Try.pinned (OpenSpec.upto polyDividesSpec)

/-- 'privatefetchlaw05.PolyDoes', WHERE WHAT IT READS IS OF BULK AT MOST 1048576: true; the input reads as it did. -/
def polyDoesUptoRow : OpenClaim := { program := "ytpkieikiakikmaa", sum := "706150534413a0c8eec921555fcf78af124c5d8645e14f473ad3aed21b1e6c6d", func := "privatefetch/privatefetchlaw05.PolyDoes", spec := "polyDoes", unfollowed := true, recurses := true, apart := false, narrowed := true }
def PolyDoesUptoSaid : Prop := polyDoesUptoRow.holds Try.pinned (OpenSpec.upto polyDoesSpec)

end Rows
end Go.Proofs.Ytpkieikiakikmaa
