/-
  No cell of these rows narrows 'for every input' (looked for: loops, veiled, ifaces, maps, wideKeys, modest, calm, conditions, laid).
  DERIVED. THE GIVEN ROWS OF THIS SEAT. 10 by the template 'for every input the law returns true; each argument reads behind the call as it read before'; 0 by the template 'total and deterministic' (their statements: YtieejgkheijgeaaTotals.lean).
  GIVEN WITH THE SEED: the statements are not yours to turn. If you find one false, say at which input.
  Laid BY PROGRAM, IN A SANDBOX (cutbox-rows.mjs): the forced cells as the released guide's own fill.sh prints them over the translation 8ae44d09f605e6c0… (all of the seat's roots in one cut). By AI agents, Wed Nov 11 2026. No macro, syntax, notation, axiom, sorry.
-/
import Derived.Test.YtieejgkheijgeaaChecked
import GoSem.Claim
import GoSem.ClaimJoined
import GoSem.ClaimMapViews
import Derived.JoinedTies
import Derived.KernelRfl
namespace Go.Proofs.Ytieejgkheijgeaa
/- THE CELL 'sum', in the pinned program and in every row, IS THE sha256 OF THE DUMP (.gsa) THAT YtieejgkheijgeaaProg.lean LOADS. Nothing in Lean hashes anything: it is a label: what it is worth is what the hold of that sum in a sandbox is worth. -/
noncomputable def Try.pinned : Pinned := { name := "ytieejgkheijgeaa", sum := "8ae44d09f605e6c0b7d4f71b09a7f321344759ce2aecd2933d9c1b673ac9eebc", checked := Try.checked }
namespace Rows
def none {H : Type} : Left H := { results := [], args := [] }

/-- 'privatefetchlaw07.ShareJoins': WHATEVER THE INPUT: true; the input reads as it did. -/
def shareJoinsSpec : ChangeSpec := { name := "shareJoins", fn := fun _ => fun
  | [d] => { results := [.lit (.bool true)], args := [d] }
  | _ => none }
def shareJoinsRow : OpenClaim := { program := "ytieejgkheijgeaa", sum := "8ae44d09f605e6c0b7d4f71b09a7f321344759ce2aecd2933d9c1b673ac9eebc", func := "privatefetch/privatefetchlaw07.ShareJoins", spec := "shareJoins", unfollowed := true, recurses := true, apart := false }
def ShareJoinsSaid : Prop := shareJoinsRow.holds Try.pinned (OpenSpec.ofChange shareJoinsSpec)

/-- ITS FALSE NEIGHBOUR: 'it returns false'. Refute it at one input. -/
def shareJoinsWrong : ChangeSpec := { name := "shareJoins", fn := fun _ => fun
  | [d] => { results := [.lit (.bool false)], args := [d] }
  | _ => none }
def ShareJoinsWrongFalsely : Prop := shareJoinsRow.holds Try.pinned (OpenSpec.ofChange shareJoinsWrong)

/-- 'privatefetchlaw07.ShareAdds': WHATEVER THE INPUT: true; the input reads as it did. -/
def shareAddsSpec : ChangeSpec := { name := "shareAdds", fn := fun _ => fun
  | [d] => { results := [.lit (.bool true)], args := [d] }
  | _ => none }
def shareAddsRow : OpenClaim := { program := "ytieejgkheijgeaa", sum := "8ae44d09f605e6c0b7d4f71b09a7f321344759ce2aecd2933d9c1b673ac9eebc", func := "privatefetch/privatefetchlaw07.ShareAdds", spec := "shareAdds", unfollowed := true, recurses := true, apart := false }
def ShareAddsSaid : Prop := shareAddsRow.holds Try.pinned (OpenSpec.ofChange shareAddsSpec)

/-- ITS FALSE NEIGHBOUR: 'it returns false'. Refute it at one input. -/
def shareAddsWrong : ChangeSpec := { name := "shareAdds", fn := fun _ => fun
  | [d] => { results := [.lit (.bool false)], args := [d] }
  | _ => none }
def ShareAddsWrongFalsely : Prop := shareAddsRow.holds Try.pinned (OpenSpec.ofChange shareAddsWrong)

/-- 'privatefetchlaw07.ShareChanges': WHATEVER THE INPUT: true; the input reads as it did. -/
def shareChangesSpec : ChangeSpec := { name := "shareChanges", fn := fun _ => fun
  | [d1, d2, d3] => { results := [.lit (.bool true)], args := [d1, d2, d3] }
  | _ => none }
def shareChangesRow : OpenClaim := { program := "ytieejgkheijgeaa", sum := "8ae44d09f605e6c0b7d4f71b09a7f321344759ce2aecd2933d9c1b673ac9eebc", func := "privatefetch/privatefetchlaw07.ShareChanges", spec := "shareChanges", unfollowed := true, recurses := true, apart := false }
def ShareChangesSaid : Prop := shareChangesRow.holds Try.pinned (OpenSpec.ofChange shareChangesSpec)

/-- ITS FALSE NEIGHBOUR: 'it returns false'. Refute it at one input. -/
def shareChangesWrong : ChangeSpec := { name := "shareChanges", fn := fun _ => fun
  | [d1, d2, d3] => { results := [.lit (.bool false)], args := [d1, d2, d3] }
  | _ => none }
def ShareChangesWrongFalsely : Prop := shareChangesRow.holds Try.pinned (OpenSpec.ofChange shareChangesWrong)

/-- 'privatefetchlaw07.ShareHides': WHATEVER THE INPUT: true; the input reads as it did. -/
def shareHidesSpec : ChangeSpec := { name := "shareHides", fn := fun _ => fun
  | [d1, d2, d3, d4] => { results := [.lit (.bool true)], args := [d1, d2, d3, d4] }
  | _ => none }
def shareHidesRow : OpenClaim := { program := "ytieejgkheijgeaa", sum := "8ae44d09f605e6c0b7d4f71b09a7f321344759ce2aecd2933d9c1b673ac9eebc", func := "privatefetch/privatefetchlaw07.ShareHides", spec := "shareHides", unfollowed := true, recurses := true, apart := false }
def ShareHidesSaid : Prop := shareHidesRow.holds Try.pinned (OpenSpec.ofChange shareHidesSpec)

/-- ITS FALSE NEIGHBOUR: 'it returns false'. Refute it at one input. -/
def shareHidesWrong : ChangeSpec := { name := "shareHides", fn := fun _ => fun
  | [d1, d2, d3, d4] => { results := [.lit (.bool false)], args := [d1, d2, d3, d4] }
  | _ => none }
def ShareHidesWrongFalsely : Prop := shareHidesRow.holds Try.pinned (OpenSpec.ofChange shareHidesWrong)

/-- 'privatefetchlaw07.ShareDoes': WHATEVER THE INPUT: true; the input reads as it did. -/
def shareDoesSpec : ChangeSpec := { name := "shareDoes", fn := fun _ => fun
  | [d1, d2, d3, d4, d5, d6, d7, d8] => { results := [.lit (.bool true)], args := [d1, d2, d3, d4, d5, d6, d7, d8] }
  | _ => none }
def shareDoesRow : OpenClaim := { program := "ytieejgkheijgeaa", sum := "8ae44d09f605e6c0b7d4f71b09a7f321344759ce2aecd2933d9c1b673ac9eebc", func := "privatefetch/privatefetchlaw07.ShareDoes", spec := "shareDoes", unfollowed := true, recurses := true, apart := false }
def ShareDoesSaid : Prop := shareDoesRow.holds Try.pinned (OpenSpec.ofChange shareDoesSpec)

/-- ITS FALSE NEIGHBOUR: 'it returns false'. Refute it at one input. -/
def shareDoesWrong : ChangeSpec := { name := "shareDoes", fn := fun _ => fun
  | [d1, d2, d3, d4, d5, d6, d7, d8] => { results := [.lit (.bool false)], args := [d1, d2, d3, d4, d5, d6, d7, d8] }
  | _ => none }
def ShareDoesWrongFalsely : Prop := shareDoesRow.holds Try.pinned (OpenSpec.ofChange shareDoesWrong)

/-- 'privatefetchlaw08.CodeDistance': WHATEVER THE INPUT: true; the input reads as it did. -/
def codeDistanceSpec : ChangeSpec := { name := "codeDistance", fn := fun _ => fun
  | [d] => { results := [.lit (.bool true)], args := [d] }
  | _ => none }
def codeDistanceRow : OpenClaim := { program := "ytieejgkheijgeaa", sum := "8ae44d09f605e6c0b7d4f71b09a7f321344759ce2aecd2933d9c1b673ac9eebc", func := "privatefetch/privatefetchlaw08.CodeDistance", spec := "codeDistance", unfollowed := true, recurses := true, apart := false }
def CodeDistanceSaid : Prop := codeDistanceRow.holds Try.pinned (OpenSpec.ofChange codeDistanceSpec)

/-- ITS FALSE NEIGHBOUR: 'it returns false'. Refute it at one input. -/
def codeDistanceWrong : ChangeSpec := { name := "codeDistance", fn := fun _ => fun
  | [d] => { results := [.lit (.bool false)], args := [d] }
  | _ => none }
def CodeDistanceWrongFalsely : Prop := codeDistanceRow.holds Try.pinned (OpenSpec.ofChange codeDistanceWrong)

/-- 'privatefetchlaw08.CodeLinear': WHATEVER THE INPUT: true; the input reads as it did. -/
def codeLinearSpec : ChangeSpec := { name := "codeLinear", fn := fun _ => fun
  | [d] => { results := [.lit (.bool true)], args := [d] }
  | _ => none }
def codeLinearRow : OpenClaim := { program := "ytieejgkheijgeaa", sum := "8ae44d09f605e6c0b7d4f71b09a7f321344759ce2aecd2933d9c1b673ac9eebc", func := "privatefetch/privatefetchlaw08.CodeLinear", spec := "codeLinear", unfollowed := true, recurses := true, apart := false }
def CodeLinearSaid : Prop := codeLinearRow.holds Try.pinned (OpenSpec.ofChange codeLinearSpec)

/-- ITS FALSE NEIGHBOUR: 'it returns false'. Refute it at one input. -/
def codeLinearWrong : ChangeSpec := { name := "codeLinear", fn := fun _ => fun
  | [d] => { results := [.lit (.bool false)], args := [d] }
  | _ => none }
def CodeLinearWrongFalsely : Prop := codeLinearRow.holds Try.pinned (OpenSpec.ofChange codeLinearWrong)

/-- 'privatefetchlaw08.CodeDoes': WHATEVER THE INPUT: true; the input reads as it did. -/
def codeDoesSpec : ChangeSpec := { name := "codeDoes", fn := fun _ => fun
  | [d1, d2, d3, d4, d5, d6] => { results := [.lit (.bool true)], args := [d1, d2, d3, d4, d5, d6] }
  | _ => none }
def codeDoesRow : OpenClaim := { program := "ytieejgkheijgeaa", sum := "8ae44d09f605e6c0b7d4f71b09a7f321344759ce2aecd2933d9c1b673ac9eebc", func := "privatefetch/privatefetchlaw08.CodeDoes", spec := "codeDoes", unfollowed := true, recurses := true, apart := false }
def CodeDoesSaid : Prop := codeDoesRow.holds Try.pinned (OpenSpec.ofChange codeDoesSpec)

/-- ITS FALSE NEIGHBOUR: 'it returns false'. Refute it at one input. -/
def codeDoesWrong : ChangeSpec := { name := "codeDoes", fn := fun _ => fun
  | [d1, d2, d3, d4, d5, d6] => { results := [.lit (.bool false)], args := [d1, d2, d3, d4, d5, d6] }
  | _ => none }
def CodeDoesWrongFalsely : Prop := codeDoesRow.holds Try.pinned (OpenSpec.ofChange codeDoesWrong)

/-- 'privatefetchlaw08.CodeFills': WHATEVER THE INPUT: true; the input reads as it did. -/
def codeFillsSpec : ChangeSpec := { name := "codeFills", fn := fun _ => fun
  | [d] => { results := [.lit (.bool true)], args := [d] }
  | _ => none }
def codeFillsRow : OpenClaim := { program := "ytieejgkheijgeaa", sum := "8ae44d09f605e6c0b7d4f71b09a7f321344759ce2aecd2933d9c1b673ac9eebc", func := "privatefetch/privatefetchlaw08.CodeFills", spec := "codeFills", unfollowed := true, recurses := true, apart := false }
def CodeFillsSaid : Prop := codeFillsRow.holds Try.pinned (OpenSpec.ofChange codeFillsSpec)

/-- ITS FALSE NEIGHBOUR: 'it returns false'. Refute it at one input. -/
def codeFillsWrong : ChangeSpec := { name := "codeFills", fn := fun _ => fun
  | [d] => { results := [.lit (.bool false)], args := [d] }
  | _ => none }
def CodeFillsWrongFalsely : Prop := codeFillsRow.holds Try.pinned (OpenSpec.ofChange codeFillsWrong)

/-- 'privatefetchlaw08.CodeRight': WHATEVER THE INPUT: true; the input reads as it did. -/
def codeRightSpec : ChangeSpec := { name := "codeRight", fn := fun _ => fun
  | [d1, d2, d3] => { results := [.lit (.bool true)], args := [d1, d2, d3] }
  | _ => none }
def codeRightRow : OpenClaim := { program := "ytieejgkheijgeaa", sum := "8ae44d09f605e6c0b7d4f71b09a7f321344759ce2aecd2933d9c1b673ac9eebc", func := "privatefetch/privatefetchlaw08.CodeRight", spec := "codeRight", unfollowed := true, recurses := true, apart := false }
def CodeRightSaid : Prop := codeRightRow.holds Try.pinned (OpenSpec.ofChange codeRightSpec)

/-- ITS FALSE NEIGHBOUR: 'it returns false'. Refute it at one input. -/
def codeRightWrong : ChangeSpec := { name := "codeRight", fn := fun _ => fun
  | [d1, d2, d3] => { results := [.lit (.bool false)], args := [d1, d2, d3] }
  | _ => none }
def CodeRightWrongFalsely : Prop := codeRightRow.holds Try.pinned (OpenSpec.ofChange codeRightWrong)

/- THE SECOND FORM. 'bulk': how many values and letters a reading holds, each counted each time it is reached (what is shared counts as often as it is met; a slice's spare places count too). A statement '..UptoSaid' is the law's where the arguments, and the package variables that the reading takes, are together of bulk at most 1048576: NARROWER than '..Said'. Prove '..Said' where nothing that the law and all that it calls make is longer than what came in: it says more and counts as full. Else prove '..UptoSaid'. A law counts once. -/
mutual
def uptoBulk {H : Type} : DataW H → Nat
  | .lit (.string bytes) => bytes.length + 1
  | .lit _ => 1
  | .nil => 1
  | .ptr d => uptoBulk d + 1
  | .slice elems spare => uptoBulkAll elems + uptoBulkAll spare + 1
  | .agg parts => uptoBulkAll parts + 1
  | .iface _ d => uptoBulk d + 1
  | .map entries => uptoBulkEntries entries + 1
  | .held _ => 1
def uptoBulkAll {H : Type} : List (DataW H) → Nat
  | [] => 0
  | d :: r => uptoBulk d + uptoBulkAll r
def uptoBulkEntries {H : Type} : List (Lit × DataW H) → Nat
  | [] => 0
  | x :: r => uptoBulkEntry x + uptoBulkEntries r
def uptoBulkEntry {H : Type} : Lit × DataW H → Nat
  | (.string bytes, d) => bytes.length + uptoBulk d + 1
  | (_, d) => uptoBulk d + 1
 end
def uptoSmall : (H : Type) → List (DataW H) → Bool := fun _ ds => decide (uptoBulkAll ds ≤ 1048576)
def OpenSpec.upto (s : _root_.Go.ChangeSpec) : _root_.Go.OpenSpec := { _root_.Go.OpenSpec.ofChange s with cond := some uptoSmall }

/-- 'privatefetchlaw07.ShareJoins', WHERE WHAT IT READS IS OF BULK AT MOST 1048576: true; the input reads as it did. -/
def shareJoinsUptoRow : OpenClaim := { program := "ytieejgkheijgeaa", sum := "8ae44d09f605e6c0b7d4f71b09a7f321344759ce2aecd2933d9c1b673ac9eebc", func := "privatefetch/privatefetchlaw07.ShareJoins", spec := "shareJoins", unfollowed := true, recurses := true, apart := false, narrowed := true }
def ShareJoinsUptoSaid : Prop := shareJoinsUptoRow.holds Try.pinned (OpenSpec.upto shareJoinsSpec)

/-- 'privatefetchlaw07.ShareAdds', WHERE WHAT IT READS IS OF BULK AT MOST 1048576: true; the input reads as it did. -/
def shareAddsUptoRow : OpenClaim := { program := "ytieejgkheijgeaa", sum := "8ae44d09f605e6c0b7d4f71b09a7f321344759ce2aecd2933d9c1b673ac9eebc", func := "privatefetch/privatefetchlaw07.ShareAdds", spec := "shareAdds", unfollowed := true, recurses := true, apart := false, narrowed := true }
def ShareAddsUptoSaid : Prop := shareAddsUptoRow.holds Try.pinned (OpenSpec.upto shareAddsSpec)

/-- 'privatefetchlaw07.ShareChanges', WHERE WHAT IT READS IS OF BULK AT MOST 1048576: true; the input reads as it did. -/
def shareChangesUptoRow : OpenClaim := { program := "ytieejgkheijgeaa", sum := "8ae44d09f605e6c0b7d4f71b09a7f321344759ce2aecd2933d9c1b673ac9eebc", func := "privatefetch/privatefetchlaw07.ShareChanges", spec := "shareChanges", unfollowed := true, recurses := true, apart := false, narrowed := true }
def ShareChangesUptoSaid : Prop := shareChangesUptoRow.holds Try.pinned (OpenSpec.upto shareChangesSpec)

/-- 'privatefetchlaw07.ShareHides', WHERE WHAT IT READS IS OF BULK AT MOST 1048576: true; the input reads as it did. -/
def shareHidesUptoRow : OpenClaim := { program := "ytieejgkheijgeaa", sum := "8ae44d09f605e6c0b7d4f71b09a7f321344759ce2aecd2933d9c1b673ac9eebc", func := "privatefetch/privatefetchlaw07.ShareHides", spec := "shareHides", unfollowed := true, recurses := true, apart := false, narrowed := true }
def ShareHidesUptoSaid : Prop := shareHidesUptoRow.holds Try.pinned (OpenSpec.upto shareHidesSpec)

/-- 'privatefetchlaw07.ShareDoes', WHERE WHAT IT READS IS OF BULK AT MOST 1048576: true; the input reads as it did. -/
def shareDoesUptoRow : OpenClaim := { program := "ytieejgkheijgeaa", sum := "8ae44d09f605e6c0b7d4f71b09a7f321344759ce2aecd2933d9c1b673ac9eebc", func := "privatefetch/privatefetchlaw07.ShareDoes", spec := "shareDoes", unfollowed := true, recurses := true, apart := false, narrowed := true }
def ShareDoesUptoSaid : Prop := shareDoesUptoRow.holds Try.pinned (OpenSpec.upto shareDoesSpec)

/-- 'privatefetchlaw08.CodeDistance', WHERE WHAT IT READS IS OF BULK AT MOST 1048576: true; the input reads as it did. -/
def codeDistanceUptoRow : OpenClaim := { program := "ytieejgkheijgeaa", sum := "8ae44d09f605e6c0b7d4f71b09a7f321344759ce2aecd2933d9c1b673ac9eebc", func := "privatefetch/privatefetchlaw08.CodeDistance", spec := "codeDistance", unfollowed := true, recurses := true, apart := false, narrowed := true }
def CodeDistanceUptoSaid : Prop := codeDistanceUptoRow.holds Try.pinned (OpenSpec.upto codeDistanceSpec)

/-- 'privatefetchlaw08.CodeLinear', WHERE WHAT IT READS IS OF BULK AT MOST 1048576: true; the input reads as it did. -/
def codeLinearUptoRow : OpenClaim := { program := "ytieejgkheijgeaa", sum := "8ae44d09f605e6c0b7d4f71b09a7f321344759ce2aecd2933d9c1b673ac9eebc", func := "privatefetch/privatefetchlaw08.CodeLinear", spec := "codeLinear", unfollowed := true, recurses := true, apart := false, narrowed := true }
def CodeLinearUptoSaid : Prop := codeLinearUptoRow.holds Try.pinned (OpenSpec.upto codeLinearSpec)

/-- 'privatefetchlaw08.CodeDoes', WHERE WHAT IT READS IS OF BULK AT MOST 1048576: true; the input reads as it did. -/
def codeDoesUptoRow : OpenClaim := { program := "ytieejgkheijgeaa", sum := "8ae44d09f605e6c0b7d4f71b09a7f321344759ce2aecd2933d9c1b673ac9eebc", func := "privatefetch/privatefetchlaw08.CodeDoes", spec := "codeDoes", unfollowed := true, recurses := true, apart := false, narrowed := true }
def CodeDoesUptoSaid : Prop := codeDoesUptoRow.holds Try.pinned (OpenSpec.upto codeDoesSpec)

/-- 'privatefetchlaw08.CodeFills', WHERE WHAT IT READS IS OF BULK AT MOST 1048576: true; the input reads as it did. -/
def codeFillsUptoRow : OpenClaim := { program := "ytieejgkheijgeaa", sum := "8ae44d09f605e6c0b7d4f71b09a7f321344759ce2aecd2933d9c1b673ac9eebc", func := "privatefetch/privatefetchlaw08.CodeFills", spec := "codeFills", unfollowed := true, recurses := true, apart := false, narrowed := true }
def CodeFillsUptoSaid : Prop := codeFillsUptoRow.holds Try.pinned (OpenSpec.upto codeFillsSpec)

/-- 'privatefetchlaw08.CodeRight', WHERE WHAT IT READS IS OF BULK AT MOST 1048576: true; the input reads as it did. -/
def codeRightUptoRow : OpenClaim := { program := "ytieejgkheijgeaa", sum := "8ae44d09f605e6c0b7d4f71b09a7f321344759ce2aecd2933d9c1b673ac9eebc", func := "privatefetch/privatefetchlaw08.CodeRight", spec := "codeRight", unfollowed := true, recurses := true, apart := false, narrowed := true }
def CodeRightUptoSaid : Prop := codeRightUptoRow.holds Try.pinned (OpenSpec.upto codeRightSpec)

end Rows
end Go.Proofs.Ytieejgkheijgeaa
