/-
  NARROWER THAN 'FOR EVERY INPUT', by the rows' own cells (each row's printed sentence says how): UniqueDoes: laid · UniqueCorrects: laid · UniqueErrors: laid · UniqueOnly: laid · UniqueKeys: laid · UniqueSilent: laid.
  DERIVED. THE GIVEN ROWS OF THIS SEAT. 6 by the template 'for every input the law returns true; each argument reads behind the call as it read before'; 0 by the template 'total and deterministic' (their statements: YtnjdjcgandfnfaaDoorTotals.lean).
  GIVEN WITH THE SEED: the statements are not yours to turn. If you find one false, say at which input.
  Laid BY PROGRAM, IN A SANDBOX (cutbox-rows.mjs): the forced cells as the released guide's own fill.sh prints them over the translation d98dc5ded5739cd3… (all of the seat's roots in one cut). By AI agents, Wed Nov 11 2026. No macro, syntax, notation, axiom, sorry.
-/
import Derived.Test.YtnjdjcgandfnfaaDoorChecked
import GoSem.Claim
import GoSem.ClaimJoined
import GoSem.ClaimMapViews
import Derived.JoinedTies
import Derived.KernelRfl
namespace Go.Proofs.YtnjdjcgandfnfaaDoor
/- THE CELL 'sum', in the pinned program and in every row, IS THE sha256 OF THE DUMP (.gsa) THAT YtnjdjcgandfnfaaDoorProg.lean LOADS. Nothing in Lean hashes anything: it is a label: what it is worth is what the hold of that sum in a sandbox is worth. -/
noncomputable def Tryd.pinned : Pinned := { name := "ytnjdjcgandfnfaadoor", sum := "d98dc5ded5739cd39b7417e686b0c39a2dc5b839b835a11aaba6e93efbf632ee", checked := Tryd.checked }
namespace Rows
def none {H : Type} : Left H := { results := [], args := [] }

/- WHAT THE LISTED PACKAGE-LEVEL VARIABLES READ AS WHEN THE CALL BEGINS. Each datum BY PROGRAM (the guide's laid-datum.mjs) off the statement by which the dump's own 'gosem.cut.vars' lays the variable. In a bare row this is a premise. The card (YtnjdjcgandfnfaaDoorCards.lean) ties it to the program's text. -/
def laid_privatefetch_unique_errWrong {H : Type} : DataW H := .iface "privatefetch/unique.failure" (.agg [.lit (.int .i64 12)])

/-- 'privatefetchlaw09.UniqueDoes': WHATEVER THE INPUT: true; the input reads as it did. -/
def uniqueDoesSpec : ChangeSpec := { name := "uniqueDoes", fn := fun _ => fun
  | [d1, d2, d3, d4, d5, d6] => { results := [.lit (.bool true)], args := [d1, d2, d3, d4, d5, d6] }
  | _ => none }
def uniqueDoesRow : OpenClaim := { program := "ytnjdjcgandfnfaadoor", sum := "d98dc5ded5739cd39b7417e686b0c39a2dc5b839b835a11aaba6e93efbf632ee", func := "privatefetch/privatefetchlaw09.UniqueDoes", spec := "uniqueDoes", inPlace := ["internal/reflectlite.TypeOf"], unfollowed := true, recurses := true, named := ["privatefetch/unique.errWrong"], apart := false, laid := [("privatefetch/unique.errWrong", laid_privatefetch_unique_errWrong)] }
def UniqueDoesSaid : Prop := uniqueDoesRow.holds Tryd.pinned (OpenSpec.ofChange uniqueDoesSpec)

/-- ITS FALSE NEIGHBOUR: 'it returns false'. Refute it at one input. -/
def uniqueDoesWrong : ChangeSpec := { name := "uniqueDoes", fn := fun _ => fun
  | [d1, d2, d3, d4, d5, d6] => { results := [.lit (.bool false)], args := [d1, d2, d3, d4, d5, d6] }
  | _ => none }
def UniqueDoesWrongFalsely : Prop := uniqueDoesRow.holds Tryd.pinned (OpenSpec.ofChange uniqueDoesWrong)

/-- 'privatefetchlaw09.UniqueCorrects': WHATEVER THE INPUT: true; the input reads as it did. -/
def uniqueCorrectsSpec : ChangeSpec := { name := "uniqueCorrects", fn := fun _ => fun
  | [d] => { results := [.lit (.bool true)], args := [d] }
  | _ => none }
def uniqueCorrectsRow : OpenClaim := { program := "ytnjdjcgandfnfaadoor", sum := "d98dc5ded5739cd39b7417e686b0c39a2dc5b839b835a11aaba6e93efbf632ee", func := "privatefetch/privatefetchlaw09.UniqueCorrects", spec := "uniqueCorrects", inPlace := ["internal/reflectlite.TypeOf"], unfollowed := true, recurses := true, named := ["privatefetch/unique.errWrong"], apart := false, laid := [("privatefetch/unique.errWrong", laid_privatefetch_unique_errWrong)] }
def UniqueCorrectsSaid : Prop := uniqueCorrectsRow.holds Tryd.pinned (OpenSpec.ofChange uniqueCorrectsSpec)

/-- ITS FALSE NEIGHBOUR: 'it returns false'. Refute it at one input. -/
def uniqueCorrectsWrong : ChangeSpec := { name := "uniqueCorrects", fn := fun _ => fun
  | [d] => { results := [.lit (.bool false)], args := [d] }
  | _ => none }
def UniqueCorrectsWrongFalsely : Prop := uniqueCorrectsRow.holds Tryd.pinned (OpenSpec.ofChange uniqueCorrectsWrong)

/-- 'privatefetchlaw09.UniqueErrors': WHATEVER THE INPUT: true; the input reads as it did. -/
def uniqueErrorsSpec : ChangeSpec := { name := "uniqueErrors", fn := fun _ => fun
  | [d] => { results := [.lit (.bool true)], args := [d] }
  | _ => none }
def uniqueErrorsRow : OpenClaim := { program := "ytnjdjcgandfnfaadoor", sum := "d98dc5ded5739cd39b7417e686b0c39a2dc5b839b835a11aaba6e93efbf632ee", func := "privatefetch/privatefetchlaw09.UniqueErrors", spec := "uniqueErrors", inPlace := ["internal/reflectlite.TypeOf"], unfollowed := true, recurses := true, named := ["privatefetch/unique.errWrong"], apart := false, laid := [("privatefetch/unique.errWrong", laid_privatefetch_unique_errWrong)] }
def UniqueErrorsSaid : Prop := uniqueErrorsRow.holds Tryd.pinned (OpenSpec.ofChange uniqueErrorsSpec)

/-- ITS FALSE NEIGHBOUR: 'it returns false'. Refute it at one input. -/
def uniqueErrorsWrong : ChangeSpec := { name := "uniqueErrors", fn := fun _ => fun
  | [d] => { results := [.lit (.bool false)], args := [d] }
  | _ => none }
def UniqueErrorsWrongFalsely : Prop := uniqueErrorsRow.holds Tryd.pinned (OpenSpec.ofChange uniqueErrorsWrong)

/-- 'privatefetchlaw09.UniqueOnly': WHATEVER THE INPUT: true; the input reads as it did. -/
def uniqueOnlySpec : ChangeSpec := { name := "uniqueOnly", fn := fun _ => fun
  | [d1, d2, d3] => { results := [.lit (.bool true)], args := [d1, d2, d3] }
  | _ => none }
def uniqueOnlyRow : OpenClaim := { program := "ytnjdjcgandfnfaadoor", sum := "d98dc5ded5739cd39b7417e686b0c39a2dc5b839b835a11aaba6e93efbf632ee", func := "privatefetch/privatefetchlaw09.UniqueOnly", spec := "uniqueOnly", inPlace := ["internal/reflectlite.TypeOf"], unfollowed := true, recurses := true, named := ["privatefetch/unique.errWrong"], apart := false, laid := [("privatefetch/unique.errWrong", laid_privatefetch_unique_errWrong)] }
def UniqueOnlySaid : Prop := uniqueOnlyRow.holds Tryd.pinned (OpenSpec.ofChange uniqueOnlySpec)

/-- ITS FALSE NEIGHBOUR: 'it returns false'. Refute it at one input. -/
def uniqueOnlyWrong : ChangeSpec := { name := "uniqueOnly", fn := fun _ => fun
  | [d1, d2, d3] => { results := [.lit (.bool false)], args := [d1, d2, d3] }
  | _ => none }
def UniqueOnlyWrongFalsely : Prop := uniqueOnlyRow.holds Tryd.pinned (OpenSpec.ofChange uniqueOnlyWrong)

/-- 'privatefetchlaw09.UniqueKeys': WHATEVER THE INPUT: true; the input reads as it did. -/
def uniqueKeysSpec : ChangeSpec := { name := "uniqueKeys", fn := fun _ => fun
  | [d] => { results := [.lit (.bool true)], args := [d] }
  | _ => none }
def uniqueKeysRow : OpenClaim := { program := "ytnjdjcgandfnfaadoor", sum := "d98dc5ded5739cd39b7417e686b0c39a2dc5b839b835a11aaba6e93efbf632ee", func := "privatefetch/privatefetchlaw09.UniqueKeys", spec := "uniqueKeys", inPlace := ["internal/reflectlite.TypeOf"], unfollowed := true, recurses := true, named := ["privatefetch/unique.errWrong"], apart := false, laid := [("privatefetch/unique.errWrong", laid_privatefetch_unique_errWrong)] }
def UniqueKeysSaid : Prop := uniqueKeysRow.holds Tryd.pinned (OpenSpec.ofChange uniqueKeysSpec)

/-- ITS FALSE NEIGHBOUR: 'it returns false'. Refute it at one input. -/
def uniqueKeysWrong : ChangeSpec := { name := "uniqueKeys", fn := fun _ => fun
  | [d] => { results := [.lit (.bool false)], args := [d] }
  | _ => none }
def UniqueKeysWrongFalsely : Prop := uniqueKeysRow.holds Tryd.pinned (OpenSpec.ofChange uniqueKeysWrong)

/-- 'privatefetchlaw09.UniqueSilent': WHATEVER THE INPUT: true; the input reads as it did. -/
def uniqueSilentSpec : ChangeSpec := { name := "uniqueSilent", fn := fun _ => fun
  | [d] => { results := [.lit (.bool true)], args := [d] }
  | _ => none }
def uniqueSilentRow : OpenClaim := { program := "ytnjdjcgandfnfaadoor", sum := "d98dc5ded5739cd39b7417e686b0c39a2dc5b839b835a11aaba6e93efbf632ee", func := "privatefetch/privatefetchlaw09.UniqueSilent", spec := "uniqueSilent", inPlace := ["internal/reflectlite.TypeOf"], unfollowed := true, recurses := true, named := ["privatefetch/unique.errWrong"], apart := false, laid := [("privatefetch/unique.errWrong", laid_privatefetch_unique_errWrong)] }
def UniqueSilentSaid : Prop := uniqueSilentRow.holds Tryd.pinned (OpenSpec.ofChange uniqueSilentSpec)

/-- ITS FALSE NEIGHBOUR: 'it returns false'. Refute it at one input. -/
def uniqueSilentWrong : ChangeSpec := { name := "uniqueSilent", fn := fun _ => fun
  | [d] => { results := [.lit (.bool false)], args := [d] }
  | _ => none }
def UniqueSilentWrongFalsely : Prop := uniqueSilentRow.holds Tryd.pinned (OpenSpec.ofChange uniqueSilentWrong)

/- THE SECOND FORM. 'bulk': how many values and letters a reading holds, each counted each time it is reached (what is shared counts as often as it is met; a slice's spare places count too). A statement '..UptoSaid' is the law's where the arguments, and the package variables that the reading takes, are together of bulk at most 1048576: NARROWER than '..Said'. Prove '..Said' where nothing that the law and all that it calls make is longer than what came in: it says more and counts as full. Else prove '..UptoSaid'. A law counts once. -/
mutual
def uptoBulk {H : Type} : DataW H → Nat
  | .lit (.string bytes) => bytes.length + 1
  | .lit _ => 1
  | .nil => 1
  | .ptr d => uptoBulk d + 1
  | .slice elems spare => uptoBulkAll elems + uptoBulkAll spare + 1
  | .agg parts => uptoBulkAll parts + 1
  | .iface _ d => uptoBulk d + 1
  | .map entries => uptoBulkEntries entries + 1
  | .held _ => 1
def uptoBulkAll {H : Type} : List (DataW H) → Nat
  | [] => 0
  | d :: r => uptoBulk d + uptoBulkAll r
def uptoBulkEntries {H : Type} : List (Lit × DataW H) → Nat
  | [] => 0
  | x :: r => uptoBulkEntry x + uptoBulkEntries r
def uptoBulkEntry {H : Type} : Lit × DataW H → Nat
  | (.string bytes, d) => bytes.length + uptoBulk d + 1
  | (_, d) => uptoBulk d + 1
 end
def uptoSmall : (H : Type) → List (DataW H) → Bool := fun _ ds => decide (uptoBulkAll ds ≤ 1048576)
def OpenSpec.upto (s : _root_.Go.ChangeSpec) : _root_.Go.OpenSpec := { _root_.Go.OpenSpec.ofChange s with cond := some uptoSmall }

/-- 'privatefetchlaw09.UniqueDoes', WHERE WHAT IT READS IS OF BULK AT MOST 1048576: true; the input reads as it did. -/
def uniqueDoesUptoRow : OpenClaim := { program := "ytnjdjcgandfnfaadoor", sum := "d98dc5ded5739cd39b7417e686b0c39a2dc5b839b835a11aaba6e93efbf632ee", func := "privatefetch/privatefetchlaw09.UniqueDoes", spec := "uniqueDoes", inPlace := ["internal/reflectlite.TypeOf"], unfollowed := true, recurses := true, named := ["privatefetch/unique.errWrong"], apart := false, laid := [("privatefetch/unique.errWrong", laid_privatefetch_unique_errWrong)], narrowed := true }
def UniqueDoesUptoSaid : Prop := uniqueDoesUptoRow.holds Tryd.pinned (OpenSpec.upto uniqueDoesSpec)

/-- 'privatefetchlaw09.UniqueCorrects', WHERE WHAT IT READS IS OF BULK AT MOST 1048576: true; the input reads as it did. -/
def uniqueCorrectsUptoRow : OpenClaim := { program := "ytnjdjcgandfnfaadoor", sum := "d98dc5ded5739cd39b7417e686b0c39a2dc5b839b835a11aaba6e93efbf632ee", func := "privatefetch/privatefetchlaw09.UniqueCorrects", spec := "uniqueCorrects", inPlace := ["internal/reflectlite.TypeOf"], unfollowed := true, recurses := true, named := ["privatefetch/unique.errWrong"], apart := false, laid := [("privatefetch/unique.errWrong", laid_privatefetch_unique_errWrong)], narrowed := true }
def UniqueCorrectsUptoSaid : Prop := uniqueCorrectsUptoRow.holds Tryd.pinned (OpenSpec.upto uniqueCorrectsSpec)

/-- 'privatefetchlaw09.UniqueErrors', WHERE WHAT IT READS IS OF BULK AT MOST 1048576: true; the input reads as it did. -/
def uniqueErrorsUptoRow : OpenClaim := { program := "ytnjdjcgandfnfaadoor", sum := "d98dc5ded5739cd39b7417e686b0c39a2dc5b839b835a11aaba6e93efbf632ee", func := "privatefetch/privatefetchlaw09.UniqueErrors", spec := "uniqueErrors", inPlace := ["internal/reflectlite.TypeOf"], unfollowed := true, recurses := true, named := ["privatefetch/unique.errWrong"], apart := false, laid := [("privatefetch/unique.errWrong", laid_privatefetch_unique_errWrong)], narrowed := true }
def UniqueErrorsUptoSaid : Prop := uniqueErrorsUptoRow.holds Tryd.pinned (OpenSpec.upto uniqueErrorsSpec)

/-- 'privatefetchlaw09.UniqueOnly', WHERE WHAT IT READS IS OF BULK AT MOST 1048576: true; the input reads as it did. -/
def uniqueOnlyUptoRow : OpenClaim := { program := "ytnjdjcgandfnfaadoor", sum := "d98dc5ded5739cd39b7417e686b0c39a2dc5b839b835a11aaba6e93efbf632ee", func := "privatefetch/privatefetchlaw09.UniqueOnly", spec := "uniqueOnly", inPlace := ["internal/reflectlite.TypeOf"], unfollowed := true, recurses := true, named := ["privatefetch/unique.errWrong"], apart := false, laid := [("privatefetch/unique.errWrong", laid_privatefetch_unique_errWrong)], narrowed := true }
def UniqueOnlyUptoSaid : Prop := uniqueOnlyUptoRow.holds Tryd.pinned (OpenSpec.upto uniqueOnlySpec)

/-- 'privatefetchlaw09.UniqueKeys', WHERE WHAT IT READS IS OF BULK AT MOST 1048576: true; the input reads as it did. -/
def uniqueKeysUptoRow : OpenClaim := { program := "ytnjdjcgandfnfaadoor", sum := "d98dc5ded5739cd39b7417e686b0c39a2dc5b839b835a11aaba6e93efbf632ee", func := "privatefetch/privatefetchlaw09.UniqueKeys", spec := "uniqueKeys", inPlace := ["internal/reflectlite.TypeOf"], unfollowed := true, recurses := true, named := ["privatefetch/unique.errWrong"], apart := false, laid := [("privatefetch/unique.errWrong", laid_privatefetch_unique_errWrong)], narrowed := true }
def UniqueKeysUptoSaid : Prop := uniqueKeysUptoRow.holds Tryd.pinned (OpenSpec.upto uniqueKeysSpec)

/-- 'privatefetchlaw09.UniqueSilent', WHERE WHAT IT READS IS OF BULK AT MOST 1048576: true; the input reads as it did. -/
def uniqueSilentUptoRow : OpenClaim := { program := "ytnjdjcgandfnfaadoor", sum := "d98dc5ded5739cd39b7417e686b0c39a2dc5b839b835a11aaba6e93efbf632ee", func := "privatefetch/privatefetchlaw09.UniqueSilent", spec := "uniqueSilent", inPlace := ["internal/reflectlite.TypeOf"], unfollowed := true, recurses := true, named := ["privatefetch/unique.errWrong"], apart := false, laid := [("privatefetch/unique.errWrong", laid_privatefetch_unique_errWrong)], narrowed := true }
def UniqueSilentUptoSaid : Prop := uniqueSilentUptoRow.holds Tryd.pinned (OpenSpec.upto uniqueSilentSpec)

end Rows
end Go.Proofs.YtnjdjcgandfnfaaDoor
