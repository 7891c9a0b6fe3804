/-
  DERIVED. GIVEN WITH THE SEED: THE CARDS: each row of YtnjdjcgandfnfaaDoorRows.lean that lists a variable, with what it lists TIED to the program's text (the seventh form; the later family's looks); each row that meets fmt, with fmt's text TOLD by the authors' own Lean function (tested against real Go, not proved from fmt's source: count such statements apart). THE CARD IS WHAT COUNTS. Prove the row's statement (the work); the ties are given (YtnjdjcgandfnfaaDoorTie.lean); close each card by the builder's one call (the guide's Derived/Test/ToyasCard.lean, 'card_holds'). Laid BY PROGRAM, IN A SANDBOX (cutbox-door.mjs). By AI agents, Wed Nov 11 2026. No macro, syntax, notation, axiom, sorry.
-/
import Derived.Test.YtnjdjcgandfnfaaDoorRows
import GoSem.ClaimSeven
namespace Go.Proofs.YtnjdjcgandfnfaaDoor
namespace Rows

/-- THE TIED CARD OF 'privatefetchlaw09.UniqueDoes'. -/
def uniqueDoesCard : Claim7 := { stood := { row := uniqueDoesRow, standIns := [], harness := (true, "ae00fc5010851edd8aa983500db38899f7e2ec6903b91646ae4c973907bb4e01"), looks := true }, kinds := [], alts := [], laidByText := true, laidKinds := [.wider], laidTests := true, laidLooks := .later }
def UniqueDoesCardSaid : Prop := Claim7.holds Tryd.pinned (.plain (OpenSpec.ofChange uniqueDoesSpec)) uniqueDoesCard

/-- THE TIED CARD OF 'privatefetchlaw09.UniqueCorrects'. -/
def uniqueCorrectsCard : Claim7 := { stood := { row := uniqueCorrectsRow, standIns := [], harness := (true, "ae00fc5010851edd8aa983500db38899f7e2ec6903b91646ae4c973907bb4e01"), looks := true }, kinds := [], alts := [], laidByText := true, laidKinds := [.wider], laidTests := true, laidLooks := .later }
def UniqueCorrectsCardSaid : Prop := Claim7.holds Tryd.pinned (.plain (OpenSpec.ofChange uniqueCorrectsSpec)) uniqueCorrectsCard

/-- THE TIED CARD OF 'privatefetchlaw09.UniqueErrors'. -/
def uniqueErrorsCard : Claim7 := { stood := { row := uniqueErrorsRow, standIns := [], harness := (true, "ae00fc5010851edd8aa983500db38899f7e2ec6903b91646ae4c973907bb4e01"), looks := true }, kinds := [], alts := [], laidByText := true, laidKinds := [.wider], laidTests := true, laidLooks := .later }
def UniqueErrorsCardSaid : Prop := Claim7.holds Tryd.pinned (.plain (OpenSpec.ofChange uniqueErrorsSpec)) uniqueErrorsCard

/-- THE TIED CARD OF 'privatefetchlaw09.UniqueOnly'. -/
def uniqueOnlyCard : Claim7 := { stood := { row := uniqueOnlyRow, standIns := [], harness := (true, "ae00fc5010851edd8aa983500db38899f7e2ec6903b91646ae4c973907bb4e01"), looks := true }, kinds := [], alts := [], laidByText := true, laidKinds := [.wider], laidTests := true, laidLooks := .later }
def UniqueOnlyCardSaid : Prop := Claim7.holds Tryd.pinned (.plain (OpenSpec.ofChange uniqueOnlySpec)) uniqueOnlyCard

/-- THE TIED CARD OF 'privatefetchlaw09.UniqueKeys'. -/
def uniqueKeysCard : Claim7 := { stood := { row := uniqueKeysRow, standIns := [], harness := (true, "ae00fc5010851edd8aa983500db38899f7e2ec6903b91646ae4c973907bb4e01"), looks := true }, kinds := [], alts := [], laidByText := true, laidKinds := [.wider], laidTests := true, laidLooks := .later }
def UniqueKeysCardSaid : Prop := Claim7.holds Tryd.pinned (.plain (OpenSpec.ofChange uniqueKeysSpec)) uniqueKeysCard

/-- THE TIED CARD OF 'privatefetchlaw09.UniqueSilent'. -/
def uniqueSilentCard : Claim7 := { stood := { row := uniqueSilentRow, standIns := [], harness := (true, "ae00fc5010851edd8aa983500db38899f7e2ec6903b91646ae4c973907bb4e01"), looks := true }, kinds := [], alts := [], laidByText := true, laidKinds := [.wider], laidTests := true, laidLooks := .later }
def UniqueSilentCardSaid : Prop := Claim7.holds Tryd.pinned (.plain (OpenSpec.ofChange uniqueSilentSpec)) uniqueSilentCard

/-- THE SECOND FORM's CARD OF 'privatefetchlaw09.UniqueDoes'. -/
def uniqueDoesUptoCard : Claim7 := { stood := { row := uniqueDoesUptoRow, standIns := [], harness := (true, "ae00fc5010851edd8aa983500db38899f7e2ec6903b91646ae4c973907bb4e01"), looks := true }, kinds := [], alts := [], laidByText := true, laidKinds := [.wider], laidTests := true, laidLooks := .later }
def UniqueDoesUptoCardSaid : Prop := Claim7.holds Tryd.pinned (.plain (OpenSpec.upto uniqueDoesSpec)) uniqueDoesUptoCard

/-- THE SECOND FORM's CARD OF 'privatefetchlaw09.UniqueCorrects'. -/
def uniqueCorrectsUptoCard : Claim7 := { stood := { row := uniqueCorrectsUptoRow, standIns := [], harness := (true, "ae00fc5010851edd8aa983500db38899f7e2ec6903b91646ae4c973907bb4e01"), looks := true }, kinds := [], alts := [], laidByText := true, laidKinds := [.wider], laidTests := true, laidLooks := .later }
def UniqueCorrectsUptoCardSaid : Prop := Claim7.holds Tryd.pinned (.plain (OpenSpec.upto uniqueCorrectsSpec)) uniqueCorrectsUptoCard

/-- THE SECOND FORM's CARD OF 'privatefetchlaw09.UniqueErrors'. -/
def uniqueErrorsUptoCard : Claim7 := { stood := { row := uniqueErrorsUptoRow, standIns := [], harness := (true, "ae00fc5010851edd8aa983500db38899f7e2ec6903b91646ae4c973907bb4e01"), looks := true }, kinds := [], alts := [], laidByText := true, laidKinds := [.wider], laidTests := true, laidLooks := .later }
def UniqueErrorsUptoCardSaid : Prop := Claim7.holds Tryd.pinned (.plain (OpenSpec.upto uniqueErrorsSpec)) uniqueErrorsUptoCard

/-- THE SECOND FORM's CARD OF 'privatefetchlaw09.UniqueOnly'. -/
def uniqueOnlyUptoCard : Claim7 := { stood := { row := uniqueOnlyUptoRow, standIns := [], harness := (true, "ae00fc5010851edd8aa983500db38899f7e2ec6903b91646ae4c973907bb4e01"), looks := true }, kinds := [], alts := [], laidByText := true, laidKinds := [.wider], laidTests := true, laidLooks := .later }
def UniqueOnlyUptoCardSaid : Prop := Claim7.holds Tryd.pinned (.plain (OpenSpec.upto uniqueOnlySpec)) uniqueOnlyUptoCard

/-- THE SECOND FORM's CARD OF 'privatefetchlaw09.UniqueKeys'. -/
def uniqueKeysUptoCard : Claim7 := { stood := { row := uniqueKeysUptoRow, standIns := [], harness := (true, "ae00fc5010851edd8aa983500db38899f7e2ec6903b91646ae4c973907bb4e01"), looks := true }, kinds := [], alts := [], laidByText := true, laidKinds := [.wider], laidTests := true, laidLooks := .later }
def UniqueKeysUptoCardSaid : Prop := Claim7.holds Tryd.pinned (.plain (OpenSpec.upto uniqueKeysSpec)) uniqueKeysUptoCard

/-- THE SECOND FORM's CARD OF 'privatefetchlaw09.UniqueSilent'. -/
def uniqueSilentUptoCard : Claim7 := { stood := { row := uniqueSilentUptoRow, standIns := [], harness := (true, "ae00fc5010851edd8aa983500db38899f7e2ec6903b91646ae4c973907bb4e01"), looks := true }, kinds := [], alts := [], laidByText := true, laidKinds := [.wider], laidTests := true, laidLooks := .later }
def UniqueSilentUptoCardSaid : Prop := Claim7.holds Tryd.pinned (.plain (OpenSpec.upto uniqueSilentSpec)) uniqueSilentUptoCard
end Rows
end Go.Proofs.YtnjdjcgandfnfaaDoor
