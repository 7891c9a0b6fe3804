/-
  DERIVED. GIVEN WITH THE SEED: THE CARDS: each row of YtmcgnpdfpfgfpaaGreatDoorRows.lean that lists a variable, with what it lists TIED to the program's text (the seventh form; the later family's looks); each row that meets fmt, with fmt's text TOLD by the authors' own Lean function (tested against real Go, not proved from fmt's source: count such statements apart). THE CARD IS WHAT COUNTS. Prove the row's statement (the work); the ties are given (YtmcgnpdfpfgfpaaGreatDoorTie.lean); close each card by the builder's one call (the guide's Derived/Test/ToyasCard.lean, 'card_holds'). Laid BY PROGRAM, IN A SANDBOX (cutbox-door.mjs). By AI agents, Wed Nov 11 2026. No macro, syntax, notation, axiom, sorry.
-/
import Derived.Test.YtmcgnpdfpfgfpaaGreatDoorRows
import GoSem.ClaimSeven
namespace Go.Proofs.YtmcgnpdfpfgfpaaGreatDoor
namespace Rows

/-- THE TIED CARD OF 'privatefetchtop.TopKeywords'. -/
def topKeywordsCard : Claim7 := { stood := { row := topKeywordsRow, standIns := [], harness := (true, "48c3dfad83c2ab60e4224f6b80573569da01373c495eff732d14f87a4501b5d2"), looks := true }, kinds := [], alts := [], laidByText := true, laidKinds := [.wider], laidTests := true, laidLooks := .later }
def TopKeywordsCardSaid : Prop := Claim7.holds Tryz.pinned (.plain (OpenSpec.ofChange topKeywordsSpec)) topKeywordsCard

/-- THE TIED CARD OF 'privatefetchtop.TopLists'. -/
def topListsCard : Claim7 := { stood := { row := topListsRow, standIns := [], harness := (true, "48c3dfad83c2ab60e4224f6b80573569da01373c495eff732d14f87a4501b5d2"), looks := true }, kinds := [], alts := [], laidByText := true, laidKinds := [.wider], laidTests := true, laidLooks := .later }
def TopListsCardSaid : Prop := Claim7.holds Tryz.pinned (.plain (OpenSpec.ofChange topListsSpec)) topListsCard

/-- THE SECOND FORM's CARD OF 'privatefetchtop.TopKeywords'. -/
def topKeywordsUptoCard : Claim7 := { stood := { row := topKeywordsUptoRow, standIns := [], harness := (true, "48c3dfad83c2ab60e4224f6b80573569da01373c495eff732d14f87a4501b5d2"), looks := true }, kinds := [], alts := [], laidByText := true, laidKinds := [.wider], laidTests := true, laidLooks := .later }
def TopKeywordsUptoCardSaid : Prop := Claim7.holds Tryz.pinned (.plain (OpenSpec.upto topKeywordsSpec)) topKeywordsUptoCard

/-- THE SECOND FORM's CARD OF 'privatefetchtop.TopLists'. -/
def topListsUptoCard : Claim7 := { stood := { row := topListsUptoRow, standIns := [], harness := (true, "48c3dfad83c2ab60e4224f6b80573569da01373c495eff732d14f87a4501b5d2"), looks := true }, kinds := [], alts := [], laidByText := true, laidKinds := [.wider], laidTests := true, laidLooks := .later }
def TopListsUptoCardSaid : Prop := Claim7.holds Tryz.pinned (.plain (OpenSpec.upto topListsSpec)) topListsUptoCard
end Rows
end Go.Proofs.YtmcgnpdfpfgfpaaGreatDoor
