/-
  What poly's Degree hands back for a valid polynomial. Conditions: the list reads as its numbers.
-/
import Derived.Test.YtmcgnpdfpfgfpaaGreatDoorGPol
namespace Go.Proofs.YtmcgnpdfpfgfpaaGreatDoor
open Go.RowKit
set_option linter.unusedVariables false

end Go.Proofs.YtmcgnpdfpfgfpaaGreatDoor
