/-
  What code's Agree hands back where all known values are elements. Conditions: the lists read as their numbers, the cells as their values and marks.
-/
import Derived.Test.YtmcgnpdfpfgfpaaGreatDoorGCod
import Derived.Test.YtmcgnpdfpfgfpaaGreatDoorPDegK
import Derived.Test.YtmcgnpdfpfgfpaaGreatDoorGUni
import Derived.Test.YtmcgnpdfpfgfpaaGreatDoorPlain
import Derived.Deep.QuietTactic
import Derived.BigQuiet
import Derived.Deep.RegionHeld3
namespace Go.Proofs.YtmcgnpdfpfgfpaaGreatDoor
open Go.RowKit Go.Shelf
set_option linter.unusedVariables false
attribute [local go_sem] Oper.semAt_some

end Go.Proofs.YtmcgnpdfpfgfpaaGreatDoor
