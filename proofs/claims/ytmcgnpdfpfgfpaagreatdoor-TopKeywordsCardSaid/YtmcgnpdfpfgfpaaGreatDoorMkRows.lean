/-
  What the maker of rows hands back. Conditions: the deck's list reads as its numbers and is short.
-/
import Derived.Test.YtmcgnpdfpfgfpaaGreatDoorGMem
import Derived.Test.YtmcgnpdfpfgfpaaGreatDoorPlain
namespace Go.Proofs.YtmcgnpdfpfgfpaaGreatDoor
open Go.RowKit
set_option linter.unusedVariables false

theorem info_row : (Tryz.prog.info? 22).map (fun i => (i.zero, i.size, i.bytes)) = some (some (.slice none 0 0), 1, 24) := by kernel_rfl

end Go.Proofs.YtmcgnpdfpfgfpaaGreatDoor
