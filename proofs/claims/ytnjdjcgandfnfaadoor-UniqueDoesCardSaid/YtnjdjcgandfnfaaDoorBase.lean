/-
  What the makers' Mod hands back, and what the type int is in the program. Conditions: the modulus is positive and fits.
-/
import Derived.Test.YtnjdjcgandfnfaaDoorProg
import Derived.Test.YtnjdjcgandfnfaaDoorPlain
import Derived.WalkKit
import Derived.WalkSpells
import Derived.Lib.Hide
namespace Go.Proofs.YtnjdjcgandfnfaaDoor
open Go.RowKit

theorem info_int : (Tryd.prog.info? 3).map (fun i => (i.zero, i.size, i.bytes)) = some (some (.int .i64 0), 1, 8) := by kernel_rfl

/-- mk.Mod at a positive modulus. -/
theorem mod_any (x k : Int) (w : World) (hk : 0 < k) (hk2 : k ≤ 4611686018427387904) :
    Calls Tryd.prog 17 #[.int .i64 x, .int .i64 k] w fun e w' => e = .returned (.int .i64 (x % k)) ∧ w = w' := by
  have h := tmod_facts x k hk
  have hp := Lib.hid (mod_of_go x k hk)
  obtain ⟨h1, h2, _, _⟩ := h
  go_enter Tryd.func17, Tryd.ntmps17
  go_wp2
  go_ret
  exact ⟨ret_int hp.out, rfl⟩

end Go.Proofs.YtnjdjcgandfnfaaDoor
