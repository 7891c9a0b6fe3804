/-
  What the step of solve's reduction does: a row leads in a column, if one can. Conditions: the block of a reduced form, as reduce lays it.
-/
import Derived.Test.YtoblofilaegnaaaLead2
namespace Go.Proofs.Ytoblofilaegnaaa
open Go.RowKit
set_option linter.unusedVariables false

/-- A step of the reduction. -/
theorem lead_any (base gs : Nat) (p : Int) (c : Nat) (R : Option Addr) (n cap : Nat) (bs : List (Nat × Nat)) (m : List (List Int)) (lead : List Nat) (k : Nat) (w : World)
    (h : RedW w base gs p c R n cap bs m lead) (hok : okP p = true) (hI : RInv p k lead m) (he : Elts p (c + 1) m) (hk : k < c) (hc : c ≤ 32) (hn : n ≤ 32) :
    Calls Try.prog 175 #[.pointer (some ⟨gs, 0, none⟩), .int .i64 k] w (LeadPost base gs p c R n cap k m w) := by
  have hrn : lead.length ≤ n := by rw [← h.ln]; exact hI.rm
  rcases find_row m k lead.length (n - lead.length) with h1 | ⟨i, h1, h2, h3, h4⟩
  · exact lead_no base gs p c R n cap bs m lead k lead.length w h hI he hk hc hn (Lib.hid rfl) hrn (Lib.hid fun q hq1 hq2 => h1 q hq1 (by omega))
  · exact lead_yes base gs p c R n cap bs m lead k lead.length i w h hok hI he hk hc hn (Lib.hid rfl) h1 (by omega) h3 (Lib.hid h4)
end Go.Proofs.Ytoblofilaegnaaa
