/-
  A loop over a great frame: the slots that its body writes are one function of their numbers. No program in sight.
-/
import Derived.Test.YtoblofilaegnaaaBase
namespace Go.Proofs.Ytoblofilaegnaaa
set_option linter.unusedVariables false

/-- The frame's temporaries, the marked ones out of us. -/
def fillL (us : Nat → Value) : List Bool → Nat → List Value → List Value
  | true :: bs, n, _ :: vs => us n :: fillL us bs (n + 1) vs
  | false :: bs, n, v :: vs => v :: fillL us bs (n + 1) vs
  | _, _, vs => vs
/-- Where the loop's head stands: the frame it began with, but for the marked slots. -/
def AtHead (m : List Bool) (R : (Nat → Value) → World → Prop) (a0 a : Act) (w : World) : Prop := ∃ us, R us w ∧ a = ⟨(fillL us m 0 a0.tmps.toList).toArray, a0.defers⟩
theorem AtHead.end_ {m : List Bool} {R : (Nat → Value) → World → Prop} {a0 a : Act} {w : World} (hR : R (fun n => a.tmps.getD n undef) w) (he : a = ⟨(fillL (fun n => a.tmps.getD n undef) m 0 a0.tmps.toList).toArray, a0.defers⟩) : AtHead m R a0 a w := ⟨_, hR, he⟩
theorem wp_loopF {P : Program} {c : Code} {Q : Exit → Act → World → Prop} {a0 : Act} {w : World} (m : List Bool) (R : (Nat → Value) → World → Prop) (μ : Act → World → Nat) (h0 : AtHead m R a0 a0 w)
    (round : ∀ us w', R us w' → c.wp P (Exit.then (fun a' w'' => AtHead m R a0 a' w'' ∧ μ a' w'' < μ ⟨(fillL us m 0 a0.tmps.toList).toArray, a0.defers⟩ w') Q) ⟨(fillL us m 0 a0.tmps.toList).toArray, a0.defers⟩ w') : (Code.loop c).wp P Q a0 w :=
  wp_loop (AtHead m R a0) μ h0 fun a w' ⟨us, hR, he⟩ => by subst he; exact round us w' hR
end Go.Proofs.Ytoblofilaegnaaa
