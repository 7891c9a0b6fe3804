/-
  Words for memory and contracts of small functions of the second form. Conditions: those of each lemma.
-/
import Derived.Test.YtnjdjcgandfnfaaDoorBase
import Derived.OrdersHeld
import Derived.StillTail
import Derived.Deep.RegionHeldLaw
/-! RegM -/
namespace Go.Proofs.YtnjdjcgandfnfaaDoor
set_option linter.unusedVariables false

section
variable {P : Program} {ops : Array Oper} {Q : Exit → Act → World → Prop} {md : Region.Mode} {S : World → Prop} {n : Nat}

/-- Whatever order is picked from here on, and S holds behind every operation but the last one, number n. -/
def wpM (P : Program) (md : Region.Mode) (ops : Array Oper) (Q : Exit → Act → World → Prop) (S : World → Prop) (n : Nat) : Nat → Array Bool → Act → World → Prop
  | 0, l, a, w => Region.ready md ops l = [] ∧ Q .normal a w
  | f + 1, l, a, w => (Region.ready md ops l = [n] ∧ wpAny P md ops Q (f + 1) l a w) ∨
    (Region.ready md ops l ≠ [] ∧ ∀ i ∈ Region.ready md ops l, wpOp P ops Q i (fun a' w' => S w' ∧ wpM P md ops Q S n f (l.setIfInBounds i true) a' w') a w)
theorem wpAny_of_M : ∀ (f : Nat) (l : Array Bool) (a : Act) (w : World), wpM P md ops Q S n f l a w → wpAny P md ops Q f l a w
  | 0, _, _, _, h => h
  | f + 1, _, _, _, h => h.elim (fun h => h.2) (fun h => ⟨fun h0 => absurd h0 h.1, fun i hi => wpOp_mono (fun a' w' h' => wpAny_of_M f _ a' w' h'.2) (h.2 i hi)⟩)
theorem wpM_first {i : Nat} {oi : Oper} {v : Value} (hi : ops[i]? = some oi) (hsel : ∀ (j : Nat) (o : Oper) cs b, ops[j]? = some o → o.op ≠ .select cs b)
    (hQ : ∀ c a w, Q (.panic c) (a.put oi.dst v) w → Q (.panic c) a w) (hs : Region.sinkB md ops n = true) (hc : Region.chainB md ops n = true) (hn : n < ops.size) (hin : i < n) :
    ∀ (f : Nat) (l : Array Bool) (a : Act) (w : World), HeadInv md ops n l →
      (∀ j oj, ops[j]? = some oj → j ≠ i → l.getD j true = false → (∀ e ∈ oj.after, Region.binds md e = true → e.on ≠ i) → oi.apart ops oj = true) →
      i ∈ Region.ready md ops l → YieldsIf P ops S oi v a → S w →
      wpM P md ops Q S n f (l.setIfInBounds i true) (a.put oi.dst v) w → wpM P md ops Q S n (f + 1) l a w := by
  intro f
  induction f with
  | zero =>
    intro l a w inv _ hr hy hS H
    refine .inr ⟨fun h => (by rw [h] at hr; cases hr), fun j hj => ?_⟩
    by_cases hji : j = i
    · subst hji; exact hy.wpOp hi hS ⟨hS, H⟩
    · have := ready_mono hj hji
      rw [H.1] at this
      cases this
  | succ f ih =>
    intro l a w inv hfree hr hy hS H
    have hun := (mem_ready.1 hr).1
    refine .inr ⟨fun h => (by rw [h] at hr; cases hr), fun j hj => ?_⟩
    have hjn : j < n := by
      rcases Nat.lt_or_ge j n with h | h
      · exact h
      · exact absurd hj (tail_waits hs hc hn inv _ i rfl hin hun j h)
    by_cases hji : j = i
    · subst hji; exact hy.wpOp hi hS ⟨hS, H⟩
    · have hjr := ready_mono hj hji
      rcases H with ⟨H1, _⟩ | H
      · rw [H1] at hjr
        have : j = n := by simpa using hjr
        omega
      · have h1 := H.2 j hjr
        obtain ⟨hjun, oj, hoj, hall⟩ := mem_ready.1 hj
        have hnot : ∀ e ∈ oj.after, Region.binds md e = true → e.on ≠ i := fun e he hb heq => by
          have h1 := hall e he hb
          rw [heq, getD_both hun] at h1
          cases h1
        have h2 := wpOp_putIf hoj (hfree j oj hoj hji hjun hnot) (fun cs b => hsel i oi cs b hi) (fun cs b => hsel j oj cs b hoj) hQ hy h1
        have hfree' : ∀ k ok, ops[k]? = some ok → k ≠ i → (l.setIfInBounds j true).getD k true = false →
            (∀ e ∈ ok.after, Region.binds md e = true → e.on ≠ i) → oi.apart ops ok = true := fun k ok hk hki hun hno => by
          refine hfree k ok hk hki ?_ hno
          by_cases hjk : j = k
          · subst hjk; exact hjun
          · rw [getD_set_ne true hjk] at hun; exact hun
        refine wpOp_mono (fun a' w' h3 => ⟨h3.2.1, ih (l.setIfInBounds j true) a' w' (inv.set hj hjn) hfree' (ready_mono hr (Ne.symm hji)) h3.1 h3.2.1 ?_⟩) h2
        rw [Array.setIfInBounds_comm _ _ hji]
        exact h3.2.2
theorem wpM_take {i : Nat} {oi : Oper} {v : Value} {f : Nat} {l : Array Bool} {a : Act} {w : World} (hi : ops.toList[i]? = some oi) (hsel : Region.noSelect ops = true) (hf : Region.free md ops l i = true)
    (hr : (Region.ready md ops l).contains i = true) (hQ : ∀ c a w, Q (.panic c) (a.put oi.dst v) w → Q (.panic c) a w) (hs : Region.sinkB md ops n = true) (hc : Region.chainB md ops n = true)
    (hn : n < ops.size) (hin : i < n) (inv : HeadInv md ops n l) (hy : YieldsIf P ops S oi v a) (hS : S w)
    (h : HeadInv md ops n (l.setIfInBounds i true) → wpM P md ops Q S n f (l.setIfInBounds i true) (a.put oi.dst v) w) : wpM P md ops Q S n (f + 1) l a w := by
  have hi' : ops[i]? = some oi := by simpa using hi
  have hr' : i ∈ Region.ready md ops l := by simpa using hr
  exact wpM_first hi' (Region.noSelect_spec hsel) hQ hs hc hn hin f l a w inv (Region.free_spec hi' hf) hr' hy hS (h (inv.set hr' hin))
theorem wpM_one {k : Nat} {o : Oper} {f : Nat} {l : Array Bool} {a : Act} {w : World} (ho : ops.toList[k]? = some o) (hr : Region.ready md ops l = [k]) (hkn : k < n) (inv : HeadInv md ops n l)
    (h : ∀ K : Act → World → Prop, Shut (∀ a w, S w → (HeadInv md ops n (l.setIfInBounds k true) → S w → wpM P md ops Q S n f (l.setIfInBounds k true) a w) → K a w) →
      if Region.wanted o (yielded ops a.tmps) = true then Oper.wp P o a w K Q else K (a.put o.dst undef) w) : wpM P md ops Q S n (f + 1) l a w := by
  have ho' : ops[k]? = some o := by simpa using ho
  have hkr : k ∈ Region.ready md ops l := by rw [hr]; simp
  refine .inr ⟨by rw [hr]; simp, fun j hj => ?_⟩
  rw [hr] at hj
  obtain rfl : j = k := by simpa using hj
  exact wpOp_step ho' (fun K' hK => h K' (fun a w hS hW => hK a w ⟨hS, hW (inv.set hkr hkn) hS⟩))
theorem wpM_last {o : Oper} {f : Nat} {l : Array Bool} {a : Act} {w : World} (ho : ops.toList[n]? = some o) (hr : Region.ready md ops l = [n]) (hd : Region.ready md ops (l.setIfInBounds n true) = [])
    (h : ∀ K : Act → World → Prop, Shut (∀ a w, Q .normal a w → K a w) → if Region.wanted o (yielded ops a.tmps) = true then Oper.wp P o a w K Q else K (a.put o.dst undef) w) : wpM P md ops Q S n (f + 1) l a w := by
  have ho' : ops[n]? = some o := by simpa using ho
  refine .inl ⟨hr, fun h0 => (by rw [hr] at h0; cases h0), fun j hj => ?_⟩
  rw [hr] at hj
  obtain rfl : j = n := by simpa using hj
  refine wpOp_step ho' (fun K' hK => h K' (fun a w hq => hK a w ?_))
  cases f with
  | zero => exact ⟨hd, hq⟩
  | succ f => exact ⟨fun _ => hq, by rw [hd]; simp⟩
theorem wp_region_M {id : Nat} {a : Act} {w : World} (hm : P.follows .mixedOrders = true) (hS : S w.drew) (h : HeadInv .any ops n (Array.replicate ops.size false) → S w.drew → wpM P .any ops Q S n ops.size (Array.replicate ops.size false) a w.drew) : (Code.region id ops true).wp P Q a w :=
  wp_region_any hm (wpAny_of_M _ _ _ _ (h ⟨by simp, fun j oj _ hl => (by rw [getD_replicate_false] at hl; cases hl), fun t _ ht => getD_in (by simpa using ht) (getD_replicate_false _ _)⟩ hS))
end
end Go.Proofs.YtnjdjcgandfnfaaDoor

/-! LoopF -/
namespace Go.Proofs.YtnjdjcgandfnfaaDoor
set_option linter.unusedVariables false

/-- The frame's temporaries, the marked ones out of us. -/
def fillL (us : Nat → Value) : List Bool → Nat → List Value → List Value
  | true :: bs, n, _ :: vs => us n :: fillL us bs (n + 1) vs
  | false :: bs, n, v :: vs => v :: fillL us bs (n + 1) vs
  | _, _, vs => vs
/-- Where the loop's head stands: the frame it began with, but for the marked slots. -/
def AtHead (m : List Bool) (R : (Nat → Value) → World → Prop) (a0 a : Act) (w : World) : Prop := ∃ us, R us w ∧ a = ⟨(fillL us m 0 a0.tmps.toList).toArray, a0.defers⟩
theorem AtHead.end_ {m : List Bool} {R : (Nat → Value) → World → Prop} {a0 a : Act} {w : World} (hR : R (fun n => a.tmps.getD n undef) w) (he : a = ⟨(fillL (fun n => a.tmps.getD n undef) m 0 a0.tmps.toList).toArray, a0.defers⟩) : AtHead m R a0 a w := ⟨_, hR, he⟩
theorem wp_loopF {P : Program} {c : Code} {Q : Exit → Act → World → Prop} {a0 : Act} {w : World} (m : List Bool) (R : (Nat → Value) → World → Prop) (μ : Act → World → Nat) (h0 : AtHead m R a0 a0 w)
    (round : ∀ us w', R us w' → c.wp P (Exit.then (fun a' w'' => AtHead m R a0 a' w'' ∧ μ a' w'' < μ ⟨(fillL us m 0 a0.tmps.toList).toArray, a0.defers⟩ w') Q) ⟨(fillL us m 0 a0.tmps.toList).toArray, a0.defers⟩ w') : (Code.loop c).wp P Q a0 w :=
  wp_loop (AtHead m R a0) μ h0 fun a w' ⟨us, hR, he⟩ => by subst he; exact round us w' hR
end Go.Proofs.YtnjdjcgandfnfaaDoor
