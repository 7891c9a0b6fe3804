/-
  What the makers of plain values hand back: Few, New, Next, Field, Elements. Conditions: the deck's list reads as its numbers and is short.
-/
import Derived.Test.YtnjdjcgandfnfaaDoorBase
import Derived.Test.YtnjdjcgandfnfaaDoorRes
import Derived.Test.YtnjdjcgandfnfaaDoorPlain
import Derived.Deep.RegionHeld3
import Derived.Deep.DeepCutAuto
import Derived.BigQuiet
namespace Go.Proofs.YtnjdjcgandfnfaaDoor
open Go.RowKit
set_option linter.unusedVariables false

/-- Block g is a deck over the list xs, of which q have been taken; the list lies below the deck. -/
def Deck (w : World) (g : Nat) (A : Option Addr) (n c : Nat) (xs : List Int) (q : Nat) : Prop :=
  Blk w g 67 #[.slice A n c, .int .i64 q] ∧ q ≤ n ∧ n ≤ 500 ∧ Ints w g A n xs

section
variable {w w' : World} {g n c q : Nat} {A : Option Addr} {xs : List Int}
theorem Deck.below {B : Nat} (h : Deck w g A n c xs q) (hb : Below B w w') (hg : g < B) : Deck w' g A n c xs q :=
  ⟨h.1.below hb hg, h.2.1, h.2.2.1, h.2.2.2.below (hb.mono (by omega))⟩
theorem Deck.belowAll (h : Deck w g A n c xs q) (hb : Below w.heap.size w w') : Deck w' g A n c xs q := h.below hb h.1.lt
theorem Deck.drew (h : Deck w g A n c xs q) : Deck w.drew g A n c xs q := h
theorem Deck.drewN (h : Deck w g A n c xs q) (k : Nat) : Deck (w.drewN k) g A n c xs q := h
theorem Deck.setCell (h : Deck w g A n c xs q) {p : Addr} (hp : g < p.block) (u : Value) : Deck (w.setCell p u) g A n c xs q := ⟨h.1.far (by omega) u, h.2.1, h.2.2.1, h.2.2.2.setCell (by omega) u⟩
theorem Deck.alloc (h : Deck w g A n c xs q) (o : Obj) : Deck (w.alloc o) g A n c xs q := h.belowAll (bbox o)
end

/-- Only the deck, and what is new, has turned. -/
def Step (g : Nat) (w w' : World) : Prop := w.grownBy w' (some g)
theorem Step.refl (g : Nat) (w : World) : Step g w w := World.grownBy.refl w _
theorem Step.trans {g : Nat} {a b c : World} (h : Step g a b) (k : Step g b c) : Step g a c :=
  ⟨k.os.trans h.os, k.tape.trans h.tape, k.output.trans h.output, Nat.le_trans h.size k.size, fun i hi hne => (k.block i (Nat.lt_of_lt_of_le hi h.size) hne).trans (h.block i hi hne)⟩
theorem Step.of_below {g : Nat} {a b : World} (h : Below a.heap.size a b) : Step g a b := ⟨h.os, h.tape, h.output, h.size, fun i hi _ => h.block i hi⟩
theorem Step.drew {g : Nat} {a b : World} (h : Step g a b) : Step g a b.drew := ⟨h.os, h.tape, h.output, h.size, h.block⟩
theorem Step.drewN {g : Nat} {a b : World} (h : Step g a b) (n : Nat) : Step g a (b.drewN n) := ⟨h.os, h.tape, h.output, h.size, h.block⟩
theorem Step.set {g : Nat} {a b : World} (h : Step g a b) (i : Nat) (u : Value) : Step g a (b.setCell ⟨g, i, none⟩ u) :=
  h.trans ⟨rfl, rfl, rfl, by simp [World.setCell], fun k hk hne => Below.heap_setCell b ⟨g, i, none⟩ u k (fun e => hne (by rw [e]))⟩
theorem Step.setNew {g : Nat} {a b : World} (h : Step g a b) {p : Addr} (hp : a.heap.size ≤ p.block) (u : Value) : Step g a (b.setCell p u) :=
  ⟨h.os, h.tape, h.output, by simpa [World.setCell] using h.size, fun k hk hne => (Below.heap_setCell b p u k (by omega)).trans (h.block k hk hne)⟩
theorem Step.alloc {g : Nat} {a b : World} (h : Step g a b) (o : Obj) : Step g a (b.alloc o) := h.trans (Step.of_below (bbox o))
theorem Step.thenBelow {g : Nat} {a b c : World} (h : Step g a b) (k : Below a.heap.size b c) : Step g a c :=
  ⟨k.os.trans h.os, k.tape.trans h.tape, k.output.trans h.output, Nat.le_trans h.size k.size, fun i hi hne => (k.block i hi).trans (h.block i hi hne)⟩
theorem Step.below {g B : Nat} {w0 a b : World} (h : Below B w0 a) (hs : Step g a b) (hB : B ≤ a.heap.size) (hg : B ≤ g) : Below B w0 b :=
  h.grown hs hB fun k hk => by injection hk with hk; omega
theorem Step.block {g : Nat} {a b : World} (hs : Step g a b) {t : TypeId} {cs : Array Value} {k : Nat} (h : Blk a k t cs) (hk : k ≠ g) : Blk b k t cs := h.grown hs (fun e => hk (by injection e))
theorem OwnI.step {g base n c : Nat} {e : TypeId} {A : Option Addr} {xs : List Int} {w w' : World} (h : OwnI w base e A n c xs) (hs : Step g w w') (hg : g < base) : OwnI w' base e A n c xs := by
  rcases hb : (Value.slice A n c).ownBlock with _ | k
  · exact h.kept hs (.inl hb)
  · exact h.kept hs (.inr (by rw [hb]; intro e; injection e with e; have := h.row k hb; omega))
theorem OwnI.drew {base n c : Nat} {e : TypeId} {A : Option Addr} {xs : List Int} {w : World} (h : OwnI w base e A n c xs) : OwnI w.drew base e A n c xs := h
theorem OwnI.base {base base' n c : Nat} {e : TypeId} {A : Option Addr} {xs : List Int} {w : World} (h : OwnI w base e A n c xs) (hb : base' ≤ base) : OwnI w base' e A n c xs := by
  refine ⟨h.1, ?_⟩
  rcases h.2 with h0 | ⟨g, cap, cur, hv, hg, r⟩
  · exact .inl h0
  · exact .inr ⟨g, cap, cur, hv, Nat.le_trans hb hg, r⟩

theorem few_any (A : Option Addr) (n c : Nat) (w : World) :
    Calls Tryd.prog 10 #[.slice A n c] w fun e w' => e = .returned (.bool (decide (n ≤ 500))) ∧ w = w' := by
  by_cases h : n ≤ 500
  · go_enter Tryd.func10, Tryd.ntmps10
    go_wp2
    go_ret
    exact ⟨ret_bool (by simp; omega), rfl⟩
  · go_enter Tryd.func10, Tryd.ntmps10
    go_wp2
    go_ret
    exact ⟨ret_bool (by simp; omega), rfl⟩

theorem new_any (A : Option Addr) (n c : Nat) (xs : List Int) (w : World) (h : Ints w w.heap.size A n xs) (hn : n ≤ 500) :
    Calls Tryd.prog 11 #[.slice A n c] w fun e w' => (∃ g, e = .returned (.pointer (some ⟨g, 0, none⟩)) ∧ g = w.heap.size ∧ Deck w' g A n c xs 0) ∧ Below w.heap.size w w' := by
  go_enter Tryd.func11, Tryd.ntmps11
  go_wp2
  go_ret
  exact ⟨⟨_, rfl, rfl, Blk.new _ _ _, Nat.zero_le _, hn, h.alloc (Nat.le_refl _) _⟩, bbox _⟩

/-- What Next leaves. -/
def NextPost (g : Nat) (A : Option Addr) (n c : Nat) (xs : List Int) (q : Nat) (k : Int) (w : World) (e : Ending) (w' : World) : Prop :=
  ∃ (r : Int) (q' : Nat), e = .returned (.int .i64 r) ∧ (1 ≤ k → 0 ≤ r ∧ r < k) ∧ (k < 1 → r = 0) ∧ Deck w' g A n c xs q' ∧ Step g w w' ∧ w'.heap.size = w.heap.size

theorem next_any (g : Nat) (A : Option Addr) (n c : Nat) (xs : List Int) (q : Nat) (k : Int) (w : World) (h : Deck w g A n c xs q) (hk : k ≤ 4611686018427387904) :
    Calls Tryd.prog 13 #[.pointer (some ⟨g, 0, none⟩), .int .i64 k] w (NextPost g A n c xs q k w) := by
  obtain ⟨hB, hq, hn, hI⟩ := h
  have hc0 : w.cell? ⟨g, 0, none⟩ = some (.slice A n c) := (hB.cell 0).trans rfl
  have hc1 : w.cell? ⟨g, 1, none⟩ = some (.int .i64 q) := (hB.cell 1).trans rfl
  have hf1 := hB.frozen 1
  by_cases h1 : k < 1
  · have hd : decide (k < 1) = true := by simpa using h1
    go_enter Tryd.func13, Tryd.ntmps13
    go_wp2
    go_quiet (fail)
    go_wp2
    go_ret
    exact ⟨0, q, rfl, fun h => by omega, fun _ => rfl, Deck.drewN ⟨hB, hq, hn, hI⟩ _, (Step.refl g w).drewN _, rfl⟩
  have hd : decide (k < 1) = false := by simpa using h1
  by_cases h2 : n ≤ q
  · go_enter Tryd.func13, Tryd.ntmps13
    go_wp2
    go_quiet (fail)
    go_wp2
    go_ret
    exact ⟨0, q, rfl, fun h => by omega, fun _ => rfl, Deck.drewN ⟨hB, hq, hn, hI⟩ _, (Step.refl g w).drewN _, rfl⟩
  obtain ⟨b, off, rfl, hb, hcell⟩ := hI.2 (by omega)
  have hcq := hcell q (by omega)
  clear hcell
  have hr : 0 ≤ xs.getD q 0 % k ∧ xs.getD q 0 % k < k := ⟨Int.emod_nonneg _ (by omega), Int.emod_lt_of_pos _ (by omega)⟩
  have HR := Lib.hid hr
  clear hr
  generalize xs.getD q 0 = x at *
  go_enter Tryd.func13, Tryd.ntmps13
  go_wp2
  go_quiet (fail)
  go_wp2
  go_quiet (fail)
  go_wp2_with (go_at_call 17; refine (mod_any x k _ (by omega) hk).mono ?_; rintro e w' ⟨rfl, rfl⟩)
  go_ret
  refine ⟨x % k, q + 1, rfl, fun _ => HR.out, fun h => by omega, ?_, ((Step.refl g w).set 1 _).drewN _, by simp [World.setCell]⟩
  have hB2 := hB.set_ 1 (.int .i64 ((q : Int) + 1))
  refine Deck.drewN (⟨by rw [show ((q + 1 : Nat) : Int) = (q : Int) + 1 by omega]; exact hB2, by omega, hn, ?_⟩) _
  exact hI.setCell (p := ⟨g, 1, none⟩) (Nat.le_refl _) _

theorem known_cell {j : Nat} (hj : j < 9) : (#[Value.int .i64 2, .int .i64 3, .int .i64 5, .int .i64 7, .int .i64 11, .int .i64 13, .int .i64 17, .int .i64 257, .int .i64 65521])[j]? = some (.int .i64 (knownL.getD j 0)) := by
  have : j = 0 ∨ j = 1 ∨ j = 2 ∨ j = 3 ∨ j = 4 ∨ j = 5 ∨ j = 6 ∨ j = 7 ∨ j = 8 := by omega
  rcases this with rfl | rfl | rfl | rfl | rfl | rfl | rfl | rfl | rfl <;> rfl

/-- What Elements leaves. -/
def ElemPost (g : Nat) (A : Option Addr) (n c : Nat) (xs : List Int) (p : Int) (k : Nat) (w : World) (e : Ending) (w' : World) : Prop :=
  ∃ (A' : Option Addr) (c' : Nat) (ys : List Int) (q' : Nat), e = .returned (.slice A' k c') ∧ OwnI w' w.heap.size 3 A' k c' ys ∧ allP p ys = true ∧ Deck w' g A n c xs q' ∧ Step g w w'

theorem elements_any (g : Nat) (A : Option Addr) (n c : Nat) (xs : List Int) (q : Nat) (p : Int) (k : Nat) (w : World) (h : Deck w g A n c xs q) (hp : 2 ≤ p ∧ p ≤ 65521) (hk : k ≤ 17592186044416) :
    Calls Tryd.prog 15 #[.pointer (some ⟨g, 0, none⟩), .agg #[.int .i64 p], .int .i64 k] w (ElemPost g A n c xs p k w) := by
  have hg := h.1.lt
  obtain ⟨i0, hi0, hz0, hz1, hz2⟩ := info_parts info_int
  go_enter Tryd.func15, Tryd.ntmps15
  go_wp2
  go_loopw [7, 9] (fun v i wr => ∃ (m : Nat) (A' : Option Addr) (c' : Nat) (ys : List Int) (q' : Nat), m ≤ k ∧ i = .int .i64 m ∧ v = .slice A' m c' ∧ OwnI wr (w.heap.size + 1) 3 A' m c' ys ∧ Hid (allP p ys = true) ∧ Deck wr g A n c xs q' ∧ Step g w wr ∧
      Blk wr w.heap.size 24 #[.int .i64 p]) (fun _ i _ => k - (intOf i).toNat)
  case atStart => exact ⟨0, none, 0, [], q, Nat.zero_le _, rfl, rfl, OwnI.nil_, Lib.hid rfl, h.alloc _, Step.of_below (bbox _), Blk.new _ _ _⟩
  case round =>
    obtain ⟨m, A', c', ys, q', hm, rfl, rfl, hown, HA, hD, hS, hF⟩ := hrel
    have hfc : wr.cell? ⟨w.heap.size, 0, none⟩ = some (.int .i64 p) := (hF.cell 0).trans rfl
    have hFl := hF.lt
    by_cases hlt : m < k
    · go_wp2_with (first
        | (go_at_call 13; refine (next_any g A n c xs q' p _ hD (by omega)).mono ?_; rintro e w1 ⟨r, q2, rfl, hr, hr0, hD1, hS1, hz1⟩
           have HR := Lib.hid (hr (by omega))
           have hown1 := hown.step hS1 (by omega)
           have hF1 := (Step.block hS1 hF (by omega)).alloc (.cells #[.int .i64 r] 3)
           have hS2 := (hS.trans hS1).alloc (.cells #[.int .i64 r] 3)
           have hD2 := hD1.alloc (.cells #[.int .i64 r] 3)
           have hl1 : w.heap.size + 1 ≤ w1.heap.size := by rw [hz1]; exact hFl
           clear hr hr0 hz1 hS1 hD1)
        | (at_builtin
           refine wpList_append_ints rfl _ _ _ rfl (w.heap.size + 1) 3 i0 _ Tryd.underlying22 hi0 hz0 hz1 hz2 rfl A' m c' ys rfl (hown1.alloc _) _ _ 1 1 [r] rfl (Ints.one _ _ _) (m + 1) rfl (ys ++ [r]) rfl (by omega) (le_alloc hl1 _) ?_
           intro A2 c2 w2 hown2 hgr hbw2 hab
           have hD3 := hD2.below hbw2 (by omega)
           have hF3 := hF1.below hbw2 (by omega)
           have hS3 : Step g w w2 := hS2.thenBelow (hbw2.mono (by omega))))
      go_roundw
      case rel => exact ⟨m + 1, A2, c2, ys ++ [r], q2, by omega, by go_num, rfl, hown2, Lib.hid (allP_append.2 ⟨HA.out, allP_iff.2 (by simpa using HR.out)⟩), hD3, hS3, hF3⟩
      case measure => simp [intOf]; omega
    · have hkm : m = k := by omega
      subst hkm
      go_wp2
      go_ret
      exact ⟨A', c', ys, q', rfl, hown.base (by omega), HA.out, hD, hS⟩
end Go.Proofs.YtnjdjcgandfnfaaDoor
