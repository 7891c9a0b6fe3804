/-
  What 'l, t, e := share.Split(f, secret, th, cnt, mk.Tape(d, limits))' leaves of the frame and of the heap. No conditions.
-/
import Derived.Test.YtieejgkheijgeaaMTape
import Derived.Test.YtieejgkheijgeaaSplit
namespace Go.Proofs.Ytieejgkheijgeaa
open Go.RowKit
set_option linter.unusedVariables false

/-- Shares of some polynomial with the given constant term; only the deck, and what is new, has turned since w0. -/
def SplitAt (g : Nat) (A : Option Addr) (n c : Nat) (xs : List Int) (p sa : Int) (th cnt : Nat) (w0 : World) (s e : Value) (wx : World) : Prop :=
  ∃ A9 c9 cs q, s = .slice A9 cnt c9 ∧ e = .int .i64 0 ∧ Hid (cs.length ≤ th + 1 ∧ 0 < cs.length ∧ allP p cs = true ∧ cs.getD 0 0 = sa) ∧ OwnS wx w0.heap.size A9 cnt c9 (ptsL cnt) (valsP p cs (ptsL cnt)) ∧ Deck wx g A n c xs q ∧ Step g w0 wx

theorem secret_list {p sa : Int} {th : Nat} {ds : List Int} (hs : 0 ≤ sa ∧ sa < p) (hd : ∀ i, i < th → 0 ≤ ds.getD i 0 ∧ ds.getD i 0 < p) : Hid ((sa :: ds.take th).length ≤ th + 1 ∧ 0 < (sa :: ds.take th).length ∧ allP p (sa :: ds.take th) = true ∧ (sa :: ds.take th).getD 0 0 = sa) :=
  Lib.hid ⟨by simp [List.length_take]; omega, by simp, allP_iff.2 fun x hx => by
    rcases List.mem_cons.1 hx with h1 | h1
    · rw [h1]; exact hs
    · obtain ⟨j, hj, _, rfl⟩ := take_mem h1
      exact hd j hj, rfl⟩

theorem Step.size {g : Nat} {a b : World} (h : Step g a b) : a.heap.size ≤ b.heap.size := World.grownBy.size h

/-- The call's tape is laid into the box that was there before. -/
theorem SplitAt.box {g : Nat} {A : Option Addr} {n c : Nat} {xs : List Int} {p sa : Int} {th cnt : Nat} {w0 w9 : World} {A9 : Option Addr} {c9 q base b : Nat} {cs : List Int} (hC : Hid (cs.length ≤ th + 1 ∧ 0 < cs.length ∧ allP p cs = true ∧ cs.getD 0 0 = sa)) (ho : OwnS w9 base A9 cnt c9 (ptsL cnt) (valsP p cs (ptsL cnt))) (hD : Deck w9 g A n c xs q) (hS : Step g w0 w9)
    (hb0 : w0.heap.size ≤ b) (hb1 : b < base) (hg : g < w0.heap.size) (u v : Value) : SplitAt g A n c xs p sa th cnt w0 (.slice A9 cnt c9) (.int .i64 0) ((w9.setCell ⟨b, 0, none⟩ u).setCell ⟨b, 1, none⟩ v) :=
  ⟨A9, c9, cs, q, rfl, rfl, hC, (ho.step (((Step.refl b w9).set 0 u).set 1 v) hb1).base (by omega), (hD.setCell (p := ⟨b, 0, none⟩) (by show g < b; omega) u).setCell (p := ⟨b, 1, none⟩) (by show g < b; omega) v, (hS.setNew (p := ⟨b, 0, none⟩) hb0 u).setNew (p := ⟨b, 1, none⟩) hb0 v⟩
/-- Or into a new one. -/
theorem SplitAt.new {g : Nat} {A : Option Addr} {n c : Nat} {xs : List Int} {p sa : Int} {th cnt : Nat} {w0 w9 : World} {A9 : Option Addr} {c9 q base : Nat} {cs : List Int} (hC : Hid (cs.length ≤ th + 1 ∧ 0 < cs.length ∧ allP p cs = true ∧ cs.getD 0 0 = sa)) (ho : OwnS w9 base A9 cnt c9 (ptsL cnt) (valsP p cs (ptsL cnt))) (hD : Deck w9 g A n c xs q) (hS : Step g w0 w9)
    (hb0 : w0.heap.size ≤ base) (o : Obj) : SplitAt g A n c xs p sa th cnt w0 (.slice A9 cnt c9) (.int .i64 0) (w9.alloc o) :=
  ⟨A9, c9, cs, q, rfl, rfl, hC, (ho.belowAll (bbox o)).base hb0, hD.alloc o, hS.alloc o⟩
end Go.Proofs.Ytieejgkheijgeaa
