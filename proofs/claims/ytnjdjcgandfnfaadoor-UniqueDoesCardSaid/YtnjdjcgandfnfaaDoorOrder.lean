/-
  What the maker of orders hands back: the numbers below n, each once. Conditions: the deck's list reads as its numbers and is short.
-/
import Derived.Test.YtnjdjcgandfnfaaDoorDeck
import Derived.Test.YtnjdjcgandfnfaaDoorPlain
import Derived.Deep.RegionLaw
namespace Go.Proofs.YtnjdjcgandfnfaaDoor
open Go.RowKit
set_option linter.unusedVariables false

/-- The numbers below n. -/
def rangeI (n : Nat) : List Int := (List.range n).map Int.ofNat
theorem rangeI_succ (n : Nat) : rangeI (n + 1) = rangeI n ++ [(n : Int)] := by simp [rangeI, List.range_succ]
theorem rangeI_len (n : Nat) : (rangeI n).length = n := by simp [rangeI]

/-- An order of the numbers below n. -/
def IsOrder (n : Nat) (ks : List Int) : Prop := ks.Perm (rangeI n)

theorem take_drop_at (rs : List Int) (j : Nat) (hj : j < rs.length) : rs.take j ++ (rs.getD j 0 :: rs.drop (j + 1)) = rs := by
  rw [List.getD_eq_getElem?_getD, List.getElem?_eq_getElem hj]; simp

theorem order_step {n : Nat} {os rs : List Int} (j : Nat) (hj : j < rs.length) (h : (os ++ rs).Perm (rangeI n)) : ((os ++ [rs.getD j 0]) ++ (rs.take j ++ rs.drop (j + 1))).Perm (rangeI n) := by
  refine List.Perm.trans ?_ h
  rw [List.append_assoc]
  refine List.Perm.append_left os ?_
  refine List.Perm.trans ?_ (List.Perm.of_eq (take_drop_at rs j hj))
  exact (List.perm_middle (a := rs.getD j 0) (l₁ := rs.take j) (l₂ := rs.drop (j + 1))).symm

/-- A slice of numbers that can be read, but not where the row v lies. -/
def Apart (v : Value) (B : Nat) (A : Option Addr) (n : Nat) : Prop := 0 < n → ∀ b off s, A = some ⟨b, off, s⟩ → B ≤ b ∧ v.ownBlock ≠ some b

theorem Ints.take_ {w : World} {B : Nat} {A : Option Addr} {n : Nat} {xs : List Int} (h : Ints w B A n xs) (j : Nat) (hj : j ≤ n) : Ints w B A j (xs.take j) := by
  refine ⟨by rw [List.length_take, h.1]; omega, fun h0 => ?_⟩
  obtain ⟨b, off, e, hb, hc⟩ := h.2 (by omega)
  refine ⟨b, off, e, hb, fun i hi => ?_⟩
  rw [hc i (by omega), List.getD_eq_getElem?_getD, List.getD_eq_getElem?_getD, List.getElem?_take, if_pos hi]

theorem Ints.drop_ {w : World} {B : Nat} {b off : Nat} {n : Nat} {xs : List Int} (h : Ints w B (some ⟨b, off, none⟩) n xs) (j : Nat) (hj : j ≤ n) (A : Option Addr) (hA : j < n → A = some ⟨b, off + j, none⟩) : Ints w B A (n - j) (xs.drop j) := by
  refine ⟨by rw [List.length_drop, h.1], fun h0 => ?_⟩
  obtain ⟨b', off', e, hb, hc⟩ := h.2 (by omega)
  injection e with e
  injection e with e1 e2 _
  subst e1 e2
  refine ⟨b, off + j, hA (by omega), hb, fun i hi => ?_⟩
  rw [Nat.add_assoc, hc (j + i) (by omega), List.getD_eq_getElem?_getD, List.getD_eq_getElem?_getD, List.getElem?_drop]

theorem Ints.drew {w : World} {B n : Nat} {A : Option Addr} {xs : List Int} (h : Ints w B A n xs) : Ints w.drew B A n xs := h

theorem Ints.stepAt {g : Nat} {w w' : World} {b off n : Nat} {xs : List Int} (h : Ints w w.heap.size (some ⟨b, off, none⟩) n xs) (hs : Step g w w') (hb : b ≠ g) : Ints w' w'.heap.size (some ⟨b, off, none⟩) n xs := by
  refine ⟨h.1, fun h0 => ?_⟩
  obtain ⟨b', off', e, hlt, hc⟩ := h.2 h0
  injection e with e
  injection e with e1 e2 _
  subst e1 e2
  exact ⟨b, off, rfl, Nat.lt_of_lt_of_le hlt hs.size, fun j hj => (World.cell?_of_block (World.grownBy.block hs b hlt (fun e => hb (by injection e)))).trans (hc j hj)⟩

theorem Ints.grownAt {row : Option Nat} {w w' : World} {b off n : Nat} {xs : List Int} (h : Ints w w.heap.size (some ⟨b, off, none⟩) n xs) (hs : w.grownBy w' row) (hb : row ≠ some b) : Ints w' w'.heap.size (some ⟨b, off, none⟩) n xs := by
  refine ⟨h.1, fun h0 => ?_⟩
  obtain ⟨b', off', e, hlt, hc⟩ := h.2 h0
  injection e with e
  injection e with e1 e2 _
  subst e1 e2
  exact ⟨b, off, rfl, Nat.lt_of_lt_of_le hlt hs.size, fun j hj => (World.cell?_of_block (hs.block b hlt (fun e => hb e.symm))).trans (hc j hj)⟩

/-- What Order leaves. -/
def OrderPost (g : Nat) (A : Option Addr) (n c : Nat) (xs : List Int) (k : Nat) (w : World) (e : Ending) (w' : World) : Prop :=
  ∃ (A' : Option Addr) (c' : Nat) (ks : List Int) (q' : Nat), e = .returned (.slice A' k c') ∧ OwnI w' w.heap.size 3 A' k c' ks ∧ IsOrder k ks ∧ Deck w' g A n c xs q' ∧ Step g w w'

def sliceLen : Value → Nat
  | .slice _ n _ => n
  | _ => 0

set_option maxHeartbeats 800000 in
set_option maxRecDepth 100000 in
theorem order_any (g : Nat) (A : Option Addr) (n c : Nat) (xs : List Int) (q : Nat) (k : Nat) (w : World) (h : Deck w g A n c xs q) (hk : k ≤ 17592186044416) :
    Calls Tryd.prog 34 #[.pointer (some ⟨g, 0, none⟩), .int .i64 k] w (OrderPost g A n c xs k w) := by
  have hg := h.1.lt
  obtain ⟨i0, hi0, hz0, hz1, hz2⟩ := info_parts info_int
  go_enter Tryd.func34, Tryd.ntmps34
  go_wp2
  go_loopw [5, 10] (fun v i wr => ∃ (m : Nat) (A' : Option Addr) (c' : Nat), m ≤ k ∧ i = .int .i64 m ∧ v = .slice A' m c' ∧ OwnI wr w.heap.size 3 A' m c' (rangeI m) ∧ Below w.heap.size w wr) (fun _ i _ => k - (intOf i).toNat)
  case atStart => exact ⟨0, none, 0, Nat.zero_le _, rfl, rfl, OwnI.nil_, Below.refl _ _⟩
  case round =>
    obtain ⟨m, A', c', hm, rfl, rfl, hown, hb⟩ := hrel
    by_cases hlt : m < k
    · have HR := Lib.hid (rangeI_succ m)
      go_wp2_with (
        at_builtin
        refine wpList_append_ints rfl _ _ _ rfl w.heap.size 3 i0 _ Tryd.underlying22 hi0 hz0 hz1 hz2 rfl A' m c' _ rfl (hown.alloc _) _ _ 1 1 [(m : Int)] rfl (Ints.one _ _ _) (m + 1) rfl _ rfl (by omega) (le_alloc hb.size _) ?_
        intro A2 c2 w2 hown2 hgr hbw2 hab
        rw [← HR.out] at hown2
        have hb2 := (ballocs hb (.cells #[.int .i64 (m : Int)] 3)).trans hbw2)
      go_roundw
      case rel => exact ⟨m + 1, A2, c2, by omega, by go_num, rfl, hown2, hb2⟩
      case measure => simp [intOf]; omega
    · have hkm : m = k := by omega
      subst hkm
      go_wp2
      have hD := h.below hb hg
      have hIr := hown.ints
      have hcap : m ≤ c' := by
        rcases hown.2 with ⟨_, h0⟩ | ⟨g', cap, cur, hv, _, _, hnc, _⟩
        · omega
        · injection hv; omega
      have hrow := hown.row
      clear hown
      go_loopw [5, 6] (fun v u wr => ∃ (r s : Nat) (A1 A2 : Option Addr) (c1 c2 q1 : Nat) (rs os : List Int), v = .slice A1 r c1 ∧ u = .slice A2 s c2 ∧ r ≤ c1 ∧ (A1 = none → r = 0) ∧ s + r = m ∧ Ints wr wr.heap.size A1 r rs ∧ OwnI wr w.heap.size 3 A2 s c2 os ∧
        Hid ((os ++ rs).Perm (rangeI m)) ∧ Apart (.slice A2 s c2) w.heap.size A1 r ∧ Deck wr g A n c xs q1 ∧ Step g w wr) (fun v _ _ => sliceLen v)
      case atStart =>
        refine ⟨m, 0, A', none, c', 0, q, rangeI m, [], rfl, rfl, hcap, ?_, by omega, hIr, OwnI.nil_, Lib.hid (List.Perm.refl _), ?_, hD, Step.of_below hb⟩
        · rintro rfl
          rcases Nat.eq_zero_or_pos m with h0 | h0
          · exact h0
          · obtain ⟨b, off, e, _⟩ := hIr.2 h0; cases e
        · intro h0 b off s e
          exact ⟨hrow b (by rw [e]; rfl), by simp [Value.ownBlock]⟩
      case round =>
        obtain ⟨r, s, A1, A2, c1, c2, q1, rs, os, rfl, rfl, hrc, hA1, hsr, hI, hown, HP, hap, hD1, hS1⟩ := hrel
        by_cases hr0 : r = 0
        · subst hr0
          have hrs : rs = [] := List.eq_nil_of_length_eq_zero hI.1
          subst hrs
          have hsm : s = m := by omega
          subst hsm
          go_wp2
          go_ret
          exact ⟨A2, c2, os, q1, rfl, hown, by have := HP.out; rw [List.append_nil] at this; exact this, hD1, hS1⟩
        · have hpos : (0 : Int) < (r : Int) := by omega
          obtain ⟨b, off, hA, hb1, hcell⟩ := hI.2 (by omega)
          subst hA
          have HC := Lib.hid hcell
          clear hcell
          go_wp2_with (first
            | (go_at_call 13; refine (next_any g A n c xs q1 r _ hD1 (by omega)).mono ?_; rintro e w1 ⟨j', q2, rfl, hj, hj0, hD2, hS2, hzw⟩
               obtain ⟨j, rfl⟩ : ∃ j : Nat, j' = j := ⟨j'.toNat, by have := hj (by omega); omega⟩
               have hjr : j < r := by have := hj (by omega); omega
               have hS3 := hS1.trans hS2
               have hbg : b ≠ g := by have := (hap (by omega) b off none rfl).1; omega
               have hI2 := hI.stepAt hS2 hbg
               have hcj : w1.cell? ⟨b, off + j, none⟩ = some (.int .i64 (rs.getD j 0)) := (World.cell?_of_block (World.grownBy.block hS2 b hb1 (fun e => hbg (by injection e)))).trans (HC.out j hjr)
               have hown2 := hown.step hS2 hg
               obtain ⟨x, hx⟩ : ∃ x, rs.getD j 0 = x := ⟨_, rfl⟩
               rw [hx] at hcj
               have HXJ := Lib.hid hx
               clear hx
               clear hj hj0 hzw)
            | (at_builtin
               refine wpList_append_ints rfl _ _ _ rfl w.heap.size 3 i0 _ Tryd.underlying22 hi0 hz0 hz1 hz2 rfl A2 s c2 os rfl (hown2.alloc _) _ _ 1 1 [x] rfl (Ints.one _ _ _) (s + 1) rfl (os ++ [x]) rfl (by omega) (le_alloc hS3.size _) ?_
               intro A3 c3 w3 hown3 hgr3 hbw3 hab3))
          have hne2 : (Value.slice A2 s c2).ownBlock ≠ some b := (hap (by omega) b off none rfl).2
          have hBb := (hap (by omega) b off none rfl).1
          have hI3 := ((hI2.upto (bbox (.cells #[.int .i64 x] 3))).grownAt hgr3 hne2)
          have hb1w : b < w1.heap.size := Nat.lt_of_lt_of_le hb1 (World.grownBy.size hS2)
          have hab4 : (Value.slice A3 (s + 1) c3).ownBlock ≠ some b := by
            rcases hab3 with h0 | h0
            · rw [h0]; exact hne2
            · rw [h0, World.size_alloc]; intro e; injection e with e; omega
          have hsz3 : w.heap.size ≤ w3.heap.size := Nat.le_trans (le_alloc hS3.size _) hbw3.size
          have hD3 := (hD2.alloc (.cells #[.int .i64 x] 3)).below hbw3 hg
          have hS4 : Step g w w3 := (hS3.alloc _).thenBelow hbw3
          have HP2 : Hid (((os ++ [x]) ++ (rs.take j ++ rs.drop (j + 1))).Perm (rangeI m)) := Lib.hid (by
            have := order_step j (by rw [hI.1]; exact hjr) HP.out
            rw [HXJ.out] at this; exact this)
          obtain ⟨A4, hA4, HI4⟩ : ∃ A4 : Option Addr, (if c1 = j + 1 then some (⟨b, off, none⟩ : Addr) else some ⟨b, off + (j + 1), none⟩) = A4 ∧ Hid (Ints w3 w3.heap.size A4 (r - (j + 1)) (rs.drop (j + 1))) := by
            refine ⟨_, rfl, Lib.hid (hI3.drop_ (j + 1) (by omega) _ (fun h => ?_))⟩
            rw [if_neg (by omega)]
          have HT4 := Lib.hid (hI3.take_ j (by omega))
          have HX1 := Lib.hid hgr3
          have HX2 := Lib.hid hbw3
          have HX3 := Lib.hid hab4
          have HX4 := Lib.hid hsz3
          have HX5 := Lib.hid hBb
          clear hgr3 hbw3 hab3 hab4 hsz3 hBb hne2 hI3 hI2 hcj hb1w hb1 hI hown hown2 hap hS1 hS2 hD1 hD2 hS3 hIr hrow hcap hD h hb HC HXJ HP hbg
          have hwr : IntKind.i64.wrap ((j : Int) + 1) = (j : Int) + 1 := IntWalk.i64_in _ (by omega)
          have hp0 : (0 : Int) ≤ (j : Int) + 1 := by omega
          have hp1 : (j : Int) + 1 ≤ (r : Int) := by omega
          have hp2 : ((j : Int) + 1).toNat = j + 1 := by omega
          have hp3 : j ≤ c1 := by omega
          go_region_law (refine step_append_cut rfl (.tmp 35) (.tmp 39) 22 rfl 3 i0 _ Tryd.underlying22 hi0 hz0 hz1 hz2 rfl (some ⟨b, off, none⟩) j (rs.take j) (fun h => by cases h) (by simp [Act.eval, Act.put]) _ HT4.out.drew A4 (r - (j + 1)) (c1 - (j + 1)) (rs.drop (j + 1)) (by simp [Act.eval, Act.put]) _ HI4.out.drew (by omega) (r - 1) (by omega) _ rfl ?_; intro A5 c5 w4 hn5 hz5 hbw5 hor5)
          simp only [List.getElem_toArray, List.getElem_cons_succ, List.getElem_cons_zero, Act.put, List.setIfInBounds_toArray, List.set_cons_succ, List.set_cons_zero]
          go_roundw
          case rel =>
            (repeat apply Exists.intro)
            refine ⟨?_, rfl⟩
            have hb4 : Below w3.heap.size w3 w4 := (Below.refl _ _).drew.trans hbw5
            refine ⟨r - 1, s + 1, A5, A3, c5, c3, q2, _, _, rfl, rfl, hn5, hz5, by omega, ?_, hown3.belowAll hb4, HP2, ?_, hD3.belowAll hb4, hS4.thenBelow (hb4.mono HX4.out)⟩
            · rcases hor5 with ⟨h0, rfl, rfl⟩ | h5
              · have e1 : r - (j + 1) = 0 := h0
                have h6 := HT4.out.drew
                have e2 : rs.drop (j + 1) = [] := List.eq_nil_of_length_eq_zero (by rw [HI4.out.1]; exact e1)
                rw [e2, List.append_nil, show r - 1 = j by omega]
                exact h6
              · exact h5.ints
            · intro h0 b' off' s' e
              rcases hor5 with ⟨_, e1, rfl⟩ | h5
              · rw [e] at e1
                injection e1 with e1
                injection e1 with e1 _ _
                subst e1
                exact ⟨HX5.out, HX3.out⟩
              · have h6 := h5.row b' (by rw [e]; rfl)
                have h7 := HX4.out
                have h8 : w3.heap.size ≤ b' := h6
                refine ⟨by omega, fun e2 => ?_⟩
                have := (World.ownsRow.lt hown3 b' e2).2
                omega
          case measure => simp [sliceLen]; omega

theorem order_mem {n : Nat} {ks : List Int} (h : IsOrder n ks) : ∀ k ∈ ks, 0 ≤ k ∧ k < (n : Int) := by
  intro k hk
  have := h.mem_iff.1 hk
  simp [rangeI] at this
  obtain ⟨j, hj, rfl⟩ := this
  omega

theorem order_len {n : Nat} {ks : List Int} (h : IsOrder n ks) : ks.length = n := by rw [h.length_eq, rangeI_len]

theorem order_at {n : Nat} {ks : List Int} (h : IsOrder n ks) {m : Nat} (hm : m < n) : ∃ k : Nat, ks.getD m 0 = k ∧ k < n := by
  have hl : m < ks.length := by rw [order_len h]; exact hm
  have := order_mem h ks[m] (List.getElem_mem hl)
  refine ⟨ks[m].toNat, ?_, by omega⟩
  rw [List.getD_eq_getElem?_getD, List.getElem?_eq_getElem hl, Option.getD_some]
  omega

/-- Two rows of the call's own that lie apart. -/
def Two (w : World) (base : Nat) (e : TypeId) (A1 : Option Addr) (n1 c1 : Nat) (xs : List Int) (A2 : Option Addr) (n2 c2 : Nat) (ys : List Int) : Prop :=
  OwnI w base e A1 n1 c1 xs ∧ OwnI w base e A2 n2 c2 ys ∧ ∀ b, (Value.slice A1 n1 c1).ownBlock = some b → (Value.slice A2 n2 c2).ownBlock ≠ some b

section
variable {w w' : World} {base n1 c1 n2 c2 : Nat} {e : TypeId} {A1 A2 : Option Addr} {xs ys : List Int}
theorem Two.nil_ : Two w base e none 0 0 [] none 0 0 [] := ⟨OwnI.nil_, OwnI.nil_, fun b h => by simp [Value.ownBlock] at h⟩
theorem Two.alloc (h : Two w base e A1 n1 c1 xs A2 n2 c2 ys) (o : Obj) : Two (w.alloc o) base e A1 n1 c1 xs A2 n2 c2 ys := ⟨h.1.alloc o, h.2.1.alloc o, h.2.2⟩
theorem Two.drew (h : Two w base e A1 n1 c1 xs A2 n2 c2 ys) : Two w.drew base e A1 n1 c1 xs A2 n2 c2 ys := h
theorem Two.swap (h : Two w base e A1 n1 c1 xs A2 n2 c2 ys) : Two w base e A2 n2 c2 ys A1 n1 c1 xs := ⟨h.2.1, h.1, fun b h1 h2 => h.2.2 b h2 h1⟩
theorem Two.first {A3 : Option Addr} {n3 c3 : Nat} {zs : List Int} (h : Two w base e A1 n1 c1 xs A2 n2 c2 ys) (hown : OwnI w' base e A3 n3 c3 zs) (hg : w.grownBy w' (Value.slice A1 n1 c1).ownBlock)
    (hab : (Value.slice A3 n3 c3).ownBlock = (Value.slice A1 n1 c1).ownBlock ∨ (Value.slice A3 n3 c3).ownBlock = some w.heap.size) : Two w' base e A3 n3 c3 zs A2 n2 c2 ys := by
  refine ⟨hown, ?_, ?_⟩
  · rcases hb : (Value.slice A2 n2 c2).ownBlock with _ | b
    · exact h.2.1.kept hg (.inl hb)
    · refine h.2.1.kept hg (.inr ?_)
      rw [hb]
      intro e1
      exact h.2.2 b e1.symm hb
  · intro b h1 h2
    rcases hab with h3 | h3
    · exact h.2.2 b (by rw [← h3, h1]) h2
    · rw [h3] at h1
      injection h1 with h1
      have := (World.ownsRow.lt h.2.1 b h2).2
      omega
end

/-- The new cell in which an appended element lies, its block by name. -/
theorem Ints.lit (w : World) (cs : Array Value) (xs : List Int) (t : TypeId) (n g : Nat) (hg : g = w.heap.size) (hcs : cs = (vals xs).toArray) (hn : xs.length = n) : Ints (w.alloc (.cells cs t)) (w.alloc (.cells cs t)).heap.size (some ⟨g, 0, none⟩) n xs := by
  subst hg hcs
  refine ⟨hn, fun _ => ⟨_, _, rfl, by simp, fun j hj => ?_⟩⟩
  rw [Nat.zero_add, World.cell?_alloc_at _ _ _ _ rfl]
  simp [vals, List.getD_eq_getElem?_getD, show j < xs.length by omega]

theorem Ints.oneAt (w : World) (x : Int) (t : TypeId) (g : Nat) (hg : g = w.heap.size) : Ints (w.alloc (.cells #[.int .i64 x] t)) (w.alloc (.cells #[.int .i64 x] t)).heap.size (some ⟨g, 0, none⟩) 1 [x] := by
  subst hg
  exact (Ints.one w x t).more (by simp)

/-- A cell that neither of the two rows owns. -/
def Src (w : World) (v1 v2 : Value) (b : Nat) (u : Int) : Prop := Ints w w.heap.size (some ⟨b, 0, none⟩) 1 [u] ∧ v1.ownBlock ≠ some b ∧ v2.ownBlock ≠ some b

theorem Src.new {w : World} {base n1 c1 n2 c2 : Nat} {e : TypeId} {A1 A2 : Option Addr} {xs ys : List Int} (h : Two w base e A1 n1 c1 xs A2 n2 c2 ys) {w' : World} {b : Nat} {u : Int} (hb : w.heap.size ≤ b) (hI : Ints w' w'.heap.size (some ⟨b, 0, none⟩) 1 [u]) :
    Src w' (.slice A1 n1 c1) (.slice A2 n2 c2) b u :=
  ⟨hI, fun e1 => by have := (World.ownsRow.lt h.1 b e1).2; omega, fun e1 => by have := (World.ownsRow.lt h.2.1 b e1).2; omega⟩

theorem step_append_two {P : Program} {ops : Array Oper} {o : Oper} {a : Act} {w : World} {K : Act → World → Prop} {Q : Exit → Act → World → Prop} {E : Prop}
    (hg : o.guard = none) (s x : Operand) (t : TypeId) (hop : o.op = Op.call { callee := Callee.builtin Builtin.append, args := #[s, x], argTypes := #[t, t] })
    (base : Nat) (e : TypeId) (i : TypeInfo) (z : Value) (ht : P.underlying t = some (.slice e)) (hi : P.info? e = some i) (hz : i.zero = some z) (hsize : i.size = 1) (hby : i.bytes = 8) (hzs : z.cells.size = 1)
    (A1 : Option Addr) (n1 c1 : Nat) (xs : List Int) (A2 : Option Addr) (n2 c2 : Nat) (ys : List Int) (hT : Two w base e A1 n1 c1 xs A2 n2 c2 ys) (hs : a.eval s = .slice A1 n1 c1)
    (b : Nat) (c : Nat) (u : Int) (hx : a.eval x = .slice (some ⟨b, 0, none⟩) 1 c) (hI : Ints w w.heap.size (some ⟨b, 0, none⟩) 1 [u]) (hcap : n1 + 1 ≤ 17592186044416) (hbase : base ≤ w.heap.size)
    (hK : ∀ A' c' w', Two w' base e A' (n1 + 1) c' (xs ++ [u]) A2 n2 c2 ys → Below base w w' → (∀ b' u', Src w (.slice A1 n1 c1) (.slice A2 n2 c2) b' u' → Src w' (.slice A' (n1 + 1) c') (.slice A2 n2 c2) b' u') → K (a.put o.dst (.slice A' (n1 + 1) c')) w') :
    if Region.wanted o (yielded ops a.tmps) = true then Oper.wp P o a w K Q else E := by
  refine step_append_any (P := P) w hg s x t hop base e i z 1 8 ht hi hz hsize hby hzs (by omega) (.slice A1 n1 c1) n1 (vals xs) hs hT.1 w.heap.size (some ⟨b, 0, none⟩) 1 c (vals [u]) hx hI.reads (vals_one _) (by unfold maxLen; omega) (by omega) hbase ?_
  intro v' w' hown hgr hab
  have hb : Below base w w' := (Below.refl base w).grown hgr hbase hT.1.row
  rcases hown.2 with ⟨_, h0⟩ | ⟨g, cap, cur, rfl, _⟩
  · omega
  · have hown2 : OwnI w' base e (some ⟨g, 0, none⟩) (n1 + 1) cap (xs ++ [u]) := by
      unfold OwnI
      rw [show vals (xs ++ [u]) = vals xs ++ vals [u] by simp [vals]]
      exact hown
    refine hK _ cap w' (hT.first hown2 hgr hab) hb fun b' u' hS => ?_
    obtain ⟨hI', h1, h2⟩ := hS
    refine ⟨hI'.grownAt hgr h1, fun e1 => ?_, h2⟩
    rcases hab with h3 | h3
    · exact h1 (by rw [← h3, e1])
    · rw [h3] at e1
      injection e1 with e1
      have := hI'.lt (by omega)
      omega

/-- An append of one number to a row of the call's own, in a region that draws its order. -/
theorem step_append_own {P : Program} {ops : Array Oper} {o : Oper} {a : Act} {w : World} {K : Act → World → Prop} {Q : Exit → Act → World → Prop} {E : Prop}
    (hg : o.guard = none) (s x : Operand) (t : TypeId) (hop : o.op = Op.call { callee := Callee.builtin Builtin.append, args := #[s, x], argTypes := #[t, t] })
    (base : Nat) (e : TypeId) (i : TypeInfo) (z : Value) (ht : P.underlying t = some (.slice e)) (hi : P.info? e = some i) (hz : i.zero = some z) (hsize : i.size = 1) (hby : i.bytes = 8) (hzs : z.cells.size = 1)
    (A1 : Option Addr) (n1 c1 : Nat) (xs : List Int) (hT : OwnI w base e A1 n1 c1 xs) (hs : a.eval s = .slice A1 n1 c1)
    (b : Nat) (c : Nat) (u : Int) (hx : a.eval x = .slice (some ⟨b, 0, none⟩) 1 c) (hI : Ints w w.heap.size (some ⟨b, 0, none⟩) 1 [u]) (hcap : n1 + 1 ≤ 17592186044416) (hbase : base ≤ w.heap.size)
    (hK : ∀ A' c' w', OwnI w' base e A' (n1 + 1) c' (xs ++ [u]) → Below base w w' → K (a.put o.dst (.slice A' (n1 + 1) c')) w') :
    if Region.wanted o (yielded ops a.tmps) = true then Oper.wp P o a w K Q else E := by
  refine step_append_any (P := P) w hg s x t hop base e i z 1 8 ht hi hz hsize hby hzs (by omega) (.slice A1 n1 c1) n1 (vals xs) hs hT w.heap.size (some ⟨b, 0, none⟩) 1 c (vals [u]) hx hI.reads (vals_one _) (by unfold maxLen; omega) (by omega) hbase ?_
  intro v' w' hown hgr hab
  have hb : Below base w w' := (Below.refl base w).grown hgr hbase hT.row
  rcases hown.2 with ⟨_, h0⟩ | ⟨g, cap, cur, rfl, _⟩
  · omega
  · refine hK _ cap w' ?_ hb
    unfold OwnI
    rw [show vals (xs ++ [u]) = vals xs ++ vals [u] by simp [vals]]
    exact hown
end Go.Proofs.YtnjdjcgandfnfaaDoor
