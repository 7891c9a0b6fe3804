/-
  Words for memory and contracts of small functions of the second form. Conditions: those of each lemma.
-/
import Derived.Test.YtoblofilaegnaaaDeck
import Derived.Test.YtoblofilaegnaaaOrder
import Derived.Test.YtoblofilaegnaaaOwnM
/-! Big -/
namespace Go.Proofs.Ytoblofilaegnaaa
open Go.RowKit
set_option linter.unusedVariables false

theorem known_sorted (i j : Nat) (hij : i ≤ j) (hj : j < 9) : knownL.getD i 0 ≤ knownL.getD j 0 := by
  have h : ∀ a : Fin 9, ∀ b : Fin 9, a.1 ≤ b.1 → knownL.getD a.1 0 ≤ knownL.getD b.1 0 := by decide
  exact h ⟨i, by omega⟩ ⟨j, hj⟩ hij

def BigPost (g : Nat) (A : Option Addr) (n c : Nat) (xs : List Int) (least : Int) (w : World) (e : Ending) (w' : World) : Prop :=
  ∃ (p : Int) (q' : Nat), e = .returned (.agg #[.int .i64 p]) ∧ isKnown p ∧ least < p ∧ Deck w' g A n c xs q' ∧ Step g w w'

set_option maxRecDepth 100000 in
set_option maxHeartbeats 800000 in
theorem big_any (g : Nat) (A : Option Addr) (n c : Nat) (xs : List Int) (q : Nat) (least : Int) (w : World) (h : Deck w g A n c xs q) (hl : 0 ≤ least ∧ least ≤ 60000) :
    Calls Try.prog 51 #[.pointer (some ⟨g, 0, none⟩), .int .i64 least] w (BigPost g A n c xs least w) := by
  have hg := h.1.lt
  have hR0 := Blk.new w 24 #[.int .i64 0]
  have hL0 := Blk.new (w.alloc (.cells #[.int .i64 0] 24)) 3 #[Value.int .i64 2, .int .i64 3, .int .i64 5, .int .i64 7, .int .i64 11, .int .i64 13, .int .i64 17, .int .i64 257, .int .i64 65521]
  rw [World.size_alloc] at hL0
  go_enter Try.func51, Try.ntmps51
  go_wp2
  go_loop [5] (fun v => ∃ i m : Nat, i + m = 9 ∧ 1 ≤ m ∧ v = .slice (some ⟨w.heap.size + 1, i, none⟩) m m) (fun v => sliceLen v)
  case atStart => exact ⟨0, 9, rfl, by omega, rfl⟩
  case round =>
    obtain ⟨i, m, him, hm, rfl⟩ := hrel
    have hcl := (hL0.cell i).trans (known_cell (j := i) (by omega))
    obtain ⟨v, HV⟩ : ∃ v, Hid (knownL.getD i 0 = v) := ⟨_, Lib.hid rfl⟩
    rw [HV.out] at hcl
    by_cases hv : v ≤ least
    · have hi8 : i < 8 := by
        rcases Nat.lt_or_ge i 8 with h1 | h1
        · exact h1
        · exfalso
          obtain rfl : i = 8 := by omega
          have : (65521 : Int) = v := HV.out
          omega
      obtain ⟨m1, hm1⟩ : ∃ m1 : Nat, (m : Int) - 1 = m1 := ⟨m - 1, by omega⟩
      have hmm : (1 : Int) ≤ (m : Int) := by omega
      have hmm2 : (1 : Int) < (m : Int) := by omega
      go_wp2
      go_round
      case rel => exact ⟨i + 1, m - 1, by omega, by omega, rfl⟩
      case measure => simp [sliceLen]; omega
    · have hvl : least < v := by omega
      go_wp2_with (go_at_call 20; refine (next_any g A n c xs q m _ ((h.alloc _).alloc _) (by omega)).mono ?_; rintro e w1 ⟨r, q', rfl, hr, hr0, hD, hS, hz⟩
                   obtain ⟨j, rfl⟩ : ∃ j : Nat, r = j := ⟨r.toNat, by have := hr (by omega); omega⟩
                   have hj : j < m := by have := hr (by omega); omega
                   have hcl1 := ((Step.block hS hL0 (by omega)).cell (i + j)).trans (known_cell (j := i + j) (by omega))
                   have hbf := Step.block hS (hR0.alloc _) (by omega)
                   have hcf : w1.cell? ⟨w.heap.size, 0, none⟩ = some (.int .i64 0) := (hbf.cell 0).trans rfl
                   have hff := hbf.frozen 0
                   obtain ⟨p0, hp0, HK⟩ : ∃ p0, knownL.getD (i + j) 0 = p0 ∧ Hid (isKnown p0 ∧ least < p0) := ⟨_, rfl, Lib.hid ⟨known_of (by omega), by have := known_sorted i (i + j) (by omega) (by omega); rw [HV.out] at this; omega⟩⟩
                   rw [hp0] at hcl1
                   have hj0 : (0 : Int) ≤ (j : Int) := by omega
                   have hjm : (j : Int) < (m : Int) := by omega
                   have hfin : (w1.setCell ⟨w.heap.size, 0, none⟩ (.int .i64 p0)).cell? ⟨w.heap.size, 0, none⟩ = some (.int .i64 p0) := World.cell?_setCell_same' _ _ _ (by rw [hcf]; rfl)
                   clear hr hr0 hz hp0)
      refine bodyPost_ret (v := .agg #[.int .i64 p0]) (by simp [results, Try.results51, go_sem, hfin]) rfl ⟨_, q', rfl, HK.out.1, HK.out.2, hD.setCell hg _, ?_⟩
      exact Step.setNew (((Step.of_below (bbox _)).alloc _).trans hS) (Nat.le_refl _) _
end Go.Proofs.Ytoblofilaegnaaa

/-! Off -/
namespace Go.Proofs.Ytoblofilaegnaaa
open Go.RowKit
set_option linter.unusedVariables false

/-- The list lies in some other block than g. -/
def IntsO (g : Nat) (w : World) (A : Option Addr) (n : Nat) (xs : List Int) : Prop := Ints w w.heap.size A n xs ∧ (0 < n → ∀ b off s, A = some ⟨b, off, s⟩ → b ≠ g)

section
variable {g : Nat} {w w' : World} {n : Nat} {A : Option Addr} {xs : List Int} {rows : List (List Int)}
theorem IntsO.ints (h : IntsO g w A n xs) : Ints w w.heap.size A n xs := h.1
theorem IntsO.len (h : IntsO g w A n xs) : xs.length = n := h.1.len
theorem IntsO.nil_ : IntsO g w A 0 [] := ⟨Ints.nil_, fun h => absurd h (by omega)⟩
theorem IntsO.step (h : IntsO g w A n xs) (hs : Step g w w') : IntsO g w' A n xs :=
  ⟨h.1.keepBlk (World.grownBy.size hs) (fun h0 b off s e hb => World.grownBy.block hs b hb (fun e2 => h.2 h0 b off s e (by injection e2))), h.2⟩
theorem IntsO.below (h : IntsO g w A n xs) (hb : Below w.heap.size w w') : IntsO g w' A n xs := h.step (Step.of_below hb)
theorem IntsO.of_raw {w0 : World} (h : Ints w0 w0.heap.size A n xs) (hb : Below w0.heap.size w0 w) (hg : w0.heap.size ≤ g) : IntsO g w A n xs :=
  ⟨h.upto hb, fun h0 b off s e => by subst e; have := h.lt h0; omega⟩
theorem IntsO.of_own {base c : Nat} {e : TypeId} (h : OwnI w base e A n c xs) (hg : g < base) : IntsO g w A n xs :=
  ⟨h.ints, fun h0 b off s e => by subst e; have := h.row b rfl; omega⟩
theorem IntsO.of_ne (h : Ints w w.heap.size A n xs) (hb : ∀ b off s, A = some ⟨b, off, s⟩ → b ≠ g) : IntsO g w A n xs := ⟨h, fun _ => hb⟩

/-- The rows lie in other blocks than g. -/
def MatO (g : Nat) (w : World) (A : Option Addr) (n : Nat) (rows : List (List Int)) : Prop :=
  rows.length = n ∧ (0 < n → ∃ b off, A = some ⟨b, off, none⟩ ∧ b < w.heap.size ∧ b ≠ g ∧ ∀ j, j < n → ∃ A' n' c', w.cell? ⟨b, off + j, none⟩ = some (.slice A' n' c') ∧ n' ≤ 17592186044416 ∧ IntsO g w A' n' (rows.getD j []))
theorem MatO.len (h : MatO g w A n rows) : rows.length = n := h.1
theorem MatO.nil_ : MatO g w A 0 [] := ⟨rfl, fun h => absurd h (by omega)⟩
theorem MatO.mat (h : MatO g w A n rows) : Mat w 0 w.heap.size A n rows :=
  ⟨h.1, fun hn => by
    obtain ⟨b, off, e, hb, _, hc⟩ := h.2 hn
    refine ⟨b, off, e, Nat.zero_le _, hb, fun j hj => ?_⟩
    obtain ⟨A', n', c', h1, h2, h3⟩ := hc j hj
    exact ⟨A', n', c', h1, h2, h3.1, fun _ _ _ _ _ => Nat.zero_le _⟩⟩
theorem MatO.step (h : MatO g w A n rows) (hs : Step g w w') : MatO g w' A n rows :=
  ⟨h.1, fun hn => by
    obtain ⟨b, off, e, hb, hbg, hc⟩ := h.2 hn
    refine ⟨b, off, e, by have := World.grownBy.size hs; omega, hbg, fun j hj => ?_⟩
    obtain ⟨A', n', c', h1, h2, h3⟩ := hc j hj
    exact ⟨A', n', c', (World.cell?_of_block (World.grownBy.block hs b hb (fun e2 => hbg (by injection e2)))).trans h1, h2, h3.step hs⟩⟩
theorem MatO.below (h : MatO g w A n rows) (hb : Below w.heap.size w w') : MatO g w' A n rows := h.step (Step.of_below hb)
theorem MatO.of_raw {w0 : World} {lo : Nat} (h : Mat w0 lo w0.heap.size A n rows) (hb : Below w0.heap.size w0 w) (hg : w0.heap.size ≤ g) : MatO g w A n rows := by
  refine ⟨h.1, fun hn => ?_⟩
  obtain ⟨b, off, e, _, hlt, hc⟩ := h.2 hn
  refine ⟨b, off, e, by have := hb.size; omega, by omega, fun j hj => ?_⟩
  obtain ⟨A', n', c', h1, h2, h3, _⟩ := hc j hj
  exact ⟨A', n', c', (hb.cell (p := ⟨b, off + j, none⟩) hlt).trans h1, h2, IntsO.of_raw h3 hb hg⟩
theorem MatO.of_mat {lo : Nat} (h : Mat w lo w.heap.size A n rows) (hg : g < lo) : MatO g w A n rows := by
  refine ⟨h.1, fun hn => ?_⟩
  obtain ⟨b, off, e, hl, hlt, hc⟩ := h.2 hn
  refine ⟨b, off, e, hlt, by omega, fun j hj => ?_⟩
  obtain ⟨A', n', c', h1, h2, h3, h4⟩ := hc j hj
  exact ⟨A', n', c', h1, h2, h3, fun h0 b off s e => by have := h4 h0 b off s e; omega⟩
end

theorem Step.cell {g : Nat} {w w' : World} (hs : Step g w w') {p : Addr} {v : Value} (hlt : p.block < w.heap.size) (hg : p.block ≠ g) (h : w.cell? p = some v) : w'.cell? p = some v :=
  (World.cell?_of_block (World.grownBy.block hs p.block hlt (fun e => hg (by injection e)))).trans h
theorem Step.at_ {g : Nat} {w w' : World} (hs : Step g w w') {b o : Nat} {v : Value} (hlt : b < w.heap.size) (hg : b ≠ g) (h : w.cell? ⟨b, o, none⟩ = some v) : w'.cell? ⟨b, o, none⟩ = some v := hs.cell (p := ⟨b, o, none⟩) hlt hg h
theorem Step.far {g : Nat} {w w' w'' : World} (hs : Step g w w') (hb : Below w'.heap.size w' w'') : Step g w w'' := hs.trans (Step.of_below hb)
theorem IntsO.drewN {g n : Nat} {w : World} {A : Option Addr} {xs : List Int} (h : IntsO g w A n xs) (k : Nat) : IntsO g (w.drewN k) A n xs := h
theorem MatO.drewN {g n : Nat} {w : World} {A : Option Addr} {rows : List (List Int)} (h : MatO g w A n rows) (k : Nat) : MatO g (w.drewN k) A n rows := h
theorem IntsO.alloc {g n : Nat} {w : World} {A : Option Addr} {xs : List Int} (h : IntsO g w A n xs) (o : Obj) : IntsO g (w.alloc o) A n xs := h.below (bbox o)
theorem MatO.alloc {g n : Nat} {w : World} {A : Option Addr} {rows : List (List Int)} (h : MatO g w A n rows) (o : Obj) : MatO g (w.alloc o) A n rows := h.below (bbox o)
theorem Step.size_le {g : Nat} {w w' : World} (hs : Step g w w') : w.heap.size ≤ w'.heap.size := World.grownBy.size hs
end Go.Proofs.Ytoblofilaegnaaa
