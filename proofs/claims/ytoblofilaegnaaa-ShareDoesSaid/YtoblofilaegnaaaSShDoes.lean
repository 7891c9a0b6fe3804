/-
  ShareDoes returns true: the walk of the law. Conditions: none beyond the reading of its arguments.
-/
import Derived.Test.YtoblofilaegnaaaLimAll
import Derived.Test.YtoblofilaegnaaaRSpAll
import Derived.Test.YtoblofilaegnaaaRShAll
import Derived.Test.YtoblofilaegnaaaMTape
import Derived.Test.YtoblofilaegnaaaS07
import Derived.Test.YtoblofilaegnaaaGBO
import Derived.Test.YtoblofilaegnaaaGTap
import Derived.Test.YtoblofilaegnaaaUniq
import Derived.Test.YtoblofilaegnaaaShares3
import Derived.Test.YtoblofilaegnaaaShare4
namespace Go.Proofs.Ytoblofilaegnaaa
open Go.RowKit
set_option linter.unusedVariables false

theorem two_ofS {P : Nat → Prop} (h0 : P 0) (h1 : P 1) : ∀ i, i < 2 → P i := by
  intro i hi
  have : i = 0 ∨ i = 1 := by omega
  rcases this with rfl | rfl
  · exact h0
  · exact h1
theorem three_ofS {P : Nat → Prop} (h0 : P 0) (h1 : P 1) (h2 : P 2) : ∀ i, i < 3 → P i := by
  intro i hi
  have : i = 0 ∨ i = 1 ∨ i = 2 := by omega
  rcases this with rfl | rfl | rfl
  · exact h0
  · exact h1
  · exact h2
/-- What the second form's Split leaves, said less. -/
theorem rsplit_own (p z m n : Int) (T : Option Addr) (tn tc : Nat) (ta : Int) (ts : List Int) (w : World) (hT : Ints w w.heap.size T tn ts) (hn : n ≤ 100) :
    Calls Try.prog 54 #[.agg #[.int .i64 p], .int .i64 z, .int .i64 m, .int .i64 n, .agg #[.slice T tn tc, .int .i64 ta]] w fun e w' =>
      ∃ (A : Option Addr) (k c : Nat) (us ys : List Int) (U : Option Addr) (un uc : Nat) (ua er : Int), e = .returned (.tuple #[.slice A k c, .agg #[.slice U un uc, .int .i64 ua], .int .i64 er]) ∧ OwnS w' w.heap.size A k c us ys ∧ k ≤ 100 ∧ Below w.heap.size w w' := by
  refine (rsplit_all p z m n T tn tc ta ts w hT).mono ?_
  rintro e w' (⟨_, rfl, hb⟩ | ⟨_, A', c', T', tc', rfl, hS, _, hb⟩)
  · exact ⟨none, 0, 0, [], [], none, 0, 0, 0, _, rfl, OwnS.nil_, by omega, hb⟩
  · exact ⟨A', n.toNat, c', _, _, T', tn, tc', _, 0, rfl, hS, by omega, hb⟩
/-- Shares; only the deck, and what is new, has turned since w0. -/
def ShCut (g : Nat) (T : Option Addr) (n c : Nat) (xs : List Int) (w0 : World) (s : Value) (wx : World) : Prop :=
  ∃ (A : Option Addr) (k mc : Nat) (us ys : List Int) (q : Nat), s = .slice A k mc ∧ k ≤ 100 ∧ OwnS wx w0.heap.size A k mc us ys ∧ Deck wx g T n c xs q ∧ Step g w0 wx
theorem ShCut.box {g : Nat} {T : Option Addr} {n c : Nat} {xs : List Int} {w0 w9 : World} {A9 : Option Addr} {k c9 q base b : Nat} {us ys : List Int} (hk : k ≤ 100) (ho : OwnS w9 base A9 k c9 us ys) (hD : Deck w9 g T n c xs q) (hS : Step g w0 w9)
    (hb0 : w0.heap.size ≤ b) (hb1 : b < base) (hg : g < w0.heap.size) (u v : Value) : ShCut g T n c xs w0 (.slice A9 k c9) ((w9.setCell ⟨b, 0, none⟩ u).setCell ⟨b, 1, none⟩ v) :=
  ⟨A9, k, c9, us, ys, q, rfl, hk, (ho.step (((Step.refl b w9).set 0 u).set 1 v) hb1).base (by omega), (hD.setCell (p := ⟨b, 0, none⟩) (by show g < b; omega) u).setCell (p := ⟨b, 1, none⟩) (by show g < b; omega) v, (hS.setNew (p := ⟨b, 0, none⟩) hb0 u).setNew (p := ⟨b, 1, none⟩) hb0 v⟩
theorem ShCut.new {g : Nat} {T : Option Addr} {n c : Nat} {xs : List Int} {w0 w9 : World} {A9 : Option Addr} {k c9 q base : Nat} {us ys : List Int} (hk : k ≤ 100) (ho : OwnS w9 base A9 k c9 us ys) (hD : Deck w9 g T n c xs q) (hS : Step g w0 w9)
    (hb0 : w0.heap.size ≤ base) (o : Obj) : ShCut g T n c xs w0 (.slice A9 k c9) (w9.alloc o) :=
  ⟨A9, k, c9, us, ys, q, rfl, hk, (ho.belowAll (bbox o)).base hb0, hD.alloc o, hS.alloc o⟩
/-- What lies below B stays, but for the deck. -/
def KeepG (g B : Nat) (w w' : World) : Prop := w'.os = w.os ∧ w'.tape = w.tape ∧ w'.output = w.output ∧ w.heap.size ≤ w'.heap.size ∧ ∀ k, k < B → k ≠ g → w'.heap[k]? = w.heap[k]?
theorem KeepG.of_step {g B : Nat} {w w' : World} (h : Step g w w') (hB : B ≤ w.heap.size) : KeepG g B w w' := ⟨h.os, h.tape, h.output, h.size, fun k hk hne => (show w.grownBy w' (some g) from h).block k (by omega) (fun e => hne (Option.some.inj e))⟩
theorem KeepG.of_below {g B : Nat} {w w' : World} (h : Below B w w') : KeepG g B w w' := ⟨h.os, h.tape, h.output, h.size, fun k hk _ => h.block k hk⟩
theorem KeepG.trans {g B : Nat} {a b c : World} (h : KeepG g B a b) (k : KeepG g B b c) : KeepG g B a c := ⟨k.1.trans h.1, k.2.1.trans h.2.1, k.2.2.1.trans h.2.2.1, Nat.le_trans h.2.2.2.1 k.2.2.2.1, fun i h1 h2 => (k.2.2.2.2 i h1 h2).trans (h.2.2.2.2 i h1 h2)⟩
theorem KeepG.below {g B C : Nat} {w w' : World} (h : KeepG g B w w') (hC : C ≤ B) (hg : C ≤ g) : Below C w w' := ⟨h.1, h.2.1, h.2.2.1, h.2.2.2.1, fun k hk => h.2.2.2.2 k (by omega) (by omega)⟩
theorem KeepG.blk {g B b : Nat} {w w' : World} {t : TypeId} {cs : Array Value} (h : KeepG g B w w') (hb : Blk w b t cs) (h1 : b < B) (h2 : b ≠ g) : Blk w' b t cs := (h.2.2.2.2 b h1 h2).trans hb
theorem KeepG.ints {g B n : Nat} {w w' : World} {A : Option Addr} {xs : List Int} (h : KeepG g B w w') (hI : IntsO g w A n xs) (hB : w.heap.size ≤ B) : Ints w' w'.heap.size A n xs :=
  ⟨hI.1.1, fun hn => by
    obtain ⟨b, off, e, hb, hc⟩ := hI.1.2 hn
    refine ⟨b, off, e, Nat.lt_of_lt_of_le hb h.2.2.2.1, fun j hj => ?_⟩
    rw [World.cell?_of_block (h.2.2.2.2 b (by omega) (hI.2 hn b off none e))]
    exact hc j hj⟩
theorem KeepG.sh {g B n : Nat} {w w' : World} {A : Option Addr} {us ys : List Int} (h : KeepG g B w w') {base c : Nat} (hS : OwnS w base A n c us ys) (hg : g < base) (hB : w.heap.size ≤ B) : Sh w' w'.heap.size A n us ys := by
  have hs := hS.sh
  refine ⟨hs.1, hs.2.1, fun hn => ?_⟩
  obtain ⟨b, off, e, hb, hc⟩ := hs.2.2 hn
  obtain ⟨g', e', hg', _⟩ := hS.form hn
  rw [e] at e'
  injection e' with e'
  injection e' with e1 _
  refine ⟨b, off, e, Nat.lt_of_lt_of_le hb h.2.2.2.1, fun j hj => ?_⟩
  have hk := h.2.2.2.2 b (by omega) (by omega)
  exact ⟨(World.cell?_of_block hk).trans (hc j hj).1, (World.cell?_of_block hk).trans (hc j hj).2⟩

theorem KeepG.set {g B b j : Nat} {w w' : World} (h : KeepG g B w w') (hb : B ≤ b) (v : Value) : KeepG g B w (w'.setCell ⟨b, j, none⟩ v) := h.trans (KeepG.of_below ((Below.refl B w').setCell (p := ⟨b, j, none⟩) hb v))
theorem KeepG.drew {g B : Nat} {w w' : World} (h : KeepG g B w w') : KeepG g B w w'.drew := h.trans (KeepG.of_below (Below.refl B w').drew)
theorem shV_setA (v : Int) : ∀ us ys : List Int, us.length = ys.length → ∀ j, j < us.length → (shV us ys).set (j * 2) (.int .i64 v) = shV (us.set j v) ys
  | [], [], _, j, hj => by simp at hj
  | u :: us, y :: ys, h, j, hj => by
    cases j with
    | zero => rfl
    | succ j =>
      have := shV_setA v us ys (by simpa using h) j (by simpa using hj)
      rw [show (j + 1) * 2 = (j * 2) + 1 + 1 by omega]
      simp only [shV, List.set_cons_succ, this]
theorem OwnS.storedA {w : World} {base n c g : Nat} {us ys : List Int} (h : OwnS w base (some ⟨g, 0, none⟩) n c us ys) {j : Nat} (hj : j < n) (v : Int) : OwnS (w.setCell ⟨g, j * 2, none⟩ (.int .i64 v)) base (some ⟨g, 0, none⟩) n c (us.set j v) ys := by
  refine ⟨by rw [List.length_set]; exact h.1, h.2.1, ?_⟩
  have := (World.ownsRow.stored h.2.2 (j * 2) (.int .i64 v)).1
  rw [shV_setA v us ys (by rw [h.1, h.2.1]) j (by rw [h.1]; exact hj)] at this
  exact this
theorem limR_len (p m : Int) : (limR p m).1.length ≤ 17592186044416 := by
  unfold limR
  split
  · split
    · rw [List.length_replicate]; omega
    · simp
  · simp
theorem split_form (p z m n : Int) (tn : Nat) (ta : Int) (ts : List Int) : ∃ (k tk : Nat) (us ys : List Int) (a er : Int) (xs : List Int), k ≤ 512 ∧ tk ≤ tn ∧ Hid (∀ (w : World) (e : Ending) (w' : World), SplPost p z m n tn ta ts w e w' → ∃ (A : Option Addr) (c : Nat) (U : Option Addr) (uc : Nat), e = .returned (.tuple #[.slice A k c, .agg #[.slice U tk uc, .int .i64 a], .int .i64 er]) ∧ Sh w' w'.heap.size A k us ys ∧ Ints w' w'.heap.size U tk xs ∧ Below w.heap.size w w') := by
  by_cases h0 : splitE p z m n tn ta ts = 0
  · have hn : n.toNat ≤ 512 := by
      unfold splitE at h0
      split at h0
      · split at h0
        · omega
        · exact absurd h0 (by decide)
      · exact absurd h0 (by decide)
    refine ⟨n.toNat, tn, ptsL n.toNat, valsP p (z :: ((ts.drop ta.toNat).take m.toNat)) (ptsL n.toNat), ta + m, 0, ts, hn, Nat.le_refl _, Lib.hid ?_⟩
    rintro w e w' (⟨h1, _⟩ | ⟨_, A', c', T', tc, rfl, hS, hI, hb⟩)
    · exact absurd h0 h1
    · exact ⟨A', c', T', tc, rfl, hS.sh, hI.ints, hb⟩
  · refine ⟨0, 0, [], [], 0, splitE p z m n tn ta ts, [], by omega, by omega, Lib.hid ?_⟩
    rintro w e w' (⟨_, rfl, hb⟩ | ⟨h1, _⟩)
    · exact ⟨none, 0, none, 0, rfl, ⟨rfl, rfl, fun h => absurd h (by omega)⟩, ⟨rfl, fun h => absurd h (by omega)⟩, hb⟩
    · exact absurd h1 h0
theorem okP_zero {p : Int} : (okP p = true ∧ allP p [] = true) ↔ (okP p = true ∧ allP p [0] = true) :=
  ⟨fun h => ⟨h.1, allP_iff.2 fun x hx => by
    have := okP_pos h.1
    rcases List.mem_singleton.1 hx with rfl
    omega⟩, fun h => ⟨h.1, rfl⟩⟩

set_option maxHeartbeats 16000000 in
set_option maxRecDepth 100000 in
theorem shareDoes_walk (T : Option Addr) (n c : Nat) (xs : List Int) (pr : Int) (P : Option Addr) (lp cp : Nat) (ps : List Int) (pa : Int) (z0 m0 n0 x0 : Int) (L : Option Addr) (ll cl : Nat) (lu ly : List Int) (w : World)
    (h : Ints w w.heap.size T n xs) (hpr : -9223372036854775808 ≤ pr ∧ pr ≤ 9223372036854775807) (hP : Ints w w.heap.size P lp ps) (hlp : lp ≤ 17592186043904) (hz0 : -9223372036854775808 ≤ z0 ∧ z0 ≤ 9223372036854775807) (hm0 : -9223372036854775808 ≤ m0 ∧ m0 ≤ 9223372036854775807) (hn0 : -9223372036854775808 ≤ n0 ∧ n0 ≤ 9223372036854775807) (hx0 : -9223372036854775808 ≤ x0 ∧ x0 ≤ 9223372036854775807) (hL : Sh w w.heap.size L ll lu ly) (hcl : ll ≤ cl) :
    Calls Try.prog 5 #[.slice T n c, .agg #[.int .i64 pr], .agg #[.slice P lp cp, .int .i64 pa], .int .i64 z0, .int .i64 m0, .int .i64 n0, .int .i64 x0, .slice L ll cl] w fun e w' => e = .returned (.bool true) ∧ Below w.heap.size w w' := by
  have hb0 : Below w.heap.size w ((w.alloc (.cells #[.int .i64 pr] 24)).alloc (.cells #[.slice P lp cp, .int .i64 pa] 62)) := ballocs (bbox _) _
  have hB0 := (Blk.new w 24 #[.int .i64 pr]).alloc (.cells #[.slice P lp cp, .int .i64 pa] 62)
  have hC0 := Blk.new1 w (.cells #[.int .i64 pr] 24) 62 #[.slice P lp cp, .int .i64 pa]
  by_cases hn : n ≤ 500
  · have hd : decide (n ≤ 500) = true := by simpa using hn
    by_cases hab : lp ≤ 1000
    · have hab1 : ¬ (1000 : Int) < (lp : Int) := by omega
      by_cases hll : ll ≤ 80
      · have hll1 : ¬ (80 : Int) < (ll : Int) := by omega
        go_enter Try.func5, Try.ntmps5
        go_upto_region 10 with (first
          | (go_at_call 50; refine (sane07_any _).mono ?_; rintro e w1 ⟨rfl, hb1⟩
             have hbb1 := bnext hb0 hb1
             have hB1 := hB0.below hb1 hB0.lt
             have hC1 := hC0.below hb1 hC0.lt
             have hs10 : w1.cell? ⟨w.heap.size + 1, 0, none⟩ = some (.slice P lp cp) := (hC1.cell 0).trans rfl
             have hs11 : w1.cell? ⟨w.heap.size + 1, 1, none⟩ = some (.int .i64 pa) := (hC1.cell 1).trans rfl
             clear hb0 hB0 hC0 hb1)
          | (go_at_call 16; refine (few_any T n c _).mono ?_; rintro e w' ⟨rfl, rfl⟩)
          | (go_at_call 18; refine (new_any T n c xs _ (h.upto hbb1) hn).mono ?_; rintro e w2 ⟨⟨g, rfl, hge, hD2⟩, hb2⟩
             have hbb2 := bnext hbb1 hb2
             have hB2 := hB1.below hb2 hB1.lt
             have hC2 := hC1.below hb2 hC1.lt
             have hg : w.heap.size + 1 < g := by rw [hge]; exact hC1.lt
             clear hge hbb1 hB1 hC1 hb2)
          | (go_at_call 51; refine (big_any g T n c xs _ 2 _ hD2 (by omega)).mono ?_; rintro e w3 ⟨p, q3, rfl, hkn, h2p, hD3, hS3⟩
             have hbb3 := ballocs (Step.below hbb2 hS3 hbb2.size (by omega)) (.cells #[.int .i64 p] 24)
             have hB3 := (Step.block hS3 hB2 (by omega)).alloc (.cells #[.int .i64 p] 24)
             have hC3 := (Step.block hS3 hC2 (by omega)).alloc (.cells #[.int .i64 p] 24)
             have hF3 := Blk.new w3 24 #[.int .i64 p]
             have hD3' := hD3.alloc (.cells #[.int .i64 p] 24)
             have hgf : g < w3.heap.size := hD3.1.lt
             have HO := Lib.hid (okP_known hkn)
             have hp := okP_pos (okP_known hkn)
             clear hkn hD3 hS3 hB2 hC2 hbb2)
          | (go_at_call 20; refine (next_any g T n c xs q3 4 _ hD3' (by omega)).mono ?_; rintro e w4 ⟨r', q4, rfl, hr, hr0, hD4, hS4, hz4⟩
             obtain ⟨th, rfl⟩ : ∃ r : Nat, r' = r := ⟨r'.toNat, by have := hr (by omega); omega⟩
             have hth4 : th < 4 := by have := hr (by omega); omega
             have hF4 := Step.block hS4 hF3 (by omega)
             have hB4 := Step.block hS4 hB3 (by omega)
             have hC4 := Step.block hS4 hC3 (by omega)
             have hbb4 := Step.below hbb3 hS4 hbb3.size (by omega)
             have hf4 : w4.cell? ⟨w3.heap.size, 0, none⟩ = some (.int .i64 p) := (hF4.cell 0).trans rfl
             have HLR : Hid (limR p th = (List.replicate th p, 0)) := Lib.hid (by unfold limR; rw [if_pos HO.out, if_pos (by omega)]; rfl)
             clear hr hr0 hz4 hS4 hF3 hB3 hC3 hbb3 hD3')
          | (go_at_call 52; refine (rlimits_all p th _).mono ?_; rw [HLR.out]; rintro e w5 ⟨⟨A5, n5, c5, rfl, ho5⟩, hb5⟩
             have hg4 : g < w4.heap.size := hD4.1.lt
             have hF5 := hF4.below hb5 hF4.lt
             have hB5 := hB4.below hb5 hB4.lt
             have hC5 := hC4.below hb5 hC4.lt
             have hbb5 := bnext hbb4 hb5
             have hD5 := hD4.belowAll hb5
             have hI5 := ho5.ints
             have h5n : th = n5 := by have := hI5.len; simp at this; omega
             subst h5n
             have HNG : Hid (∀ b off s, A5 = some ⟨b, off, s⟩ → 0 < th → b ≠ g) := Lib.hid fun b off s e hn e2 => by
               have := (IntsO.of_own ho5 hg4).2 hn b off s e
               exact this e2
             have HLL : Hid (∀ i, i < th → 1 ≤ (List.replicate th p).getD i 0 ∧ (List.replicate th p).getD i 0 ≤ 4611686018427387904) := Lib.hid fun i hi => by
               have e : (List.replicate th p).getD i 0 = p := by simp [List.getD_eq_getElem?_getD, hi]
               rw [e]; omega
             clear hb5 ho5 hF4 hB4 hC4 hbb4 hf4 HLR)
          | (go_at_call 53; refine (mtape_any g T n c xs q4 A5 th c5 (List.replicate th p) _ hD5 hI5 HLL.out (by omega) HNG.out).mono ?_; rintro e w6 ⟨T6, k6, tc6, ds, q6, rfl, hoT6, hk6, hk6', hds, hD6, hS6⟩
             have hF6 := Step.block hS6 hF5 (by omega)
             have hB6 := Step.block hS6 hB5 (by omega)
             have hC6 := Step.block hS6 hC5 (by omega)
             have hbb6 := Step.below hbb5 hS6 hbb5.size (by omega)
             have hg6 := hD6.1.lt
             have hg5 : g < w5.heap.size := hD5.1.lt
             have hTO6 := IntsO.of_own hoT6 hg5
             clear hS6 hF5 hB5 hC5 hbb5 hD5 hI5 hoT6 hds hk6))
        have hb67 : Below w6.heap.size w6 (w6.alloc (.cells #[.slice T6 k6 tc6, .int .i64 0] 62)) := bbox _
        have hD7 := hD6.alloc (.cells #[.slice T6 k6 tc6, .int .i64 0] 62)
        have hF7 := hF6.below hb67 hF6.lt
        have hB7 := hB6.below hb67 hB6.lt
        have hC7 := hC6.below hb67 hC6.lt
        have hT7 := Blk.new w6 62 #[.slice T6 k6 tc6, .int .i64 0]
        have hTO7 := hTO6.below hb67
        have hbb7 := bnext hbb6 hb67
        obtain ⟨gF, hgF⟩ : ∃ b, w3.heap.size = b := ⟨_, rfl⟩
        obtain ⟨gT, hgT⟩ : ∃ b, w6.heap.size = b := ⟨_, rfl⟩
        obtain ⟨W6, hW6⟩ : ∃ W6, w6.alloc (.cells #[.slice T6 k6 tc6, .int .i64 0] 62) = W6 := ⟨_, rfl⟩
        rw [hW6] at hD7 hF7 hB7 hC7 hT7 hTO7 hbb7 ⊢
        rw [hgF] at hF7 hgf ⊢
        rw [hgT] at hT7 hg6 ⊢
        have hg7 := hD7.1.lt
        clear hW6 hgF hgT hb67 hD6 hF6 hB6 hC6 hTO6 hbb6 hD2 hD4 hs10 hs11
        have HFF : Hid (∀ wx, Step g W6 wx → wx.cell? ⟨gF, 0, none⟩ = some (.int .i64 p) ∧ wx.cell? ⟨gT, 0, none⟩ = some (.slice T6 k6 tc6) ∧ wx.cell? ⟨gT, 1, none⟩ = some (.int .i64 0)) := Lib.hid fun wx hx => ⟨((Step.block hx hF7 (by omega)).cell 0).trans rfl, ((Step.block hx hT7 (by omega)).cell 0).trans rfl, ((Step.block hx hT7 (by omega)).cell 1).trans rfl⟩
        have HTT : Hid (∀ wx, Step g W6 wx → Ints wx wx.heap.size T6 k6 ds) := Lib.hid fun wx hx => (hTO7.step hx).ints
        have HDD : Hid (∀ wx, Below W6.heap.size W6 wx → Deck wx g T n c xs q6) := Lib.hid fun wx hx => hD7.belowAll hx
        have hQ0 : Below W6.heap.size W6 W6.drew := (Below.refl _ W6).drew
        have hQZ : Below W6.heap.size W6 (W6.alloc (.cells #[.slice none 0 0, .int .i64 0] 62)).drew := (bbox (.cells #[.slice none 0 0, .int .i64 0] 62)).drew
        have hpw : IntKind.i64.wrap (p - 1) = p - 1 := IntWalk.i64_in _ (by omega)
        go_cut [23] (fun s23 wx => ShCut g T n c xs W6 s23 wx)
        case first =>
          as_aux_lemma =>
            go_region_held3 (fun w' => w'.cell? ⟨gF, 0, none⟩ = some (.int .i64 p) ∧ w'.cell? ⟨gT, 0, none⟩ = some (.slice T6 k6 tc6) ∧ w'.cell? ⟨gT, 1, none⟩ = some (.int .i64 0)) (first | exact HFF.out _ (Step.of_below (by first | exact hQ0 | exact hQZ)) | exact HFF.out _ hS7 | exact HFF.out _ (hS7.alloc _) | exact HFF.out _ hS8 | exact HFF.out _ (hS8.alloc _) | exact HFF.out _ hS9 | exact HFF.out _ (hS9.alloc _) | exact HFF.out _ ((hS9.setNew (p := ⟨_, 0, none⟩) hle _).setNew (p := ⟨_, 1, none⟩) hle _))
              (first
                | (go_at_call 20; (with_reducible refine (next_any g T n c xs q7 5 _ (by first | exact hD7' | exact hD7'.alloc _) (by omega)).mono ?_); rintro e w8 ⟨s5, q8, rfl, hs5, _, hD8, hS8', hz8⟩
                   clear hz8
                   have hs5b := hs5 (by omega)
                   have hsw : IntKind.i64.wrap (3 + s5) = 3 + s5 := IntWalk.i64_in _ (by omega)
                   obtain ⟨mn, hmin, hmn⟩ : ∃ mn : Int, (if 3 + s5 < p - 1 then 3 + s5 else p - 1) = mn ∧ mn ≤ 100 := ⟨_, rfl, by split <;> omega⟩
                   have hS78 : Step g w7 w8 := Step.trans (Step.of_below (by first | exact Below.refl _ _ | exact bbox _)) hS8'
                   have hS8 : Step g W6 w8 := hS7.trans hS78
                   have hle8 : w7.heap.size ≤ w8.heap.size := hS78.size
                   have hg8 := hD8.1.lt
                   clear hs5
                   first
                     | have hZ8 : Blk w8 W6.heap.size 62 #[.slice none 0 0, .int .i64 0] := Step.block hS78 hZ7 (by omega)
                     | have hZ8 : Blk w8 w7.heap.size 62 #[.slice none 0 0, .int .i64 0] := Step.block hS8' (Blk.new w7 62 #[.slice none 0 0, .int .i64 0]) (by omega)
                     | skip)
                | (go_at_call 20; (with_reducible refine (next_any g T n c xs q6 p _ (HDD.out _ (by first | exact hQ0 | exact hQZ)) (by omega)).mono ?_); rintro e w7 ⟨sa, q7, rfl, hsa, _, hD7', hS7', hz7⟩
                   clear hz7
                   have hsa1 := hsa (by omega)
                   have hg77 := hD7'.1.lt
                   have hS7 : Step g W6 w7 := Step.trans (Step.of_below (by first | exact hQ0 | exact hQZ)) hS7'
                   have hle7 := hS7.size
                   clear hsa
                   first
                     | have hZ7 : Blk w7 W6.heap.size 62 #[.slice none 0 0, .int .i64 0] := Step.block hS7' (by first | exact Blk.new _ _ _ | exact Blk.drew (Blk.new _ _ _)) (by omega)
                     | skip)
                | (go_at_call 54; (refine (rsplit_own p sa th mn T6 k6 tc6 0 ds _ (by first | exact HTT.out _ hS8 | exact HTT.out _ (hS8.alloc _)) (by omega)).mono ?_); rintro e w9 ⟨A9, k9, c9, us, ys, U9, un9, uc9, ua9, er9, rfl, hoS9, hk9, hb9⟩
                   have hC9 : Below w8.heap.size w8 w9 := by first | exact hb9 | exact bnext (bbox _) hb9
                   have hS9 : Step g W6 w9 := hS8.trans (Step.of_below hC9)
                   have hD9 := hD8.belowAll hC9
                   have hle9 := hC9.size
                   first
                     | (have hBx : Blk w9 W6.heap.size 62 #[.slice none 0 0, .int .i64 0] := hZ8.below hC9 hZ8.lt
                        have hle : W6.heap.size ≤ W6.heap.size := Nat.le_refl _
                        have hbx := hZ8.lt
                        have hx0 := (hBx.cell 0).trans rfl
                        have hx1 := (hBx.cell 1).trans rfl
                        have hxf0 := hBx.frozen 0
                        have hxf1 := hBx.frozen 1)
                     | (have hBx : Blk w9 w7.heap.size 62 #[.slice none 0 0, .int .i64 0] := hZ8.below hC9 hZ8.lt
                        have hle : W6.heap.size ≤ w7.heap.size := hle7
                        have hbx := hZ8.lt
                        have hx0 := (hBx.cell 0).trans rfl
                        have hx1 := (hBx.cell 1).trans rfl
                        have hxf0 := hBx.frozen 0
                        have hxf1 := hBx.frozen 1)
                     | (have hBx : Blk w9 w8.heap.size 62 #[.slice none 0 0, .int .i64 0] := (Blk.new w8 62 #[.slice none 0 0, .int .i64 0]).below hb9 (Blk.new w8 62 #[.slice none 0 0, .int .i64 0]).lt
                        have hle : W6.heap.size ≤ w8.heap.size := by omega
                        have hbx := (Blk.new w8 62 #[.slice none 0 0, .int .i64 0]).lt
                        have hx0 := (hBx.cell 0).trans rfl
                        have hx1 := (hBx.cell 1).trans rfl
                        have hxf0 := hBx.frozen 0
                        have hxf1 := hBx.frozen 1)
                     | (have hle : W6.heap.size ≤ w9.heap.size := by omega)))
            all_goals go_wp2_with fail
            all_goals go_meet
            all_goals first
              | exact ShCut.new hk9 hoS9 hD9 hS9 (by first | omega | (simp; omega)) _
              | exact ShCut.box hk9 hoS9 hD9 hS9 hle (Nat.lt_of_lt_of_le hbx (by first | exact Nat.le_refl _ | omega)) hg7 _ _
        case rest =>
          as_aux_lemma =>
            obtain ⟨A9, k9, c9, us, ys, q9, rfl, hk9, hoS, hD9, hS9⟩ := hcut
            have hF9 := Step.block hS9 hF7 (by omega)
            have hT9 := Step.block hS9 hT7 (by omega)
            have hB9 := Step.block hS9 hB7 (by omega)
            have hC9 := Step.block hS9 hC7 (by omega)
            have hbb9 := Step.below hbb7 hS9 hbb7.size (by omega)
            have hTO9 := hTO7.step hS9
            have hle9 := hS9.size
            obtain ⟨w9, hw9⟩ : ∃ w9, w9 = wc := ⟨_, rfl⟩
            subst hw9
            have hcap9 := hoS.cap
            have hSh9 := hoS.sh
            have hg9 := hD9.1.lt
            have hF9l := hF9.lt
            have hT9l := hT9.lt
            have hB9l := hB9.lt
            have hC9l := hC9.lt
            clear HDD HFF HTT hQ0 hQZ hD7 hF7 hT7 hB7 hC7 hbb7 hTO7 hS9 hpw
            go_upto_region 12 with (at_builtin
                                    refine wpList_append_shares rfl _ _ 50 rfl Try.underlying50 w9.heap.size none 0 0 [] [] rfl OwnS.nil_ _ A9 k9 c9 us ys rfl hSh9 k9 (by omega) (by omega) (Nat.le_refl _) ?_
                                    intro A11 c11 w11 ho11 hb11
                                    have hO11 : OwnS w11 w9.heap.size A11 k9 c11 us ys := ho11
                                    have hD11 := hD9.below hb11 hg9
                                    clear ho11)
            go_cut [26, 117] (fun s26 s117 wx => s26 = .slice A11 k9 c11 ∧ s117 = .bool (decide (0 < k9)) ∧ w11 = wx)
            case first =>
              as_aux_lemma =>
                go_wp2_with fail
                go_meet
                exact ⟨rfl, rfl, rfl⟩
            rename_i K1 hk1 K2 hk2
            obtain ⟨rfl, rfl, rfl⟩ := hcut
            refine hk2 _ _ ?_
            clear hk2
            go_cut [26] (fun s26 wx => ∃ (vs zs : List Int), s26 = .slice A11 k9 c11 ∧ OwnS wx w9.heap.size A11 k9 c11 vs zs ∧ KeepG g w9.heap.size w9 wx)
            case first =>
              as_aux_lemma =>
                rcases Nat.eq_zero_or_pos k9 with hk0 | hkp
                · subst hk0
                  have hK0 : KeepG g w9.heap.size w9 w11 := KeepG.of_below hb11
                  go_wp2_with fail
                  go_meet
                  exact ⟨us, ys, rfl, hO11, hK0⟩
                · have hil : (0 : Int) < (k9 : Int) := by omega
                  obtain ⟨gA, rfl, hgA1, hgA2⟩ := hO11.form hkp
                  have hF11 := hF9.below hb11 hF9l
                  have hp0 : p ≠ 0 := by omega
                  go_wp2_with (first
                    | (go_at_call 20; (with_reducible refine (next_any g T n c xs q12 2 w12 hD12 (by omega)).mono ?_); rintro e w13 ⟨s13, q13, rfl, _, _, hD13, hS13, _⟩
                       have hS113 := hS12.trans hS13
                       have hO13 := hO11.step hS113 hg9
                       have hF13 := Step.block hS113 hF11 (by omega)
                       have hf13 : w13.cell? ⟨gF, 0, none⟩ = some (.int .i64 p) := (hF13.cell 0).trans rfl
                       have hc13 := (hO13.cellAt hkd).2
                       have ha13 := (hO13.cellAt hkd).1
                       have hd13 := (hO13.cellAt hkp).1
                       rw [Nat.zero_mul] at hd13
                       have hz13 := hO13.frozenAt (kd * 2 + 1)
                       have hy13 := hO13.frozenAt (kd * 2)
                       have hO13' := hO13.belowAll (Below.refl _ w13).drew
                       have hK13 := (KeepG.of_below hb11).trans (KeepG.of_step hS113 hb11.size)
                       have hK13' := hK13.drew
                       clear hS12 hS13 hS113 hD12 hD13)
                    | (go_at_call 20; (with_reducible refine (next_any g T n c xs q9 k9 w11 hD11 (by omega)).mono ?_); rintro e w12 ⟨r12, q12, rfl, hr12, _, hD12, hS12, _⟩
                       obtain ⟨kd, rfl⟩ : ∃ r : Nat, r12 = r := ⟨r12.toNat, by have := hr12 (by omega); omega⟩
                       have hkd : kd < k9 := by have := hr12 (by omega); omega
                       have hkdl : (kd : Int) < (k9 : Int) := by omega
                       have hkd0 : (0 : Int) ≤ (kd : Int) := by omega
                       clear hr12))
                  · go_region
                    go_wp2_with fail
                    as_aux_lemma =>
                      go_meet
                      first
                        | exact ⟨us, _, rfl, hO13.stored hkd _, hK13.set hgA1 _⟩
                        | exact ⟨us, _, rfl, hO13'.stored hkd _, hK13'.set hgA1 _⟩
                  · skip
                    as_aux_lemma =>
                      go_meet
                      exact ⟨us.set kd (us.getD 0 0), ys, rfl, hO13.storedA hkd (us.getD 0 0), hK13.set hgA1 (.int .i64 (us.getD 0 0))⟩
            case rest =>
              as_aux_lemma =>
                obtain ⟨vs, zs, rfl, hoV, hK⟩ := hcut
                refine hk1 _ _ ?_
                clear hk1
                have hVcap := hoV.cap
                have hBW := hbb9.trans (hK.below (C := w.heap.size) (by omega) (by omega))
                have hBc := hK.blk hB9 hB9l (by omega)
                have hCc := hK.blk hC9 hC9l (by omega)
                have hFc := hK.blk hF9 hF9l (by omega)
                have hTc := hK.blk hT9 hT9l (by omega)
                have hTIc := hK.ints hTO9 (Nat.le_refl _)
                have hSIc := hK.sh hoS hg7 (Nat.le_refl _)
                have hVIc := hoV.sh
                have hPIc := hP.upto hBW
                have hLIc := hL.upto hBW
                have hr0 : wc.cell? ⟨w.heap.size, 0, none⟩ = some (.int .i64 pr) := (hBc.cell 0).trans rfl
                have hf0 : wc.cell? ⟨gF, 0, none⟩ = some (.int .i64 p) := (hFc.cell 0).trans rfl
                have hTk : k6 ≤ 17592186043904 := by omega
                clear hK hoV hoS hTO9 hbb9 hB9 hC9 hF9 hT9 hO11 hD11 hb11 hD9
                go_wp2_with fail
                have hbW := ballocs hBW (.cells #[.int .i64 pr, .int .i64 p] 24)
                have hN := Blk.new wc 24 #[.int .i64 pr, .int .i64 p]
                have hb9W : Below wc.heap.size wc (wc.alloc (.cells #[.int .i64 pr, .int .i64 p] 24)) := bbox _
                have hCW := hCc.below hb9W hCc.lt
                have hFW := hFc.below hb9W hFc.lt
                have hTW := hTc.below hb9W hTc.lt
                have hTIW := hTIc.upto hb9W
                have hSIW := hSIc.upto hb9W
                have hVIW := hVIc.upto hb9W
                have hPIW := hPIc.upto hb9W
                have hLIW := hLIc.upto hb9W
                obtain ⟨gN, hgNe⟩ : ∃ gN, wc.heap.size = gN := ⟨_, rfl⟩
                obtain ⟨gC, hgC⟩ : ∃ gC, w.heap.size + 1 = gC := ⟨_, rfl⟩
                obtain ⟨W, hW⟩ : ∃ W, wc.alloc (.cells #[.int .i64 pr, .int .i64 p] 24) = W := ⟨_, rfl⟩
                rw [hW] at hbW hN hCW hFW hTW hTIW hSIW hVIW hPIW hLIW
                rw [hgNe] at hN
                rw [hgC] at hCW
                have hNl := hN.lt
                have PGS := Lib.hid (two_ofS (P := fun j => ∃ pg : Int, W.cell? ⟨gN, j, none⟩ = some (.int .i64 pg) ∧ -9223372036854775808 ≤ pg ∧ pg ≤ 9223372036854775807) ⟨pr, (hN.cell 0).trans rfl, hpr⟩ ⟨p, (hN.cell 1).trans rfl, by omega, by omega⟩)
                rw [hgNe, hgC, hW]
                clear hgNe hgC hW hb9W hBc hCc hFc hTc hTIc hSIc hVIc hPIc hLIc hr0 hf0 hN hBW hpr h hP hL
                go_loopw [150] (fun i wr => ∃ j : Nat, j ≤ 2 ∧ i = .int .i64 j ∧ Below W.heap.size W wr) (fun i _ => 2 - (intOf i).toNat)
                case atStart => exact ⟨0, by omega, rfl, Below.refl _ _⟩
                case round =>
                  as_aux_lemma =>
                    obtain ⟨j, hj2, rfl, hS⟩ := hrel
                    by_cases hj : j < 2
                    · obtain ⟨pg, hpg, hpg64⟩ := PGS.out j hj
                      have hjl : (j : Int) < 2 := by omega
                      have hj0 : (0 : Int) ≤ (j : Int) := by omega
                      have hv0 := (hS.cell (p := ⟨gN, j, none⟩) hNl).trans hpg
                      have hS0 := ballocs hS (.cells #[.int .i64 pg] 24)
                      have hG0 := Blk.new wr 24 #[.int .i64 pg]
                      go_wp2_with fail
                      have hS1 := ballocs hS0 (.cells #[.int .i64 m0, .int .i64 th] 3)
                      have hG1 := hG0.alloc (.cells #[.int .i64 m0, .int .i64 th] 3)
                      have hY1 := Blk.new (wr.alloc (.cells #[.int .i64 pg] 24)) 3 #[.int .i64 m0, .int .i64 th]
                      rw [World.size_alloc] at hY1
                      obtain ⟨gP, hgP⟩ : ∃ gP, wr.heap.size = gP := ⟨_, rfl⟩
                      obtain ⟨W1, hW1⟩ : ∃ W1, (wr.alloc (.cells #[.int .i64 pg] 24)).alloc (.cells #[.int .i64 m0, .int .i64 th] 3) = W1 := ⟨_, rfl⟩
                      rw [hW1] at hS1 hG1 hY1
                      rw [hgP] at hG1 hY1
                      have hY1l := hY1.lt
                      have hG1l := hG1.lt
                      have YSS := Lib.hid (two_ofS (P := fun i => ∃ yv : Int, W1.cell? ⟨gP + 1, i, none⟩ = some (.int .i64 yv) ∧ -9223372036854775808 ≤ yv ∧ yv ≤ 9223372036854775807) ⟨m0, (hY1.cell 0).trans rfl, hm0⟩ ⟨th, (hY1.cell 1).trans rfl, by omega, by omega⟩)
                      have hC1 := hCW.below hS1 hCW.lt
                      have hF1 := hFW.below hS1 hFW.lt
                      have hT1 := hTW.below hS1 hTW.lt
                      have hTI1 := hTIW.upto hS1
                      have hSI1 := hSIW.upto hS1
                      have hVI1 := hVIW.upto hS1
                      have hPI1 := hPIW.upto hS1
                      have hLI1 := hLIW.upto hS1
                      rw [hgP, hW1]
                      clear hgP hW1 hS hS0 hG0 hY1 hv0 hpg
                      go_loopw [158] (fun i wr => ∃ i2 : Nat, i2 ≤ 2 ∧ i = .int .i64 i2 ∧ Below W1.heap.size W1 wr) (fun i _ => 2 - (intOf i).toNat)
                      case atStart => exact ⟨0, by omega, rfl, Below.refl _ _⟩
                      case round =>
                        as_aux_lemma =>
                          obtain ⟨i2, hi2, rfl, hS⟩ := hrel
                          by_cases hi2' : i2 < 2
                          · obtain ⟨mv, hmv, hmv64⟩ := YSS.out i2 hi2'
                            have hil2 : (i2 : Int) < 2 := by omega
                            have hi02 : (0 : Int) ≤ (i2 : Int) := by omega
                            have hv2 := (hS.cell (p := ⟨gP + 1, i2, none⟩) hY1l).trans hmv
                            have hG2 := hG1.below hS hG1l
                            have hg2 : wr.cell? ⟨gP, 0, none⟩ = some (.int .i64 pg) := (hG2.cell 0).trans rfl
                            obtain ⟨lr, le, HLR⟩ := pairE (limR pg mv)
                            have HLL := Lib.hid (limR_len pg mv)
                            go_wp2_with (first
                              | (go_at_call 55; refine (vecE HLR HLL (limits_all pg mv _ hpg64)).mono ?_; rintro e w4 ⟨U1, un1, uc1, rfl, hU1, hun1, hb4⟩
                                 have hS4 := bnext hS hb4
                                 have hG4 := hG2.below hb4 hG2.lt
                                 have hg4 : w4.cell? ⟨gP, 0, none⟩ = some (.int .i64 pg) := (hG4.cell 0).trans rfl
                                 have hUI4 := hU1.ints
                                 clear hb4 hU1)
                              | (go_at_call 52; refine (vecE HLR HLL (rlimits_all pg mv _)).mono ?_; rintro e w5 ⟨U2, un2, uc2, rfl, hU2, hun2, hb5⟩
                                 have hS5 := bnext hS4 hb5
                                 have hUI5 := hUI4.upto hb5
                                 have hVI5 := hU2.ints
                                 have hG5 := hG4.below hb5 hG4.lt
                                 obtain rfl : un1 = un2 := by rw [← hUI5.len, ← hVI5.len]
                                 clear hb5 hU2 hUI4 hG4 hg4))
                            go_loopw [186] (fun i wr => ∃ i3 : Nat, i3 ≤ un1 ∧ i = .int .i64 i3 ∧ Below w5.heap.size w5 wr) (fun i _ => un1 - (intOf i).toNat)
                            case atStart => exact ⟨0, by omega, rfl, Below.refl _ _⟩
                            case round =>
                              as_aux_lemma =>
                                obtain ⟨i3, hi3, rfl, hSq⟩ := hrel
                                by_cases hi3' : i3 < un1
                                · obtain ⟨b1, o1, rfl, hb1, hc1⟩ := (hUI5.upto hSq).2 (by omega)
                                  obtain ⟨b2, o2, rfl, hb2, hc2⟩ := (hVI5.upto hSq).2 (by omega)
                                  have hr1 := hc1 i3 hi3'
                                  have hr2 := hc2 i3 hi3'
                                  have hSd := hSq.drew
                                  clear hc1 hc2 hUI5 hVI5
                                  generalize lr.getD i3 0 = x at hr1 hr2
                                  go_wp2
                                  go_quiet (fail)
                                  have hSQ := below_drewN hSq nq
                                  go_wp2
                                  go_roundw
                                  case rel => exact ⟨i3 + 1, by omega, by go_num, hSQ⟩
                                  case measure => simp [intOf]; omega
                                · obtain rfl : i3 = un1 := by omega
                                  have hS6 := bnext hS5 hSq
                                  have hG6 := hG5.below hSq hG5.lt
                                  clear hUI5 hVI5 hS5 hG5
                                  have hnm : 0 ≤ n0 % 9 ∧ n0 % 9 < 9 := ⟨Int.emod_nonneg _ (by omega), Int.emod_lt_of_pos _ (by omega)⟩
                                  obtain ⟨n1, hn1⟩ : ∃ v, n0 % 9 = v := ⟨_, rfl⟩
                                  rw [hn1] at hnm
                                  go_wp2_with (go_at_call 32; refine (mod_any n0 9 _ (by omega) (by omega)).mono ?_; rintro e w1 ⟨rfl, rfl⟩; rw [hn1])
                                  have hS7 := ballocs hS6 (.cells #[.int .i64 n0, .int .i64 n1] 3)
                                  have hN7 := Blk.new wr 3 #[.int .i64 n0, .int .i64 n1]
                                  have hG7 := hG6.alloc (.cells #[.int .i64 n0, .int .i64 n1] 3)
                                  obtain ⟨gK, hgK⟩ : ∃ gK, wr.heap.size = gK := ⟨_, rfl⟩
                                  obtain ⟨W3, hW3⟩ : ∃ W3, wr.alloc (.cells #[.int .i64 n0, .int .i64 n1] 3) = W3 := ⟨_, rfl⟩
                                  rw [hW3] at hS7 hN7 hG7
                                  rw [hgK] at hN7
                                  have hN7l := hN7.lt
                                  have hG7l := hG7.lt
                                  have hC7 := hC1.below hS7 hC1.lt
                                  have hF7 := hF1.below hS7 hF1.lt
                                  have hT7 := hT1.below hS7 hT1.lt
                                  have hTI7 := hTI1.upto hS7
                                  have hPI7 := hPI1.upto hS7
                                  have KSS := Lib.hid (two_ofS (P := fun i => ∃ yv : Int, W3.cell? ⟨gK, i, none⟩ = some (.int .i64 yv) ∧ -9223372036854775808 ≤ yv ∧ yv ≤ 9223372036854775807) ⟨n0, (hN7.cell 0).trans rfl, hn0⟩ ⟨n1, (hN7.cell 1).trans rfl, by omega, by omega⟩)
                                  rw [hgK, hW3]
                                  clear hgK hW3 hS hS6 hG6 hN7 hnm hn1 hSq
                                  go_loopw [204] (fun i wr => ∃ i4 : Nat, i4 ≤ 2 ∧ i = .int .i64 i4 ∧ Below W3.heap.size W3 wr) (fun i _ => 2 - (intOf i).toNat)
                                  case atStart => exact ⟨0, by omega, rfl, Below.refl _ _⟩
                                  case round =>
                                    as_aux_lemma =>
                                      obtain ⟨i4, hi4, rfl, hS⟩ := hrel
                                      by_cases hi4' : i4 < 2
                                      · obtain ⟨kv, hkv, hkv64⟩ := KSS.out i4 hi4'
                                        have hil4 : (i4 : Int) < 2 := by omega
                                        have hi04 : (0 : Int) ≤ (i4 : Int) := by omega
                                        have hv4 := (hS.cell (p := ⟨gK, i4, none⟩) hN7l).trans hkv
                                        have hC8 := hC7.below hS hC7.lt
                                        have hT8 := hT7.below hS hT7.lt
                                        have hs80 : wr.cell? ⟨gC, 0, none⟩ = some (.slice P lp cp) := (hC8.cell 0).trans rfl
                                        have hs81 : wr.cell? ⟨gC, 1, none⟩ = some (.int .i64 pa) := (hC8.cell 1).trans rfl
                                        have ht80 : wr.cell? ⟨gT, 0, none⟩ = some (.slice T6 k6 tc6) := (hT8.cell 0).trans rfl
                                        have ht81 : wr.cell? ⟨gT, 1, none⟩ = some (.int .i64 0) := (hT8.cell 1).trans rfl
                                        go_wp2_with fail
                                        have hS8 := ballocs hS (.cells #[.slice P lp cp, .int .i64 pa, .slice T6 k6 tc6, .int .i64 0] 62)
                                        have hM8 := Blk.new wr 62 #[.slice P lp cp, .int .i64 pa, .slice T6 k6 tc6, .int .i64 0]
                                        obtain ⟨gM, hgM⟩ : ∃ gM, wr.heap.size = gM := ⟨_, rfl⟩
                                        obtain ⟨W4, hW4⟩ : ∃ W4, wr.alloc (.cells #[.slice P lp cp, .int .i64 pa, .slice T6 k6 tc6, .int .i64 0] 62) = W4 := ⟨_, rfl⟩
                                        rw [hW4] at hS8 hM8
                                        rw [hgM] at hM8
                                        have hM8l := hM8.lt
                                        have hG8 := hG7.below hS8 hG7l
                                        have hF8 := hF7.below hS8 hF7.lt
                                        have MSS := Lib.hid (two_ofS (P := fun i => ∃ (Z : Option Addr) (zn zc : Nat) (za : Int) (zx : List Int), W4.cell? ⟨gM, i * 2, none⟩ = some (.slice Z zn zc) ∧ W4.cell? ⟨gM, i * 2 + 1, none⟩ = some (.int .i64 za) ∧ Ints W4 W4.heap.size Z zn zx ∧ zn ≤ 17592186043904) ⟨P, lp, cp, pa, ps, (hM8.cell 0).trans rfl, (hM8.cell 1).trans rfl, hPI7.upto hS8, hlp⟩ ⟨T6, k6, tc6, 0, ds, (hM8.cell 2).trans rfl, (hM8.cell 3).trans rfl, hTI7.upto hS8, hTk⟩)
                                        rw [hgM, hW4]
                                        clear hgM hW4 hS hv4 hkv hM8 hC8 hT8 hs80 hs81 ht80 ht81
                                        go_loopw [212] (fun i wr => ∃ i5 : Nat, i5 ≤ 2 ∧ i = .int .i64 i5 ∧ Below W4.heap.size W4 wr) (fun i _ => 2 - (intOf i).toNat)
                                        case atStart => exact ⟨0, by omega, rfl, Below.refl _ _⟩
                                        case round =>
                                          as_aux_lemma =>
                                            obtain ⟨i5, hi5, rfl, hS⟩ := hrel
                                            by_cases hi5' : i5 < 2
                                            · obtain ⟨Z, zn, zc, za, zx, hzv, hza, hZI, hzn⟩ := MSS.out i5 hi5'
                                              have hil5 : (i5 : Int) < 2 := by omega
                                              have hi05 : (0 : Int) ≤ (i5 : Int) := by omega
                                              have hv50 := (hS.cell (p := ⟨gM, i5 * 2, none⟩) hM8l).trans hzv
                                              have hv51 := (hS.cell (p := ⟨gM, i5 * 2 + 1, none⟩) hM8l).trans hza
                                              have hS9 := ballocs hS (.cells #[.slice Z zn zc, .int .i64 za] 62)
                                              have hX9 := Blk.new wr 62 #[.slice Z zn zc, .int .i64 za]
                                              have hF9 := hF8.below hS9 hF8.lt
                                              have hf9 : (wr.alloc (.cells #[.slice Z zn zc, .int .i64 za] 62)).cell? ⟨gF, 0, none⟩ = some (.int .i64 p) := (hF9.cell 0).trans rfl
                                              have hzm : 0 ≤ z0 % p ∧ z0 % p < p := ⟨Int.emod_nonneg _ (by omega), Int.emod_lt_of_pos _ (by omega)⟩
                                              obtain ⟨z1, hz1⟩ : ∃ v, z0 % p = v := ⟨_, rfl⟩
                                              rw [hz1] at hzm
                                              go_wp2_with (go_at_call 32; refine (mod_any z0 p _ (by omega) (by omega)).mono ?_; rintro e w1 ⟨rfl, rfl⟩; rw [hz1])
                                              have hS10 := ballocs hS9 (.cells #[.int .i64 z0, .int .i64 z1] 3)
                                              have hX10 := hX9.alloc (.cells #[.int .i64 z0, .int .i64 z1] 3)
                                              have hV10 := Blk.new (wr.alloc (.cells #[.slice Z zn zc, .int .i64 za] 62)) 3 #[.int .i64 z0, .int .i64 z1]
                                              rw [World.size_alloc] at hV10
                                              obtain ⟨gX, hgX⟩ : ∃ gX, wr.heap.size = gX := ⟨_, rfl⟩
                                              obtain ⟨W5, hW5⟩ : ∃ W5, (wr.alloc (.cells #[.slice Z zn zc, .int .i64 za] 62)).alloc (.cells #[.int .i64 z0, .int .i64 z1] 3) = W5 := ⟨_, rfl⟩
                                              rw [hW5] at hS10 hX10 hV10
                                              rw [hgX] at hX10 hV10
                                              have hX10l := hX10.lt
                                              have hV10l := hV10.lt
                                              have hG10 := hG8.below hS10 hG8.lt
                                              have hZI10 := hZI.upto hS10
                                              have hG10l := hG10.lt
                                              have VSS := Lib.hid (two_ofS (P := fun i => ∃ yv : Int, W5.cell? ⟨gX + 1, i, none⟩ = some (.int .i64 yv) ∧ -9223372036854775808 ≤ yv ∧ yv ≤ 9223372036854775807) ⟨z0, (hV10.cell 0).trans rfl, hz0⟩ ⟨z1, (hV10.cell 1).trans rfl, by omega, by omega⟩)
                                              rw [hgX, hW5]
                                              clear hgX hW5 hS hS9 hX9 hF9 hf9 hV10 hzm hz1 hv50 hv51 hzv hza
                                              go_loopw [223] (fun i wr => ∃ i6 : Nat, i6 ≤ 2 ∧ i = .int .i64 i6 ∧ Below W5.heap.size W5 wr) (fun i _ => 2 - (intOf i).toNat)
                                              case atStart => exact ⟨0, by omega, rfl, Below.refl _ _⟩
                                              case round =>
                                                as_aux_lemma =>
                                                  obtain ⟨i6, hi6, rfl, hS⟩ := hrel
                                                  by_cases hi6' : i6 < 2
                                                  · obtain ⟨zv, hzv, hzv64⟩ := VSS.out i6 hi6'
                                                    have hil6 : (i6 : Int) < 2 := by omega
                                                    have hi06 : (0 : Int) ≤ (i6 : Int) := by omega
                                                    have hv6 := (hS.cell (p := ⟨gX + 1, i6, none⟩) hV10l).trans hzv
                                                    have hG11 := hG10.below hS hG10l
                                                    have hg11 : wr.cell? ⟨gP, 0, none⟩ = some (.int .i64 pg) := (hG11.cell 0).trans rfl
                                                    have hX11 := hX10.below hS hX10l
                                                    have hx110 : wr.cell? ⟨gX, 0, none⟩ = some (.slice Z zn zc) := (hX11.cell 0).trans rfl
                                                    have hx111 : wr.cell? ⟨gX, 1, none⟩ = some (.int .i64 za) := (hX11.cell 1).trans rfl
                                                    have hZI11 := hZI10.upto hS
                                                    obtain ⟨sk, stk, su, sy, sa', se, sx, hsk, hstk, HSP⟩ := split_form pg zv mv kv zn za zx
                                                    have HSA : Hid ((sa' == sa' && sx == sx) = true) := Lib.hid (by simp)
                                                    go_wp2_with (first
                                                      | (go_at_call 56; (refine (split_all pg zv mv kv Z zn zc za zx _ hpg64 hZI11).mono ?_); intro e w12 hsp; obtain ⟨D1, dc1, E1, ec1, rfl, hD12, hE12, hb12⟩ := HSP.out _ _ _ hsp
                                                         have hS12 := ballocs (bnext hS hb12) (.cells #[.slice E1 stk ec1, .int .i64 sa'] 62)
                                                         have hbx12 : Below w12.heap.size w12 (w12.alloc (.cells #[.slice E1 stk ec1, .int .i64 sa'] 62)) := bbox _
                                                         have hG12 := (hG11.below hb12 hG11.lt).alloc (.cells #[.slice E1 stk ec1, .int .i64 sa'] 62)
                                                         have hX12 := (hX11.below hb12 hX11.lt).alloc (.cells #[.slice E1 stk ec1, .int .i64 sa'] 62)
                                                         have hQ12 := Blk.new w12 62 #[.slice E1 stk ec1, .int .i64 sa']
                                                         have hg12 : (w12.alloc (.cells #[.slice E1 stk ec1, .int .i64 sa'] 62)).cell? ⟨gP, 0, none⟩ = some (.int .i64 pg) := (hG12.cell 0).trans rfl
                                                         have hx120 : (w12.alloc (.cells #[.slice E1 stk ec1, .int .i64 sa'] 62)).cell? ⟨gX, 0, none⟩ = some (.slice Z zn zc) := (hX12.cell 0).trans rfl
                                                         have hx121 : (w12.alloc (.cells #[.slice E1 stk ec1, .int .i64 sa'] 62)).cell? ⟨gX, 1, none⟩ = some (.int .i64 za) := (hX12.cell 1).trans rfl
                                                         have hZI12 := (hZI11.upto hb12).upto hbx12
                                                         have hDD12 := hD12.upto hbx12
                                                         have hEE12 := hE12.upto hbx12
                                                         clear hb12 hsp hD12 hE12)
                                                      | (go_at_call 54; (refine (rsplit_all pg zv mv kv Z zn zc za zx _ hZI12).mono ?_); intro e w13 hsp; obtain ⟨D2, dc2, E2, ec2, rfl, hD13, hE13, hb13⟩ := HSP.out _ _ _ hsp
                                                         have hS13 := ballocs (bnext hS12 hb13) (.cells #[.slice E2 stk ec2, .int .i64 sa'] 62)
                                                         have hbx13 : Below w13.heap.size w13 (w13.alloc (.cells #[.slice E2 stk ec2, .int .i64 sa'] 62)) := bbox _
                                                         have hQ13 := (hQ12.below hb13 hQ12.lt).alloc (.cells #[.slice E2 stk ec2, .int .i64 sa'] 62)
                                                         have hR13 := Blk.new w13 62 #[.slice E2 stk ec2, .int .i64 sa']
                                                         have hDD13 := (hDD12.upto hb13).upto hbx13
                                                         have hEE13 := (hEE12.upto hb13).upto hbx13
                                                         have hDE13 := hD13.upto hbx13
                                                         have hEF13 := hE13.upto hbx13
                                                         clear hb13 hsp hD13 hE13)
                                                      | (go_at_call 57; (refine (rsameS_yes D1 D2 sk dc1 dc2 su sy _ hDD13 hDE13 (by omega)).mono ?_); rintro e w14 ⟨rfl, q14, rfl⟩
                                                         have hS14 := below_drewN hS13 q14
                                                         have hQ14 := Blk.drewN hQ13 q14
                                                         have hR14 := Blk.drewN hR13 q14
                                                         have hq140 := (hQ14.cell 0).trans rfl
                                                         have hq141 := (hQ14.cell 1).trans rfl
                                                         have hr140 := (hR14.cell 0).trans rfl
                                                         have hr141 := (hR14.cell 1).trans rfl
                                                         have hEE14 := hEE13.upto (below_drewN (Below.refl _ _) q14)
                                                         have hEF14 := hEF13.upto (below_drewN (Below.refl _ _) q14))
                                                      | (go_at_call 58; (refine (rsame_any E1 E2 stk stk ec1 ec2 sa' sa' sx sx _ hEE14 hEF14 (by omega) (by omega)).mono ?_); rintro e w15 ⟨rfl, hb15⟩; rw [HSA.out]
                                                         have hS15 := bnext hS14 hb15))
                                                    go_roundw
                                                    case rel => exact ⟨i6 + 1, by omega, by go_num, hS15⟩
                                                    case measure => simp [intOf]; omega
                                                  · obtain rfl : i6 = 2 := by omega
                                                    have hS11 := hS10.trans (hS.mono hS10.size)
                                                    go_wp2
                                                    go_roundw
                                                    case rel => exact ⟨i5 + 1, by omega, by go_num, hS11⟩
                                                    case measure => simp [intOf]; omega
                                            · obtain rfl : i5 = 2 := by omega
                                              have hS9 := hS8.trans (hS.mono hS8.size)
                                              go_wp2
                                              go_roundw
                                              case rel => exact ⟨i4 + 1, by omega, by go_num, hS9⟩
                                              case measure => simp [intOf]; omega
                                      · have hi4e : ¬ (i4 : Int) < 2 := by omega
                                        have hS8 := hS7.trans (hS.mono hS7.size)
                                        have hG8 := hG7.below hS hG7l
                                        go_wp2_with fail
                                        have hS9 := ballocs hS8 (.cells #[.slice L ll cl, .slice A9 k9 c9, .slice A11 k9 c11] 50)
                                        have hM9 := Blk.new wr 50 #[.slice L ll cl, .slice A9 k9 c9, .slice A11 k9 c11]
                                        have hG9 := hG8.alloc (.cells #[.slice L ll cl, .slice A9 k9 c9, .slice A11 k9 c11] 50)
                                        obtain ⟨gM, hgM⟩ : ∃ gM, wr.heap.size = gM := ⟨_, rfl⟩
                                        obtain ⟨W4, hW4⟩ : ∃ W4, wr.alloc (.cells #[.slice L ll cl, .slice A9 k9 c9, .slice A11 k9 c11] 50) = W4 := ⟨_, rfl⟩
                                        rw [hW4] at hS9 hM9 hG9
                                        rw [hgM] at hM9
                                        have hM9l := hM9.lt
                                        have hG9l := hG9.lt
                                        have LSS := Lib.hid (three_ofS (P := fun i => ∃ (Z : Option Addr) (zn zc : Nat) (zu zy : List Int), W4.cell? ⟨gM, i, none⟩ = some (.slice Z zn zc) ∧ Sh W4 W4.heap.size Z zn zu zy ∧ zn ≤ 100 ∧ zn ≤ zc) ⟨L, ll, cl, lu, ly, (hM9.cell 0).trans rfl, hLI1.upto hS9, by omega, hcl⟩ ⟨A9, k9, c9, us, ys, (hM9.cell 1).trans rfl, hSI1.upto hS9, hk9, hcap9⟩ ⟨A11, k9, c11, vs, zs, (hM9.cell 2).trans rfl, hVI1.upto hS9, hk9, hVcap⟩)
                                        rw [hgM, hW4]
                                        clear hgM hW4 hS hM9 hS8 hG8
                                        go_loopw [270] (fun i wr => ∃ i5 : Nat, i5 ≤ 3 ∧ i = .int .i64 i5 ∧ Below W4.heap.size W4 wr) (fun i _ => 3 - (intOf i).toNat)
                                        case atStart => exact ⟨0, by omega, rfl, Below.refl _ _⟩
                                        case round =>
                                          as_aux_lemma =>
                                            obtain ⟨i5, hi5, rfl, hS⟩ := hrel
                                            by_cases hi5' : i5 < 3
                                            · obtain ⟨Z, zn, zc, zu, zy, hzv, hZI, hzn, hzc⟩ := LSS.out i5 hi5'
                                              have hil5 : (i5 : Int) < 3 := by omega
                                              have hi05 : (0 : Int) ≤ (i5 : Int) := by omega
                                              have hv5 := (hS.cell (p := ⟨gM, i5, none⟩) hM9l).trans hzv
                                              have hZI0 := hZI.upto hS
                                              have hG10 := hG9.below hS hG9l
                                              have hg10 : wr.cell? ⟨gP, 0, none⟩ = some (.int .i64 pg) := (hG10.cell 0).trans rfl
                                              go_wp2_with (first
                                                | (go_at_call 59; (refine (join_share_all pg mv Z zn zc zu zy _ hpg64 hmv64 hZI0 hzn hzc).mono ?_); rintro e v1 ⟨r1, e1, rfl, hR1, hb1⟩
                                                   have HR1 := Lib.hid hR1
                                                   have hSv1 := bnext hS hb1
                                                   have hZI1 := hZI0.upto hb1
                                                   have hG11 := hG10.below hb1 hG10.lt
                                                   have hg11 : v1.cell? ⟨gP, 0, none⟩ = some (.int .i64 pg) := (hG11.cell 0).trans rfl
                                                   clear hb1 hR1)
                                                | (go_at_call 60; (refine (rjoin_share_all pg mv Z zn zc zu zy _ hmv64 hZI1 hzn hzc).mono ?_); rintro e v2 ⟨r2, e2, rfl, hR2, hb2⟩
                                                   obtain ⟨rfl, rfl⟩ := AtR.one (fun h => h.1) Iff.rfl HR1.out hR2
                                                   have hSv2 := bnext hSv1 hb2
                                                   have hZI2 := hZI1.upto hb2
                                                   have hG12 := hG11.below hb2 hG11.lt
                                                   have hg12 : v2.cell? ⟨gP, 0, none⟩ = some (.int .i64 pg) := (hG12.cell 0).trans rfl
                                                   clear hb2 hR2)
                                                | (go_at_call 61; (refine (agree_share_all pg mv Z zn zc zu zy _ hpg64 hmv64 hZI2 hzn hzc).mono ?_); rintro e v3 ⟨r3, e3, rfl, hR3, hb3⟩
                                                   have HR3 := Lib.hid hR3
                                                   have hSv3 := bnext hSv2 hb3
                                                   have hZI3 := hZI2.upto hb3
                                                   have hG13 := hG12.below hb3 hG12.lt
                                                   have hg13 : v3.cell? ⟨gP, 0, none⟩ = some (.int .i64 pg) := (hG13.cell 0).trans rfl
                                                   clear hb3 hR3)
                                                | (go_at_call 62; (refine (ragree_share_all pg mv Z zn zc zu zy _ hmv64 hZI3 hzn hzc).mono ?_); rintro e v4 ⟨r4, e4, rfl, hR4, hb4⟩
                                                   obtain ⟨rfl, rfl⟩ := AgrR.one (fun h => h.1) okP_zero HR3.out hR4
                                                   have hSv4 := bnext hSv3 hb4
                                                   have hZI4 := hZI3.upto hb4
                                                   have hG14 := hG13.below hb4 hG13.lt
                                                   have hg14 : v4.cell? ⟨gP, 0, none⟩ = some (.int .i64 pg) := (hG14.cell 0).trans rfl
                                                   clear hb4 hR4)
                                                | (go_at_call 63; (refine (at_share_all pg mv x0 Z zn zc zu zy _ hpg64 hmv64 hZI4 hzn hzc).mono ?_); rintro e v5 ⟨r5, e5, rfl, hR5, hb5⟩
                                                   have HR5 := Lib.hid hR5
                                                   have hSv5 := bnext hSv4 hb5
                                                   have hZI5 := hZI4.upto hb5
                                                   have hG15 := hG14.below hb5 hG14.lt
                                                   have hg15 : v5.cell? ⟨gP, 0, none⟩ = some (.int .i64 pg) := (hG15.cell 0).trans rfl
                                                   clear hb5 hR5)
                                                | (go_at_call 64; (refine (rat_share_all pg mv x0 Z zn zc zu zy _ hmv64 hZI5 hzn hzc).mono ?_); rintro e v6 ⟨r6, e6, rfl, hR6, hb6⟩
                                                   obtain ⟨rfl, rfl⟩ := AtR.one (fun h => h.1) Iff.rfl HR5.out hR6
                                                   have hSv6 := bnext hSv5 hb6
                                                   have hZI6 := hZI5.upto hb6
                                                   have hG16 := hG15.below hb6 hG15.lt
                                                   have hg16 : v6.cell? ⟨gP, 0, none⟩ = some (.int .i64 pg) := (hG16.cell 0).trans rfl
                                                   clear hb6 hR6))
                                              go_roundw
                                              case rel => exact ⟨i5 + 1, by omega, by go_num, hSv6⟩
                                              case measure => simp [intOf]; omega
                                            · obtain rfl : i5 = 3 := by omega
                                              have hS10 := hS9.trans (hS.mono hS9.size)
                                              go_wp2
                                              go_roundw
                                              case rel => exact ⟨i2 + 1, by omega, by go_num, hS10⟩
                                              case measure => simp [intOf]; omega
                          · obtain rfl : i2 = 2 := by omega
                            have hS7 := hS1.trans (hS.mono hS1.size)
                            go_wp2
                            go_roundw
                            case rel => exact ⟨j + 1, by omega, by go_num, hS7⟩
                            case measure => simp [intOf]; omega
                    · obtain rfl : j = 2 := by omega
                      go_wp2
                      go_ret
                      exact ⟨rfl, hbW.trans (hS.mono hbW.size)⟩

      · have hll1 : (80 : Int) < (ll : Int) := by omega
        go_enter Try.func5, Try.ntmps5
        go_wp2_with (first
          | (go_at_call 50; refine (sane07_any _).mono ?_; rintro e w1 ⟨rfl, hb1⟩
             have hbb1 := bnext hb0 hb1
             have hC1 := hC0.below hb1 hC0.lt
             have hs10 : w1.cell? ⟨w.heap.size + 1, 0, none⟩ = some (.slice P lp cp) := (hC1.cell 0).trans rfl)
          | (go_at_call 16; refine (few_any T n c _).mono ?_; rintro e w' ⟨rfl, rfl⟩))
        go_ret
        exact ⟨rfl, hbb1⟩
    · have hab1 : (1000 : Int) < (lp : Int) := by omega
      go_enter Try.func5, Try.ntmps5
      go_wp2_with (first
        | (go_at_call 50; refine (sane07_any _).mono ?_; rintro e w1 ⟨rfl, hb1⟩
           have hbb1 := bnext hb0 hb1
           have hC1 := hC0.below hb1 hC0.lt
           have hs10 : w1.cell? ⟨w.heap.size + 1, 0, none⟩ = some (.slice P lp cp) := (hC1.cell 0).trans rfl)
        | (go_at_call 16; refine (few_any T n c _).mono ?_; rintro e w' ⟨rfl, rfl⟩))
      go_ret
      exact ⟨rfl, hbb1⟩
  · have hd : decide (n ≤ 500) = false := by simpa using hn
    go_enter Try.func5, Try.ntmps5
    go_wp2_with (first
      | (go_at_call 50; refine (sane07_any _).mono ?_; rintro e w1 ⟨rfl, hb1⟩
         have hbb1 := bnext hb0 hb1)
      | (go_at_call 16; refine (few_any T n c _).mono ?_; rintro e w' ⟨rfl, rfl⟩))
    go_ret
    exact ⟨rfl, hbb1⟩
end Go.Proofs.Ytoblofilaegnaaa
