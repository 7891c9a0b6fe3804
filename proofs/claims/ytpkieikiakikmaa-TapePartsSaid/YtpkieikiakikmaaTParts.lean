/-
  TapeParts returns true: the walk of the law. Conditions: none beyond the reading of its arguments.
-/
import Derived.Test.YtpkieikiakikmaaTapeS
import Derived.Test.YtpkieikiakikmaaShape
import Derived.Deep.QuietTactic
import Derived.BigQuiet
namespace Go.Proofs.Ytpkieikiakikmaa
open Go.RowKit
set_option linter.unusedVariables false

theorem drawsE_in {xs : List Int} {m : Nat} {n : Int} (hl : xs.length = m) (hm : m ≤ 16384) (hn : 1 ≤ n ∧ n ≤ 2147483647) (hx : ∀ j, j < m → 0 ≤ xs.getD j 0 ∧ xs.getD j 0 < n) (a : Nat) (ha : a ≤ m) (cnt : Nat) :
    drawsE xs m a n cnt = if a + cnt ≤ m then 0 else 3 := by
  unfold drawsE
  rw [if_neg (by simp [validT]; omega), if_neg (by simp [limT]; omega), Int.toNat_natCast, Int.toNat_natCast]
  induction cnt generalizing a with
  | zero => rw [if_pos (by omega)]; rfl
  | succ k ih =>
    simp only [drawE]
    by_cases h : a = m
    · have : nextE xs n a = 3 := by unfold nextE; rw [if_pos (by omega)]
      rw [this, if_neg (by omega), if_neg (by omega)]
    · have h1 := hx a (by omega)
      rw [if_pos (nextE_zero (by omega) h1.1 h1.2), ih (a + 1) (by omega)]
      by_cases h2 : a + 1 + k ≤ m
      · rw [if_pos h2, if_pos (by omega)]
      · rw [if_neg h2, if_neg (by omega)]

/-- Draws where all numbers may be drawn: enough are left. -/
theorem draws_yes (A : Option Addr) (m c a cnt r : Nat) (a0 n c0 : Int) (xs : List Int) (w : World) (ha0 : a0 = a) (hc0 : c0 = cnt) (hr : a + cnt = r) (h : Ints w w.heap.size A m xs) (hm : m ≤ 16384) (hn : 1 ≤ n ∧ n ≤ 2147483647) (hx : ∀ j, j < m → 0 ≤ xs.getD j 0 ∧ xs.getD j 0 < n) (ha : a + cnt ≤ m) :
    Calls Try.prog 27 #[.agg #[.slice A m c, .int .i64 a0], .int .i64 n, .int .i64 c0] w fun e w' =>
      (∃ A' c' D dc, e = .returned (.tuple #[.agg #[.slice A' m c', .int .i64 r], .slice D cnt dc, .int .i64 0]) ∧ OwnI w' w.heap.size 3 A' m c' xs ∧ OwnI w' w.heap.size 3 D cnt dc ((xs.drop a).take cnt)) ∧ Below w.heap.size w w' := by
  subst ha0 hc0 hr
  refine (draws_any A m c a n cnt xs w h (by omega)).mono ?_
  rintro e w' ⟨_, hyes, hb⟩
  obtain ⟨A', c', D, dc, he, h1, h2⟩ := hyes (by rw [drawsE_in h.len hm hn hx a (by omega), if_pos ha])
  rw [Int.toNat_natCast] at he h2
  rw [Int.toNat_natCast] at h2
  exact ⟨⟨A', c', D, dc, by rw [he]; rfl, h1, h2⟩, hb⟩

/-- Draws where all numbers may be drawn: too few are left. -/
theorem draws_short (A : Option Addr) (m c a cnt : Nat) (a0 n c0 : Int) (xs : List Int) (w : World) (ha0 : a0 = a) (hc0 : c0 = cnt) (h : Ints w w.heap.size A m xs) (hm : m ≤ 16384) (hn : 1 ≤ n ∧ n ≤ 2147483647) (hx : ∀ j, j < m → 0 ≤ xs.getD j 0 ∧ xs.getD j 0 < n) (ha : a ≤ m) (hs : ¬ a + cnt ≤ m)
    (hc : (cnt : Int) ≤ 9223372036854775807) :
    Calls Try.prog 27 #[.agg #[.slice A m c, .int .i64 a0], .int .i64 n, .int .i64 c0] w fun e w' =>
      e = .returned (.tuple #[.agg #[.slice none 0 0, .int .i64 0], .slice none 0 0, .int .i64 3]) ∧ Below w.heap.size w w' := by
  subst ha0 hc0
  refine (draws_any A m c a n cnt xs w h hc).mono ?_
  rintro e w' ⟨hno, _, hb⟩
  have he : drawsE xs m a n cnt = 3 := by rw [drawsE_in h.len hm hn hx a ha, if_neg hs]
  rw [he] at hno
  exact ⟨hno (by omega), hb⟩

set_option maxHeartbeats 8000000 in
set_option maxRecDepth 100000 in
theorem tapeParts_walk (A : Option Addr) (n c : Nat) (zs : List Int) (m0 n0 : Int) (w : World) (w0 : IsRow .i64 w A n c zs) (w1 : (Lit.int .u8 m0).wf = true) (w2 : (Lit.int .u8 n0).wf = true) :
    Calls Try.prog 4 #[.slice A n c, .int .u8 m0, .int .u8 n0] w fun e w' => e = .returned (.bool true) ∧ Below w.heap.size w w' := by
  have hm0 : 0 ≤ m0 ∧ m0 ≤ 255 := by simpa [Lit.wf, IntKind.min, IntKind.max, IntKind.signed, IntKind.bits] using w1
  have hn0 : 0 ≤ n0 ∧ n0 ≤ 255 := by simpa [Lit.wf, IntKind.min, IntKind.max, IntKind.signed, IntKind.bits] using w2
  obtain ⟨i0, hi0, hz0, hz1, hz2⟩ := info_parts info_int
  obtain ⟨h, hw⟩ := w0.ints
  generalize zs.take n = xs at h hw
  clear w0 w1 w2
  by_cases hn : n ≤ 500
  · have hd : decide (n ≤ 500) = true := by simpa using hn
    go_enter Try.func4, Try.ntmps4
    go_wp2_with (first
      | (go_at_call 13; refine (sane02_any _).mono ?_; rintro e w1 ⟨rfl, hb1⟩)
      | (go_at_call 14; refine (few_any A n c _).mono ?_; rintro e w' ⟨rfl, rfl⟩)
      | (go_at_call 15; refine (new_any A n c xs _ (h.upto hb1) hn).mono ?_; rintro e w2 ⟨⟨g, rfl, hge, hD2⟩, hb2⟩
         have hbb2 := bnext hb1 hb2
         have hg : w.heap.size ≤ g := by rw [hge]; exact hb1.size
         clear hge)
      | (go_at_call 19; (refine (next_any g A n c xs _ 20 _ hD2 (by omega)).mono ?_); rintro e w3 ⟨k', q3, rfl, hk, hk0, hD3, hS3, hz3⟩
         obtain ⟨k, rfl⟩ : ∃ r : Nat, k' = r := ⟨k'.toNat, by have := hk (by omega); omega⟩
         have hk20 : k < 20 := by have := hk (by omega); omega
         have hbb3 := Step.below hbb2 hS3 hbb2.size hg
         clear hk hk0 hz3)
      | (go_at_call 30; (refine (elements_any g A n c xs q3 7 k _ hD3 (by omega) (by omega)).mono ?_); rintro e w4 ⟨X, cx, ds, q4, rfl, hX4, hY, hD4, hS4⟩
         have hbb4 := Step.below hbb3 hS4 hbb3.size hg
         have hXl := hX4.len
         have HX : Hid (∀ j, j < k → 0 ≤ ds.getD j 0 ∧ ds.getD j 0 < 7) := Lib.hid fun j hj => allP_getD hY (by rw [hXl]; exact hj)
         have HXL := Lib.hid hXl
         have hN4 := Blk.new w4 24 #[.slice X k cx, .int .i64 0]
         have hX5 := hX4.ints.upto (bbox (.cells #[.slice X k cx, .int .i64 0] 24))
         have hx0 : (w4.alloc (.cells #[.slice X k cx, .int .i64 0] 24)).cell? ⟨w4.heap.size, 0, none⟩ = some (.slice X k cx) := (hN4.cell 0).trans rfl
         have hx1 : (w4.alloc (.cells #[.slice X k cx, .int .i64 0] 24)).cell? ⟨w4.heap.size, 1, none⟩ = some (.int .i64 0) := (hN4.cell 1).trans rfl
         clear hXl hY))
    have hbb5 := ballocs hbb4 (.cells #[.slice X k cx, .int .i64 0] 24)
    clear hD2 hD3 hD4 hS3 hS4 hbb2 hbb3 hb1 hb2
    obtain ⟨a, ha⟩ : ∃ a : Nat, m0 % 8 = a := ⟨(m0 % 8).toNat, by omega⟩
    obtain ⟨b, hb⟩ : ∃ b : Nat, n0 % 8 = b := ⟨(n0 % 8).toNat, by omega⟩
    rw [ha, hb]
    have ha8 : a < 8 := by omega
    have hb88 : b < 8 := by omega
    clear ha hb
    have h17 : (1 : Int) ≤ 7 ∧ (7 : Int) ≤ 2147483647 := by omega
    obtain ⟨r, hr⟩ : ∃ r : Nat, a + b = r := ⟨_, rfl⟩
    have hab : (a : Int) + (b : Int) = (r : Int) := by omega
    by_cases hcA : r ≤ k
    · have hgt : ¬ ((k : Int) < (r : Int)) := by omega
      have hkc : k ≤ cx := by rcases hX4.shape with ⟨_, h1, h2⟩ | ⟨_, _, h1, _⟩ <;> omega
      have hrc : (r : Int) ≤ (cx : Int) := by omega
      have hle : (k : Int) - (r : Int) = (k : Int) - (a : Int) - (b : Int) := by omega
      have HSM : Hid (((r : Int) == (r : Int) && ds == ds) = true) := Lib.hid (by simp)
      go_wp2_with (first
      | (go_at_call 27; (with_reducible refine (draws_yes X k cx 0 a a 0 7 a ds _ rfl rfl (by omega) hX5 (by omega) h17 HX.out (by omega)).mono ?_); rintro e w6 ⟨⟨A6, c6, P, pc, rfl, hA6, hP6⟩, hb6⟩
         have hbb6 := bnext hbb5 hb6
         have hX7 := (hX5.upto hb6).upto (bbox (.cells #[.slice A6 k c6, .int .i64 a] 24))
         have hNx7 := (hN4.below hb6 hN4.lt).alloc (.cells #[.slice A6 k c6, .int .i64 a] 24)
         have hNy7 := Blk.new w6 24 #[.slice A6 k c6, .int .i64 a]
         have hy0 : (w6.alloc (.cells #[.slice A6 k c6, .int .i64 a] 24)).cell? ⟨w6.heap.size, 0, none⟩ = some (.slice A6 k c6) := (hNy7.cell 0).trans rfl
         have hy1 : (w6.alloc (.cells #[.slice A6 k c6, .int .i64 a] 24)).cell? ⟨w6.heap.size, 1, none⟩ = some (.int .i64 a) := (hNy7.cell 1).trans rfl
         have hA7 := hA6.ints.upto (bbox (.cells #[.slice A6 k c6, .int .i64 a] 24))
         have hP7 := hP6.alloc (.cells #[.slice A6 k c6, .int .i64 a] 24)
         have hbb7 := ballocs hbb6 (.cells #[.slice A6 k c6, .int .i64 a] 24))
      | (go_at_call 27; (with_reducible refine (draws_yes A6 k c6 a b r a 7 b ds _ rfl rfl hr hA7 (by omega) h17 HX.out (by omega)).mono ?_); rintro e w8 ⟨⟨A8, c8, Q, qc, rfl, hA8, hQ8⟩, hb8⟩
         have hbb8 := bnext hbb7 hb8
         have hX9 := (hX7.upto hb8).upto (bbox (.cells #[.slice A8 k c8, .int .i64 r] 24))
         have hNx9 := (hNx7.below hb8 hNx7.lt).alloc (.cells #[.slice A8 k c8, .int .i64 r] 24)
         have hNz9 := Blk.new w8 24 #[.slice A8 k c8, .int .i64 r]
         have hx90 : (w8.alloc (.cells #[.slice A8 k c8, .int .i64 r] 24)).cell? ⟨w4.heap.size, 0, none⟩ = some (.slice X k cx) := (hNx9.cell 0).trans rfl
         have hx91 : (w8.alloc (.cells #[.slice A8 k c8, .int .i64 r] 24)).cell? ⟨w4.heap.size, 1, none⟩ = some (.int .i64 0) := (hNx9.cell 1).trans rfl
         have hbb9 := ballocs hbb8 (.cells #[.slice A8 k c8, .int .i64 r] 24)
         have hA9 := hA8.ints.upto (bbox (.cells #[.slice A8 k c8, .int .i64 r] 24))
         have hP9 := (hP7.belowAll hb8).alloc (.cells #[.slice A8 k c8, .int .i64 r] 24)
         have hQ9 := hQ8.alloc (.cells #[.slice A8 k c8, .int .i64 r] 24))
      | (go_at_call 27; (refine (draws_yes X k cx 0 r r 0 7 _ ds _ rfl (by omega) (by omega) hX9 (by omega) h17 HX.out (by omega)).mono ?_); rintro e w10 ⟨⟨A10, c10, L, lc, rfl, hA10, hL10⟩, hb10⟩
         have hbb10 := bnext hbb9 hb10
         have hX11 := (hX9.upto hb10).upto (bbox (.cells #[.slice A10 k c10, .int .i64 r] 24))
         have hNx11 := (hNx9.below hb10 hNx9.lt).alloc (.cells #[.slice A10 k c10, .int .i64 r] 24)
         have hNz11 := (hNz9.below hb10 hNz9.lt).alloc (.cells #[.slice A10 k c10, .int .i64 r] 24)
         have hNw11 := Blk.new w10 24 #[.slice A10 k c10, .int .i64 r]
         have hx110 : (w10.alloc (.cells #[.slice A10 k c10, .int .i64 r] 24)).cell? ⟨w4.heap.size, 0, none⟩ = some (.slice X k cx) := (hNx11.cell 0).trans rfl
         have hw0 : (w10.alloc (.cells #[.slice A10 k c10, .int .i64 r] 24)).cell? ⟨w10.heap.size, 0, none⟩ = some (.slice A10 k c10) := (hNw11.cell 0).trans rfl
         have hw1 : (w10.alloc (.cells #[.slice A10 k c10, .int .i64 r] 24)).cell? ⟨w10.heap.size, 1, none⟩ = some (.int .i64 r) := (hNw11.cell 1).trans rfl
         have hA11 := (hA9.upto hb10).upto (bbox (.cells #[.slice A10 k c10, .int .i64 r] 24))
         have hB11 := hA10.ints.upto (bbox (.cells #[.slice A10 k c10, .int .i64 r] 24))
         have hP11 := (hP9.belowAll hb10).alloc (.cells #[.slice A10 k c10, .int .i64 r] 24)
         have hQ11 := (hQ9.belowAll hb10).alloc (.cells #[.slice A10 k c10, .int .i64 r] 24)
         have hL11 := hL10.alloc (.cells #[.slice A10 k c10, .int .i64 r] 24)
         have hbb11 := ballocs hbb10 (.cells #[.slice A10 k c10, .int .i64 r] 24))
      | (go_at_call 20; refine (left_any A10 k c10 r _ (validT_iff.2 (by omega))).mono ?_; rintro e w12 ⟨rfl, hb12⟩
         rw [hle]
         have hbb12 := bnext hbb11 hb12
         have hcc12 := bnext (ballocs (bnext (ballocs (bnext (ballocs hb6 (.cells #[.slice A6 k c6, .int .i64 a] 24)) hb8) (.cells #[.slice A8 k c8, .int .i64 r] 24)) hb10) (.cells #[.slice A10 k c10, .int .i64 r] 24)) hb12
         have hNx12 := hNx11.below hb12 hNx11.lt
         have hNz12 := hNz11.below hb12 hNz11.lt
         have hNw12 := hNw11.below hb12 hNw11.lt
         have hA12 := hA11.upto hb12
         have hB12 := hB11.upto hb12
         have hP12 := hP11.belowAll hb12
         have hQ12 := hQ11.belowAll hb12
         have hL12 := hL11.belowAll hb12
         have hs0 : w12.cell? ⟨w8.heap.size, 0, none⟩ = some (.slice A8 k c8) := (hNz12.cell 0).trans rfl
         have hs1 : w12.cell? ⟨w8.heap.size, 1, none⟩ = some (.int .i64 r) := (hNz12.cell 1).trans rfl
         have hs2 : w12.cell? ⟨w10.heap.size, 0, none⟩ = some (.slice A10 k c10) := (hNw12.cell 0).trans rfl
         have hs3 : w12.cell? ⟨w10.heap.size, 1, none⟩ = some (.int .i64 r) := (hNw12.cell 1).trans rfl
         have hpb : ∀ g, (Value.slice P a pc).ownBlock = some g → g < w6.heap.size := fun g e => (World.ownsRow.lt hP6 g e).2
         have h68 : w6.heap.size < w8.heap.size := by have := hb8.size; simp at this; omega
         have h810 : w8.heap.size < w10.heap.size := by have := hb10.size; simp at this; omega
         have h1012 : w10.heap.size < w12.heap.size := by have := hb12.size; simp at this; omega
         clear hX7 hX9 hX11 hNx7 hNy7 hNx9 hNz9 hNx11 hNz11 hNw11 hA7 hA9 hA11 hB11 hP7 hP9 hP11 hQ9 hQ11 hL11 hy0 hy1 hx90 hx91 hx110 hw0 hw1 hbb6 hbb7 hbb8 hbb9 hbb10 hbb11 hx0 hx1)
      | (go_at_call 22; refine (tsame_any A8 A10 k k c8 c10 r r ds ds _ hA12 hB12 (by omega) (by omega)).mono ?_; rintro e w13 ⟨rfl, hb13⟩
         rw [HSM.out]
         have hP13 := hP12.belowAll hb13
         have hQ13 := hQ12.belowAll hb13
         have hL13 := hL12.belowAll hb13
         have hcc13 := bnext hcc12 hb13
         have hLP := own_apart hpb (fun g e => by have := hL13.row g e; simp at this; omega)
         have HCAT : Hid ((ds.drop 0).take a ++ (ds.drop a).take b = (ds.drop 0).take r) := Lib.hid (by rw [← hr]; simp [List.take_add])
         have HE2 : Hid (((ds.drop 0).take r == ds.take r) = true) := Lib.hid (beq_self_eq_true _)
         have HE1 : Hid (((ds.drop 0).take r == (ds.drop 0).take r) = true) := Lib.hid (beq_self_eq_true _)
         clear hcc12 hP12 hQ12 hL12 hA12 hB12)
      | (at_builtin
         refine wpList_append_ints_want rfl _ _ _ rfl (w4.alloc (.cells #[.slice X k cx, .int .i64 0] 24)).heap.size 3 i0 _ Try.underlying22 hi0 hz0 hz1 hz2 rfl P a pc _ rfl hP13 _ Q b qc _ rfl hQ13.ints r hr _ HCAT.out (by omega) hcc13.size ?_
         intro A14 c14 w14 hown14 hgr14 hbw14 _
         have hL14 := hL13.kept hgr14 hLP
         have hcc14 := hcc13.trans hbw14
         have hN14 := hN4.below hcc14 hN4.lt
         have hX14 := hX5.below hcc14
         have hbb14 := bnext hbb5 hcc14
         have hs4 : w14.cell? ⟨w4.heap.size, 0, none⟩ = some (.slice X k cx) := (hN14.cell 0).trans rfl)
      | (go_at_call 29; (with_reducible refine (ints_any A14 L r r c14 lc _ _ _ hown14.ints hL14.ints (by omega) (by omega)).mono ?_); rintro e w15 ⟨rfl, q15, rfl⟩
         rw [HE1.out])
      | (go_at_call 29; (refine (ints_any L X r r lc cx _ _ _ (hL14.ints.drewN q15) ((hX14.take_ r hcA).drewN q15) (by omega) (by omega)).mono ?_); rintro e w16 ⟨rfl, q16, rfl⟩
         rw [HE2.out]))
      go_ret
      exact ⟨rfl, below_drewN hbb14 _⟩
    by_cases hcB : a ≤ k
    · have hgt : (k : Int) < (r : Int) := by omega
      go_wp2_with (first
      | (go_at_call 27; (with_reducible refine (draws_yes X k cx 0 a a 0 7 a ds _ rfl rfl (by omega) hX5 (by omega) h17 HX.out (by omega)).mono ?_); rintro e w6 ⟨⟨A6, c6, P, pc, rfl, hA6, hP6⟩, hb6⟩
         have hbb6 := bnext hbb5 hb6
         have hX7 := (hX5.upto hb6).upto (bbox (.cells #[.slice A6 k c6, .int .i64 a] 24))
         have hNx7 := (hN4.below hb6 hN4.lt).alloc (.cells #[.slice A6 k c6, .int .i64 a] 24)
         have hNy7 := Blk.new w6 24 #[.slice A6 k c6, .int .i64 a]
         have hy0 : (w6.alloc (.cells #[.slice A6 k c6, .int .i64 a] 24)).cell? ⟨w6.heap.size, 0, none⟩ = some (.slice A6 k c6) := (hNy7.cell 0).trans rfl
         have hy1 : (w6.alloc (.cells #[.slice A6 k c6, .int .i64 a] 24)).cell? ⟨w6.heap.size, 1, none⟩ = some (.int .i64 a) := (hNy7.cell 1).trans rfl
         have hA7 := hA6.ints.upto (bbox (.cells #[.slice A6 k c6, .int .i64 a] 24))
         have hP7 := hP6.alloc (.cells #[.slice A6 k c6, .int .i64 a] 24)
         have hbb7 := ballocs hbb6 (.cells #[.slice A6 k c6, .int .i64 a] 24))
      | (go_at_call 27; (with_reducible refine (draws_short A6 k c6 a b a 7 b ds _ rfl rfl hA7 (by omega) h17 HX.out (by omega) (by omega) (by omega)).mono ?_); rintro e w8 ⟨rfl, hb8⟩
         have hbb8 := bnext hbb7 hb8
         have hX9 := (hX7.upto hb8).upto (bbox (.cells #[.slice none 0 0, .int .i64 0] 24))
         have hNx9 := (hNx7.below hb8 hNx7.lt).alloc (.cells #[.slice none 0 0, .int .i64 0] 24)
         have hNz9 := Blk.new w8 24 #[.slice none 0 0, .int .i64 0]
         have hx90 : (w8.alloc (.cells #[.slice none 0 0, .int .i64 0] 24)).cell? ⟨w4.heap.size, 0, none⟩ = some (.slice X k cx) := (hNx9.cell 0).trans rfl
         have hx91 : (w8.alloc (.cells #[.slice none 0 0, .int .i64 0] 24)).cell? ⟨w4.heap.size, 1, none⟩ = some (.int .i64 0) := (hNx9.cell 1).trans rfl
         have hbb9 := ballocs hbb8 (.cells #[.slice none 0 0, .int .i64 0] 24))
      | (go_at_call 27; (refine (draws_short X k cx 0 r 0 7 _ ds _ rfl (by omega) hX9 (by omega) h17 HX.out (by omega) (by omega) (by omega)).mono ?_); rintro e w10 ⟨rfl, hb10⟩
         have hbb10 := bnext hbb9 hb10
         have hNx11 := (hNx9.below hb10 hNx9.lt).alloc (.cells #[.slice none 0 0, .int .i64 0] 24)
         have hx110 : (w10.alloc (.cells #[.slice none 0 0, .int .i64 0] 24)).cell? ⟨w4.heap.size, 0, none⟩ = some (.slice X k cx) := (hNx11.cell 0).trans rfl
         have hbb11 := ballocs hbb10 (.cells #[.slice none 0 0, .int .i64 0] 24)))
      go_ret
      exact ⟨rfl, hbb11⟩
    by_cases hb0 : b = 0
    · have hb1 : b < 1 := by omega
      clear hb0
      have hgt : (k : Int) < (r : Int) := by omega
      go_wp2_with (first
      | (go_at_call 27; (with_reducible refine (draws_short X k cx 0 a 0 7 a ds _ rfl rfl hX5 (by omega) h17 HX.out (by omega) (by omega) (by omega)).mono ?_); rintro e w6 ⟨rfl, hb6⟩
         have hbb6 := bnext hbb5 hb6
         have hX7 := (hX5.upto hb6).upto (bbox (.cells #[.slice none 0 0, .int .i64 0] 24))
         have hNx7 := (hN4.below hb6 hN4.lt).alloc (.cells #[.slice none 0 0, .int .i64 0] 24)
         have hNy7 := Blk.new w6 24 #[.slice none 0 0, .int .i64 0]
         have hy0 : (w6.alloc (.cells #[.slice none 0 0, .int .i64 0] 24)).cell? ⟨w6.heap.size, 0, none⟩ = some (.slice none 0 0) := (hNy7.cell 0).trans rfl
         have hy1 : (w6.alloc (.cells #[.slice none 0 0, .int .i64 0] 24)).cell? ⟨w6.heap.size, 1, none⟩ = some (.int .i64 0) := (hNy7.cell 1).trans rfl
         have hbb7 := ballocs hbb6 (.cells #[.slice none 0 0, .int .i64 0] 24))
      | (go_at_call 27; (with_reducible refine (draws_yes none 0 0 0 b 0 0 7 b [] _ rfl rfl (by omega) Ints.nil_ (by omega) h17 (fun j hj => absurd hj (by omega)) (by omega)).mono ?_); rintro e w8 ⟨⟨A8, c8, Q, qc, rfl, hA8, hQ8⟩, hb8⟩
         have hbb8 := bnext hbb7 hb8
         have hX9 := (hX7.upto hb8).upto (bbox (.cells #[.slice A8 0 c8, .int .i64 0] 24))
         have hNx9 := (hNx7.below hb8 hNx7.lt).alloc (.cells #[.slice A8 0 c8, .int .i64 0] 24)
         have hNz9 := Blk.new w8 24 #[.slice A8 0 c8, .int .i64 0]
         have hx90 : (w8.alloc (.cells #[.slice A8 0 c8, .int .i64 0] 24)).cell? ⟨w4.heap.size, 0, none⟩ = some (.slice X k cx) := (hNx9.cell 0).trans rfl
         have hx91 : (w8.alloc (.cells #[.slice A8 0 c8, .int .i64 0] 24)).cell? ⟨w4.heap.size, 1, none⟩ = some (.int .i64 0) := (hNx9.cell 1).trans rfl
         have hbb9 := ballocs hbb8 (.cells #[.slice A8 0 c8, .int .i64 0] 24))
      | (go_at_call 27; (refine (draws_short X k cx 0 r 0 7 _ ds _ rfl (by omega) hX9 (by omega) h17 HX.out (by omega) (by omega) (by omega)).mono ?_); rintro e w10 ⟨rfl, hb10⟩
         have hbb10 := bnext hbb9 hb10
         have hNx11 := (hNx9.below hb10 hNx9.lt).alloc (.cells #[.slice none 0 0, .int .i64 0] 24)
         have hx110 : (w10.alloc (.cells #[.slice none 0 0, .int .i64 0] 24)).cell? ⟨w4.heap.size, 0, none⟩ = some (.slice X k cx) := (hNx11.cell 0).trans rfl
         have hbb11 := ballocs hbb10 (.cells #[.slice none 0 0, .int .i64 0] 24)))
      go_ret
      exact ⟨rfl, hbb11⟩
    · have hgt : (k : Int) < (r : Int) := by omega
      go_wp2_with (first
      | (go_at_call 27; (with_reducible refine (draws_short X k cx 0 a 0 7 a ds _ rfl rfl hX5 (by omega) h17 HX.out (by omega) (by omega) (by omega)).mono ?_); rintro e w6 ⟨rfl, hb6⟩
         have hbb6 := bnext hbb5 hb6
         have hX7 := (hX5.upto hb6).upto (bbox (.cells #[.slice none 0 0, .int .i64 0] 24))
         have hNx7 := (hN4.below hb6 hN4.lt).alloc (.cells #[.slice none 0 0, .int .i64 0] 24)
         have hNy7 := Blk.new w6 24 #[.slice none 0 0, .int .i64 0]
         have hy0 : (w6.alloc (.cells #[.slice none 0 0, .int .i64 0] 24)).cell? ⟨w6.heap.size, 0, none⟩ = some (.slice none 0 0) := (hNy7.cell 0).trans rfl
         have hy1 : (w6.alloc (.cells #[.slice none 0 0, .int .i64 0] 24)).cell? ⟨w6.heap.size, 1, none⟩ = some (.int .i64 0) := (hNy7.cell 1).trans rfl
         have hbb7 := ballocs hbb6 (.cells #[.slice none 0 0, .int .i64 0] 24))
      | (go_at_call 27; (with_reducible refine (draws_short none 0 0 0 b 0 7 b [] _ rfl rfl Ints.nil_ (by omega) h17 (fun j hj => absurd hj (by omega)) (by omega) (by omega) (by omega)).mono ?_); rintro e w8 ⟨rfl, hb8⟩
         have hbb8 := bnext hbb7 hb8
         have hX9 := (hX7.upto hb8).upto (bbox (.cells #[.slice none 0 0, .int .i64 0] 24))
         have hNx9 := (hNx7.below hb8 hNx7.lt).alloc (.cells #[.slice none 0 0, .int .i64 0] 24)
         have hNz9 := Blk.new w8 24 #[.slice none 0 0, .int .i64 0]
         have hx90 : (w8.alloc (.cells #[.slice none 0 0, .int .i64 0] 24)).cell? ⟨w4.heap.size, 0, none⟩ = some (.slice X k cx) := (hNx9.cell 0).trans rfl
         have hx91 : (w8.alloc (.cells #[.slice none 0 0, .int .i64 0] 24)).cell? ⟨w4.heap.size, 1, none⟩ = some (.int .i64 0) := (hNx9.cell 1).trans rfl
         have hbb9 := ballocs hbb8 (.cells #[.slice none 0 0, .int .i64 0] 24))
      | (go_at_call 27; (refine (draws_short X k cx 0 r 0 7 _ ds _ rfl (by omega) hX9 (by omega) h17 HX.out (by omega) (by omega) (by omega)).mono ?_); rintro e w10 ⟨rfl, hb10⟩
         have hbb10 := bnext hbb9 hb10
         have hNx11 := (hNx9.below hb10 hNx9.lt).alloc (.cells #[.slice none 0 0, .int .i64 0] 24)
         have hx110 : (w10.alloc (.cells #[.slice none 0 0, .int .i64 0] 24)).cell? ⟨w4.heap.size, 0, none⟩ = some (.slice X k cx) := (hNx11.cell 0).trans rfl
         have hbb11 := ballocs hbb10 (.cells #[.slice none 0 0, .int .i64 0] 24)))
      go_ret
      exact ⟨rfl, hbb11⟩
  · have hd : decide (n ≤ 500) = false := by simpa using hn
    go_enter Try.func4, Try.ntmps4
    go_wp2_with (first
      | (go_at_call 13; refine (sane02_any _).mono ?_; rintro e w1 ⟨rfl, hb1⟩)
      | (go_at_call 14; refine (few_any A n c _).mono ?_; rintro e w' ⟨rfl, rfl⟩))
    go_ret
    exact ⟨rfl, hb1⟩
end Go.Proofs.Ytpkieikiakikmaa
