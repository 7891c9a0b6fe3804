/-
  What the second form's Queries of parity hands back for any arguments. Conditions: the tape's list reads as its numbers.
-/
import Derived.Test.YtoblofilaegnaaaPQueAll
import Derived.Test.YtoblofilaegnaaaRComb
import Derived.Test.YtoblofilaegnaaaGTap
namespace Go.Proofs.Ytoblofilaegnaaa
open Go.RowKit
set_option linter.unusedVariables false

theorem chunkL_take (xs : List Int) (r N : Nat) : ∀ k, k * r ≤ N → chunkL (xs.take N) r k = chunkL xs r k
  | 0, _ => rfl
  | k + 1, h => by
    rw [Nat.add_mul, Nat.one_mul] at h
    rw [chunkL_succ, chunkL_succ, chunkL_take xs r N k (by omega)]
    congr 2
    rw [List.drop_take, List.take_take, Nat.min_eq_left (by omega)]
theorem Ints.subQ {w : World} {B : Nat} {A : Option Addr} {n cap : Nat} {xs : List Int} (h : Ints w B A n xs) (hcap : n ≤ cap) (l m : Nat) (hl : l + m ≤ n) : Ints w B (if cap = l then A else A.map (·.add (l * 1))) m ((xs.drop l).take m) := by
  refine ⟨by rw [List.length_take, List.length_drop, h.1]; omega, fun h0 => ?_⟩
  obtain ⟨b, off, e1, hb, hc⟩ := h.2 (by omega)
  subst e1
  rw [if_neg (by omega)]
  refine ⟨b, off + l, by simp [Addr.add], hb, fun j hj => ?_⟩
  rw [Nat.add_assoc, hc (l + j) (by omega), List.getD_eq_getElem?_getD, List.getD_eq_getElem?_getD, List.getElem?_take, if_pos hj, List.getElem?_drop]
theorem Ints.cellAt0 {w : World} {B g n : Nat} {xs : List Int} (h : Ints w B (some ⟨g, 0, none⟩) n xs) {q : Nat} (hq : q < n) : w.cell? ⟨g, q, none⟩ = some (.int .i64 (xs.getD q 0)) := by
  obtain ⟨b, o, e, _, hc⟩ := h.2 (by omega)
  injection e with e
  injection e with e1 e2 _
  subst e1
  subst e2
  have := hc q hq
  rwa [Nat.zero_add] at this
theorem OwnI.capI {w : World} {base n c : Nat} {e : TypeId} {A : Option Addr} {xs : List Int} (h : OwnI w base e A n c xs) : n ≤ c := by
  rcases h.2 with ⟨hv, hn⟩ | ⟨g, cap, cur, hv, _, _, hc, _⟩
  · injection hv; omega
  · injection hv with _ _ h3; omega

set_option maxRecDepth 100000 in
theorem rpque_size (p r S i : Int) (T : Option Addr) (n tc : Nat) (a : Int) (w : World) (h : sizeE p r S ≠ 0) :
    Calls Try.prog 80 #[.agg #[.int .i64 p], .int .i64 r, .int .i64 S, .int .i64 i, .agg #[.slice T n tc, .int .i64 a]] w (QueP ([], [], 0, sizeE p r S) w) := by
  have HLR : Hid (plimR p r S = ([], sizeE p r S)) := Lib.hid (by unfold plimR; rw [if_neg h])
  generalize sizeE p r S = E at *
  have hEb : (E != 0) = true := by simpa using h
  obtain ⟨wx, hwx, hszx, hbx, x0, x1, x2⟩ := blk3q w 24 62 62 #[.int .i64 p] #[.slice T n tc, .int .i64 a] #[.slice none 0 0, .int .i64 0]
  have hcx0 : wx.cell? ⟨w.heap.size, 0, none⟩ = some (.int .i64 p) := (x0.cell 0).trans rfl
  go_enter Try.func80, Try.ntmps80
  go_wp2_with (go_at_call 79; refine (rplimits_all p r S _).mono ?_; rw [HLR.out]; rintro e w1 ⟨⟨A5, n5, c5, rfl, hO5⟩, hb1⟩
               have hw1 := hbx.trans (hb1.mono hbx.size)
               have y2 := x2.below hb1 x2.lt
               have hx0 := (y2.cell 0).trans rfl
               have hx1 := (y2.cell 1).trans rfl
               have hz0' := y2.frozen 0
               have hz1' := y2.frozen 1
               clear hb1 hcx0)
  have hB' := blk_two2 (v0 := .slice none 0 0) (v1 := .int .i64 0) y2
  have hy0 := (hB'.cell 0).trans rfl
  have hy1 := (hB'.cell 1).trans rfl
  exact bodyPost_ret (v := .tuple #[.slice none 0 0, .agg #[.slice none 0 0, .int .i64 0], .int .i64 E]) (by simp [results, Try.results80, go_sem, hy0, hy1]) rfl (QueP.err (below_two2 hw1 (by omega) _ _))

set_option maxRecDepth 100000 in
theorem rpque_none (p r S i : Int) (T : Option Addr) (n tc : Nat) (a : Int) (w : World) (h : sizeE p r S = 0) (hi : i < 0 ∨ r ≤ i) :
    Calls Try.prog 80 #[.agg #[.int .i64 p], .int .i64 r, .int .i64 S, .int .i64 i, .agg #[.slice T n tc, .int .i64 a]] w (QueP ([], [], 0, 6) w) := by
  have HLR : Hid (plimR p r S = (List.replicate (r * (S - 1)).toNat p, 0)) := Lib.hid (by unfold plimR; rw [if_pos h])
  have HBD := Lib.hid (BD_index hi)
  clear h hi
  obtain ⟨wx, hwx, hszx, hbx, x0, x1, x2⟩ := blk3q w 24 62 62 #[.int .i64 p] #[.slice T n tc, .int .i64 a] #[.slice none 0 0, .int .i64 0]
  have hcx0 : wx.cell? ⟨w.heap.size, 0, none⟩ = some (.int .i64 p) := (x0.cell 0).trans rfl
  rcases HBD.out with h1 | ⟨h1, h2⟩
  all_goals
    go_enter Try.func80, Try.ntmps80
    go_wp2_with (go_at_call 79; refine (rplimits_all p r S _).mono ?_; rw [HLR.out]; rintro e w1 ⟨⟨A5, n5, c5, rfl, hO5⟩, hb1⟩
                 have hw1 := hbx.trans (hb1.mono hbx.size)
                 have y2 := x2.below hb1 x2.lt
                 have hx0 := (y2.cell 0).trans rfl
                 have hx1 := (y2.cell 1).trans rfl
                 have hz0' := y2.frozen 0
                 have hz1' := y2.frozen 1
                 clear hb1 hcx0)
    have hB' := blk_two2 (v0 := .slice none 0 0) (v1 := .int .i64 0) y2
    have hy0 := (hB'.cell 0).trans rfl
    have hy1 := (hB'.cell 1).trans rfl
    exact bodyPost_ret (v := .tuple #[.slice none 0 0, .agg #[.slice none 0 0, .int .i64 0], .int .i64 6]) (by simp [results, Try.results80, go_sem, hy0, hy1]) rfl (QueP.err (below_two2 hw1 (by omega) _ _))

set_option maxRecDepth 100000 in
theorem rpque_draw (p : Int) (r s1 N i n tc : Nat) (S a : Int) (T : Option Addr) (xs : List Int) (w : World) (hok : okP p = true) (hr : 1 ≤ r ∧ r ≤ 1024) (hs : 1 ≤ s1 ∧ s1 ≤ 9) (hS : S - 1 = s1) (hNN : r * s1 = N) (hN9 : N ≤ 9216) (hi : i < r) (hT : Ints w w.heap.size T n xs) (hE : drawsE xs n a p (N : Int) ≠ 0) :
    Calls Try.prog 80 #[.agg #[.int .i64 p], .int .i64 r, .int .i64 S, .int .i64 i, .agg #[.slice T n tc, .int .i64 a]] w (QueP ([], [], 0, drawsE xs n a p (N : Int)) w) := by
  have hp := okP_pos hok
  have HO := Lib.hid hok
  have hN : (r : Int) * (s1 : Int) = (N : Int) := by rw [← hNN]; simp
  have hRO := rplimits_yes p r s1 N S
  have HRO := Lib.hid fun w => hRO w hok hr hs hS hN hN9
  have h1 : ¬ (i : Int) < 0 := by omega
  have h2 : ¬ (r : Int) ≤ (i : Int) := by omega
  have h3 : decide (r ≤ i) = false := decide_eq_false (by omega)
  have h4 : ¬ r ≤ i := by omega
  clear hok hRO
  have hEb : (drawsE xs n a p (N : Int) != 0) = true := by simpa using hE
  have HEE := Lib.hid hE
  clear hE
  obtain ⟨wx, hwx, hszx, hbx, x0, x1, x2⟩ := blk3q w 24 62 62 #[.int .i64 p] #[.slice T n tc, .int .i64 a] #[.slice none 0 0, .int .i64 0]
  have hcx0 : wx.cell? ⟨w.heap.size, 0, none⟩ = some (.int .i64 p) := (x0.cell 0).trans rfl
  go_enter Try.func80, Try.ntmps80
  go_wp2_with (first
    | (go_at_call 79; refine (HRO.out _).mono ?_; rintro e w1 ⟨⟨A5, c5, rfl, hO5⟩, hb1⟩; have hw1 := hbx.trans (hb1.mono hbx.size); have y0 := x0.below hb1 x0.lt; have y1 := x1.below hb1 x1.lt; have y2 := x2.below hb1 x2.lt; have hsz1 := hb1.size; rw [hszx] at hsz1
       have hT1 : Ints w1 w1.heap.size T n xs := (hT.below hw1).more hw1.size
       have hk0 : w1.cell? ⟨w.heap.size, 0, none⟩ = some (.int .i64 p) := (y0.cell 0).trans rfl
       have hk1 : w1.cell? ⟨w.heap.size + 1, 0, none⟩ = some (.slice T n tc) := (y1.cell 0).trans rfl
       have hk2 : w1.cell? ⟨w.heap.size + 1, 1, none⟩ = some (.int .i64 a) := (y1.cell 1).trans rfl
       clear hb1 hcx0 hO5)
    | (go_at_call 116; refine (rdraws_any T n tc a p N xs _ hT1 (by omega)).mono ?_; rintro e w4 ⟨hno, _, hb4⟩
       have he := hno HEE.out
       subst he
       have q1 := y1.below hb4 y1.lt
       have q2 := (((y2.below hb4 y2.lt).far (p := ⟨w.heap.size + 1, 0, none⟩) (by show w.heap.size + 1 + 1 ≠ w.heap.size + 1; omega) (.slice none 0 0)).far (p := ⟨w.heap.size + 1, 1, none⟩) (by show w.heap.size + 1 + 1 ≠ w.heap.size + 1; omega) (.int .i64 0))
       have hv0 := (q1.cell 0).trans rfl
       have hv1 := (q1.cell 1).trans rfl
       have hv2 := q1.frozen 0
       have hv3 := q1.frozen 1
       have hx0 := (q2.cell 0).trans rfl
       have hx1 := (q2.cell 1).trans rfl
       have hz0' := q2.frozen 0
       have hz1' := q2.frozen 1
       have hbE := below_two2 (bnext hw1 hb4) (g := w.heap.size + 1) (by omega) (.slice none 0 0) (.int .i64 0)
       clear hno))
  have hB' := blk_two2 (v0 := .slice none 0 0) (v1 := .int .i64 0) q2
  have hy0 := (hB'.cell 0).trans rfl
  have hy1 := (hB'.cell 1).trans rfl
  exact bodyPost_ret (v := .tuple #[.slice none 0 0, .agg #[.slice none 0 0, .int .i64 0], .int .i64 (drawsE xs n a p (N : Int))]) (by simp [results, Try.results80, go_sem, hy0, hy1]) rfl (QueP.err (below_two2 hbE (by omega) _ _))

set_option maxRecDepth 100000 in
set_option maxHeartbeats 8000000 in
theorem rpque_yes (p : Int) (r s1 N i n tc : Nat) (S a : Int) (T : Option Addr) (xs : List Int) (w : World) (hok : okP p = true) (hr : 1 ≤ r ∧ r ≤ 1024) (hs : 1 ≤ s1 ∧ s1 ≤ 9) (hS : S - 1 = s1) (hNN : r * s1 = N) (hN9 : N ≤ 9216) (hi : i < r) (hT : Ints w w.heap.size T n xs) (hE : drawsE xs n a p (N : Int) = 0) :
    Calls Try.prog 80 #[.agg #[.int .i64 p], .int .i64 r, .int .i64 S, .int .i64 i, .agg #[.slice T n tc, .int .i64 a]] w (QueP (quesL p r s1 i (xs.drop a.toNat), xs, a + (N : Int), 0) w) := by
  obtain ⟨i0, hi0, hz0, hz1, hz2⟩ := info_parts info_int
  obtain ⟨j0, hj0, hw0, hw1', hw2'⟩ := info_parts info_rowD
  have hp := okP_pos hok
  have HO := Lib.hid hok
  have hN : (r : Int) * (s1 : Int) = (N : Int) := by rw [← hNN]; simp
  have hRO := rplimits_yes p r s1 N S
  have HRO := Lib.hid fun w => hRO w hok hr hs hS hN hN9
  have h1 : ¬ (i : Int) < 0 := by omega
  have h2 : ¬ (r : Int) ≤ (i : Int) := by omega
  have h3 : decide (r ≤ i) = false := decide_eq_false (by omega)
  have h4 : ¬ r ≤ i := by omega
  clear hok hRO
  have HEE := Lib.hid hE
  have HIN := Lib.hid (drawsE_in hT.len hE)
  have HSN : Hid (s1 * r = N) := Lib.hid (by rw [← hNN, Nat.mul_comm])
  clear hE hNN
  obtain ⟨wx, hwx, hszx, hbx, x0, x1, x2⟩ := blk3q w 24 62 62 #[.int .i64 p] #[.slice T n tc, .int .i64 a] #[.slice none 0 0, .int .i64 0]
  have hcx0 : wx.cell? ⟨w.heap.size, 0, none⟩ = some (.int .i64 p) := (x0.cell 0).trans rfl
  go_enter Try.func80, Try.ntmps80
  go_upto_region 9 with (first
    | (go_at_call 79; refine (HRO.out _).mono ?_; rintro e w1 ⟨⟨A5, c5, rfl, hO5⟩, hb1⟩; have hw1 := hbx.trans (hb1.mono hbx.size); have y0 := x0.below hb1 x0.lt; have y1 := x1.below hb1 x1.lt; have y2 := x2.below hb1 x2.lt; have hsz1 := hb1.size; rw [hszx] at hsz1
       have hT1 : Ints w1 w1.heap.size T n xs := (hT.below hw1).more hw1.size
       have hk0 : w1.cell? ⟨w.heap.size, 0, none⟩ = some (.int .i64 p) := (y0.cell 0).trans rfl
       have hk1 : w1.cell? ⟨w.heap.size + 1, 0, none⟩ = some (.slice T n tc) := (y1.cell 0).trans rfl
       have hk2 : w1.cell? ⟨w.heap.size + 1, 1, none⟩ = some (.int .i64 a) := (y1.cell 1).trans rfl
       clear hb1 hcx0 hO5)
    | (go_at_call 116; refine (rdraws_any T n tc a p N xs _ hT1 (by omega)).mono ?_; rintro e w4 ⟨_, hyes, hb4⟩
       obtain ⟨T4, tc4, D, dc, he, hoT4, hoD4⟩ := hyes HEE.out
       rw [Int.toNat_natCast] at hoD4 he
       subst he
       have q0 := y0.below hb4 y0.lt
       have q1 := y1.below hb4 y1.lt
       have q2 := y2.below hb4 y2.lt
       have hv0 := (q1.cell 0).trans rfl
       have hv1 := (q1.cell 1).trans rfl
       have hv2 := q1.frozen 0
       have hv3 := q1.frozen 1
       have hle4 := hb4.size
       have hbb4 := bnext hw1 hb4
       clear hyes hb4))
  have hS5 : Step (w.heap.size + 1) w4 ((w4.setCell ⟨w.heap.size + 1, 0, none⟩ (.slice T4 n tc4)).setCell ⟨w.heap.size + 1, 1, none⟩ (.int .i64 (a + (N : Int)))) := ((Step.refl (w.heap.size + 1) w4).set 0 _).set 1 _
  have hb5 := below_two2 hbb4 (g := w.heap.size + 1) (by omega) (.slice T4 n tc4) (.int .i64 (a + (N : Int)))
  have d0 := Step.block hS5 q0 (by omega)
  have d2 := Step.block hS5 q2 (by omega)
  have d1 := (q1.set_ 0 (.slice T4 n tc4)).set_ 1 (.int .i64 (a + (N : Int)))
  have hoT5 := hoT4.step hS5 (by omega)
  have hoD5 := hoD4.step hS5 (by omega)
  have hsz5 := World.grownBy.size hS5
  obtain ⟨W5, hW5⟩ : ∃ W5, (w4.setCell ⟨w.heap.size + 1, 0, none⟩ (.slice T4 n tc4)).setCell ⟨w.heap.size + 1, 1, none⟩ (.int .i64 (a + (N : Int))) = W5 := ⟨_, rfl⟩
  rw [hW5] at hb5 d0 d1 d2 hoT5 hoD5 hsz5
  rw [hW5]
  clear hW5 hS5 q0 q1 q2 hv0 hv1 hv2 hv3 hoT4 hoD4 hbb4 y0 y1 y2 hk0 hk1 hk2 hw1 x0 x1 x2 hwx hszx hbx hT1
  have hsW5 : w.heap.size + 3 ≤ W5.heap.size := by omega
  go_upto_region 11 with (
    at_make
    refine wpList_make_full _ rfl _ _ 22 rfl W5.heap.size 3 i0 (.int .i64 0) 1 Try.underlying22 hi0 hz0 hz1 .i64 .i64 r r r rfl rfl rfl rfl (by rw [hz2]; omega) (by unfold maxLen; omega) (Nat.le_refl _) ?_
    intro w6 hown hgr
    have hown6 : OwnI w6 W5.heap.size 3 (some ⟨W5.heap.size, 0, none⟩) r r (List.replicate r 0) := by rw [made_zeros] at hown; exact hown
    have hb56 : Below W5.heap.size W5 w6 := (Below.refl _ _).grown hgr (Nat.le_refl _) (fun k hk => by cases hk)
    have hi00 : (0 : Int) ≤ (i : Int) := by omega
    have hir : (i : Int) < (r : Int) := by omega
    have hst6 := hown6.stored i 1
    have hcl6 := hown6.cellAt hi
    have hfz6 := hown6.frozenAt i
    clear hown hgr)
  have hS7 : Step W5.heap.size w6 (w6.setCell ⟨W5.heap.size, i, none⟩ (.int .i64 1)) := (Step.refl W5.heap.size w6).set i _
  have hg6 : W5.heap.size < w6.heap.size := (World.ownsRow.lt hown6 _ rfl).2
  have hb7 : Below W5.heap.size W5 (w6.setCell ⟨W5.heap.size, i, none⟩ (.int .i64 1)) := hb56.setCell (p := ⟨W5.heap.size, i, none⟩) (Nat.le_refl _) _
  have hsz7 := World.grownBy.size hS7
  have hownL : OwnI (w6.setCell ⟨W5.heap.size, i, none⟩ (.int .i64 1)) W5.heap.size 3 (some ⟨W5.heap.size, 0, none⟩) r r (spikeL r i 1) := hst6
  obtain ⟨W7, hW7⟩ : ∃ W7, w6.setCell ⟨W5.heap.size, i, none⟩ (.int .i64 1) = W7 := ⟨_, rfl⟩
  rw [hW7] at hS7 hb7 hsz7 hownL
  rw [hW7]
  clear hW7 hS7 hst6 hcl6 hfz6 hown6 hb56
  have e0 := d0.below hb7 d0.lt
  have e1 := d1.below hb7 d1.lt
  have e2 := d2.below hb7 d2.lt
  have hT7 := hoT5.ints.upto hb7
  have hD7 : Ints W7 W5.heap.size D N ((xs.drop a.toNat).take N) := hoD5.ints.below hb7
  have hDcap := hoD5.capI
  have HTB : Hid (0 < n → ∀ b off s, T4 = some ⟨b, off, s⟩ → w1.heap.size ≤ b ∧ b < W5.heap.size) := Lib.hid fun h0 b off s e => by
    have k1 := hoT5.row b (by rw [e]; rfl)
    have k2 := hoT5.ints
    rw [e] at k2
    exact ⟨k1, k2.lt h0⟩
  have hbW7 := hb5.trans (hb7.mono hb5.size)
  have hTT : Ints W7 W5.heap.size T4 n xs := hoT5.ints.below hb7
  generalize hLL : (xs.drop a.toNat).take N = L at *
  have HLL : Hid (∀ k, k ≤ s1 → chunkL L r k = chunkL (xs.drop a.toNat) r k) := Lib.hid fun k hk => by
    rw [← hLL]
    exact chunkL_take _ _ _ _ (by rw [← HSN.out]; exact Nat.mul_le_mul_right r hk)
  have HLA : Hid (∀ k, k ≤ s1 → ∀ q ∈ chunkL L r k, allP p q = true ∧ q.length = r) := Lib.hid fun k hk => by
    rw [HLL.out k hk]
    have h9 := HIN.out
    have h8 := Nat.mul_le_mul_right r hk
    rw [HSN.out] at h8
    exact chunkL_ok (by rw [List.length_drop, hT.len]; omega) (fun j hj => h9.2 j (by omega))
  clear hoT5 hoD5 d0 d1 d2 hb5 hT7 hLL
  have hg7 : W5.heap.size < W7.heap.size := by omega
  have hw15 : w.heap.size + 3 ≤ w1.heap.size := hsz1
  have hw75 := hb7.size
  clear hsz7 hb7 hg6 hsz1 hle4 hsz5
  generalize W5.heap.size = g at *
  go_wp2_with fail
  go_loopw [18, 19] (fun v18 v19 wr => ∃ (k : Nat) (A' : Option Addr) (c' : Nat), k ≤ s1 ∧ v19 = .int .i64 k ∧ v18 = .slice A' k c' ∧ OwnI wr g 3 (some ⟨g, 0, none⟩) r r (lessF p (spikeL r i 1) (chunkL L r k)) ∧ OwnM wr (g + 1) (g + 1) 22 A' k c' (chunkL L r k) ∧ Below g W7 wr) (fun _ v19 _ => s1 - (intOf v19).toNat)
  case atStart => exact ⟨0, none, 0, Nat.zero_le _, rfl, rfl, hownL, OwnM.nil_, Below.refl _ _⟩
  case round =>
    obtain ⟨k, A', c', hk, rfl, rfl, hownr, hownm, hbr⟩ := hrel
    have f0 := e0.below hbr (by omega)
    have hpr : wr.cell? ⟨w.heap.size, 0, none⟩ = some (.int .i64 p) := (f0.cell 0).trans rfl
    by_cases hlt : k < s1
    · have hrle := Nat.mul_le_mul_right r (show k + 1 ≤ s1 from hlt)
      rw [HSN.out, Nat.add_mul, Nat.one_mul] at hrle
      have HCS : Hid (chunkL L r (k + 1) = chunkL L r k ++ [(L.drop (k * r)).take r]) := Lib.hid (chunkL_succ _ _ _)
      have HRA : Hid (allP p ((L.drop (k * r)).take r) = true) := Lib.hid (HLA.out (k + 1) hlt _ (by rw [chunkL_succ]; simp)).1
      obtain ⟨l, hl⟩ : ∃ l, k * r = l := ⟨_, rfl⟩
      rw [hl] at hrle HCS HRA
      have hw1 : (k : Int) * (r : Int) = (l : Int) := by rw [← hl]; simp
      have hw2 : ((k : Int) + 1) * (r : Int) = ((l + r : Nat) : Int) := by rw [← hl, Int.add_mul]; simp
      have hgw : g ≤ wr.heap.size := by (have := hbr.size); omega
      have HI := Lib.hid (((hD7.below hbr).more hgw).subQ hDcap l r hrle)
      obtain ⟨rw0, hrw0⟩ : ∃ z, (L.drop l).take r = z := ⟨_, rfl⟩
      rw [hrw0] at HCS HRA HI
      have h1 : (k : Int) < (s1 : Int) := by omega
      have h0 : (0 : Int) ≤ (k : Int) := by omega
      obtain ⟨e, he⟩ : ∃ e, l + r = e := ⟨_, rfl⟩
      have hem : e - l = r := by omega
      rw [he] at hw2 hrle
      obtain ⟨A4, hA4, HI4⟩ : ∃ A4 : Option Addr, Option.map (fun x => x.add l) D = A4 ∧ Hid (Ints wr wr.heap.size A4 r rw0) := by
        refine ⟨_, rfl, ?_⟩
        have := HI
        rwa [Nat.mul_one, if_neg (show ¬ dc = l by omega)] at this
      have s1' : (0 : Int) ≤ (l : Int) := by omega
      have s2 : (l : Int) ≤ (e : Int) := by omega
      have s3 : (e : Int) ≤ (dc : Int) := by omega
      have s4 : IntKind.i64.wrap (l : Int) = (l : Int) := IntWalk.i64_in _ (by omega)
      have s5 : IntKind.i64.wrap (e : Int) = (e : Int) := IntWalk.i64_in _ (by omega)
      have s6 : IntKind.i64.wrap ((k : Int) + 1) = (k : Int) + 1 := IntWalk.i64_in _ (by omega)
      have HTA : Hid (allP p (lessF p (spikeL r i 1) (chunkL L r k)) = true) := Lib.hid (lessF_all hp.1 _ _ (spikeL_all hp.1 r i))
      have HT : Hid (lessF p (spikeL r i 1) (chunkL L r (k + 1)) = zipI (lessP p) (lessF p (spikeL r i 1) (chunkL L r k)) rw0) := Lib.hid (by rw [HCS.out, lessF_snoc])
      have HOL := Lib.hid hownr.len
      have HOB : Hid (∀ b, (Value.slice A' k c').ownBlock = some b → b < wr.heap.size) := Lib.hid fun b hb => (hownm.row b hb).2
      generalize lessF p (spikeL r i 1) (chunkL L r k) = ts at *
      clear hrw0 hl he HI
      go_wp2_with (
        at_builtin
        refine wpList_append_ints rfl _ _ _ rfl wr.heap.size 3 i0 _ Try.underlying22 hi0 hz0 hz1 hz2 rfl none 0 0 [] rfl OwnI.nil_ _ A4 r _ rw0 rfl HI4.out r (by omega) rw0 rfl (by omega) (Nat.le_refl _) ?_
        intro Q5 c5 w5 hownQ hgr5 hb5 hab5)
      obtain ⟨gq, rfl, hgq1, hgq2⟩ := hownQ.form (by omega)
      have hown5 := hownr.belowAll hb5
      have hownm5 := hownm.belowAll hb5
      have hbr5 := hbr.trans (hb5.mono hgw)
      have f5 := f0.below hb5 f0.lt
      have hQI : Ints w5 w5.heap.size (some ⟨gq, 0, none⟩) r rw0 := hownQ.ints
      have HRL := Lib.hid hQI.len
      have hgwr : g < wr.heap.size := (World.ownsRow.lt hownr g rfl).2
      clear hownr hownm hbr f0 hpr hownQ hgr5 hab5 HI4
      go_wp2_with fail
      go_loopw [81] (fun i wy => ∃ q : Nat, q ≤ r ∧ i = .int .i64 q ∧ OwnI wy g 3 (some ⟨g, 0, none⟩) r r (partly (lessP p) ts rw0 q) ∧ Step g w5 wy) (fun i _ => r - (intOf i).toNat)
      case atStart => exact ⟨0, Nat.zero_le _, rfl, by rw [partly_zero]; exact hown5, Step.refl _ _⟩
      case round =>
        obtain ⟨q, hq, rfl, howny, hS⟩ := hrel
        by_cases hlt3 : q < r
        · have hry : wr.cell? ⟨gq, q, none⟩ = some (.int .i64 (rw0.getD q 0)) := (World.cell?_of_block (World.grownBy.block hS gq (by omega) (fun e => by injection e; omega))).trans ((hQI.cellAt0 hlt3))
          have hrp : wr.cell? ⟨w.heap.size, 0, none⟩ = some (.int .i64 p) := (World.cell?_of_block (World.grownBy.block hS w.heap.size (by omega) (fun e => by injection e; omega))).trans ((f5.cell 0).trans rfl)
          have hrt := howny.cellAt hlt3
          rw [partly_at _ ts rw0 (by rw [HRL.out, HOL.out]) q (by rw [HOL.out]; exact hlt3)] at hrt
          have hfz := howny.frozenAt q
          have hst := howny.stored q (lessP p (ts.getD q 0) (rw0.getD q 0))
          rw [partly_set _ ts rw0 (by rw [HRL.out, HOL.out]) q (by rw [HOL.out]; exact hlt3)] at hst
          have hS2 := hS.set q (.int .i64 (lessP p (ts.getD q 0) (rw0.getD q 0)))
          have htk := allP_getD HTA.out (k := q) (by rw [HOL.out]; exact hlt3)
          have hyk := allP_getD HRA.out (k := q) (by rw [HRL.out]; exact hlt3)
          generalize ts.getD q 0 = t at *
          generalize rw0.getD q 0 = y at *
          have hq0 : (0 : Int) ≤ (q : Int) := by omega
          have hq1 : (q : Int) < (r : Int) := by omega
          have hww1 : IntKind.i64.wrap (t + p) = t + p := IntWalk.i64_in _ (by omega)
          have hww2 : IntKind.i64.wrap (t + p - y) = t + p - y := IntWalk.i64_in _ (by omega)
          have hp0 : ¬ p = 0 := by omega
          have hv : lessP p t y = (t + p - y) % p := rfl
          rw [hv] at hst hS2
          have HS := Lib.hid hst
          have HS2 := Lib.hid hS2
          clear hst hS2 hv
          go_wp2_with fail
          go_region
          all_goals go_wp2
          all_goals go_roundw
          case rel => exact ⟨q + 1, by omega, by go_num, HS.out.drew, HS2.out.drew⟩
          case measure => simp [intOf]; omega
        · obtain rfl : q = r := by omega
          have HE : Hid (partly (lessP p) ts rw0 q = zipI (lessP p) ts rw0) := Lib.hid (by have := partly_all (lessP p) ts rw0 (by rw [HRL.out, HOL.out]); rwa [HOL.out] at this)
          rw [HE.out, ← HT.out] at howny
          have hbry := Step.below hbr5 hS (by have := hbr5.size; omega) (Nat.le_refl _)
          have hownm6 := hownm5.step hS (by omega) (by omega)
          have hsy := World.grownBy.size hS
          have hQy : Ints wr wr.heap.size (some ⟨gq, 0, none⟩) q rw0 := hQI.keepBlk hsy (fun h0 b off s e hb => World.grownBy.block hS b hb (fun e2 => by injection e with e; injection e with e; injection e2 with e2; omega))
          have hbya : Below wr.heap.size wr (wr.alloc (.cells #[.slice (some ⟨gq, 0, none⟩) q c5] 22)) := bbox _
          have hownm7 := hownm6.belowAll hbya
          have howny7 := howny.belowAll hbya
          have hQ7 := hQy.upto hbya
          have hcl : (wr.alloc (.cells #[.slice (some ⟨gq, 0, none⟩) q c5] 22)).cell? ⟨wr.heap.size, 0, none⟩ = some (.slice (some ⟨gq, 0, none⟩) q c5) := by rw [World.cell?_alloc_at _ _ _ _ rfl]; rfl
          have hby7 := hbry.trans (hbya.mono (by omega))
          have HLO : Hid (Lo (g + 1) (some ⟨gq, 0, none⟩) q) := Lib.hid fun h0 b off s e => by injection e with e; injection e with e; omega
          have HAP : Hid (0 < q → ∀ b off s, (some ⟨gq, 0, none⟩ : Option Addr) = some ⟨b, off, s⟩ → (Value.slice A' k c').ownBlock ≠ some b) := Lib.hid fun h0 b off s e e2 => by
            have h2 := HOB.out b e2
            injection e with e
            injection e with e
            omega
          clear hS hownm6 hbya howny hQy hbry
          go_wp2_with (
            at_builtin
            refine wpList_append_row rfl _ _ 25 rfl (g + 1) (g + 1) 22 j0 _ Try.underlying25 hj0 hw0 hw1' hw2' rfl A' k c' (chunkL L q k) rfl hownm7 wr.heap.size 1 (some ⟨gq, 0, none⟩) q c5 rw0 rfl hcl (by simp) (by omega) hQ7 HLO.out HAP.out (k + 1) rfl (by omega) (by simp; omega) ?_
            intro A2 c2 w8 hown8 hgr8 hb8)
          rw [← HCS.out] at hown8
          have howny8 := howny7.below hb8 (fun k hk => by cases hk; exact Nat.lt_succ_self g)
          have hbr8 := hby7.trans (hb8.mono (by omega))
          go_roundw
          case rel => exact ⟨k + 1, A2, c2, by omega, by go_num, rfl, howny8, hown8, hbr8⟩
          case measure => simp [intOf]; omega
    · obtain rfl : k = s1 := by omega
      have HQL : Hid (quesL p r k i (xs.drop a.toNat) = chunkL L r k ++ [lessF p (spikeL r i 1) (chunkL L r k)]) := Lib.hid (by
        unfold quesL
        rw [← HLL.out k (Nat.le_refl _), lessF_last hp.1 (fun q hq => (HLA.out k (Nat.le_refl _) q hq).2)])
      have f1 := e1.below hbr (by omega)
      have f2 := e2.below hbr (by omega)
      have hgwr : g < wr.heap.size := (World.ownsRow.lt hownr g rfl).2
      have hownX : OwnM wr.drew g g 22 A' k c' (chunkL L r k) := hownm.weaken (base' := g) (lo' := g) (by omega) (by omega)
      have hbXa : Below wr.drew.heap.size wr.drew (wr.drew.alloc (.cells #[.slice (some ⟨g, 0, none⟩) r r] 22)) := bbox _
      have hownA := hownX.belowAll hbXa
      have hcD : (wr.drew.alloc (.cells #[.slice (some ⟨g, 0, none⟩) r r] 22)).cell? ⟨wr.heap.size, 0, none⟩ = some (.slice (some ⟨g, 0, none⟩) r r) := ((Blk.new wr.drew 22 #[.slice (some ⟨g, 0, none⟩) r r]).cell 0).trans rfl
      have hIDa : Ints (wr.drew.alloc (.cells #[.slice (some ⟨g, 0, none⟩) r r] 22)) (wr.drew.alloc (.cells #[.slice (some ⟨g, 0, none⟩) r r] 22)).heap.size (some ⟨g, 0, none⟩) r (lessF p (spikeL r i 1) (chunkL L r k)) := (show Ints wr.drew wr.drew.heap.size (some ⟨g, 0, none⟩) r (lessF p (spikeL r i 1) (chunkL L r k)) from hownr.ints).upto hbXa
      have HLO : Hid (Lo g (some ⟨g, 0, none⟩) r) := Lib.hid fun h0 b off s e => by injection e with e; injection e with e; omega
      have HAP : Hid (0 < r → ∀ b off s, (some ⟨g, 0, none⟩ : Option Addr) = some ⟨b, off, s⟩ → (Value.slice A' k c').ownBlock ≠ some b) := Lib.hid fun h0 b off s e e2 => by
        have h2 := (hownm.row b e2).1
        injection e with e
        injection e with e
        omega
      have hsX : wr.drew.cell? ⟨w.heap.size + 1, 0, none⟩ = some (.slice T4 n tc4) ∧ wr.drew.cell? ⟨w.heap.size + 1, 1, none⟩ = some (.int .i64 (a + (N : Int))) := ⟨(f1.cell 0).trans rfl, (f1.cell 1).trans rfl⟩
      have n1a := (Blk.drew f1).alloc (.cells #[.slice (some ⟨g, 0, none⟩) r r] 22)
      have hsXa : (wr.drew.alloc (.cells #[.slice (some ⟨g, 0, none⟩) r r] 22)).cell? ⟨w.heap.size + 1, 0, none⟩ = some (.slice T4 n tc4) ∧ (wr.drew.alloc (.cells #[.slice (some ⟨g, 0, none⟩) r r] 22)).cell? ⟨w.heap.size + 1, 1, none⟩ = some (.int .i64 (a + (N : Int))) := ⟨(n1a.cell 0).trans rfl, (n1a.cell 1).trans rfl⟩
      have hTr : Ints wr g T4 n xs := hTT.below hbr
      clear hpr
      go_upto_region 22 with fail
      go_region_held3 (fun w' => w'.cell? ⟨w.heap.size + 1, 0, none⟩ = some (.slice T4 n tc4) ∧ w'.cell? ⟨w.heap.size + 1, 1, none⟩ = some (.int .i64 (a + (N : Int)))) (first | exact hsX | exact hsXa | exact hs5 | exact hs6)
        (first
          | ((refine step_append_row (w := (wr.drew.alloc (.cells #[.slice (some ⟨g, 0, none⟩) r r] 22))) rfl (.tmp 106) (.tmp 108) 25 rfl g g 22 j0 _ Try.underlying25 hj0 hw0 hw1' hw2' rfl A' k c' (chunkL L r k) (by simp [Act.eval]) hownA wr.heap.size 1 (some ⟨g, 0, none⟩) r r (lessF p (spikeL r i 1) (chunkL L r k)) (by simp [Act.eval]) hcD (by simp) (by omega) hIDa HLO.out HAP.out (by omega) (by simp; omega) ?_); intro B5 b5 w8 hown8 hgr8 hb8
             have hb8X : Below g wr.drew w8 := (hbXa.mono (by show _ ≤ wr.heap.size; omega)).trans hb8
             have g1 : Blk w8 (w.heap.size + 1) 62 #[.slice T4 n tc4, .int .i64 (a + (N : Int))] := (Blk.drew f1).below hb8X (by omega)
             have g2 : Blk w8 (w.heap.size + 1 + 1) 62 #[.slice none 0 0, .int .i64 0] := (Blk.drew f2).below hb8X (by omega)
             have hs5 : w8.cell? ⟨w.heap.size + 1, 0, none⟩ = some (.slice T4 n tc4) ∧ w8.cell? ⟨w.heap.size + 1, 1, none⟩ = some (.int .i64 (a + (N : Int))) := ⟨(g1.cell 0).trans rfl, (g1.cell 1).trans rfl⟩
             have hc1 : w8.cell? ⟨w.heap.size + 1 + 1, 0, none⟩ = some (.slice none 0 0) := (g2.cell 0).trans rfl
             have hc2 : w8.cell? ⟨w.heap.size + 1 + 1, 1, none⟩ = some (.int .i64 0) := (g2.cell 1).trans rfl
             have hf1 := g2.frozen 0
             have hf2 := g2.frozen 1
             have f1' := (g1.far (p := ⟨w.heap.size + 1 + 1, 0, none⟩) (by show w.heap.size + 1 ≠ w.heap.size + 1 + 1; omega) (.slice T4 n tc4)).far (p := ⟨w.heap.size + 1 + 1, 1, none⟩) (by show w.heap.size + 1 ≠ w.heap.size + 1 + 1; omega) (.int .i64 (a + (N : Int)))
             have hs6 : ((w8.setCell ⟨w.heap.size + 1 + 1, 0, none⟩ (.slice T4 n tc4)).setCell ⟨w.heap.size + 1 + 1, 1, none⟩ (.int .i64 (a + (N : Int)))).cell? ⟨w.heap.size + 1, 0, none⟩ = some (.slice T4 n tc4) ∧ ((w8.setCell ⟨w.heap.size + 1 + 1, 0, none⟩ (.slice T4 n tc4)).setCell ⟨w.heap.size + 1 + 1, 1, none⟩ (.int .i64 (a + (N : Int)))).cell? ⟨w.heap.size + 1, 1, none⟩ = some (.int .i64 (a + (N : Int))) := ⟨(f1'.cell 0).trans rfl, (f1'.cell 1).trans rfl⟩))
      all_goals go_wp2
      all_goals
        have hT9 : Ints ((w8.setCell ⟨w.heap.size + 1 + 1, 0, none⟩ (.slice T4 n tc4)).setCell ⟨w.heap.size + 1 + 1, 1, none⟩ (.int .i64 (a + (N : Int)))) ((w8.setCell ⟨w.heap.size + 1 + 1, 0, none⟩ (.slice T4 n tc4)).setCell ⟨w.heap.size + 1 + 1, 1, none⟩ (.int .i64 (a + (N : Int)))).heap.size T4 n xs := by
          have hTa : Ints wr.drew g T4 n xs := hTr
          have hTb := (hTa.below hb8X).more (B' := w8.heap.size) (by have h9 : wr.heap.size ≤ w8.heap.size := hb8X.size; omega)
          exact hTb.keepBlk (by simp [World.setCell]) (fun h0 b off s e hb => by
            have h9 := HTB.out h0 b off s e
            exact (Below.heap_setCell _ _ _ b (by show b ≠ w.heap.size + 1 + 1; omega)).trans (Below.heap_setCell _ _ _ b (by show b ≠ w.heap.size + 1 + 1; omega)))
        have hS9 : Step (w.heap.size + 1 + 1) w8 ((w8.setCell ⟨w.heap.size + 1 + 1, 0, none⟩ (.slice T4 n tc4)).setCell ⟨w.heap.size + 1 + 1, 1, none⟩ (.int .i64 (a + (N : Int)))) := ((Step.refl (w.heap.size + 1 + 1) w8).set 0 _).set 1 _
        have hown9 := (hown8.step hS9 (by omega) (by omega)).weaken (base' := w.heap.size) (lo' := w.heap.size) (by omega) (by omega)
        have hR9 := blk_two2 (v0 := .slice T4 n tc4) (v1 := .int .i64 (a + (N : Int))) g2
        have hy0 := (hR9.cell 0).trans rfl
        have hy1 := (hR9.cell 1).trans rfl
        have hbE := below_two2 ((hbW7.trans (hbr.mono (by omega))).drew.trans (hb8X.mono (by omega))) (g := w.heap.size + 1 + 1) (by omega) (.slice T4 n tc4) (.int .i64 (a + (N : Int)))
        rw [← HQL.out] at hown9
        exact bodyPost_ret (v := .tuple #[.slice B5 (k + 1) b5, .agg #[.slice T4 n tc4, .int .i64 (a + (N : Int))], .int .i64 0]) (by simp [results, Try.results80, go_sem, hy0, hy1]) rfl ⟨⟨B5, k + 1, b5, T4, n, tc4, rfl, hown9.mat (Nat.le_refl _), by omega, hown9.capQ, hT9⟩, hbE⟩

theorem rpque_all (p r s i : Int) (T : Option Addr) (n tc : Nat) (a : Int) (xs : List Int) (w : World) (hT : Ints w w.heap.size T n xs) :
    Calls Try.prog 80 #[.agg #[.int .i64 p], .int .i64 r, .int .i64 s, .int .i64 i, .agg #[.slice T n tc, .int .i64 a]] w (QueP (queR p r s i n a xs) w) := by
  by_cases h : sizeE p r s = 0
  · by_cases hi : i < 0 ∨ r ≤ i
    · rw [queR_none h hi]; exact rpque_none p r s i T n tc a w h hi
    · obtain ⟨hok, hss, hr⟩ := sizeE_zero h
      obtain ⟨r', s1, rfl, hs1, _, hr1, hs2, _, _, hle⟩ := sizes_of ⟨hss, hr⟩
      obtain ⟨i', rfl⟩ : ∃ k : Nat, i = k := ⟨i.toNat, by omega⟩
      rw [queR_yes r' s1 i' h rfl hs1 rfl (by omega), Nat.mul_comm s1 r']
      by_cases hE : drawsE xs n a p ((r' * s1 : Nat) : Int) = 0
      · rw [if_pos hE]
        exact rpque_yes p r' s1 _ i' n tc s a T xs w hok hr1 hs2 hs1 rfl hle (by omega) hT hE
      · rw [if_neg hE]
        exact rpque_draw p r' s1 _ i' n tc s a T xs w hok hr1 hs2 hs1 rfl hle (by omega) hT hE
  · rw [queR_size h]; exact rpque_size p r s i T n tc a w h
end Go.Proofs.Ytoblofilaegnaaa
