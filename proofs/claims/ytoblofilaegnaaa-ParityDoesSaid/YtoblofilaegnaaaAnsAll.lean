/-
  What Answer of both sides, the law's own answers and small, and the comparison of what was fetched hand back for any arguments. Conditions: the lists and rows read as their numbers.
-/
import Derived.Test.YtoblofilaegnaaaAns
import Derived.Test.YtoblofilaegnaaaRAll
import Derived.Test.YtoblofilaegnaaaPar1
import Derived.Test.YtoblofilaegnaaaRPDec
namespace Go.Proofs.Ytoblofilaegnaaa
open Go.RowKit
set_option linter.unusedVariables false

theorem panswer_all (p wd : Int) (A C : Option Addr) (n m c d : Nat) (cs : List Int) (rows : List (List Int)) (w : World) {lo : Nat} (hp64 : -9223372036854775808 ≤ p ∧ p ≤ 9223372036854775807) (h : Ints w w.heap.size A n cs) (hM : Mat w lo w.heap.size C m rows)
    (hn : n ≤ 17592186044416) (hm : m ≤ 17592186044416) :
    Calls Try.prog 87 #[.agg #[.int .i64 p], .int .i64 wd, .slice C m d, .slice A n c] w (VecPost (combR p cs rows wd) w) := by
  have hb0 : Below w.heap.size w (w.alloc (.cells #[.int .i64 p] 24)) := bbox _
  go_enter Try.func87, Try.ntmps87
  go_wp2_with (go_at_call 30; refine (vcombine_any p A C n m c d wd cs rows _ hp64 (h.upto hb0) (hM.upto hb0) hn hm).mono ?_; rintro e w1 ⟨⟨A', n', c', rfl, hown⟩, hb1⟩)
  go_ret2
  exact ⟨⟨A', n', c', rfl, hown.base (by simp)⟩, bnext hb0 hb1⟩
theorem ranswer_all (p wd : Int) (A C : Option Addr) (n m c d : Nat) (cs : List Int) (rows : List (List Int)) (w : World) {lo : Nat} (h : Ints w w.heap.size A n cs) (hM : Mat w lo w.heap.size C m rows)
    (hn : n ≤ 17592186044416) (hm : m ≤ 17592186044416) :
    Calls Try.prog 88 #[.agg #[.int .i64 p], .int .i64 wd, .slice C m d, .slice A n c] w (VecPost (combR p cs rows wd) w) := by
  have hb0 : Below w.heap.size w (w.alloc (.cells #[.int .i64 p] 24)) := bbox _
  go_enter Try.func88, Try.ntmps88
  go_wp2_with (go_at_call 31; refine (rcombine_any p A C n m c d wd cs rows _ (h.upto hb0) (hM.upto hb0) hn hm).mono ?_; rintro e w1 ⟨⟨A', n', c', rfl, hown⟩, hb1⟩)
  go_ret2
  exact ⟨⟨A', n', c', rfl, hown.base (by simp)⟩, bnext hb0 hb1⟩

set_option maxRecDepth 100000 in
theorem answers_any (p : Int) (wd : Int) (C Q : Option Addr) (m nq d cq : Nat) (rows qs : List (List Int)) (w : World) {lo lo2 : Nat} (hM : Mat w lo w.heap.size C m rows) (hQ : Mat w lo2 w.heap.size Q nq qs) (hm : m ≤ 17592186044416) (hnq : nq ≤ 1000) :
    Calls Try.prog 81 #[.agg #[.int .i64 p], .int .i64 wd, .slice C m d, .slice Q nq cq] w fun e w' =>
      (∃ L lc ks rs, e = .returned (.slice L nq lc) ∧ OwnA w' w.heap.size w.heap.size L nq lc ks rs) ∧ Below w.heap.size w w' := by
  have hb0 : Below w.heap.size w (w.alloc (.cells #[.int .i64 p] 24)) := bbox _
  have hF0 := Blk.new w 24 #[.int .i64 p]
  have HCL : Hid (∀ q : List Int, (combR p q rows wd).1.length ≤ 17592186044416) := Lib.hid fun q => combR_len p q rows wd
  go_enter Try.func81, Try.ntmps81
  go_wp2_with fail
  go_loopw [9, 16] (fun v9 v16 wr => ∃ (k : Nat) (L : Option Addr) (lc : Nat) (ks : List Bool) (rs : List (List Int)), k ≤ nq ∧ v16 = .int .i64 k ∧ v9 = .slice L k lc ∧ OwnA wr (w.heap.size + 1) w.heap.size L k lc ks rs ∧ Below w.heap.size w wr ∧ Blk wr w.heap.size 24 #[.int .i64 p]) (fun _ v16 _ => nq - (intOf v16).toNat)
  case atStart => exact ⟨0, none, 0, [], [], Nat.zero_le _, rfl, rfl, OwnA.nil_, hb0, hF0⟩
  case round =>
    obtain ⟨k, L, lc, ks, rs, hk, rfl, rfl, hown, hbr, hFr⟩ := hrel
    have hcf : wr.cell? ⟨w.heap.size, 0, none⟩ = some (.int .i64 p) := (hFr.cell 0).trans rfl
    have hsr := hbr.size
    by_cases hlt : k < nq
    · obtain ⟨b, off, Aq, n1, c1, rfl, _, hbl, hcq, hnq1, hIq, _⟩ := (hQ.upto hbr).at_ hlt
      have HC1 := Lib.hid (HCL.out (qs.getD k []))
      generalize qs.getD k [] = qv at *
      have hMr := hM.upto hbr
      have hk0 : (0 : Int) ≤ (k : Int) := by omega
      have hk1 : (k : Int) < (nq : Int) := by omega
      go_wp2_with (first
        | (go_at_call 88; refine (ranswer_all p wd Aq C n1 m c1 d qv rows _ hIq hMr (by omega) (by omega)).mono ?_; rintro e w12 ⟨⟨A12, n12, c12, rfl, hown12⟩, hb12⟩
           have hn12 : n12 ≤ 17592186044416 := by rw [← hown12.len]; exact HC1.out
           have hba : Below w12.heap.size w12 (w12.alloc (.cells #[.bool true, .slice A12 n12 c12] 89)) := bbox _
           have hBk := Blk.new w12 89 #[.bool true, .slice A12 n12 c12]
           have ha0 : (w12.alloc (.cells #[.bool true, .slice A12 n12 c12] 89)).cell? ⟨w12.heap.size, 0, none⟩ = some (.bool true) := (hBk.cell 0).trans rfl
           have ha1 : (w12.alloc (.cells #[.bool true, .slice A12 n12 c12] 89)).cell? ⟨w12.heap.size, 1, none⟩ = some (.slice A12 n12 c12) := (hBk.cell 1).trans rfl
           have hIa := hown12.ints.upto hba
           have hb12a := bnext hb12 hba
           have howna := hown.belowAll hb12a
           have hbra := hbr.trans (hb12a.mono hsr)
           have hF12 := hFr.below hb12a hFr.lt
           have HLO : Hid (Lo w.heap.size A12 n12) := Lib.hid fun h0 b off s e => by have := hown12.row b (by rw [e]; rfl); omega
           have HAP : Hid (0 < n12 → ∀ b off s, A12 = some ⟨b, off, s⟩ → (Value.slice L k lc).ownBlock ≠ some b) := Lib.hid fun h0 b off s e e2 => by
             have h1 := hown12.row b (by rw [e]; rfl)
             have h2 := (hown.row b e2).2
             omega)
        | (at_builtin
           refine wpList_append_ans rfl _ _ 87 rfl Try.underlying87 (w.heap.size + 1) w.heap.size L k lc ks rs rfl howna w12.heap.size 1 true A12 n12 c12 _ rfl ha0 ha1 hn12 hIa HLO.out HAP.out (by omega) (by (have := hF12.lt); omega) ?_
           intro L2 lc2 w14 hown14 hb14
           have hb14a := hbra.trans (hb14.mono (by omega))
           have hF14 := hF12.below hb14 (by omega)))
      go_roundw
      case rel => exact ⟨k + 1, L2, lc2, _, _, by omega, by go_num, rfl, hown14, hb14a, hF14⟩
      case measure => simp [intOf]; omega
    · obtain rfl : k = nq := by omega
      go_wp2
      go_ret
      exact ⟨⟨L, lc, ks, rs, rfl, hown.weaken (by omega) (Nat.le_refl _)⟩, hbr⟩

/-- How long rows are, as far as they were counted. -/
def smW (rows : List (List Int)) : Nat → Int
  | 0 => 0
  | k + 1 => wrap64 (smW rows k + (1 + (((rows.getD k []).length : Nat) : Int)))
set_option maxRecDepth 100000 in
theorem small_any (A : Option Addr) (m c : Nat) (rows : List (List Int)) (w : World) {lo B : Nat} (hM : Mat w lo B A m rows) (hm : m ≤ 17592186044416) :
    Calls Try.prog 78 #[.slice A m c] w fun e w' => e = .returned (.bool (decide (smW rows m < 1500))) ∧ w = w' := by
  go_enter Try.func78, Try.ntmps78
  go_wp2
  go_loopw [3, 8] (fun v i wr => ∃ k : Nat, k ≤ m ∧ i = .int .i64 k ∧ v = .int .i64 (smW rows k) ∧ wr = w) (fun _ i _ => m - (intOf i).toNat)
  case atStart => exact ⟨0, Nat.zero_le _, rfl, rfl, rfl⟩
  case round =>
    obtain ⟨k, hk, rfl, rfl, rfl⟩ := hrel
    by_cases hlt : k < m
    · obtain ⟨b, off, A1, n1, c1, rfl, _, hb1, hcell, hn1, hI, _⟩ := hM.at_ hlt
      have HS : Hid (smW rows (k + 1) = wrap64 (smW rows k + (1 + (n1 : Int)))) := Lib.hid (by simp only [smW]; rw [hI.len])
      obtain ⟨v, hv⟩ : ∃ v, smW rows k = v := ⟨_, rfl⟩
      rw [hv] at HS ⊢
      have hk0 : (0 : Int) ≤ (k : Int) := by omega
      have hk1 : (k : Int) < (m : Int) := by omega
      have hw1 : IntKind.i64.wrap (1 + (n1 : Int)) = 1 + (n1 : Int) := IntWalk.i64_in _ (by omega)
      go_wp2
      go_roundw
      case rel => exact ⟨k + 1, by omega, by go_num, by (rw [HS.out]; try rfl), trivial⟩
      case measure => simp [intOf]; omega
    · obtain rfl : k = m := by omega
      go_wp2
      go_ret
      exact ⟨rfl, rfl⟩

set_option maxRecDepth 100000 in
/-- Equal rows that were fetched are found equal. -/
theorem rsameF_yes (A B : Option Addr) (n c d : Nat) (xs : List Int) (w : World) (h : Ints w w.heap.size A n xs) (h2 : Ints w w.heap.size B n xs) (hn : n ≤ 17592186044416) :
    Calls Try.prog 91 #[.agg #[.slice A n c, .slice none 0 0], .agg #[.slice B n d, .slice none 0 0]] w fun e w' => e = .returned (.bool true) ∧ Below w.heap.size w w' := by
  have hb0 : Below w.heap.size w ((w.alloc (.cells #[.slice A n c, .slice none 0 0] 99)).alloc (.cells #[.slice B n d, .slice none 0 0] 99)) := ballocs (bbox _) _
  have hX := (Blk.new w 99 #[.slice A n c, .slice none 0 0]).alloc (.cells #[.slice B n d, .slice none 0 0] 99)
  have hY := Blk.new1 w (.cells #[.slice A n c, .slice none 0 0] 99) 99 #[.slice B n d, .slice none 0 0]
  have HS : Hid (sameL xs xs = true) := Lib.hid (sameL_iff.2 rfl)
  have HN : Hid (sameL [] [] = true) := Lib.hid (sameL_iff.2 rfl)
  have hI1 := h.upto hb0
  have hI2 := h2.upto hb0
  go_enter Try.func91, Try.ntmps91
  go_wp2_with (first
    | (go_at_call 27; (with_reducible refine (same_any A B n n c d xs xs _ hI1 hI2 hn hn).mono ?_); rintro e w' ⟨rfl, q, rfl⟩; rw [HS.out]
       have hX2 := Blk.drewN hX q
       have hY2 := Blk.drewN hY q
       have hb2 := below_drewN hb0 q
       have hx1 := (hX2.cell 1).trans rfl
       have hy1 := (hY2.cell 1).trans rfl)
    | (go_at_call 27; (with_reducible refine (same_any none none 0 0 0 0 [] [] _ (B1 := 0) (B2 := 0) Ints.nil_ Ints.nil_ (by omega) (by omega)).mono ?_); rintro e w' ⟨rfl, q2, rfl⟩; rw [HN.out]
       have hb3 := below_drewN hb2 q2))
  go_ret
  exact ⟨rfl, below_drewN hb0 _⟩
end Go.Proofs.Ytoblofilaegnaaa
