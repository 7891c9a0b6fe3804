/-
  The reference's Same of chapter 9, and its Key for any arguments. Conditions: the lists read as their numbers, the cells as their values and marks.
-/
import Derived.Test.YtnjdjcgandfnfaaDoorRKey9
import Derived.Test.YtnjdjcgandfnfaaDoorGNine
namespace Go.Proofs.YtnjdjcgandfnfaaDoor
open Go.RowKit
set_option linter.unusedVariables false

set_option maxRecDepth 100000 in
theorem rsame9_yes (A A2 B B2 : Option Addr) (n m c c2 d d2 : Nat) (P ws : List Int) (w : World) (h1 : Ints w w.heap.size A n P) (h2 : Ints w w.heap.size A2 m ws) (h3 : Ints w w.heap.size B n P) (h4 : Ints w w.heap.size B2 m ws) (hn : n ≤ 17592186044416) (hm : m ≤ 17592186044416) :
    Calls Tryd.prog 19 #[.agg #[.slice A n c, .slice A2 m c2], .agg #[.slice B n d, .slice B2 m d2]] w fun e w' => e = .returned (.bool true) ∧ Below w.heap.size w w' := by
  have hb0 : Below w.heap.size w ((w.alloc (.cells #[.slice A n c, .slice A2 m c2] 27)).alloc (.cells #[.slice B n d, .slice B2 m d2] 27)) := ballocs (bbox _) _
  have hA0 := (Blk.new w 27 #[.slice A n c, .slice A2 m c2]).alloc (.cells #[.slice B n d, .slice B2 m d2] 27)
  have hB0 := Blk.new1 w (.cells #[.slice A n c, .slice A2 m c2] 27) 27 #[.slice B n d, .slice B2 m d2]
  have i1 := h1.upto hb0
  have i2 := h2.upto hb0
  have i3 := h3.upto hb0
  have i4 := h4.upto hb0
  have HS1 : Hid (sameL P P = true) := Lib.hid (sameL_iff.2 rfl)
  have HS2 : Hid (sameL ws ws = true) := Lib.hid (sameL_iff.2 rfl)
  clear h1 h2 h3 h4
  go_enter Tryd.func19, Tryd.ntmps19
  go_wp2_with (first
    | (go_at_call 41; (with_reducible refine (rints9_any A B n n c d P P _ i1 i3 hn hn).mono ?_); rintro e w' ⟨rfl, q1, rfl⟩; rw [HS1.out]
       have hb1 := below_drewN hb0 q1
       have hA1 := Blk.drewN hA0 q1
       have hB1 := Blk.drewN hB0 q1
       have hc1 := (hA1.cell 1).trans rfl
       have hc2 := (hB1.cell 1).trans rfl
       have j2 := i2.drewN q1
       have j4 := i4.drewN q1)
    | (go_at_call 41; (with_reducible refine (rints9_any A2 B2 m m c2 d2 ws ws _ j2 j4 hm hm).mono ?_); rintro e w' ⟨rfl, q2, rfl⟩; rw [HS2.out]
       have hb2 := below_drewN hb0 (q1 + q2)))
  go_ret
  exact ⟨rfl, hb2⟩

set_option maxRecDepth 100000 in
theorem rkey9_fail (v p k wr : Int) (A : Option Addr) (m c : Nat) (vs : List Int) (bs : List Bool) (w : World) (hp64 : -9223372036854775808 ≤ p ∧ p ≤ 9223372036854775807) (h : Cel w w.heap.size A m vs bs) (hm : m ≤ 1000) (hk64 : -9223372036854775808 ≤ k ∧ k ≤ 9223372036854775807) (hv : beginE p vs bs k = v) (hv0 : v ≠ 0) :
    Calls Tryd.prog 23 #[.agg #[.int .i64 p], .slice A m c, .int .i64 k, .int .i64 wr] w fun e w' => e = .returned (.tuple #[.agg #[.int .i64 0, .int .i64 0, .int .i64 0, .slice none 0 0, .slice none 0 0], .int .i64 v]) ∧ Below w.heap.size w w' := by
  have hb0 : Below w.heap.size w ((w.alloc (.cells #[.int .i64 p] 24)).alloc (.cells #[.int .i64 0, .int .i64 0, .int .i64 0, .slice none 0 0, .slice none 0 0] 46)) := ballocs (bbox _) _
  have hR0 := Blk.new1 w (.cells #[.int .i64 p] 24) 46 #[.int .i64 0, .int .i64 0, .int .i64 0, .slice none 0 0, .slice none 0 0]
  have hS0 := (h.below hb0).more hb0.size
  have hvb : (v != 0) = true := by simpa using hv0
  have HV := Lib.hid hv
  clear hv h
  go_enter Tryd.func23, Tryd.ntmps23
  go_wp2_with (go_at_call 49; refine (rbegin_all p A m c k vs bs _ hp64 hS0 hm hk64).mono ?_; rintro e w1 ⟨rfl, hb1⟩; rw [HV.out]
               have hbb1 := bnext hb0 hb1
               have hR1 := hR0.below hb1 hR0.lt
               have hz0 : w1.cell? ⟨w.heap.size + 1, 0, none⟩ = some (.int .i64 0) := (hR1.cell 0).trans rfl
               have hf0 := hR1.frozen 0
               have hz1 : w1.cell? ⟨w.heap.size + 1, 1, none⟩ = some (.int .i64 0) := (hR1.cell 1).trans rfl
               have hf1 := hR1.frozen 1
               have hz2 : w1.cell? ⟨w.heap.size + 1, 2, none⟩ = some (.int .i64 0) := (hR1.cell 2).trans rfl
               have hf2 := hR1.frozen 2
               have hz3 : w1.cell? ⟨w.heap.size + 1, 3, none⟩ = some (.slice none 0 0) := (hR1.cell 3).trans rfl
               have hf3 := hR1.frozen 3
               have hz4 : w1.cell? ⟨w.heap.size + 1, 4, none⟩ = some (.slice none 0 0) := (hR1.cell 4).trans rfl
               have hf4 := hR1.frozen 4
               clear hb1)
  have hFB := (((((hR1.set_ 0 (.int .i64 0)).set_ 1 (.int .i64 0)).set_ 2 (.int .i64 0)).set_ 3 (.slice none 0 0)).set_ 4 (.slice none 0 0))
  have hfin0 : (((((w1.setCell ⟨w.heap.size + 1, 0, none⟩ (.int .i64 0)).setCell ⟨w.heap.size + 1, 1, none⟩ (.int .i64 0)).setCell ⟨w.heap.size + 1, 2, none⟩ (.int .i64 0)).setCell ⟨w.heap.size + 1, 3, none⟩ (.slice none 0 0)).setCell ⟨w.heap.size + 1, 4, none⟩ (.slice none 0 0)).cell? ⟨w.heap.size + 1, 0, none⟩ = some (.int .i64 0) := (hFB.cell 0).trans rfl
  have hfin1 : (((((w1.setCell ⟨w.heap.size + 1, 0, none⟩ (.int .i64 0)).setCell ⟨w.heap.size + 1, 1, none⟩ (.int .i64 0)).setCell ⟨w.heap.size + 1, 2, none⟩ (.int .i64 0)).setCell ⟨w.heap.size + 1, 3, none⟩ (.slice none 0 0)).setCell ⟨w.heap.size + 1, 4, none⟩ (.slice none 0 0)).cell? ⟨w.heap.size + 1, 1, none⟩ = some (.int .i64 0) := (hFB.cell 1).trans rfl
  have hfin2 : (((((w1.setCell ⟨w.heap.size + 1, 0, none⟩ (.int .i64 0)).setCell ⟨w.heap.size + 1, 1, none⟩ (.int .i64 0)).setCell ⟨w.heap.size + 1, 2, none⟩ (.int .i64 0)).setCell ⟨w.heap.size + 1, 3, none⟩ (.slice none 0 0)).setCell ⟨w.heap.size + 1, 4, none⟩ (.slice none 0 0)).cell? ⟨w.heap.size + 1, 2, none⟩ = some (.int .i64 0) := (hFB.cell 2).trans rfl
  have hfin3 : (((((w1.setCell ⟨w.heap.size + 1, 0, none⟩ (.int .i64 0)).setCell ⟨w.heap.size + 1, 1, none⟩ (.int .i64 0)).setCell ⟨w.heap.size + 1, 2, none⟩ (.int .i64 0)).setCell ⟨w.heap.size + 1, 3, none⟩ (.slice none 0 0)).setCell ⟨w.heap.size + 1, 4, none⟩ (.slice none 0 0)).cell? ⟨w.heap.size + 1, 3, none⟩ = some (.slice none 0 0) := (hFB.cell 3).trans rfl
  have hfin4 : (((((w1.setCell ⟨w.heap.size + 1, 0, none⟩ (.int .i64 0)).setCell ⟨w.heap.size + 1, 1, none⟩ (.int .i64 0)).setCell ⟨w.heap.size + 1, 2, none⟩ (.int .i64 0)).setCell ⟨w.heap.size + 1, 3, none⟩ (.slice none 0 0)).setCell ⟨w.heap.size + 1, 4, none⟩ (.slice none 0 0)).cell? ⟨w.heap.size + 1, 4, none⟩ = some (.slice none 0 0) := (hFB.cell 4).trans rfl
  exact bodyPost_ret (v := .tuple #[.agg #[.int .i64 0, .int .i64 0, .int .i64 0, .slice none 0 0, .slice none 0 0], .int .i64 v]) (by simp [results, Tryd.results23, go_sem, hfin0, hfin1, hfin2, hfin3, hfin4]) rfl ⟨rfl, (((((hbb1.setCell (p := ⟨w.heap.size + 1, 0, none⟩) (by show w.heap.size ≤ w.heap.size + 1; omega) _).setCell (p := ⟨w.heap.size + 1, 1, none⟩) (by show w.heap.size ≤ w.heap.size + 1; omega) _).setCell (p := ⟨w.heap.size + 1, 2, none⟩) (by show w.heap.size ≤ w.heap.size + 1; omega) _).setCell (p := ⟨w.heap.size + 1, 3, none⟩) (by show w.heap.size ≤ w.heap.size + 1; omega) _).setCell (p := ⟨w.heap.size + 1, 4, none⟩) (by show w.heap.size ≤ w.heap.size + 1; omega) _)⟩
theorem BD_range9 {k : Nat} {wr : Int} (h : wr < 0 ∨ 32 < wr ∨ 32 < (k : Int) + 2 * wr) : wr < 0 ∨ (¬ wr < 0 ∧ 32 < wr) ∨ (¬ wr < 0 ∧ ¬ 32 < wr ∧ 32 < (k : Int) + 2 * wr) := by omega
set_option maxRecDepth 100000 in
theorem rkey9_range (p wr : Int) (k : Nat) (A : Option Addr) (m c : Nat) (vs : List Int) (bs : List Bool) (w : World) (hp64 : -9223372036854775808 ≤ p ∧ p ≤ 9223372036854775807) (h : Cel w w.heap.size A m vs bs) (hm : m ≤ 1000) (hk : k ≤ 1000) (hv : beginE p vs bs k = 0) (hbad : wr < 0 ∨ 32 < wr ∨ 32 < (k : Int) + 2 * wr) :
    Calls Tryd.prog 23 #[.agg #[.int .i64 p], .slice A m c, .int .i64 k, .int .i64 wr] w fun e w' => e = .returned (.tuple #[.agg #[.int .i64 0, .int .i64 0, .int .i64 0, .slice none 0 0, .slice none 0 0], .int .i64 1]) ∧ Below w.heap.size w w' := by
  have hb0 : Below w.heap.size w ((w.alloc (.cells #[.int .i64 p] 24)).alloc (.cells #[.int .i64 0, .int .i64 0, .int .i64 0, .slice none 0 0, .slice none 0 0] 46)) := ballocs (bbox _) _
  have hR0 := Blk.new1 w (.cells #[.int .i64 p] 24) 46 #[.int .i64 0, .int .i64 0, .int .i64 0, .slice none 0 0, .slice none 0 0]
  have hS0 := (h.below hb0).more hb0.size
  have HV := Lib.hid hv
  have HBD := Lib.hid (BD_range9 hbad)
  clear hv h hbad
  rcases HBD.out with h1 | ⟨h1, h2⟩ | ⟨h1, h2, h3⟩
  all_goals
    go_enter Tryd.func23, Tryd.ntmps23
    go_wp2_with (go_at_call 49; refine (rbegin_all p A m c k vs bs _ hp64 hS0 hm (by omega)).mono ?_; rintro e w1 ⟨rfl, hb1⟩; rw [HV.out]
                 have hbb1 := bnext hb0 hb1
                 have hR1 := hR0.below hb1 hR0.lt
                 have hz0 : w1.cell? ⟨w.heap.size + 1, 0, none⟩ = some (.int .i64 0) := (hR1.cell 0).trans rfl
                 have hf0 := hR1.frozen 0
                 have hz1 : w1.cell? ⟨w.heap.size + 1, 1, none⟩ = some (.int .i64 0) := (hR1.cell 1).trans rfl
                 have hf1 := hR1.frozen 1
                 have hz2 : w1.cell? ⟨w.heap.size + 1, 2, none⟩ = some (.int .i64 0) := (hR1.cell 2).trans rfl
                 have hf2 := hR1.frozen 2
                 have hz3 : w1.cell? ⟨w.heap.size + 1, 3, none⟩ = some (.slice none 0 0) := (hR1.cell 3).trans rfl
                 have hf3 := hR1.frozen 3
                 have hz4 : w1.cell? ⟨w.heap.size + 1, 4, none⟩ = some (.slice none 0 0) := (hR1.cell 4).trans rfl
                 have hf4 := hR1.frozen 4
                 clear hb1)
    have hFB := (((((hR1.set_ 0 (.int .i64 0)).set_ 1 (.int .i64 0)).set_ 2 (.int .i64 0)).set_ 3 (.slice none 0 0)).set_ 4 (.slice none 0 0))
    have hfin0 : (((((w1.setCell ⟨w.heap.size + 1, 0, none⟩ (.int .i64 0)).setCell ⟨w.heap.size + 1, 1, none⟩ (.int .i64 0)).setCell ⟨w.heap.size + 1, 2, none⟩ (.int .i64 0)).setCell ⟨w.heap.size + 1, 3, none⟩ (.slice none 0 0)).setCell ⟨w.heap.size + 1, 4, none⟩ (.slice none 0 0)).cell? ⟨w.heap.size + 1, 0, none⟩ = some (.int .i64 0) := (hFB.cell 0).trans rfl
    have hfin1 : (((((w1.setCell ⟨w.heap.size + 1, 0, none⟩ (.int .i64 0)).setCell ⟨w.heap.size + 1, 1, none⟩ (.int .i64 0)).setCell ⟨w.heap.size + 1, 2, none⟩ (.int .i64 0)).setCell ⟨w.heap.size + 1, 3, none⟩ (.slice none 0 0)).setCell ⟨w.heap.size + 1, 4, none⟩ (.slice none 0 0)).cell? ⟨w.heap.size + 1, 1, none⟩ = some (.int .i64 0) := (hFB.cell 1).trans rfl
    have hfin2 : (((((w1.setCell ⟨w.heap.size + 1, 0, none⟩ (.int .i64 0)).setCell ⟨w.heap.size + 1, 1, none⟩ (.int .i64 0)).setCell ⟨w.heap.size + 1, 2, none⟩ (.int .i64 0)).setCell ⟨w.heap.size + 1, 3, none⟩ (.slice none 0 0)).setCell ⟨w.heap.size + 1, 4, none⟩ (.slice none 0 0)).cell? ⟨w.heap.size + 1, 2, none⟩ = some (.int .i64 0) := (hFB.cell 2).trans rfl
    have hfin3 : (((((w1.setCell ⟨w.heap.size + 1, 0, none⟩ (.int .i64 0)).setCell ⟨w.heap.size + 1, 1, none⟩ (.int .i64 0)).setCell ⟨w.heap.size + 1, 2, none⟩ (.int .i64 0)).setCell ⟨w.heap.size + 1, 3, none⟩ (.slice none 0 0)).setCell ⟨w.heap.size + 1, 4, none⟩ (.slice none 0 0)).cell? ⟨w.heap.size + 1, 3, none⟩ = some (.slice none 0 0) := (hFB.cell 3).trans rfl
    have hfin4 : (((((w1.setCell ⟨w.heap.size + 1, 0, none⟩ (.int .i64 0)).setCell ⟨w.heap.size + 1, 1, none⟩ (.int .i64 0)).setCell ⟨w.heap.size + 1, 2, none⟩ (.int .i64 0)).setCell ⟨w.heap.size + 1, 3, none⟩ (.slice none 0 0)).setCell ⟨w.heap.size + 1, 4, none⟩ (.slice none 0 0)).cell? ⟨w.heap.size + 1, 4, none⟩ = some (.slice none 0 0) := (hFB.cell 4).trans rfl
    exact bodyPost_ret (v := .tuple #[.agg #[.int .i64 0, .int .i64 0, .int .i64 0, .slice none 0 0, .slice none 0 0], .int .i64 1]) (by simp [results, Tryd.results23, go_sem, hfin0, hfin1, hfin2, hfin3, hfin4]) rfl ⟨rfl, (((((hbb1.setCell (p := ⟨w.heap.size + 1, 0, none⟩) (by show w.heap.size ≤ w.heap.size + 1; omega) _).setCell (p := ⟨w.heap.size + 1, 1, none⟩) (by show w.heap.size ≤ w.heap.size + 1; omega) _).setCell (p := ⟨w.heap.size + 1, 2, none⟩) (by show w.heap.size ≤ w.heap.size + 1; omega) _).setCell (p := ⟨w.heap.size + 1, 3, none⟩) (by show w.heap.size ≤ w.heap.size + 1; omega) _).setCell (p := ⟨w.heap.size + 1, 4, none⟩) (by show w.heap.size ≤ w.heap.size + 1; omega) _)⟩
theorem rkey9_all (p : Int) (A : Option Addr) (m c : Nat) (k wr : Int) (vs : List Int) (bs : List Bool) (w : World) (hp64 : -9223372036854775808 ≤ p ∧ p ≤ 9223372036854775807) (h : Cel w w.heap.size A m vs bs) (hm : m ≤ 1000) (hk64 : -9223372036854775808 ≤ k ∧ k ≤ 9223372036854775807) (hw64 : -9223372036854775808 ≤ wr ∧ wr ≤ 9223372036854775807) :
    Calls Tryd.prog 23 #[.agg #[.int .i64 p], .slice A m c, .int .i64 k, .int .i64 wr] w (KeyAll p vs bs k wr w) := by
  by_cases hb0 : beginE p vs bs k = 0
  · have hb := beginE_ok hb0
    have hc := cellsE_ok hb.1
    have hv := h.1
    obtain ⟨q, rfl⟩ : ∃ q : Nat, k = q := ⟨k.toNat, by omega⟩
    by_cases hr : wr < 0 ∨ 32 < wr ∨ 32 < (q : Int) + 2 * wr
    · have hk := keyE_range hb0 hr
      refine (rkey9_range p wr q A m c vs bs w hp64 h hm (by omega) hb0 hr).mono ?_
      rintro e w' ⟨rfl, hbw⟩; exact .inl ⟨by rw [hk]; decide, by rw [hk], hbw⟩
    · obtain ⟨v, rfl⟩ : ∃ v : Nat, wr = v := ⟨wr.toNat, by omega⟩
      refine (rkey9_ok p A m c q v vs bs w hp64 h (by omega) hb0 (by omega)).mono ?_
      intro e w' hP; exact .inr ⟨keyE_yes hb0 hr, hP⟩
  · have hk := keyE_no (wr := wr) hb0
    refine (rkey9_fail (beginE p vs bs k) p k wr A m c vs bs w hp64 h hm hk64 rfl hb0).mono ?_
    rintro e w' ⟨rfl, hbw⟩
    exact .inl ⟨by rw [hk]; exact hb0, by rw [hk], hbw⟩
end Go.Proofs.YtnjdjcgandfnfaaDoor
