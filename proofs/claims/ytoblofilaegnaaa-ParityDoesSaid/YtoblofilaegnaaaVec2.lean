/-
  What vector's Add and Scale hand back, for any lists: the result or the error. Conditions: the lists read as their numbers.
-/
import Derived.Test.YtoblofilaegnaaaRef
namespace Go.Proofs.Ytoblofilaegnaaa
open Go.RowKit
set_option linter.unusedVariables false

/-- What a function leaves that makes a list or gives an error. -/
def VecPost (r : List Int × Int) (w : World) (e : Ending) (w' : World) : Prop :=
  (∃ A' n' c', e = .returned (.tuple #[.slice A' n' c', .int .i64 r.2]) ∧ OwnI w' w.heap.size 3 A' n' c' r.1) ∧ Below w.heap.size w w'

/-- The sum of two lists, or the error. -/
def addR (p : Int) (xs ys : List Int) : List Int × Int := if inF p xs = true ∧ inF p ys = true then (if xs.length = ys.length then (zipI (addP p) xs ys, 0) else ([], 2)) else ([], 9)
/-- A list times an element, or the error. -/
def scaleR (p : Int) (xs : List Int) (x : Int) : List Int × Int := if inF p xs = true ∧ inP p x = true then (scaleP p x xs, 0) else ([], 9)

theorem inF_split {p : Int} {xs : List Int} (h : ¬ inF p xs = true) (ho : okP p = true) : allP p xs = false := by
  unfold inF at h; rw [ho] at h; simpa using h
theorem inF_not {p : Int} {xs : List Int} (h : okP p = false) : inF p xs = false := by unfold inF; rw [h]; rfl

set_option maxHeartbeats 400000 in
theorem vadd_any (p : Int) (A B : Option Addr) (n m c d : Nat) (xs ys : List Int) (w : World) (hp64 : -9223372036854775808 ≤ p ∧ p ≤ 9223372036854775807) (h : Ints w w.heap.size A n xs) (h2 : Ints w w.heap.size B m ys) (hn : n ≤ 17592186044416) (hm : m ≤ 17592186044416) :
    Calls Try.prog 23 #[.agg #[.int .i64 p], .slice A n c, .slice B m d] w (VecPost (addR p xs ys) w) := by
  by_cases hok : okP p = true
  · have hp := okP_pos hok
    have HO := Lib.hid hok
    by_cases hx : allP p xs = true
    · by_cases hy : allP p ys = true
      · have HX := Lib.hid hx
        have HY := Lib.hid hy
        by_cases hl : n = m
        · subst hl
          have HR : Hid (addR p xs ys = (zipI (addP p) xs ys, 0)) := Lib.hid (by unfold addR; rw [if_pos ⟨inF_iff.2 ⟨hok, hx⟩, inF_iff.2 ⟨hok, hy⟩⟩, if_pos (by rw [h.len, h2.len])])
          clear hx hy hok
          go_enter Try.func23, Try.ntmps23
          go_wp2_with (first
            | (go_at_call 118; refine (of_yes p _ HO.out).mono ?_; rintro e w1 ⟨rfl, hb1⟩
               have hbb1 := bnext (bbox _) hb1)
            | (go_at_call 119; (with_reducible refine (all_any p A n c xs w1 (h.upto hbb1) (by omega)).mono ?_); rintro e w2 ⟨rfl, hb2⟩; rw [HX.out]
               have hbb2 := bnext hbb1 hb2)
            | (go_at_call 119; (with_reducible refine (all_any p B n d ys w2 (h2.upto hbb2) (by omega)).mono ?_); rintro e w3 ⟨rfl, hb3⟩; rw [HY.out]
               have hbb3 := bnext hbb2 hb3)
            | (go_at_call 120; (with_reducible refine (join_add p A B n 0 c d xs ys w3 hp (h.upto hbb3) (h2.upto hbb3) HX.out HY.out hn).mono ?_); rintro e w4 ⟨⟨A', c', rfl, hown⟩, hb4⟩
               have hbb4 := bnext hbb3 hb4
               have hsz := hbb3.size))
          go_ret2
          exact ⟨⟨A', n, c', by rw [HR.out]; rfl, by rw [HR.out]; exact hown.base hsz⟩, hbb4⟩
        · have HR : Hid (addR p xs ys = ([], 2)) := Lib.hid (by unfold addR; rw [if_pos ⟨inF_iff.2 ⟨hok, hx⟩, inF_iff.2 ⟨hok, hy⟩⟩, if_neg (by rw [h.len, h2.len]; exact hl)])
          have hne : ((n : Int) != (m : Int)) = true := by simp; omega
          clear hx hy hok
          go_enter Try.func23, Try.ntmps23
          go_wp2_with (first
            | (go_at_call 118; refine (of_yes p _ HO.out).mono ?_; rintro e w1 ⟨rfl, hb1⟩
               have hbb1 := bnext (bbox _) hb1)
            | (go_at_call 119; (with_reducible refine (all_any p A n c xs w1 (h.upto hbb1) (by omega)).mono ?_); rintro e w2 ⟨rfl, hb2⟩; rw [HX.out]
               have hbb2 := bnext hbb1 hb2)
            | (go_at_call 119; (with_reducible refine (all_any p B m d ys w2 (h2.upto hbb2) (by omega)).mono ?_); rintro e w3 ⟨rfl, hb3⟩; rw [HY.out]
               have hbb3 := bnext hbb2 hb3))
          go_ret2
          exact ⟨⟨none, 0, 0, by rw [HR.out]; rfl, by rw [HR.out]; exact OwnI.nil_⟩, hbb3⟩
      · have hy' : allP p ys = false := by simpa using hy
        have HX := Lib.hid hx
        have HY := Lib.hid hy'
        have HR : Hid (addR p xs ys = ([], 9)) := Lib.hid (by unfold addR; rw [if_neg (fun e => hy (inF_iff.1 e.2).2)])
        clear hx hy hy' hok
        go_enter Try.func23, Try.ntmps23
        go_wp2_with (first
          | (go_at_call 118; refine (of_yes p _ HO.out).mono ?_; rintro e w1 ⟨rfl, hb1⟩
             have hbb1 := bnext (bbox _) hb1)
          | (go_at_call 119; (with_reducible refine (all_any p A n c xs w1 (h.upto hbb1) (by omega)).mono ?_); rintro e w2 ⟨rfl, hb2⟩; rw [HX.out]
             have hbb2 := bnext hbb1 hb2)
          | (go_at_call 119; (with_reducible refine (all_any p B m d ys w2 (h2.upto hbb2) (by omega)).mono ?_); rintro e w3 ⟨rfl, hb3⟩; rw [HY.out]
             have hbb3 := bnext hbb2 hb3))
        go_ret2
        exact ⟨⟨none, 0, 0, by rw [HR.out]; rfl, by rw [HR.out]; exact OwnI.nil_⟩, hbb3⟩
    · have hx' : allP p xs = false := by simpa using hx
      have HX := Lib.hid hx'
      have HR : Hid (addR p xs ys = ([], 9)) := Lib.hid (by unfold addR; rw [if_neg (fun e => hx (inF_iff.1 e.1).2)])
      clear hx hx' hok
      go_enter Try.func23, Try.ntmps23
      go_wp2_with (first
        | (go_at_call 118; refine (of_yes p _ HO.out).mono ?_; rintro e w1 ⟨rfl, hb1⟩
           have hbb1 := bnext (bbox _) hb1)
        | (go_at_call 119; (with_reducible refine (all_any p A n c xs w1 (h.upto hbb1) (by omega)).mono ?_); rintro e w2 ⟨rfl, hb2⟩; rw [HX.out]
           have hbb2 := bnext hbb1 hb2))
      go_ret2
      exact ⟨⟨none, 0, 0, by rw [HR.out]; rfl, by rw [HR.out]; exact OwnI.nil_⟩, hbb2⟩
  · have hok' : okP p = false := by simpa using hok
    have HO := Lib.hid hok'
    have HR : Hid (addR p xs ys = ([], 9)) := Lib.hid (by unfold addR; rw [if_neg (fun e => hok (inF_iff.1 e.1).1)])
    clear hok hok'
    go_enter Try.func23, Try.ntmps23
    go_wp2_with (go_at_call 118; refine (of_no p _ hp64 HO.out).mono ?_; rintro e w1 ⟨rfl, hb1⟩
                 have hbb1 := bnext (bbox _) hb1)
    go_ret2
    exact ⟨⟨none, 0, 0, by rw [HR.out]; rfl, by rw [HR.out]; exact OwnI.nil_⟩, hbb1⟩

/-- The closure in Scale. -/
theorem scale1_any (p x y z : Int) (b1 b2 : Nat) (w : World) (hp : 2 ≤ p ∧ p ≤ 65521) (hx : 0 ≤ x ∧ x < p) (hy : 0 ≤ y ∧ y < p) (h1 : w.cell? ⟨b1, 0, none⟩ = some (.int .i64 p)) (h2 : w.cell? ⟨b2, 0, none⟩ = some (.int .i64 x)) :
    Calls Try.prog 124 #[.int .i64 y, .int .i64 z, .pointer (some ⟨b1, 0, none⟩), .pointer (some ⟨b2, 0, none⟩)] w fun e w' => e = .returned (.int .i64 (mulP p y x)) ∧ w = w' := by
  go_enter Try.func124, Try.ntmps124
  go_wp2_with (go_at_call 125; refine (mulP_any p y x _ hp hy hx).mono ?_; rintro e w' ⟨rfl, rfl⟩)
  go_ret
  exact ⟨rfl, rfl⟩

theorem join_scale (p x : Int) (b1 b2 : Nat) (A : Option Addr) (n c : Nat) (xs : List Int) (w : World) (hp : 2 ≤ p ∧ p ≤ 65521) (hx : 0 ≤ x ∧ x < p) (h1 : w.cell? ⟨b1, 0, none⟩ = some (.int .i64 p)) (h2 : w.cell? ⟨b2, 0, none⟩ = some (.int .i64 x))
    (h : Ints w w.heap.size A n xs) (ha : allP p xs = true) (hn : n ≤ 17592186044416) :
    Calls Try.prog 120 #[.slice A n c, .slice A n c, .func (.func 124) #[] #[.pointer (some ⟨b1, 0, none⟩), .pointer (some ⟨b2, 0, none⟩)]] w fun e w' =>
      (∃ A' c', e = .returned (.slice A' n c') ∧ OwnI w' w.heap.size 3 A' n c' (scaleP p x xs)) ∧ Below w.heap.size w w' := by
  obtain ⟨i0, hi0, hz0, hz1, hz2⟩ := info_parts info_int
  have HX := Lib.hid ha
  have HL := Lib.hid h.len
  have hb1 : b1 < w.heap.size := World.block_lt_of_cell? w _ h1
  have hb2 : b2 < w.heap.size := World.block_lt_of_cell? w _ h2
  have H1 := Lib.hid h1
  have H2 := Lib.hid h2
  clear ha h1 h2
  go_enter Try.func120, Try.ntmps120
  go_wp2
  go_loopw [7, 12] (fun v i wr => ∃ (k : Nat) (A' : Option Addr) (c' : Nat), k ≤ n ∧ i = .int .i64 k ∧ v = .slice A' k c' ∧ OwnI wr w.heap.size 3 A' k c' (scaleP p x (xs.take k)) ∧ Below w.heap.size w wr) (fun _ i _ => n - (intOf i).toNat)
  case atStart => exact ⟨0, none, 0, Nat.zero_le _, rfl, rfl, OwnI.nil_, Below.refl _ _⟩
  case round =>
    obtain ⟨k, A', c', hk, rfl, rfl, hown, hb⟩ := hrel
    by_cases hlt : k < n
    · obtain ⟨b3, o3, rfl, hb3, hc3⟩ := h.2 (by omega)
      have hr3 := (hb.cell (p := ⟨b3, o3 + k, none⟩) hb3).trans (hc3 k hlt)
      have hp1 := (hb.cell (p := ⟨b1, 0, none⟩) hb1).trans H1.out
      have hp2 := (hb.cell (p := ⟨b2, 0, none⟩) hb2).trans H2.out
      clear hc3
      have HT := Lib.hid (scaleP_take_succ p x xs k (by rw [HL.out]; exact hlt))
      have hxk := allP_getD HX.out (k := k) (by rw [HL.out]; exact hlt)
      generalize xs.getD k 0 = y at *
      go_wp2_with (first
        | (go_at_call 124; refine (scale1_any p x y y b1 b2 _ hp hx hxk hp1 hp2).mono ?_; rintro e w' ⟨rfl, rfl⟩)
        | (at_builtin
           refine wpList_append_ints rfl _ _ _ rfl w.heap.size 3 i0 _ Try.underlying22 hi0 hz0 hz1 hz2 rfl A' k c' _ rfl (hown.alloc _) _ _ 1 1 [mulP p y x] rfl (Ints.one _ _ _) (k + 1) rfl _ rfl (by omega) (le_alloc hb.size _) ?_
           intro A2 c2 w2 hown2 _ hbw2 _
           rw [← HT.out] at hown2
           have hb4 : Below w.heap.size w w2 := (hb.alloc hb.size _).trans hbw2))
      go_roundw
      case rel => exact ⟨k + 1, A2, c2, by omega, by go_num, rfl, hown2, hb4⟩
      case measure => simp [intOf]; omega
    · have hkn : k = n := by omega
      subst hkn
      rw [List.take_of_length_le (by rw [HL.out]; omega)] at hown
      go_wp2
      go_ret
      exact ⟨⟨A', c', rfl, hown⟩, hb⟩

set_option maxHeartbeats 400000 in
theorem vscale_any (p x : Int) (A : Option Addr) (n c : Nat) (xs : List Int) (w : World) (hp64 : -9223372036854775808 ≤ p ∧ p ≤ 9223372036854775807) (h : Ints w w.heap.size A n xs) (hn : n ≤ 17592186044416) :
    Calls Try.prog 25 #[.agg #[.int .i64 p], .slice A n c, .int .i64 x] w (VecPost (scaleR p xs x) w) := by
  by_cases hok : okP p = true
  · have hp := okP_pos hok
    have HO := Lib.hid hok
    by_cases ha : allP p xs = true
    · have HX := Lib.hid ha
      by_cases hx : inP p x = true
      · have hx' := inP_iff.1 hx
        have HI := Lib.hid hx
        have HR : Hid (scaleR p xs x = (scaleP p x xs, 0)) := Lib.hid (by unfold scaleR; rw [if_pos ⟨inF_iff.2 ⟨hok, ha⟩, hx⟩])
        clear hx ha hok
        go_enter Try.func25, Try.ntmps25
        go_wp2_with (first
          | (go_at_call 118; refine (of_yes p _ HO.out).mono ?_; rintro e w1 ⟨rfl, hb1⟩
             have hbb1 := ballocs (bnext (ballocs (bbox (.cells #[.int .i64 p] 24)) (.cells #[.int .i64 x] 3)) hb1) (.cells #[.int .i64 p] 126)
             have hX1 := (((Blk.new (w.alloc (.cells #[.int .i64 p] 24)) 3 #[.int .i64 x]).below hb1 (by simp)).alloc (.cells #[.int .i64 p] 126))
             have hP1 := Blk.new w1 126 #[.int .i64 p]
             simp only [World.size_alloc] at hX1
             have hcx1 : (w1.alloc (.cells #[.int .i64 p] 126)).cell? ⟨w.heap.size + 1, 0, none⟩ = some (.int .i64 x) := (hX1.cell 0).trans rfl
             clear hb1)
          | (go_at_call 119; (refine (all_any p A n c xs _ (h.upto hbb1) (by omega)).mono ?_); rintro e w2 ⟨rfl, hb2⟩; rw [HX.out]
             have hbb2 := bnext hbb1 hb2
             have hX2 := hX1.below hb2 hX1.lt
             have hP2 := hP1.below hb2 hP1.lt
             have hcx2 : w2.cell? ⟨w.heap.size + 1, 0, none⟩ = some (.int .i64 x) := (hX2.cell 0).trans rfl
             have hcp2 : w2.cell? ⟨w1.heap.size, 0, none⟩ = some (.int .i64 p) := (hP2.cell 0).trans rfl
             clear hb2)
          | (go_at_call 123; refine (has_any p x _).mono ?_; rintro e w' ⟨rfl, rfl⟩; rw [HI.out])
          | (go_at_call 120; (refine (join_scale p x w1.heap.size (w.heap.size + 1) A n c xs _ hp hx' hcp2 hcx2 (h.upto hbb2) HX.out hn).mono ?_); rintro e w4 ⟨⟨A', c', rfl, hown⟩, hb4⟩
             have hbb4 := bnext hbb2 hb4
             have hsz := hbb2.size))
        go_ret2
        exact ⟨⟨A', n, c', by rw [HR.out]; rfl, by rw [HR.out]; exact hown.base hsz⟩, hbb4⟩
      · have hx' : inP p x = false := by simpa using hx
        have HI := Lib.hid hx'
        have HR : Hid (scaleR p xs x = ([], 9)) := Lib.hid (by unfold scaleR; rw [if_neg (fun e => hx e.2)])
        clear hx hx' ha hok
        go_enter Try.func25, Try.ntmps25
        go_wp2_with (first
          | (go_at_call 118; refine (of_yes p _ HO.out).mono ?_; rintro e w1 ⟨rfl, hb1⟩
             have hbb1 := ballocs (bnext (ballocs (bbox (.cells #[.int .i64 p] 24)) (.cells #[.int .i64 x] 3)) hb1) (.cells #[.int .i64 p] 126)
             have hX1 := (((Blk.new (w.alloc (.cells #[.int .i64 p] 24)) 3 #[.int .i64 x]).below hb1 (by simp)).alloc (.cells #[.int .i64 p] 126))
             have hP1 := Blk.new w1 126 #[.int .i64 p]
             simp only [World.size_alloc] at hX1
             clear hb1)
          | (go_at_call 119; (refine (all_any p A n c xs _ (h.upto hbb1) (by omega)).mono ?_); rintro e w2 ⟨rfl, hb2⟩; rw [HX.out]
             have hbb2 := bnext hbb1 hb2
             have hX2 := hX1.below hb2 hX1.lt
             have hP2 := hP1.below hb2 hP1.lt
             have hcx2 : w2.cell? ⟨w.heap.size + 1, 0, none⟩ = some (.int .i64 x) := (hX2.cell 0).trans rfl
             have hcp2 : w2.cell? ⟨w1.heap.size, 0, none⟩ = some (.int .i64 p) := (hP2.cell 0).trans rfl
             clear hb2)
          | (go_at_call 123; refine (has_any p x _).mono ?_; rintro e w' ⟨rfl, rfl⟩; rw [HI.out]))
        go_ret2
        exact ⟨⟨none, 0, 0, by rw [HR.out]; rfl, by rw [HR.out]; exact OwnI.nil_⟩, hbb2⟩
    · have ha' : allP p xs = false := by simpa using ha
      have HX := Lib.hid ha'
      have HR : Hid (scaleR p xs x = ([], 9)) := Lib.hid (by unfold scaleR; rw [if_neg (fun e => ha (inF_iff.1 e.1).2)])
      clear ha ha' hok
      go_enter Try.func25, Try.ntmps25
      go_wp2_with (first
        | (go_at_call 118; refine (of_yes p _ HO.out).mono ?_; rintro e w1 ⟨rfl, hb1⟩
           have hbb1 := ballocs (bnext (ballocs (bbox (.cells #[.int .i64 p] 24)) (.cells #[.int .i64 x] 3)) hb1) (.cells #[.int .i64 p] 126)
           clear hb1)
        | (go_at_call 119; (refine (all_any p A n c xs _ (h.upto hbb1) (by omega)).mono ?_); rintro e w2 ⟨rfl, hb2⟩; rw [HX.out]
           have hbb2 := bnext hbb1 hb2
           clear hb2))
      go_ret2
      exact ⟨⟨none, 0, 0, by rw [HR.out]; rfl, by rw [HR.out]; exact OwnI.nil_⟩, hbb2⟩
  · have hok' : okP p = false := by simpa using hok
    have HO := Lib.hid hok'
    have HR : Hid (scaleR p xs x = ([], 9)) := Lib.hid (by unfold scaleR; rw [if_neg (fun e => hok (inF_iff.1 e.1).1)])
    clear hok hok'
    go_enter Try.func25, Try.ntmps25
    go_wp2_with (go_at_call 118; refine (of_no p _ hp64 HO.out).mono ?_; rintro e w1 ⟨rfl, hb1⟩
                 have hbb1 := ballocs (bnext (ballocs (bbox (.cells #[.int .i64 p] 24)) (.cells #[.int .i64 x] 3)) hb1) (.cells #[.int .i64 0] 126))
    go_ret2
    exact ⟨⟨none, 0, 0, by rw [HR.out]; rfl, by rw [HR.out]; exact OwnI.nil_⟩, hbb1⟩

theorem vadd_ok (p : Int) (A B : Option Addr) (n c d : Nat) (xs ys : List Int) (w : World) (hok : okP p = true) (h : Ints w w.heap.size A n xs) (h2 : Ints w w.heap.size B n ys) (hx : allP p xs = true) (hy : allP p ys = true) (hn : n ≤ 17592186044416) :
    Calls Try.prog 23 #[.agg #[.int .i64 p], .slice A n c, .slice B n d] w fun e w' =>
      (∃ A' c', e = .returned (.tuple #[.slice A' n c', .int .i64 0]) ∧ OwnI w' w.heap.size 3 A' n c' (zipI (addP p) xs ys)) ∧ Below w.heap.size w w' := by
  have hp := okP_pos hok
  refine (vadd_any p A B n n c d xs ys w (by omega) h h2 hn hn).mono ?_
  rintro e w' ⟨⟨A', n', c', he, hown⟩, hb⟩
  have HR : addR p xs ys = (zipI (addP p) xs ys, 0) := by unfold addR; rw [if_pos ⟨inF_iff.2 ⟨hok, hx⟩, inF_iff.2 ⟨hok, hy⟩⟩, if_pos (by rw [h.len, h2.len])]
  rw [HR] at he hown
  have hl := hown.len
  rw [zipI_len2 _ _ _ h.len h2.len] at hl
  subst hl
  exact ⟨⟨A', c', he, hown⟩, hb⟩

theorem vscale_ok (p x : Int) (A : Option Addr) (n c : Nat) (xs : List Int) (w : World) (hok : okP p = true) (h : Ints w w.heap.size A n xs) (hx : allP p xs = true) (hy : 0 ≤ x ∧ x < p) (hn : n ≤ 17592186044416) :
    Calls Try.prog 25 #[.agg #[.int .i64 p], .slice A n c, .int .i64 x] w fun e w' =>
      (∃ A' c', e = .returned (.tuple #[.slice A' n c', .int .i64 0]) ∧ OwnI w' w.heap.size 3 A' n c' (scaleP p x xs)) ∧ Below w.heap.size w w' := by
  have hp := okP_pos hok
  refine (vscale_any p x A n c xs w (by omega) h hn).mono ?_
  rintro e w' ⟨⟨A', n', c', he, hown⟩, hb⟩
  have HR : scaleR p xs x = (scaleP p x xs, 0) := by unfold scaleR; rw [if_pos ⟨inF_iff.2 ⟨hok, hx⟩, inP_iff.2 hy⟩]
  rw [HR] at he hown
  have hl := hown.len
  rw [scaleP_len, h.len] at hl
  subst hl
  exact ⟨⟨A', c', he, hown⟩, hb⟩
end Go.Proofs.Ytoblofilaegnaaa
