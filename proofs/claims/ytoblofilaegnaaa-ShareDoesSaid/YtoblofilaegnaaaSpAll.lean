/-
  What share's Split and Limits hand back for any arguments: the result, or the error. Conditions: the tape's list reads as its numbers.
-/
import Derived.Test.YtoblofilaegnaaaSplit
import Derived.Test.YtoblofilaegnaaaGTap
import Derived.Test.YtoblofilaegnaaaShThr
import Derived.Test.YtoblofilaegnaaaVec2
namespace Go.Proofs.Ytoblofilaegnaaa
open Go.RowKit
set_option linter.unusedVariables false

/-- The error of Split. -/
def splitE (p z m n : Int) (tn : Nat) (ta : Int) (ts : List Int) : Int :=
  if okP p = true ∧ inP p z = true then (if (0 ≤ m ∧ m ≤ 9) ∧ 1 ≤ n ∧ n < p ∧ n ≤ 512 then drawsE ts tn ta p m else 1) else 9
/-- What Split leaves. -/
def SplPost (p z m n : Int) (tn : Nat) (ta : Int) (ts : List Int) (w : World) (e : Ending) (w' : World) : Prop :=
  (splitE p z m n tn ta ts ≠ 0 ∧ e = .returned (.tuple #[.slice none 0 0, .agg #[.slice none 0 0, .int .i64 0], .int .i64 (splitE p z m n tn ta ts)]) ∧ Below w.heap.size w w') ∨
  (splitE p z m n tn ta ts = 0 ∧ ∃ (A' : Option Addr) (c' : Nat) (T' : Option Addr) (tc : Nat), e = .returned (.tuple #[.slice A' n.toNat c', .agg #[.slice T' tn tc, .int .i64 (ta + m)], .int .i64 0]) ∧
    OwnS w' w.heap.size A' n.toNat c' (ptsL n.toNat) (valsP p (z :: ((ts.drop ta.toNat).take m.toNat)) (ptsL n.toNat)) ∧ OwnI w' w.heap.size 3 T' tn tc ts ∧ Below w.heap.size w w')
theorem SplPost.bad {p z m n : Int} {tn : Nat} {ta : Int} {ts : List Int} {w w' : World} {er : Int} (h : splitE p z m n tn ta ts = er) (h0 : er ≠ 0) (hb : Below w.heap.size w w') : SplPost p z m n tn ta ts w (.returned (.tuple #[.slice none 0 0, .agg #[.slice none 0 0, .int .i64 0], .int .i64 er])) w' := .inl ⟨by rw [h]; exact h0, by rw [h], hb⟩
/-- The drawn numbers of a drawing without an error. -/
theorem drawn_all {ts : List Int} {tn : Nat} {ta p : Int} {th : Nat} (hl : ts.length = tn) (h : drawsE ts tn ta p th = 0) : ((ts.drop ta.toNat).take th).length = th ∧ allP p ((ts.drop ta.toNat).take th) = true := by
  have h1 := drawn_of h
  have h2 := validT_iff.1 h1.1
  have h3 := (drawE_ok (th : Int).toNat ta.toNat (by omega)).1 h1.2.2.2
  rw [Int.toNat_natCast] at h3
  refine ⟨by rw [List.length_take, List.length_drop]; omega, allP_iff.2 fun x hx => ?_⟩
  obtain ⟨j, hj, hjl, rfl⟩ := take_mem hx
  have := h3.2 (ta.toNat + j) (by omega) (by omega)
  simpa [List.getD_eq_getElem?_getD, List.getElem?_drop] using this


set_option maxRecDepth 100000 in
theorem split_field {p z m n : Int} {T : Option Addr} {tn tc : Nat} {ta : Int} {ts : List Int} {w : World} (hp64 : -9223372036854775808 ≤ p ∧ p ≤ 9223372036854775807) (hT : Ints w w.heap.size T tn ts) (h : ¬ (okP p = true ∧ inP p z = true)) :
    Calls Try.prog 56 #[.agg #[.int .i64 p], .int .i64 z, .int .i64 m, .int .i64 n, .agg #[.slice T tn tc, .int .i64 ta]] w fun e w' => e = .returned (.tuple #[.slice none 0 0, .agg #[.slice none 0 0, .int .i64 0], .int .i64 9]) ∧ Below w.heap.size w w' := by
  have hb0 : Below w.heap.size w (((w.alloc (.cells #[.int .i64 p] 24)).alloc (.cells #[.slice T tn tc, .int .i64 ta] 62)).alloc (.cells #[.slice none 0 0, .int .i64 0] 62)) := ballocs (ballocs (bbox _) _) _
  have hF0 := ((Blk.new w 24 #[.int .i64 p]).alloc (.cells #[.slice T tn tc, .int .i64 ta] 62)).alloc (.cells #[.slice none 0 0, .int .i64 0] 62)
  have hB0 := (Blk.new (w.alloc (.cells #[.int .i64 p] 24)) 62 #[.slice T tn tc, .int .i64 ta]).alloc (.cells #[.slice none 0 0, .int .i64 0] 62)
  have hR0 := Blk.new ((w.alloc (.cells #[.int .i64 p] 24)).alloc (.cells #[.slice T tn tc, .int .i64 ta] 62)) 62 #[.slice none 0 0, .int .i64 0]
  simp only [World.size_alloc] at hB0 hR0
  by_cases hok : okP p = true
  · have HO := Lib.hid hok
    have HSI : Hid (inP p z = false) := Lib.hid (by rw [← Bool.not_eq_true]; exact fun a => h ⟨hok, a⟩)
    clear hok h
    go_enter Try.func56, Try.ntmps56
    go_wp2_with (first
      | (go_at_call 118; refine (of_yes p _ HO.out).mono ?_; rintro e w1 ⟨rfl, hb1⟩
         have hbb1 := bnext hb0 hb1
         have hF1 := hF0.below hb1 hF0.lt
         have hB1 := hB0.below hb1 hB0.lt
         have hR1 := hR0.below hb1 hR0.lt
         have hf10 : w1.cell? ⟨w.heap.size, 0, none⟩ = some (.int .i64 p) := (hF1.cell 0).trans rfl
         have hb10 : w1.cell? ⟨w.heap.size + 1, 0, none⟩ = some (.slice T tn tc) := (hB1.cell 0).trans rfl
         have hb11 : w1.cell? ⟨w.heap.size + 1, 1, none⟩ = some (.int .i64 ta) := (hB1.cell 1).trans rfl
         have hr0 : w1.cell? ⟨w.heap.size + 1 + 1, 0, none⟩ = some (.slice none 0 0) := (hR1.cell 0).trans rfl
         have hr1 : w1.cell? ⟨w.heap.size + 1 + 1, 1, none⟩ = some (.int .i64 0) := (hR1.cell 1).trans rfl
         have hg0 := hR1.frozen 0
         have hg1 := hR1.frozen 1
         have hT1 := hT.upto hbb1
         clear hb1)
      | (go_at_call 123; (refine (has_any p z _).mono ?_); rintro e w' ⟨rfl, rfl⟩; rw [HSI.out]))
    have hR7 := blk_two (v0 := .slice none 0 0) (v1 := .int .i64 0) hR1
    have hy0 := (hR7.cell 0).trans rfl
    have hy1 := (hR7.cell 1).trans rfl
    have hbE := below_two hbb1 (g := w.heap.size + 1 + 1) (by omega) (.slice none 0 0) (.int .i64 0)
    exact bodyPost_ret (v := .tuple #[.slice none 0 0, .agg #[.slice none 0 0, .int .i64 0], .int .i64 9]) (by simp [results, Try.results56, go_sem, hy0, hy1]) rfl ⟨rfl, hbE⟩
  · have hokf : okP p = false := by simpa using hok
    have HO := Lib.hid hokf
    clear hok hokf h
    go_enter Try.func56, Try.ntmps56
    go_wp2_with (go_at_call 118; refine (of_no p _ hp64 HO.out).mono ?_; rintro e w1 ⟨rfl, hb1⟩
                 have hbb1 := bnext hb0 hb1
                 have hR1 := hR0.below hb1 hR0.lt
                 have hr0 : w1.cell? ⟨w.heap.size + 1 + 1, 0, none⟩ = some (.slice none 0 0) := (hR1.cell 0).trans rfl
                 have hr1 : w1.cell? ⟨w.heap.size + 1 + 1, 1, none⟩ = some (.int .i64 0) := (hR1.cell 1).trans rfl
                 have hg0 := hR1.frozen 0
                 have hg1 := hR1.frozen 1
                 clear hb1)
    have hR7 := blk_two (v0 := .slice none 0 0) (v1 := .int .i64 0) hR1
    have hy0 := (hR7.cell 0).trans rfl
    have hy1 := (hR7.cell 1).trans rfl
    have hbE := below_two hbb1 (g := w.heap.size + 1 + 1) (by omega) (.slice none 0 0) (.int .i64 0)
    exact bodyPost_ret (v := .tuple #[.slice none 0 0, .agg #[.slice none 0 0, .int .i64 0], .int .i64 9]) (by simp [results, Try.results56, go_sem, hy0, hy1]) rfl ⟨rfl, hbE⟩

set_option maxRecDepth 100000 in
theorem split_range {p z m n : Int} {T : Option Addr} {tn tc : Nat} {ta : Int} {ts : List Int} {w : World} (hT : Ints w w.heap.size T tn ts) (hok : okP p = true) (hz : inP p z = true) (h : ¬ ((0 ≤ m ∧ m ≤ 9) ∧ 1 ≤ n ∧ n < p ∧ n ≤ 512)) :
    Calls Try.prog 56 #[.agg #[.int .i64 p], .int .i64 z, .int .i64 m, .int .i64 n, .agg #[.slice T tn tc, .int .i64 ta]] w fun e w' => e = .returned (.tuple #[.slice none 0 0, .agg #[.slice none 0 0, .int .i64 0], .int .i64 1]) ∧ Below w.heap.size w w' := by
  have hb0 : Below w.heap.size w (((w.alloc (.cells #[.int .i64 p] 24)).alloc (.cells #[.slice T tn tc, .int .i64 ta] 62)).alloc (.cells #[.slice none 0 0, .int .i64 0] 62)) := ballocs (ballocs (bbox _) _) _
  have hF0 := ((Blk.new w 24 #[.int .i64 p]).alloc (.cells #[.slice T tn tc, .int .i64 ta] 62)).alloc (.cells #[.slice none 0 0, .int .i64 0] 62)
  have hB0 := (Blk.new (w.alloc (.cells #[.int .i64 p] 24)) 62 #[.slice T tn tc, .int .i64 ta]).alloc (.cells #[.slice none 0 0, .int .i64 0] 62)
  have hR0 := Blk.new ((w.alloc (.cells #[.int .i64 p] 24)).alloc (.cells #[.slice T tn tc, .int .i64 ta] 62)) 62 #[.slice none 0 0, .int .i64 0]
  simp only [World.size_alloc] at hB0 hR0
  have HO := Lib.hid hok
  have HSI := Lib.hid hz
  clear hok hz
  by_cases h1 : 0 ≤ m ∧ m ≤ 9
  · have HTH : Hid (decide (0 ≤ m ∧ m ≤ 9) = true) := Lib.hid (decide_eq_true h1)
    by_cases h2 : n < 1
    · clear h h1
      go_enter Try.func56, Try.ntmps56
      go_wp2_with (first
        | (go_at_call 118; refine (of_yes p _ HO.out).mono ?_; rintro e w1 ⟨rfl, hb1⟩
           have hbb1 := bnext hb0 hb1
           have hF1 := hF0.below hb1 hF0.lt
           have hB1 := hB0.below hb1 hB0.lt
           have hR1 := hR0.below hb1 hR0.lt
           have hf10 : w1.cell? ⟨w.heap.size, 0, none⟩ = some (.int .i64 p) := (hF1.cell 0).trans rfl
           have hb10 : w1.cell? ⟨w.heap.size + 1, 0, none⟩ = some (.slice T tn tc) := (hB1.cell 0).trans rfl
           have hb11 : w1.cell? ⟨w.heap.size + 1, 1, none⟩ = some (.int .i64 ta) := (hB1.cell 1).trans rfl
           have hr0 : w1.cell? ⟨w.heap.size + 1 + 1, 0, none⟩ = some (.slice none 0 0) := (hR1.cell 0).trans rfl
           have hr1 : w1.cell? ⟨w.heap.size + 1 + 1, 1, none⟩ = some (.int .i64 0) := (hR1.cell 1).trans rfl
           have hg0 := hR1.frozen 0
           have hg1 := hR1.frozen 1
           have hT1 := hT.upto hbb1
           clear hb1)
        | (go_at_call 123; (refine (has_any p z _).mono ?_); rintro e w' ⟨rfl, rfl⟩; rw [HSI.out])
        | (go_at_call 140; refine (threshold_any m _).mono ?_; rintro e w' ⟨rfl, rfl⟩; rw [HTH.out]))
      have hR7 := blk_two (v0 := .slice none 0 0) (v1 := .int .i64 0) hR1
      have hy0 := (hR7.cell 0).trans rfl
      have hy1 := (hR7.cell 1).trans rfl
      have hbE := below_two hbb1 (g := w.heap.size + 1 + 1) (by omega) (.slice none 0 0) (.int .i64 0)
      exact bodyPost_ret (v := .tuple #[.slice none 0 0, .agg #[.slice none 0 0, .int .i64 0], .int .i64 1]) (by simp [results, Try.results56, go_sem, hy0, hy1]) rfl ⟨rfl, hbE⟩
    · by_cases h3 : p ≤ n
      · have h3d : decide (n ≥ p) = true := decide_eq_true h3
        clear h h1
        go_enter Try.func56, Try.ntmps56
        go_wp2_with (first
          | (go_at_call 118; refine (of_yes p _ HO.out).mono ?_; rintro e w1 ⟨rfl, hb1⟩
             have hbb1 := bnext hb0 hb1
             have hF1 := hF0.below hb1 hF0.lt
             have hB1 := hB0.below hb1 hB0.lt
             have hR1 := hR0.below hb1 hR0.lt
             have hf10 : w1.cell? ⟨w.heap.size, 0, none⟩ = some (.int .i64 p) := (hF1.cell 0).trans rfl
             have hb10 : w1.cell? ⟨w.heap.size + 1, 0, none⟩ = some (.slice T tn tc) := (hB1.cell 0).trans rfl
             have hb11 : w1.cell? ⟨w.heap.size + 1, 1, none⟩ = some (.int .i64 ta) := (hB1.cell 1).trans rfl
             have hr0 : w1.cell? ⟨w.heap.size + 1 + 1, 0, none⟩ = some (.slice none 0 0) := (hR1.cell 0).trans rfl
             have hr1 : w1.cell? ⟨w.heap.size + 1 + 1, 1, none⟩ = some (.int .i64 0) := (hR1.cell 1).trans rfl
             have hg0 := hR1.frozen 0
             have hg1 := hR1.frozen 1
             have hT1 := hT.upto hbb1
             clear hb1)
          | (go_at_call 123; (refine (has_any p z _).mono ?_); rintro e w' ⟨rfl, rfl⟩; rw [HSI.out])
          | (go_at_call 140; refine (threshold_any m _).mono ?_; rintro e w' ⟨rfl, rfl⟩; rw [HTH.out]))
        have hR7 := blk_two (v0 := .slice none 0 0) (v1 := .int .i64 0) hR1
        have hy0 := (hR7.cell 0).trans rfl
        have hy1 := (hR7.cell 1).trans rfl
        have hbE := below_two hbb1 (g := w.heap.size + 1 + 1) (by omega) (.slice none 0 0) (.int .i64 0)
        exact bodyPost_ret (v := .tuple #[.slice none 0 0, .agg #[.slice none 0 0, .int .i64 0], .int .i64 1]) (by simp [results, Try.results56, go_sem, hy0, hy1]) rfl ⟨rfl, hbE⟩
      · have h4 : 512 < n := by omega
        have h3d : decide (n ≥ p) = false := decide_eq_false h3
        clear h h1
        go_enter Try.func56, Try.ntmps56
        go_wp2_with (first
          | (go_at_call 118; refine (of_yes p _ HO.out).mono ?_; rintro e w1 ⟨rfl, hb1⟩
             have hbb1 := bnext hb0 hb1
             have hF1 := hF0.below hb1 hF0.lt
             have hB1 := hB0.below hb1 hB0.lt
             have hR1 := hR0.below hb1 hR0.lt
             have hf10 : w1.cell? ⟨w.heap.size, 0, none⟩ = some (.int .i64 p) := (hF1.cell 0).trans rfl
             have hb10 : w1.cell? ⟨w.heap.size + 1, 0, none⟩ = some (.slice T tn tc) := (hB1.cell 0).trans rfl
             have hb11 : w1.cell? ⟨w.heap.size + 1, 1, none⟩ = some (.int .i64 ta) := (hB1.cell 1).trans rfl
             have hr0 : w1.cell? ⟨w.heap.size + 1 + 1, 0, none⟩ = some (.slice none 0 0) := (hR1.cell 0).trans rfl
             have hr1 : w1.cell? ⟨w.heap.size + 1 + 1, 1, none⟩ = some (.int .i64 0) := (hR1.cell 1).trans rfl
             have hg0 := hR1.frozen 0
             have hg1 := hR1.frozen 1
             have hT1 := hT.upto hbb1
             clear hb1)
          | (go_at_call 123; (refine (has_any p z _).mono ?_); rintro e w' ⟨rfl, rfl⟩; rw [HSI.out])
          | (go_at_call 140; refine (threshold_any m _).mono ?_; rintro e w' ⟨rfl, rfl⟩; rw [HTH.out]))
        have hR7 := blk_two (v0 := .slice none 0 0) (v1 := .int .i64 0) hR1
        have hy0 := (hR7.cell 0).trans rfl
        have hy1 := (hR7.cell 1).trans rfl
        have hbE := below_two hbb1 (g := w.heap.size + 1 + 1) (by omega) (.slice none 0 0) (.int .i64 0)
        exact bodyPost_ret (v := .tuple #[.slice none 0 0, .agg #[.slice none 0 0, .int .i64 0], .int .i64 1]) (by simp [results, Try.results56, go_sem, hy0, hy1]) rfl ⟨rfl, hbE⟩
  · have HTH : Hid (decide (0 ≤ m ∧ m ≤ 9) = false) := Lib.hid (decide_eq_false h1)
    clear h h1
    go_enter Try.func56, Try.ntmps56
    go_wp2_with (first
      | (go_at_call 118; refine (of_yes p _ HO.out).mono ?_; rintro e w1 ⟨rfl, hb1⟩
         have hbb1 := bnext hb0 hb1
         have hF1 := hF0.below hb1 hF0.lt
         have hB1 := hB0.below hb1 hB0.lt
         have hR1 := hR0.below hb1 hR0.lt
         have hf10 : w1.cell? ⟨w.heap.size, 0, none⟩ = some (.int .i64 p) := (hF1.cell 0).trans rfl
         have hb10 : w1.cell? ⟨w.heap.size + 1, 0, none⟩ = some (.slice T tn tc) := (hB1.cell 0).trans rfl
         have hb11 : w1.cell? ⟨w.heap.size + 1, 1, none⟩ = some (.int .i64 ta) := (hB1.cell 1).trans rfl
         have hr0 : w1.cell? ⟨w.heap.size + 1 + 1, 0, none⟩ = some (.slice none 0 0) := (hR1.cell 0).trans rfl
         have hr1 : w1.cell? ⟨w.heap.size + 1 + 1, 1, none⟩ = some (.int .i64 0) := (hR1.cell 1).trans rfl
         have hg0 := hR1.frozen 0
         have hg1 := hR1.frozen 1
         have hT1 := hT.upto hbb1
         clear hb1)
      | (go_at_call 123; (refine (has_any p z _).mono ?_); rintro e w' ⟨rfl, rfl⟩; rw [HSI.out])
      | (go_at_call 140; refine (threshold_any m _).mono ?_; rintro e w' ⟨rfl, rfl⟩; rw [HTH.out]))
    have hR7 := blk_two (v0 := .slice none 0 0) (v1 := .int .i64 0) hR1
    have hy0 := (hR7.cell 0).trans rfl
    have hy1 := (hR7.cell 1).trans rfl
    have hbE := below_two hbb1 (g := w.heap.size + 1 + 1) (by omega) (.slice none 0 0) (.int .i64 0)
    exact bodyPost_ret (v := .tuple #[.slice none 0 0, .agg #[.slice none 0 0, .int .i64 0], .int .i64 1]) (by simp [results, Try.results56, go_sem, hy0, hy1]) rfl ⟨rfl, hbE⟩

set_option maxRecDepth 100000 in
theorem split_draw {p z m n : Int} {T : Option Addr} {tn tc : Nat} {ta : Int} {ts : List Int} {w : World} (hT : Ints w w.heap.size T tn ts) (hok : okP p = true) (hz : inP p z = true) (h : (0 ≤ m ∧ m ≤ 9) ∧ 1 ≤ n ∧ n < p ∧ n ≤ 512) (hd : drawsE ts tn ta p m ≠ 0) :
    Calls Try.prog 56 #[.agg #[.int .i64 p], .int .i64 z, .int .i64 m, .int .i64 n, .agg #[.slice T tn tc, .int .i64 ta]] w fun e w' => e = .returned (.tuple #[.slice none 0 0, .agg #[.slice none 0 0, .int .i64 0], .int .i64 (drawsE ts tn ta p m)]) ∧ Below w.heap.size w w' := by
  have hb0 : Below w.heap.size w (((w.alloc (.cells #[.int .i64 p] 24)).alloc (.cells #[.slice T tn tc, .int .i64 ta] 62)).alloc (.cells #[.slice none 0 0, .int .i64 0] 62)) := ballocs (ballocs (bbox _) _) _
  have hF0 := ((Blk.new w 24 #[.int .i64 p]).alloc (.cells #[.slice T tn tc, .int .i64 ta] 62)).alloc (.cells #[.slice none 0 0, .int .i64 0] 62)
  have hB0 := (Blk.new (w.alloc (.cells #[.int .i64 p] 24)) 62 #[.slice T tn tc, .int .i64 ta]).alloc (.cells #[.slice none 0 0, .int .i64 0] 62)
  have hR0 := Blk.new ((w.alloc (.cells #[.int .i64 p] 24)).alloc (.cells #[.slice T tn tc, .int .i64 ta] 62)) 62 #[.slice none 0 0, .int .i64 0]
  simp only [World.size_alloc] at hB0 hR0
  have HO := Lib.hid hok
  have HSI := Lib.hid hz
  have HDE := Lib.hid hd
  have HTH : Hid (decide (0 ≤ m ∧ m ≤ 9) = true) := Lib.hid (decide_eq_true h.1)
  have h1 : ¬ n < 1 := by omega
  have h2 : ¬ p ≤ n := by omega
  have h2d : decide (n ≥ p) = false := decide_eq_false h2
  have h3 : ¬ 512 < n := by omega
  have hm9 : m ≤ 9 := h.1.2
  obtain ⟨dv, hdv⟩ : ∃ dv, drawsE ts tn ta p m = dv := ⟨_, rfl⟩
  have HDV := Lib.hid hdv
  have hdv0 : ¬ dv = 0 := by rw [← hdv]; exact hd
  rw [hdv]
  clear hok hz h hd hdv
  go_enter Try.func56, Try.ntmps56
  go_wp2_with (first
    | (go_at_call 118; refine (of_yes p _ HO.out).mono ?_; rintro e w1 ⟨rfl, hb1⟩
       have hbb1 := bnext hb0 hb1
       have hF1 := hF0.below hb1 hF0.lt
       have hB1 := hB0.below hb1 hB0.lt
       have hR1 := hR0.below hb1 hR0.lt
       have hf10 : w1.cell? ⟨w.heap.size, 0, none⟩ = some (.int .i64 p) := (hF1.cell 0).trans rfl
       have hb10 : w1.cell? ⟨w.heap.size + 1, 0, none⟩ = some (.slice T tn tc) := (hB1.cell 0).trans rfl
       have hb11 : w1.cell? ⟨w.heap.size + 1, 1, none⟩ = some (.int .i64 ta) := (hB1.cell 1).trans rfl
       have hr0 : w1.cell? ⟨w.heap.size + 1 + 1, 0, none⟩ = some (.slice none 0 0) := (hR1.cell 0).trans rfl
       have hr1 : w1.cell? ⟨w.heap.size + 1 + 1, 1, none⟩ = some (.int .i64 0) := (hR1.cell 1).trans rfl
       have hg0 := hR1.frozen 0
       have hg1 := hR1.frozen 1
       have hT1 := hT.upto hbb1
       clear hb1)
    | (go_at_call 123; (refine (has_any p z _).mono ?_); rintro e w' ⟨rfl, rfl⟩; rw [HSI.out])
    | (go_at_call 140; refine (threshold_any m _).mono ?_; rintro e w' ⟨rfl, rfl⟩; rw [HTH.out])
    | (go_at_call 115; refine (draws_any T tn tc ta p m ts _ hT1 (by omega)).mono ?_; rintro e w2 ⟨hN, _, hb2⟩
       obtain rfl := hN HDE.out
       rw [HDV.out]
       have hbb2 := bnext hbb1 hb2
       have hF2 := hF1.below hb2 hF1.lt
       have hB2 := hB1.below hb2 hB1.lt
       have hR2 := hR1.below hb2 hR1.lt
       have hb20 : w2.cell? ⟨w.heap.size + 1, 0, none⟩ = some (.slice T tn tc) := (hB2.cell 0).trans rfl
       have hb21 : w2.cell? ⟨w.heap.size + 1, 1, none⟩ = some (.int .i64 ta) := (hB2.cell 1).trans rfl
       have hz0 := hB2.frozen 0
       have hz1' := hB2.frozen 1
       have hrl := hR1.lt
       have hB3 := blk_two (v0 := .slice none 0 0) (v1 := .int .i64 0) hB2
       have hR3 := (hR2.far (p := ⟨w.heap.size + 1, 0, none⟩) (by simp) (.slice none 0 0)).far (p := ⟨w.heap.size + 1, 1, none⟩) (by simp) (.int .i64 0)
       have hr20 := (hR3.cell 0).trans rfl
       have hr21 := (hR3.cell 1).trans rfl
       have hg20 := hR3.frozen 0
       have hg21 := hR3.frozen 1
       have hbb3 := below_two hbb2 (g := w.heap.size + 1) (Nat.le_succ _) (.slice none 0 0) (.int .i64 0)
       clear hN hr0 hr1 hg0 hg1))
  have hR7 := blk_two (v0 := .slice none 0 0) (v1 := .int .i64 0) hR3
  have hy0 := (hR7.cell 0).trans rfl
  have hy1 := (hR7.cell 1).trans rfl
  have hbE := below_two hbb3 (g := w.heap.size + 1 + 1) (by omega) (.slice none 0 0) (.int .i64 0)
  exact bodyPost_ret (v := .tuple #[.slice none 0 0, .agg #[.slice none 0 0, .int .i64 0], .int .i64 dv]) (by simp [results, Try.results56, go_sem, hy0, hy1]) rfl ⟨rfl, hbE⟩

theorem draws_yes (T : Option Addr) (tn tc : Nat) (ta p : Int) (th : Nat) (ts : List Int) (w : World) (h : Ints w w.heap.size T tn ts) (hd : drawsE ts tn ta p th = 0) :
    Calls Try.prog 115 #[.agg #[.slice T tn tc, .int .i64 ta], .int .i64 p, .int .i64 th] w fun e w' => (∃ T' tc' D dc, e = .returned (.tuple #[.agg #[.slice T' tn tc', .int .i64 (ta + th)], .slice D th dc, .int .i64 0]) ∧ OwnI w' w.heap.size 3 T' tn tc' ts ∧ OwnI w' w.heap.size 3 D th dc ((ts.drop ta.toNat).take th)) ∧ Below w.heap.size w w' := by
  have h1 := drawn_of hd
  have h2 := validT_iff.1 h1.1
  have hl := h.len
  have h3 := (drawE_ok (th : Int).toNat ta.toNat (by omega)).1 h1.2.2.2
  refine (draws_any T tn tc ta p th ts w h (by rw [Int.toNat_natCast] at h3; omega)).mono ?_
  rintro e w' ⟨_, hy, hb⟩
  obtain ⟨A', c', D, dc, rfl, hA, hD⟩ := hy hd
  exact ⟨⟨A', c', D, dc, rfl, hA, hD⟩, hb⟩
set_option maxRecDepth 100000 in
set_option maxHeartbeats 1600000 in
theorem split_yes (p z : Int) (th cnt : Nat) (T : Option Addr) (tn tc0 : Nat) (ta : Int) (ts : List Int) (w : World) (hok : okP p = true) (hse : 0 ≤ z ∧ z < p) (hT : Ints w w.heap.size T tn ts) (hth : th ≤ 9) (hd : drawsE ts tn ta p th = 0)
    (hcnt : 1 ≤ cnt ∧ cnt ≤ 512) (hcp : (cnt : Int) < p) :
    Calls Try.prog 56 #[.agg #[.int .i64 p], .int .i64 z, .int .i64 th, .int .i64 cnt, .agg #[.slice T tn tc0, .int .i64 ta]] w fun e w' =>
      (∃ A' c' T' tc, e = .returned (.tuple #[.slice A' cnt c', .agg #[.slice T' tn tc, .int .i64 (ta + th)], .int .i64 0]) ∧ OwnS w' w.heap.size A' cnt c' (ptsL cnt) (valsP p (z :: ((ts.drop ta.toNat).take th)) (ptsL cnt)) ∧ OwnI w' w.heap.size 3 T' tn tc ts) ∧ Below w.heap.size w w' := by
  obtain ⟨i0, hi0, hz0, hz1, hz2⟩ := info_parts info_int
  have hp := okP_pos hok
  have HO := Lib.hid hok
  have HSI : Hid (inP p z = true) := Lib.hid (inP_iff.2 hse)
  have HTH : Hid (decide ((0 : Int) ≤ (th : Int) ∧ (th : Int) ≤ 9) = true) := Lib.hid (decide_eq_true (by omega))
  have HDE := Lib.hid hd
  have hda := drawn_all hT.len hd
  obtain ⟨dr, hdr⟩ : ∃ dr, (ts.drop ta.toNat).take th = dr := ⟨_, rfl⟩
  rw [hdr] at hda
  have HDR := Lib.hid hdr
  have HDP := Lib.hid hda.2
  have hdl := hda.1
  obtain ⟨at2, hat⟩ : ∃ a, ta + (th : Int) = a := ⟨_, rfl⟩
  have HAT := Lib.hid hat
  rw [hdr, hat]
  clear hda hat hd
  have hc1 : ¬ ((cnt : Int) < 1) := by omega
  have hc1N : ¬ cnt < 1 := by omega
  have hc2 : ¬ (p ≤ (cnt : Int)) := by omega
  have hc3 : ¬ ((512 : Int) < (cnt : Int)) := by omega
  have hc3N : ¬ 512 < cnt := by omega
  have hb0 : Below w.heap.size w (((w.alloc (.cells #[.int .i64 p] 24)).alloc (.cells #[.slice T tn tc0, .int .i64 ta] 62)).alloc (.cells #[.slice none 0 0, .int .i64 0] 62)) := ballocs (ballocs (bbox _) _) _
  have hF0 := ((Blk.new w 24 #[.int .i64 p]).alloc (.cells #[.slice T tn tc0, .int .i64 ta] 62)).alloc (.cells #[.slice none 0 0, .int .i64 0] 62)
  have hB0 := (Blk.new (w.alloc (.cells #[.int .i64 p] 24)) 62 #[.slice T tn tc0, .int .i64 ta]).alloc (.cells #[.slice none 0 0, .int .i64 0] 62)
  have hR0 := Blk.new ((w.alloc (.cells #[.int .i64 p] 24)).alloc (.cells #[.slice T tn tc0, .int .i64 ta] 62)) 62 #[.slice none 0 0, .int .i64 0]
  simp only [World.size_alloc] at hB0 hR0
  clear hok hdr
  go_enter Try.func56, Try.ntmps56
  go_wp2_with (first
    | (go_at_call 118; refine (of_yes p _ HO.out).mono ?_; rintro e w1 ⟨rfl, hb1⟩
       have hbb1 := bnext hb0 hb1
       have hF1 := hF0.below hb1 hF0.lt
       have hB1 := hB0.below hb1 hB0.lt
       have hR1 := hR0.below hb1 hR0.lt
       have hf10 : w1.cell? ⟨w.heap.size, 0, none⟩ = some (.int .i64 p) := (hF1.cell 0).trans rfl
       have hb10 : w1.cell? ⟨w.heap.size + 1, 0, none⟩ = some (.slice T tn tc0) := (hB1.cell 0).trans rfl
       have hb11 : w1.cell? ⟨w.heap.size + 1, 1, none⟩ = some (.int .i64 ta) := (hB1.cell 1).trans rfl
       have hT1 := hT.upto hbb1
       clear hb1)
    | (go_at_call 123; (refine (has_any p z _).mono ?_); rintro e w' ⟨rfl, rfl⟩; rw [HSI.out])
    | (go_at_call 140; refine (threshold_any th _).mono ?_; rintro e w' ⟨rfl, rfl⟩; rw [HTH.out])
    | (go_at_call 115; refine (draws_yes T tn tc0 ta p th ts _ hT1 HDE.out).mono ?_; rw [HAT.out, HDR.out]; rintro e w2 ⟨⟨T2, tc2, D, dc, rfl, hoT2, hoD2⟩, hb2⟩
       have hbb2 := bnext hbb1 hb2
       have hF2 := hF1.below hb2 hF1.lt
       have hB2 := hB1.below hb2 hB1.lt
       have hR2 := hR1.below hb2 hR1.lt
       have hb20 : w2.cell? ⟨w.heap.size + 1, 0, none⟩ = some (.slice T tn tc0) := (hB2.cell 0).trans rfl
       have hb21 : w2.cell? ⟨w.heap.size + 1, 1, none⟩ = some (.int .i64 ta) := (hB2.cell 1).trans rfl
       have hz0 := hB2.frozen 0
       have hz1' := hB2.frozen 1
       have hrl := hR1.lt))
  have hB3 := blk_two (v0 := .slice T2 tn tc2) (v1 := .int .i64 at2) hB2
  have hS3 := ((Step.refl (w.heap.size + 1) w2).set 0 (.slice T2 tn tc2)).set 1 (.int .i64 at2)
  have hR3 := Step.block hS3 hR2 (by omega)
  have hoD3 := (hoD2.step hS3 (by omega)).ints
  have hoT3 := hoT2.step hS3 (by omega)
  have hbb3 := below_two hbb2 (g := w.heap.size + 1) (Nat.le_succ _) (.slice T2 tn tc2) (.int .i64 at2)
  clear hb10 hb11 hb20 hb21 hf10 hz0 hz1' hB0 hB1 hB2 hF0 hF1 hF2 hR0 hR1 hR2 hb0 hbb1 hbb2 hS3 hoD2 hoT2 hb2 hT1
  generalize (w2.setCell ⟨w.heap.size + 1, 0, none⟩ (.slice T2 tn tc2)).setCell ⟨w.heap.size + 1, 1, none⟩ (.int .i64 at2) = w3 at *
  go_loopw [17, 67] (fun v17 v67 wz => ∃ (k : Nat) (L : Option Addr) (lc : Nat), k ≤ cnt ∧ v17 = .slice L k lc ∧ v67 = .int .i64 k ∧ OwnI wz w3.heap.size 3 L k lc (ptsL k) ∧ Below w3.heap.size w3 wz) (fun _ v67 _ => cnt - (intOf v67).toNat)
  case atStart => exact ⟨0, none, 0, Nat.zero_le _, rfl, rfl, OwnI.nil_, Below.refl _ _⟩
  case round =>
    obtain ⟨k, L, lc, hk, rfl, rfl, hoL, hbz⟩ := hrel
    by_cases hlt : k < cnt
    · have hkc : (k : Int) < (cnt : Int) := by omega
      have HPS := Lib.hid (ptsL_succ k)
      go_wp2_with (at_builtin
                   refine wpList_append_ints rfl _ _ _ rfl w3.heap.size 3 i0 _ Try.underlying22 hi0 hz0 hz1 hz2 rfl L k lc (ptsL k) rfl (hoL.alloc _) _ _ 1 1 [(k : Int) + 1] rfl (Ints.one _ _ _) (k + 1) rfl (ptsL k ++ [(k : Int) + 1]) rfl (by omega) (le_alloc hbz.size _) ?_
                   intro L2 lc2 w4 hoL2 _ hb4 _
                   have hbz4 := (hbz.alloc hbz.size (.cells #[.int .i64 ((k : Int) + 1)] 3)).trans hb4)
      go_roundw
      case rel => exact ⟨k + 1, L2, lc2, by omega, rfl, by go_num, by rw [HPS.out]; exact hoL2, hbz4⟩
      case measure => simp [intOf]; omega
    · obtain rfl : k = cnt := by omega
      have hBz := hB3.below hbz hB3.lt
      have hRz := hR3.below hbz hR3.lt
      have hbw := bnext hbb3 hbz
      have hDz := (hoD3.upto hbz).drew
      have hLz := hoL.ints.drew
      have hBl := hBz.lt
      have hRl := hRz.lt
      have hsr : wr.drew.cell? ⟨w.heap.size + 1, 0, none⟩ = some (.slice T2 tn tc2) ∧ wr.drew.cell? ⟨w.heap.size + 1, 1, none⟩ = some (.int .i64 at2) := ⟨(hBz.cell 0).trans rfl, (hBz.cell 1).trans rfl⟩
      have hbl : Below wr.heap.size wr.drew (wr.drew.alloc (.cells #[.int .i64 z] 3)) := (Below.refl wr.heap.size wr.drew).alloc (show wr.heap.size ≤ wr.drew.heap.size from Nat.le_refl _) _
      have HSK : Hid (∀ wx, Below wr.heap.size wr.drew wx → wx.cell? ⟨w.heap.size + 1, 0, none⟩ = some (.slice T2 tn tc2) ∧ wx.cell? ⟨w.heap.size + 1, 1, none⟩ = some (.int .i64 at2)) := Lib.hid fun wx hx => ⟨(((Blk.drew hBz).below hx hBl).cell 0).trans rfl, (((Blk.drew hBz).below hx hBl).cell 1).trans rfl⟩
      have hlit : OwnI (wr.drew.alloc (.cells #[.int .i64 z] 3)) wr.heap.size 3 (some ⟨wr.heap.size, 0, none⟩) 1 1 [z] := OwnI.made (Nat.le_refl _) (Blk.new wr.drew 3 #[.int .i64 z]) rfl (by unfold maxLen; omega)
      have HCA : Hid (allP p (z :: dr) = true) := Lib.hid (allP_iff.2 fun x hx => by
        rcases List.mem_cons.1 hx with h1 | h1
        · rw [h1]; exact hse
        · exact allP_iff.1 HDP.out x h1)
      have HPA := Lib.hid (ptsL_allP hcp)
      go_wp2_with fail
      go_region_held3 (fun w' => w'.cell? ⟨w.heap.size + 1, 0, none⟩ = some (.slice T2 tn tc2) ∧ w'.cell? ⟨w.heap.size + 1, 1, none⟩ = some (.int .i64 at2)) (first | exact hsr | exact HSK.out _ hbl | exact HSK.out _ hbl5 | exact HSK.out _ hbl6 | exact hs7)
        (first
          | ((refine step_append_ints (w := wr.drew.alloc (.cells #[.int .i64 z] 3)) rfl (.tmp 78) (.tmp 79) 22 rfl wr.heap.size 3 i0 _ Try.underlying22 hi0 hz0 hz1 hz2 rfl (some ⟨wr.heap.size, 0, none⟩) 1 1 [z] (by simp [Act.eval]) hlit wr.heap.size D th dc (dr) (by simp [Act.eval]) (hDz.below hbl) (1 + th) rfl (z :: dr) rfl (by omega) hbl.size ?_); intro A5 c5 w5 hown5 _ hb5
             have hbl5 := hbl.trans hb5
             have hL5 := (hLz.below hbl5).more hbl5.size)
          | (go_at_call 141; refine (shares_any p A5 L (1 + th) c5 k lc (z :: dr) (ptsL k) _ hp hown5.ints hL5 HCA.out HPA.out (by omega) (by omega)).mono ?_; rintro e w6 ⟨⟨A6, c6, rfl, hoS6⟩, hb6⟩
             have hbl6 := hbl5.trans (hb6.mono hbl5.size)
             have hR6 := (Blk.drew hRz).below hbl6 hRl
             have hr0 : w6.cell? ⟨w.heap.size + 1 + 1, 0, none⟩ = some (.slice none 0 0) := (hR6.cell 0).trans rfl
             have hr1 : w6.cell? ⟨w.heap.size + 1 + 1, 1, none⟩ = some (.int .i64 0) := (hR6.cell 1).trans rfl
             have hg0 := hR6.frozen 0
             have hg1 := hR6.frozen 1
             have hB6 := (Blk.drew hBz).below hbl6 hBl
             have hB7 := (hB6.far (p := ⟨w.heap.size + 1 + 1, 0, none⟩) (by simp) (.slice T2 tn tc2)).far (p := ⟨w.heap.size + 1 + 1, 1, none⟩) (by simp) (.int .i64 at2)
             have hs7 : ((w6.setCell ⟨w.heap.size + 1 + 1, 0, none⟩ (.slice T2 tn tc2)).setCell ⟨w.heap.size + 1 + 1, 1, none⟩ (.int .i64 at2)).cell? ⟨w.heap.size + 1, 0, none⟩ = some (.slice T2 tn tc2) ∧ ((w6.setCell ⟨w.heap.size + 1 + 1, 0, none⟩ (.slice T2 tn tc2)).setCell ⟨w.heap.size + 1 + 1, 1, none⟩ (.int .i64 at2)).cell? ⟨w.heap.size + 1, 1, none⟩ = some (.int .i64 at2) := ⟨(hB7.cell 0).trans rfl, (hB7.cell 1).trans rfl⟩))
      all_goals go_wp2
      all_goals have hR7 := blk_two (v0 := .slice T2 tn tc2) (v1 := .int .i64 at2) hR6
      all_goals have hy0 := (hR7.cell 0).trans rfl
      all_goals have hy1 := (hR7.cell 1).trans rfl
      all_goals have hwr := hbw.size
      all_goals have hl5 := hbl5.size
      all_goals have hl5' : wr.heap.size ≤ w5.heap.size := hl5
      all_goals have hoS7 := ((hoS6.step (((Step.refl (w.heap.size + 1 + 1) w6).set 0 (.slice T2 tn tc2)).set 1 (.int .i64 at2)) (by omega)).base (base' := w.heap.size) (by omega))
      all_goals have hoT7 := ((((hoT3.belowAll hbz).drew).belowAll hbl6).step (((Step.refl (w.heap.size + 1 + 1) w6).set 0 (.slice T2 tn tc2)).set 1 (.int .i64 at2)) (by omega)).base (base' := w.heap.size) (by omega)
      all_goals have hbE := below_two (hbw.drew.trans (hbl6.mono hbw.size)) (g := w.heap.size + 1 + 1) (by omega) (.slice T2 tn tc2) (.int .i64 at2)
      all_goals exact bodyPost_ret (v := .tuple #[.slice A6 k c6, .agg #[.slice T2 tn tc2, .int .i64 at2], .int .i64 0]) (by simp [results, Try.results56, go_sem, hy0, hy1]) rfl ⟨⟨A6, c6, T2, tc2, rfl, hoS7, hoT7⟩, hbE⟩


theorem split_all (p z m n : Int) (T : Option Addr) (tn tc : Nat) (ta : Int) (ts : List Int) (w : World) (hp64 : -9223372036854775808 ≤ p ∧ p ≤ 9223372036854775807) (hT : Ints w w.heap.size T tn ts) :
    Calls Try.prog 56 #[.agg #[.int .i64 p], .int .i64 z, .int .i64 m, .int .i64 n, .agg #[.slice T tn tc, .int .i64 ta]] w (SplPost p z m n tn ta ts w) := by
  by_cases h1 : okP p = true ∧ inP p z = true
  · by_cases h2 : (0 ≤ m ∧ m ≤ 9) ∧ 1 ≤ n ∧ n < p ∧ n ≤ 512
    · have e1 : splitE p z m n tn ta ts = drawsE ts tn ta p m := by unfold splitE; rw [if_pos h1, if_pos h2]
      by_cases h3 : drawsE ts tn ta p m = 0
      · obtain ⟨th, rfl⟩ : ∃ th : Nat, m = th := ⟨m.toNat, by omega⟩
        obtain ⟨cnt, rfl⟩ : ∃ c : Nat, n = c := ⟨n.toNat, by omega⟩
        refine (split_yes p z th cnt T tn tc ta ts w h1.1 (inP_iff.1 h1.2) hT (by omega) h3 (by omega) (by omega)).mono ?_
        rintro e w' ⟨⟨A', c', T', tc', rfl, hS, hO⟩, hb⟩
        exact .inr ⟨e1.trans h3, A', c', T', tc', rfl, hS, hO, hb⟩
      · refine (split_draw hT h1.1 h1.2 h2 h3).mono ?_
        rintro e w' ⟨rfl, hb⟩
        exact SplPost.bad e1 h3 hb
    · refine (split_range hT h1.1 h1.2 h2).mono ?_
      rintro e w' ⟨rfl, hb⟩
      exact SplPost.bad (by unfold splitE; rw [if_pos h1, if_neg h2]) (by omega) hb
  · refine (split_field hp64 hT h1).mono ?_
    rintro e w' ⟨rfl, hb⟩
    exact SplPost.bad (by unfold splitE; rw [if_neg h1]) (by omega) hb
end Go.Proofs.Ytoblofilaegnaaa
