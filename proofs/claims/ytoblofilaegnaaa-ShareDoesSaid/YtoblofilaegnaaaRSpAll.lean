/-
  What the second form's Split of a secret hands back for any arguments: the result, or the error. Conditions: the tape's list reads as its numbers.
-/
import Derived.Test.YtoblofilaegnaaaSpAll
import Derived.Test.YtoblofilaegnaaaRShAll
namespace Go.Proofs.Ytoblofilaegnaaa
open Go.RowKit
set_option linter.unusedVariables false


set_option maxRecDepth 100000 in
theorem rsplit_field {p z m n : Int} {T : Option Addr} {tn tc : Nat} {ta : Int} {ts : List Int} {w : World} (hT : Ints w w.heap.size T tn ts) (h : ¬ (okP p = true ∧ inP p z = true)) :
    Calls Try.prog 54 #[.agg #[.int .i64 p], .int .i64 z, .int .i64 m, .int .i64 n, .agg #[.slice T tn tc, .int .i64 ta]] w fun e w' => e = .returned (.tuple #[.slice none 0 0, .agg #[.slice none 0 0, .int .i64 0], .int .i64 9]) ∧ Below w.heap.size w w' := by
  have hb0 : Below w.heap.size w (((w.alloc (.cells #[.int .i64 p] 24)).alloc (.cells #[.slice T tn tc, .int .i64 ta] 62)).alloc (.cells #[.slice none 0 0, .int .i64 0] 62)) := ballocs (ballocs (bbox _) _) _
  have hF0 := ((Blk.new w 24 #[.int .i64 p]).alloc (.cells #[.slice T tn tc, .int .i64 ta] 62)).alloc (.cells #[.slice none 0 0, .int .i64 0] 62)
  have hB0 := (Blk.new (w.alloc (.cells #[.int .i64 p] 24)) 62 #[.slice T tn tc, .int .i64 ta]).alloc (.cells #[.slice none 0 0, .int .i64 0] 62)
  have hR0 := Blk.new ((w.alloc (.cells #[.int .i64 p] 24)).alloc (.cells #[.slice T tn tc, .int .i64 ta] 62)) 62 #[.slice none 0 0, .int .i64 0]
  simp only [World.size_alloc] at hB0 hR0
  have HIN : Hid (inF p [z] = false) := Lib.hid (inF_false.2 fun hok => by
    rw [← Bool.not_eq_true, allP_iff]
    intro ha
    exact h ⟨hok, inP_iff.2 (ha z List.mem_cons_self)⟩)
  clear h
  go_enter Try.func54, Try.ntmps54
  go_wp2_with (go_at_call 126; refine (in_any p _ 1 1 [z] _ (by exact Ints.oneAt _ z _ _ (by simp)) (by omega)).mono ?_; rintro e w1 ⟨rfl, hb1⟩; rw [HIN.out]
               have hbz1 : Below w.heap.size w ((((w.alloc (.cells #[.int .i64 p] 24)).alloc (.cells #[.slice T tn tc, .int .i64 ta] 62)).alloc (.cells #[.slice none 0 0, .int .i64 0] 62)).alloc (.cells #[.int .i64 z] 3)) := ballocs hb0 _
               have hbb1 := bnext hbz1 hb1
               have hF1 := (hF0.alloc (.cells #[.int .i64 z] 3)).below hb1 (by simp; omega)
               have hB1 := (hB0.alloc (.cells #[.int .i64 z] 3)).below hb1 (by simp)
               have hR1 := (hR0.alloc (.cells #[.int .i64 z] 3)).below hb1 (by simp)
               have hf10 : w1.cell? ⟨w.heap.size, 0, none⟩ = some (.int .i64 p) := (hF1.cell 0).trans rfl
               have hb10 : w1.cell? ⟨w.heap.size + 1, 0, none⟩ = some (.slice T tn tc) := (hB1.cell 0).trans rfl
               have hb11 : w1.cell? ⟨w.heap.size + 1, 1, none⟩ = some (.int .i64 ta) := (hB1.cell 1).trans rfl
               have hr0 : w1.cell? ⟨w.heap.size + 1 + 1, 0, none⟩ = some (.slice none 0 0) := (hR1.cell 0).trans rfl
               have hr1 : w1.cell? ⟨w.heap.size + 1 + 1, 1, none⟩ = some (.int .i64 0) := (hR1.cell 1).trans rfl
               have hg0 := hR1.frozen 0
               have hg1 := hR1.frozen 1
               have hT1 := hT.upto hbb1
               clear hb1 hbz1)
  have hR7 := blk_two (v0 := .slice none 0 0) (v1 := .int .i64 0) hR1
  have hy0 := (hR7.cell 0).trans rfl
  have hy1 := (hR7.cell 1).trans rfl
  have hbE := below_two hbb1 (g := w.heap.size + 1 + 1) (by omega) (.slice none 0 0) (.int .i64 0)
  exact bodyPost_ret (v := .tuple #[.slice none 0 0, .agg #[.slice none 0 0, .int .i64 0], .int .i64 9]) (by simp [results, Try.results54, go_sem, hy0, hy1]) rfl ⟨rfl, hbE⟩

set_option maxRecDepth 100000 in
theorem rsplit_range {p z m n : Int} {T : Option Addr} {tn tc : Nat} {ta : Int} {ts : List Int} {w : World} (hT : Ints w w.heap.size T tn ts) (hok : okP p = true) (hz : inP p z = true) (h : ¬ ((0 ≤ m ∧ m ≤ 9) ∧ 1 ≤ n ∧ n < p ∧ n ≤ 512)) :
    Calls Try.prog 54 #[.agg #[.int .i64 p], .int .i64 z, .int .i64 m, .int .i64 n, .agg #[.slice T tn tc, .int .i64 ta]] w fun e w' => e = .returned (.tuple #[.slice none 0 0, .agg #[.slice none 0 0, .int .i64 0], .int .i64 1]) ∧ Below w.heap.size w w' := by
  have hb0 : Below w.heap.size w (((w.alloc (.cells #[.int .i64 p] 24)).alloc (.cells #[.slice T tn tc, .int .i64 ta] 62)).alloc (.cells #[.slice none 0 0, .int .i64 0] 62)) := ballocs (ballocs (bbox _) _) _
  have hF0 := ((Blk.new w 24 #[.int .i64 p]).alloc (.cells #[.slice T tn tc, .int .i64 ta] 62)).alloc (.cells #[.slice none 0 0, .int .i64 0] 62)
  have hB0 := (Blk.new (w.alloc (.cells #[.int .i64 p] 24)) 62 #[.slice T tn tc, .int .i64 ta]).alloc (.cells #[.slice none 0 0, .int .i64 0] 62)
  have hR0 := Blk.new ((w.alloc (.cells #[.int .i64 p] 24)).alloc (.cells #[.slice T tn tc, .int .i64 ta] 62)) 62 #[.slice none 0 0, .int .i64 0]
  simp only [World.size_alloc] at hB0 hR0
  have hp := okP_pos hok
  have HIN : Hid (inF p [z] = true) := Lib.hid (inF_iff.2 ⟨hok, allP_iff.2 fun y hy => by rw [List.mem_singleton.1 hy]; exact inP_iff.1 hz⟩)
  have hpw : IntKind.i64.wrap (p - 1) = p - 1 := IntWalk.i64_in _ (by omega)
  clear hok hz
  by_cases h1 : m < 0
  · clear h
    go_enter Try.func54, Try.ntmps54
    go_wp2_with (go_at_call 126; refine (in_any p _ 1 1 [z] _ (by exact Ints.oneAt _ z _ _ (by simp)) (by omega)).mono ?_; rintro e w1 ⟨rfl, hb1⟩; rw [HIN.out]
                 have hbz1 : Below w.heap.size w ((((w.alloc (.cells #[.int .i64 p] 24)).alloc (.cells #[.slice T tn tc, .int .i64 ta] 62)).alloc (.cells #[.slice none 0 0, .int .i64 0] 62)).alloc (.cells #[.int .i64 z] 3)) := ballocs hb0 _
                 have hbb1 := bnext hbz1 hb1
                 have hF1 := (hF0.alloc (.cells #[.int .i64 z] 3)).below hb1 (by simp; omega)
                 have hB1 := (hB0.alloc (.cells #[.int .i64 z] 3)).below hb1 (by simp)
                 have hR1 := (hR0.alloc (.cells #[.int .i64 z] 3)).below hb1 (by simp)
                 have hf10 : w1.cell? ⟨w.heap.size, 0, none⟩ = some (.int .i64 p) := (hF1.cell 0).trans rfl
                 have hb10 : w1.cell? ⟨w.heap.size + 1, 0, none⟩ = some (.slice T tn tc) := (hB1.cell 0).trans rfl
                 have hb11 : w1.cell? ⟨w.heap.size + 1, 1, none⟩ = some (.int .i64 ta) := (hB1.cell 1).trans rfl
                 have hr0 : w1.cell? ⟨w.heap.size + 1 + 1, 0, none⟩ = some (.slice none 0 0) := (hR1.cell 0).trans rfl
                 have hr1 : w1.cell? ⟨w.heap.size + 1 + 1, 1, none⟩ = some (.int .i64 0) := (hR1.cell 1).trans rfl
                 have hg0 := hR1.frozen 0
                 have hg1 := hR1.frozen 1
                 have hT1 := hT.upto hbb1
                 clear hb1 hbz1)
    have hR7 := blk_two (v0 := .slice none 0 0) (v1 := .int .i64 0) hR1
    have hy0 := (hR7.cell 0).trans rfl
    have hy1 := (hR7.cell 1).trans rfl
    have hbE := below_two hbb1 (g := w.heap.size + 1 + 1) (by omega) (.slice none 0 0) (.int .i64 0)
    exact bodyPost_ret (v := .tuple #[.slice none 0 0, .agg #[.slice none 0 0, .int .i64 0], .int .i64 1]) (by simp [results, Try.results54, go_sem, hy0, hy1]) rfl ⟨rfl, hbE⟩
  · by_cases h2 : 9 < m
    · clear h
      go_enter Try.func54, Try.ntmps54
      go_wp2_with (go_at_call 126; refine (in_any p _ 1 1 [z] _ (by exact Ints.oneAt _ z _ _ (by simp)) (by omega)).mono ?_; rintro e w1 ⟨rfl, hb1⟩; rw [HIN.out]
                   have hbz1 : Below w.heap.size w ((((w.alloc (.cells #[.int .i64 p] 24)).alloc (.cells #[.slice T tn tc, .int .i64 ta] 62)).alloc (.cells #[.slice none 0 0, .int .i64 0] 62)).alloc (.cells #[.int .i64 z] 3)) := ballocs hb0 _
                   have hbb1 := bnext hbz1 hb1
                   have hF1 := (hF0.alloc (.cells #[.int .i64 z] 3)).below hb1 (by simp; omega)
                   have hB1 := (hB0.alloc (.cells #[.int .i64 z] 3)).below hb1 (by simp)
                   have hR1 := (hR0.alloc (.cells #[.int .i64 z] 3)).below hb1 (by simp)
                   have hf10 : w1.cell? ⟨w.heap.size, 0, none⟩ = some (.int .i64 p) := (hF1.cell 0).trans rfl
                   have hb10 : w1.cell? ⟨w.heap.size + 1, 0, none⟩ = some (.slice T tn tc) := (hB1.cell 0).trans rfl
                   have hb11 : w1.cell? ⟨w.heap.size + 1, 1, none⟩ = some (.int .i64 ta) := (hB1.cell 1).trans rfl
                   have hr0 : w1.cell? ⟨w.heap.size + 1 + 1, 0, none⟩ = some (.slice none 0 0) := (hR1.cell 0).trans rfl
                   have hr1 : w1.cell? ⟨w.heap.size + 1 + 1, 1, none⟩ = some (.int .i64 0) := (hR1.cell 1).trans rfl
                   have hg0 := hR1.frozen 0
                   have hg1 := hR1.frozen 1
                   have hT1 := hT.upto hbb1
                   clear hb1 hbz1)
      have hR7 := blk_two (v0 := .slice none 0 0) (v1 := .int .i64 0) hR1
      have hy0 := (hR7.cell 0).trans rfl
      have hy1 := (hR7.cell 1).trans rfl
      have hbE := below_two hbb1 (g := w.heap.size + 1 + 1) (by omega) (.slice none 0 0) (.int .i64 0)
      exact bodyPost_ret (v := .tuple #[.slice none 0 0, .agg #[.slice none 0 0, .int .i64 0], .int .i64 1]) (by simp [results, Try.results54, go_sem, hy0, hy1]) rfl ⟨rfl, hbE⟩
    · by_cases h3 : n < 1
      · clear h
        go_enter Try.func54, Try.ntmps54
        go_wp2_with (go_at_call 126; refine (in_any p _ 1 1 [z] _ (by exact Ints.oneAt _ z _ _ (by simp)) (by omega)).mono ?_; rintro e w1 ⟨rfl, hb1⟩; rw [HIN.out]
                     have hbz1 : Below w.heap.size w ((((w.alloc (.cells #[.int .i64 p] 24)).alloc (.cells #[.slice T tn tc, .int .i64 ta] 62)).alloc (.cells #[.slice none 0 0, .int .i64 0] 62)).alloc (.cells #[.int .i64 z] 3)) := ballocs hb0 _
                     have hbb1 := bnext hbz1 hb1
                     have hF1 := (hF0.alloc (.cells #[.int .i64 z] 3)).below hb1 (by simp; omega)
                     have hB1 := (hB0.alloc (.cells #[.int .i64 z] 3)).below hb1 (by simp)
                     have hR1 := (hR0.alloc (.cells #[.int .i64 z] 3)).below hb1 (by simp)
                     have hf10 : w1.cell? ⟨w.heap.size, 0, none⟩ = some (.int .i64 p) := (hF1.cell 0).trans rfl
                     have hb10 : w1.cell? ⟨w.heap.size + 1, 0, none⟩ = some (.slice T tn tc) := (hB1.cell 0).trans rfl
                     have hb11 : w1.cell? ⟨w.heap.size + 1, 1, none⟩ = some (.int .i64 ta) := (hB1.cell 1).trans rfl
                     have hr0 : w1.cell? ⟨w.heap.size + 1 + 1, 0, none⟩ = some (.slice none 0 0) := (hR1.cell 0).trans rfl
                     have hr1 : w1.cell? ⟨w.heap.size + 1 + 1, 1, none⟩ = some (.int .i64 0) := (hR1.cell 1).trans rfl
                     have hg0 := hR1.frozen 0
                     have hg1 := hR1.frozen 1
                     have hT1 := hT.upto hbb1
                     clear hb1 hbz1)
        have hR7 := blk_two (v0 := .slice none 0 0) (v1 := .int .i64 0) hR1
        have hy0 := (hR7.cell 0).trans rfl
        have hy1 := (hR7.cell 1).trans rfl
        have hbE := below_two hbb1 (g := w.heap.size + 1 + 1) (by omega) (.slice none 0 0) (.int .i64 0)
        exact bodyPost_ret (v := .tuple #[.slice none 0 0, .agg #[.slice none 0 0, .int .i64 0], .int .i64 1]) (by simp [results, Try.results54, go_sem, hy0, hy1]) rfl ⟨rfl, hbE⟩
      · by_cases h4 : p - 1 < n
        · clear h
          go_enter Try.func54, Try.ntmps54
          go_wp2_with (go_at_call 126; refine (in_any p _ 1 1 [z] _ (by exact Ints.oneAt _ z _ _ (by simp)) (by omega)).mono ?_; rintro e w1 ⟨rfl, hb1⟩; rw [HIN.out]
                       have hbz1 : Below w.heap.size w ((((w.alloc (.cells #[.int .i64 p] 24)).alloc (.cells #[.slice T tn tc, .int .i64 ta] 62)).alloc (.cells #[.slice none 0 0, .int .i64 0] 62)).alloc (.cells #[.int .i64 z] 3)) := ballocs hb0 _
                       have hbb1 := bnext hbz1 hb1
                       have hF1 := (hF0.alloc (.cells #[.int .i64 z] 3)).below hb1 (by simp; omega)
                       have hB1 := (hB0.alloc (.cells #[.int .i64 z] 3)).below hb1 (by simp)
                       have hR1 := (hR0.alloc (.cells #[.int .i64 z] 3)).below hb1 (by simp)
                       have hf10 : w1.cell? ⟨w.heap.size, 0, none⟩ = some (.int .i64 p) := (hF1.cell 0).trans rfl
                       have hb10 : w1.cell? ⟨w.heap.size + 1, 0, none⟩ = some (.slice T tn tc) := (hB1.cell 0).trans rfl
                       have hb11 : w1.cell? ⟨w.heap.size + 1, 1, none⟩ = some (.int .i64 ta) := (hB1.cell 1).trans rfl
                       have hr0 : w1.cell? ⟨w.heap.size + 1 + 1, 0, none⟩ = some (.slice none 0 0) := (hR1.cell 0).trans rfl
                       have hr1 : w1.cell? ⟨w.heap.size + 1 + 1, 1, none⟩ = some (.int .i64 0) := (hR1.cell 1).trans rfl
                       have hg0 := hR1.frozen 0
                       have hg1 := hR1.frozen 1
                       have hT1 := hT.upto hbb1
                       clear hb1 hbz1)
          have hR7 := blk_two (v0 := .slice none 0 0) (v1 := .int .i64 0) hR1
          have hy0 := (hR7.cell 0).trans rfl
          have hy1 := (hR7.cell 1).trans rfl
          have hbE := below_two hbb1 (g := w.heap.size + 1 + 1) (by omega) (.slice none 0 0) (.int .i64 0)
          exact bodyPost_ret (v := .tuple #[.slice none 0 0, .agg #[.slice none 0 0, .int .i64 0], .int .i64 1]) (by simp [results, Try.results54, go_sem, hy0, hy1]) rfl ⟨rfl, hbE⟩
        · have h5 : 512 < n := by omega
          clear h
          go_enter Try.func54, Try.ntmps54
          go_wp2_with (go_at_call 126; refine (in_any p _ 1 1 [z] _ (by exact Ints.oneAt _ z _ _ (by simp)) (by omega)).mono ?_; rintro e w1 ⟨rfl, hb1⟩; rw [HIN.out]
                       have hbz1 : Below w.heap.size w ((((w.alloc (.cells #[.int .i64 p] 24)).alloc (.cells #[.slice T tn tc, .int .i64 ta] 62)).alloc (.cells #[.slice none 0 0, .int .i64 0] 62)).alloc (.cells #[.int .i64 z] 3)) := ballocs hb0 _
                       have hbb1 := bnext hbz1 hb1
                       have hF1 := (hF0.alloc (.cells #[.int .i64 z] 3)).below hb1 (by simp; omega)
                       have hB1 := (hB0.alloc (.cells #[.int .i64 z] 3)).below hb1 (by simp)
                       have hR1 := (hR0.alloc (.cells #[.int .i64 z] 3)).below hb1 (by simp)
                       have hf10 : w1.cell? ⟨w.heap.size, 0, none⟩ = some (.int .i64 p) := (hF1.cell 0).trans rfl
                       have hb10 : w1.cell? ⟨w.heap.size + 1, 0, none⟩ = some (.slice T tn tc) := (hB1.cell 0).trans rfl
                       have hb11 : w1.cell? ⟨w.heap.size + 1, 1, none⟩ = some (.int .i64 ta) := (hB1.cell 1).trans rfl
                       have hr0 : w1.cell? ⟨w.heap.size + 1 + 1, 0, none⟩ = some (.slice none 0 0) := (hR1.cell 0).trans rfl
                       have hr1 : w1.cell? ⟨w.heap.size + 1 + 1, 1, none⟩ = some (.int .i64 0) := (hR1.cell 1).trans rfl
                       have hg0 := hR1.frozen 0
                       have hg1 := hR1.frozen 1
                       have hT1 := hT.upto hbb1
                       clear hb1 hbz1)
          have hR7 := blk_two (v0 := .slice none 0 0) (v1 := .int .i64 0) hR1
          have hy0 := (hR7.cell 0).trans rfl
          have hy1 := (hR7.cell 1).trans rfl
          have hbE := below_two hbb1 (g := w.heap.size + 1 + 1) (by omega) (.slice none 0 0) (.int .i64 0)
          exact bodyPost_ret (v := .tuple #[.slice none 0 0, .agg #[.slice none 0 0, .int .i64 0], .int .i64 1]) (by simp [results, Try.results54, go_sem, hy0, hy1]) rfl ⟨rfl, hbE⟩

set_option maxRecDepth 100000 in
theorem rsplit_draw {p z m n : Int} {T : Option Addr} {tn tc : Nat} {ta : Int} {ts : List Int} {w : World} (hT : Ints w w.heap.size T tn ts) (hok : okP p = true) (hz : inP p z = true) (h : (0 ≤ m ∧ m ≤ 9) ∧ 1 ≤ n ∧ n < p ∧ n ≤ 512) (hd : drawsE ts tn ta p m ≠ 0) :
    Calls Try.prog 54 #[.agg #[.int .i64 p], .int .i64 z, .int .i64 m, .int .i64 n, .agg #[.slice T tn tc, .int .i64 ta]] w fun e w' => e = .returned (.tuple #[.slice none 0 0, .agg #[.slice none 0 0, .int .i64 0], .int .i64 (drawsE ts tn ta p m)]) ∧ Below w.heap.size w w' := by
  have hb0 : Below w.heap.size w (((w.alloc (.cells #[.int .i64 p] 24)).alloc (.cells #[.slice T tn tc, .int .i64 ta] 62)).alloc (.cells #[.slice none 0 0, .int .i64 0] 62)) := ballocs (ballocs (bbox _) _) _
  have hF0 := ((Blk.new w 24 #[.int .i64 p]).alloc (.cells #[.slice T tn tc, .int .i64 ta] 62)).alloc (.cells #[.slice none 0 0, .int .i64 0] 62)
  have hB0 := (Blk.new (w.alloc (.cells #[.int .i64 p] 24)) 62 #[.slice T tn tc, .int .i64 ta]).alloc (.cells #[.slice none 0 0, .int .i64 0] 62)
  have hR0 := Blk.new ((w.alloc (.cells #[.int .i64 p] 24)).alloc (.cells #[.slice T tn tc, .int .i64 ta] 62)) 62 #[.slice none 0 0, .int .i64 0]
  simp only [World.size_alloc] at hB0 hR0
  have hp := okP_pos hok
  have HIN : Hid (inF p [z] = true) := Lib.hid (inF_iff.2 ⟨hok, allP_iff.2 fun y hy => by rw [List.mem_singleton.1 hy]; exact inP_iff.1 hz⟩)
  have hpw : IntKind.i64.wrap (p - 1) = p - 1 := IntWalk.i64_in _ (by omega)
  have HDE := Lib.hid hd
  have h1 : ¬ m < 0 := by omega
  have h2 : ¬ 9 < m := by omega
  have h3 : ¬ n < 1 := by omega
  have h4 : ¬ p - 1 < n := by omega
  have h5 : ¬ 512 < n := by omega
  have hm9 : m ≤ 9 := h.1.2
  obtain ⟨dv, hdv⟩ : ∃ dv, drawsE ts tn ta p m = dv := ⟨_, rfl⟩
  have HDV := Lib.hid hdv
  have hdv0 : ¬ dv = 0 := by rw [← hdv]; exact hd
  rw [hdv]
  clear hok hz h hd hdv
  go_enter Try.func54, Try.ntmps54
  go_wp2_with (first
    | (go_at_call 126; refine (in_any p _ 1 1 [z] _ (by exact Ints.oneAt _ z _ _ (by simp)) (by omega)).mono ?_; rintro e w1 ⟨rfl, hb1⟩; rw [HIN.out]
       have hbz1 : Below w.heap.size w ((((w.alloc (.cells #[.int .i64 p] 24)).alloc (.cells #[.slice T tn tc, .int .i64 ta] 62)).alloc (.cells #[.slice none 0 0, .int .i64 0] 62)).alloc (.cells #[.int .i64 z] 3)) := ballocs hb0 _
       have hbb1 := bnext hbz1 hb1
       have hF1 := (hF0.alloc (.cells #[.int .i64 z] 3)).below hb1 (by simp; omega)
       have hB1 := (hB0.alloc (.cells #[.int .i64 z] 3)).below hb1 (by simp)
       have hR1 := (hR0.alloc (.cells #[.int .i64 z] 3)).below hb1 (by simp)
       have hf10 : w1.cell? ⟨w.heap.size, 0, none⟩ = some (.int .i64 p) := (hF1.cell 0).trans rfl
       have hb10 : w1.cell? ⟨w.heap.size + 1, 0, none⟩ = some (.slice T tn tc) := (hB1.cell 0).trans rfl
       have hb11 : w1.cell? ⟨w.heap.size + 1, 1, none⟩ = some (.int .i64 ta) := (hB1.cell 1).trans rfl
       have hr0 : w1.cell? ⟨w.heap.size + 1 + 1, 0, none⟩ = some (.slice none 0 0) := (hR1.cell 0).trans rfl
       have hr1 : w1.cell? ⟨w.heap.size + 1 + 1, 1, none⟩ = some (.int .i64 0) := (hR1.cell 1).trans rfl
       have hg0 := hR1.frozen 0
       have hg1 := hR1.frozen 1
       have hT1 := hT.upto hbb1
       clear hb1 hbz1)
    | (go_at_call 116; refine (rdraws_any T tn tc ta p m ts _ hT1 (by omega)).mono ?_; rintro e w2 ⟨hN, _, hb2⟩
       obtain rfl := hN HDE.out
       rw [HDV.out]
       have hbb2 := bnext hbb1 hb2
       have hF2 := hF1.below hb2 hF1.lt
       have hB2 := hB1.below hb2 hB1.lt
       have hR2 := hR1.below hb2 hR1.lt
       have hb20 : w2.cell? ⟨w.heap.size + 1, 0, none⟩ = some (.slice T tn tc) := (hB2.cell 0).trans rfl
       have hb21 : w2.cell? ⟨w.heap.size + 1, 1, none⟩ = some (.int .i64 ta) := (hB2.cell 1).trans rfl
       have hz0 := hB2.frozen 0
       have hz1' := hB2.frozen 1
       have hrl := hR1.lt
       have hR3 := (hR2.far (p := ⟨w.heap.size + 1, 0, none⟩) (by simp) (.slice none 0 0)).far (p := ⟨w.heap.size + 1, 1, none⟩) (by simp) (.int .i64 0)
       have hr20 := (hR3.cell 0).trans rfl
       have hr21 := (hR3.cell 1).trans rfl
       have hg20 := hR3.frozen 0
       have hg21 := hR3.frozen 1
       have hbb3 := below_two hbb2 (g := w.heap.size + 1) (Nat.le_succ _) (.slice none 0 0) (.int .i64 0)
       clear hN hr0 hr1 hg0 hg1))
  have hR7 := blk_two (v0 := .slice none 0 0) (v1 := .int .i64 0) hR3
  have hy0 := (hR7.cell 0).trans rfl
  have hy1 := (hR7.cell 1).trans rfl
  have hbE := below_two hbb3 (g := w.heap.size + 1 + 1) (by omega) (.slice none 0 0) (.int .i64 0)
  exact bodyPost_ret (v := .tuple #[.slice none 0 0, .agg #[.slice none 0 0, .int .i64 0], .int .i64 dv]) (by simp [results, Try.results54, go_sem, hy0, hy1]) rfl ⟨rfl, hbE⟩

theorem rdraws_yes (T : Option Addr) (tn tc : Nat) (ta p : Int) (th : Nat) (ts : List Int) (w : World) (h : Ints w w.heap.size T tn ts) (hd : drawsE ts tn ta p th = 0) :
    Calls Try.prog 116 #[.agg #[.slice T tn tc, .int .i64 ta], .int .i64 p, .int .i64 th] w fun e w' => (∃ T' tc' D dc, e = .returned (.tuple #[.agg #[.slice T' tn tc', .int .i64 (ta + th)], .slice D th dc, .int .i64 0]) ∧ OwnI w' w.heap.size 3 T' tn tc' ts ∧ OwnI w' w.heap.size 3 D th dc ((ts.drop ta.toNat).take th)) ∧ Below w.heap.size w w' := by
  have h1 := drawn_of hd
  have h2 := validT_iff.1 h1.1
  have hl := h.len
  have h3 := (drawE_ok (th : Int).toNat ta.toNat (by omega)).1 h1.2.2.2
  refine (rdraws_any T tn tc ta p th ts w h (by rw [Int.toNat_natCast] at h3; omega)).mono ?_
  rintro e w' ⟨_, hy, hb⟩
  obtain ⟨A', c', D, dc, rfl, hA, hD⟩ := hy hd
  exact ⟨⟨A', c', D, dc, rfl, hA, hD⟩, hb⟩
set_option maxRecDepth 100000 in
set_option maxHeartbeats 3200000 in
theorem rsplit_yes (p z : Int) (th cnt : Nat) (T : Option Addr) (tn tc : Nat) (ta : Int) (ts : List Int) (w : World) (hok : okP p = true) (hz : inP p z = true) (hT : Ints w w.heap.size T tn ts) (hth : th ≤ 9) (hd : drawsE ts tn ta p th = 0)
    (hcnt : 1 ≤ cnt ∧ cnt ≤ 512) (hcp : (cnt : Int) < p) :
    Calls Try.prog 54 #[.agg #[.int .i64 p], .int .i64 z, .int .i64 th, .int .i64 cnt, .agg #[.slice T tn tc, .int .i64 ta]] w fun e w' =>
      (∃ A' c' T' tc, e = .returned (.tuple #[.slice A' cnt c', .agg #[.slice T' tn tc, .int .i64 (ta + th)], .int .i64 0]) ∧ OwnS w' w.heap.size A' cnt c' (ptsL cnt) (valsP p (z :: ((ts.drop ta.toNat).take th)) (ptsL cnt)) ∧ OwnI w' w.heap.size 3 T' tn tc ts) ∧ Below w.heap.size w w' := by
  have hb0 : Below w.heap.size w (((w.alloc (.cells #[.int .i64 p] 24)).alloc (.cells #[.slice T tn tc, .int .i64 ta] 62)).alloc (.cells #[.slice none 0 0, .int .i64 0] 62)) := ballocs (ballocs (bbox _) _) _
  have hF0 := ((Blk.new w 24 #[.int .i64 p]).alloc (.cells #[.slice T tn tc, .int .i64 ta] 62)).alloc (.cells #[.slice none 0 0, .int .i64 0] 62)
  have hB0 := (Blk.new (w.alloc (.cells #[.int .i64 p] 24)) 62 #[.slice T tn tc, .int .i64 ta]).alloc (.cells #[.slice none 0 0, .int .i64 0] 62)
  have hR0 := Blk.new ((w.alloc (.cells #[.int .i64 p] 24)).alloc (.cells #[.slice T tn tc, .int .i64 ta] 62)) 62 #[.slice none 0 0, .int .i64 0]
  simp only [World.size_alloc] at hB0 hR0
  obtain ⟨i0, hi0, hz0i, hz1, hz2⟩ := info_parts info_int
  have hp := okP_pos hok
  have HIN : Hid (inF p [z] = true) := Lib.hid (inF_iff.2 ⟨hok, allP_iff.2 fun y hy => by rw [List.mem_singleton.1 hy]; exact inP_iff.1 hz⟩)
  have hpw : IntKind.i64.wrap (p - 1) = p - 1 := IntWalk.i64_in _ (by omega)
  have HOK := Lib.hid hok
  have HDE := Lib.hid hd
  have hda := drawn_all hT.len hd
  obtain ⟨dr, hdr⟩ : ∃ dr, (ts.drop ta.toNat).take th = dr := ⟨_, rfl⟩
  rw [hdr] at hda
  have HDR := Lib.hid hdr
  have hdl := hda.1
  have HCA : Hid (allP p (z :: dr) = true) := Lib.hid (allP_iff.2 fun x hx => by
    rcases List.mem_cons.1 hx with h1 | h1
    · rw [h1]; exact inP_iff.1 hz
    · exact allP_iff.1 hda.2 x h1)
  have HCL : Hid ((z :: dr).length = 1 + th) := Lib.hid (by simp [hdl]; omega)
  obtain ⟨at2, hat⟩ : ∃ a, ta + (th : Int) = a := ⟨_, rfl⟩
  have HAT := Lib.hid hat
  have h1 : ¬ (th : Int) < 0 := by omega
  have h2 : ¬ (9 : Int) < (th : Int) := by omega
  have h3 : ¬ (cnt : Int) < 1 := by omega
  have h4 : ¬ p - 1 < (cnt : Int) := by omega
  have h5 : ¬ (512 : Int) < (cnt : Int) := by omega
  rw [hdr, hat]
  clear hok hz hd hda hat hdr
  go_enter Try.func54, Try.ntmps54
  go_upto_region 8 with (first
    | (go_at_call 126; refine (in_any p _ 1 1 [z] _ (by exact Ints.oneAt _ z _ _ (by simp)) (by omega)).mono ?_; rintro e w1 ⟨rfl, hb1⟩; rw [HIN.out]
       have hbz1 : Below w.heap.size w ((((w.alloc (.cells #[.int .i64 p] 24)).alloc (.cells #[.slice T tn tc, .int .i64 ta] 62)).alloc (.cells #[.slice none 0 0, .int .i64 0] 62)).alloc (.cells #[.int .i64 z] 3)) := ballocs hb0 _
       have hbb1 := bnext hbz1 hb1
       have hF1 := (hF0.alloc (.cells #[.int .i64 z] 3)).below hb1 (by simp; omega)
       have hB1 := (hB0.alloc (.cells #[.int .i64 z] 3)).below hb1 (by simp)
       have hR1 := (hR0.alloc (.cells #[.int .i64 z] 3)).below hb1 (by simp)
       have hf10 : w1.cell? ⟨w.heap.size, 0, none⟩ = some (.int .i64 p) := (hF1.cell 0).trans rfl
       have hb10 : w1.cell? ⟨w.heap.size + 1, 0, none⟩ = some (.slice T tn tc) := (hB1.cell 0).trans rfl
       have hb11 : w1.cell? ⟨w.heap.size + 1, 1, none⟩ = some (.int .i64 ta) := (hB1.cell 1).trans rfl
       have hr0 : w1.cell? ⟨w.heap.size + 1 + 1, 0, none⟩ = some (.slice none 0 0) := (hR1.cell 0).trans rfl
       have hr1 : w1.cell? ⟨w.heap.size + 1 + 1, 1, none⟩ = some (.int .i64 0) := (hR1.cell 1).trans rfl
       have hg0 := hR1.frozen 0
       have hg1 := hR1.frozen 1
       have hT1 := hT.upto hbb1
       clear hb1 hbz1)
    | (go_at_call 116; refine (rdraws_yes T tn tc ta p th ts _ hT1 HDE.out).mono ?_; rw [HAT.out, HDR.out]; rintro e w2 ⟨⟨T2, tc2, D, dc, rfl, hoT2, hoD2⟩, hb2⟩
       have hbb2 := bnext hbb1 hb2
       have hF2 := hF1.below hb2 hF1.lt
       have hB2 := hB1.below hb2 hB1.lt
       have hR2 := hR1.below hb2 hR1.lt
       have hb20 : w2.cell? ⟨w.heap.size + 1, 0, none⟩ = some (.slice T tn tc) := (hB2.cell 0).trans rfl
       have hb21 : w2.cell? ⟨w.heap.size + 1, 1, none⟩ = some (.int .i64 ta) := (hB2.cell 1).trans rfl
       have hz0 := hB2.frozen 0
       have hz1' := hB2.frozen 1
       have hrl := hR1.lt
       have hS3 := ((Step.refl (w.heap.size + 1) w2).set 0 (.slice T2 tn tc2)).set 1 (.int .i64 at2)
       have hB3 := blk_two (v0 := .slice T2 tn tc2) (v1 := .int .i64 at2) hB2
       have hF3 := Step.block hS3 hF2 (by omega)
       have hR3 := Step.block hS3 hR2 (by omega)
       have hoD3 := (hoD2.step hS3 (by omega)).ints
       have hoT3 := hoT2.step hS3 (by omega)
       have hbb3 := below_two hbb2 (g := w.heap.size + 1) (Nat.le_succ _) (.slice T2 tn tc2) (.int .i64 at2)
       clear hr0 hr1 hg0 hg1 hb10 hb11 hf10 hoD2 hoT2 hb2 hT1 hB1 hB2 hF1 hF2 hR1 hR2))
  obtain ⟨W3, hW3⟩ : ∃ W3, (w2.setCell ⟨w.heap.size + 1, 0, none⟩ (.slice T2 tn tc2)).setCell ⟨w.heap.size + 1, 1, none⟩ (.int .i64 at2) = W3 := ⟨_, rfl⟩
  rw [hW3] at hB3 hS3 hF3 hR3 hoD3 hoT3 hbb3 ⊢
  have hD3 := hoD3.upto (bbox (.cells #[.int .i64 z] 3))
  have hlit : OwnI (W3.alloc (.cells #[.int .i64 z] 3)) W3.heap.size 3 (some ⟨W3.heap.size, 0, none⟩) 1 1 [z] := OwnI.made (Nat.le_refl _) (Blk.new W3 3 #[.int .i64 z]) rfl (by unfold maxLen; omega)
  have hbl : Below W3.heap.size W3 (W3.alloc (.cells #[.int .i64 z] 3)) := bbox _
  have hWl := hbb3.size
  clear hb20 hb21 hz0 hz1' hW3 hoD3 hS3 hb0 hF0 hB0 hR0 hbb1 hbb2
  go_upto_region 9 with (at_builtin
                         refine wpList_append_ints rfl _ _ _ rfl W3.heap.size 3 i0 _ Try.underlying22 hi0 hz0i hz1 hz2 rfl (some ⟨W3.heap.size, 0, none⟩) 1 1 [z] rfl hlit _ D th dc dr rfl hD3 (1 + th) rfl (z :: dr) rfl (by omega) (by simp) ?_
                         intro A5 c5 w5 hown5 _ hb5 _
                         have HO5 := Lib.hid hown5
                         have hbl5 := hbl.trans hb5
                         clear hown5 hb5)
  have hF5 := hF3.below hbl5 hF3.lt
  have hB5 := hB3.below hbl5 hB3.lt
  have hR5 := hR3.below hbl5 hR3.lt
  have hT5 := hoT3.belowAll hbl5
  have hbb5 := bnext hbb3 hbl5
  have hI5 := HO5.out.ints
  clear hF3 hB3 hR3 hoT3 hbb3 hlit hD3 hbl hbl5 hWl
  go_wp2_with fail
  go_loopw [16, 17] (fun v16 v17 wz => ∃ (k : Nat) (L : Option Addr) (lc : Nat), k ≤ cnt ∧ v16 = .slice L k lc ∧ v17 = .int .i64 ((k : Int) + 1) ∧ OwnS wz w5.heap.size L k lc (ptsL k) (valsP p (z :: dr) (ptsL k)) ∧ Below w5.heap.size w5 wz) (fun _ v17 _ => cnt + 1 - (intOf v17).toNat)
  case atStart => exact ⟨0, none, 0, Nat.zero_le _, rfl, rfl, OwnS.nil_, Below.refl _ _⟩
  case round =>
    obtain ⟨k, L, lc, hk, rfl, rfl, hoS, hbz⟩ := hrel
    have hFz := hF5.below hbz hF5.lt
    by_cases hlt : k < cnt
    · have hkc : (k : Int) + 1 ≤ (cnt : Int) := by omega
      have hxe : 0 ≤ (k : Int) + 1 ∧ (k : Int) + 1 < p := by omega
      have HPS := Lib.hid (ptsL_succ k)
      obtain ⟨x, hx⟩ : ∃ x, (k : Int) + 1 = x := ⟨_, rfl⟩
      have hxw : IntKind.i64.wrap (x + 1) = x + 1 := IntWalk.i64_in _ (by omega)
      have hx2 : x + 1 = ((k + 1 : Nat) : Int) + 1 := by omega
      rw [hx] at hkc hxe HPS ⊢
      obtain ⟨v, HV⟩ : ∃ v, Hid (valueP p x (z :: dr) = v) := ⟨_, Lib.hid rfl⟩
      have HTV : Hid (valsP p (z :: dr) (ptsL (k + 1)) = valsP p (z :: dr) (ptsL k) ++ [v]) := Lib.hid (by rw [HPS.out, valsP_snoc, HV.out])
      have HNR : Hid (numR (errL p [z :: dr, [x]]) (valueP p x (z :: dr)) = (v, 0)) := Lib.hid (by rw [numR_yes _ (errL_val HOK.out HCA.out hxe (by rw [HCL.out]; omega)), HV.out])
      have hcf : wr.cell? ⟨w.heap.size, 0, none⟩ = some (.int .i64 p) := (hFz.cell 0).trans rfl
      have hIz := hI5.upto hbz
      have HX := Lib.hid hx
      clear hx
      go_wp2_with (first
        | (go_at_call 47; refine (rValue_all p x A5 (1 + th) c5 (z :: dr) _ hIz (by omega)).mono ?_; rw [HNR.out]; rintro e w8 ⟨rfl, hb8⟩
           have hbz8 := bnext hbz hb8
           have hS9 := (hoS.belowAll hb8).belowAll (bbox (.cells #[.int .i64 x, .int .i64 v] 52))
           have hN9 := Blk.new w8 52 #[.int .i64 x, .int .i64 v]
           have hbz9 := ballocs hbz8 (.cells #[.int .i64 x, .int .i64 v] 52))
        | (at_builtin
           refine wpList_append_share rfl _ _ 50 rfl Try.underlying50 w5.heap.size L k lc (ptsL k) _ rfl hS9 w8.heap.size 1 x v rfl ((hN9.cell 0).trans rfl) ((hN9.cell 1).trans rfl) (by omega) hbz9.size ?_
           intro L2 lc2 w10 hS10 hb10
           have hbz10 := hbz9.trans hb10))
      go_roundw
      case rel => exact ⟨k + 1, L2, lc2, by omega, rfl, by rw [show ((k + 1 : Nat) : Int) + 1 = (k : Int) + 1 + 1 by omega], by rw [HTV.out, HPS.out]; exact hS10, hbz10⟩
      case measure => simp [intOf]; have := HX.out; omega
    · obtain rfl : k = cnt := by omega
      have hkc : ¬ (k : Int) + 1 ≤ (k : Int) := by omega
      have hBz := hB5.below hbz hB5.lt
      have hRz := hR5.below hbz hR5.lt
      have hbw := bnext hbb5 hbz
      have hTz := hT5.belowAll hbz
      have hm0 : wr.cell? ⟨w.heap.size + 1, 0, none⟩ = some (.slice T2 tn tc2) := (hBz.cell 0).trans rfl
      have hm1 : wr.cell? ⟨w.heap.size + 1, 1, none⟩ = some (.int .i64 at2) := (hBz.cell 1).trans rfl
      have hr0 : wr.cell? ⟨w.heap.size + 1 + 1, 0, none⟩ = some (.slice none 0 0) := (hRz.cell 0).trans rfl
      have hr1 : wr.cell? ⟨w.heap.size + 1 + 1, 1, none⟩ = some (.int .i64 0) := (hRz.cell 1).trans rfl
      have hg0 := hRz.frozen 0
      have hg1 := hRz.frozen 1
      have hR7 := blk_two (v0 := .slice T2 tn tc2) (v1 := .int .i64 at2) hRz
      have hy0 := (hR7.cell 0).trans rfl
      have hy1 := (hR7.cell 1).trans rfl
      have hbE := (below_two hbw (g := w.heap.size + 1 + 1) (by omega) (.slice T2 tn tc2) (.int .i64 at2)).drew
      have hS7 := ((Step.refl (w.heap.size + 1 + 1) wr).set 0 (.slice T2 tn tc2)).set 1 (.int .i64 at2)
      have hw5 := hbb5.size
      have hR5l := hR5.lt
      have hoS7 := (hoS.step hS7 (by omega)).base (base' := w.heap.size) (by omega)
      have hoT7 := (hTz.step hS7 (by have := hrl; have := hR5l; omega)).base (base' := w.heap.size) (by omega)
      go_wp2_with fail
      go_region
      go_wp2
      exact bodyPost_ret (v := .tuple #[.slice L k lc, .agg #[.slice T2 tn tc2, .int .i64 at2], .int .i64 0]) (by simp [results, Try.results54, go_sem, hy0, hy1]) rfl ⟨⟨L, lc, T2, tc2, rfl, hoS7, hoT7⟩, hbE⟩

theorem rsplit_all (p z m n : Int) (T : Option Addr) (tn tc : Nat) (ta : Int) (ts : List Int) (w : World) (hT : Ints w w.heap.size T tn ts) :
    Calls Try.prog 54 #[.agg #[.int .i64 p], .int .i64 z, .int .i64 m, .int .i64 n, .agg #[.slice T tn tc, .int .i64 ta]] w (SplPost p z m n tn ta ts w) := by
  by_cases h1 : okP p = true ∧ inP p z = true
  · by_cases h2 : (0 ≤ m ∧ m ≤ 9) ∧ 1 ≤ n ∧ n < p ∧ n ≤ 512
    · have e1 : splitE p z m n tn ta ts = drawsE ts tn ta p m := by unfold splitE; rw [if_pos h1, if_pos h2]
      by_cases h3 : drawsE ts tn ta p m = 0
      · obtain ⟨th, rfl⟩ : ∃ th : Nat, m = th := ⟨m.toNat, by omega⟩
        obtain ⟨cnt, rfl⟩ : ∃ c : Nat, n = c := ⟨n.toNat, by omega⟩
        refine (rsplit_yes p z th cnt T tn tc ta ts w h1.1 h1.2 hT (by omega) h3 (by omega) (by omega)).mono ?_
        rintro e w' ⟨⟨A', c', T', tc', rfl, hS, hO⟩, hb⟩
        exact .inr ⟨e1.trans h3, A', c', T', tc', rfl, hS, hO, hb⟩
      · refine (rsplit_draw hT h1.1 h1.2 h2 h3).mono ?_
        rintro e w' ⟨rfl, hb⟩
        exact SplPost.bad e1 h3 hb
    · refine (rsplit_range hT h1.1 h1.2 h2).mono ?_
      rintro e w' ⟨rfl, hb⟩
      exact SplPost.bad (by unfold splitE; rw [if_pos h1, if_neg h2]) (by omega) hb
  · refine (rsplit_field hT h1).mono ?_
    rintro e w' ⟨rfl, hb⟩
    exact SplPost.bad (by unfold splitE; rw [if_neg h1]) (by omega) hb
end Go.Proofs.Ytoblofilaegnaaa
