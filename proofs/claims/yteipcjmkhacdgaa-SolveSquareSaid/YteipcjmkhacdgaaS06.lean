/-
  The sanity check of the statements about solve: the chapter's example. No conditions.
-/
import Derived.Test.YteipcjmkhacdgaaSolvB
import Derived.Test.YteipcjmkhacdgaaSolvC
import Derived.Test.YteipcjmkhacdgaaSolvD
import Derived.Test.YteipcjmkhacdgaaEqS
import Derived.Test.YteipcjmkhacdgaaSame
namespace Go.Proofs.Yteipcjmkhacdgaa
open Go.RowKit
set_option linter.unusedVariables false

theorem ex_eqW (w : World) : EqW (((w.alloc (.cells #[.int .i64 1, .int .i64 2] 3)).alloc (.cells #[.int .i64 3] 3)).alloc (.cells #[.int .i64 5, .int .i64 1, .int .i64 2, .slice (some ⟨w.heap.size, 0, none⟩) 2 2, .slice (some ⟨w.heap.size + 1, 0, none⟩) 1 1] 30)) 5 1 2 2 (some ⟨w.heap.size, 0, none⟩) 2 (some ⟨w.heap.size + 1, 0, none⟩) 1 [1, 2] [3] := by
  refine ⟨ex_ok, rfl, ?_, ?_, Nat.le_refl _⟩
  · exact ((Ints.lit w _ [1, 2] 3 2 _ rfl rfl rfl).upto (bbox _)).upto (bbox _)
  · exact (Ints.lit (w.alloc (.cells #[.int .i64 1, .int .i64 2] 3)) _ [3] 3 1 _ (by simp) rfl rfl).upto (bbox _)

section
variable {w : World} {C D : Option Addr}
theorem ex_solve_call (h : EqW w 5 1 2 2 C 2 D 1 [1, 2] [3]) : Calls Try.prog 15 #[.agg #[.int .i64 5, .int .i64 1, .int .i64 2, .slice C 2 2, .slice D 1 1]] w fun e w' => (∃ g, e = .returned (.tuple #[.slice (some ⟨g, 0, none⟩) 2 2, .int .i64 0]) ∧ OwnI w' w.heap.size 3 (some ⟨g, 0, none⟩) 2 2 [3, 0]) ∧ Below w.heap.size w w' := by
  refine Calls.mono (solve_ok h) ?_
  rintro e w2 ⟨hP, hb2⟩
  refine ⟨?_, hb2⟩
  rcases hP with ⟨h0, _⟩ | ⟨g, x, h0, h1, h2⟩
  · exact absurd (ex_solve h0) (by simp)
  · have h3 := ex_solve h0
    injection h3 with h3
    subst h3
    exact ⟨g, h1, h2⟩
theorem ex_kern_call (h : EqW w 5 1 2 2 C 2 D 1 [1, 2] [3]) : Calls Try.prog 23 #[.agg #[.int .i64 5, .int .i64 1, .int .i64 2, .slice C 2 2, .slice D 1 1]] w fun e w' => (∃ b o A c d, e = .returned (.tuple #[.slice (some ⟨b, o, none⟩) 1 c, .int .i64 0]) ∧ w'.cell? ⟨b, o, none⟩ = some (.slice A 2 d) ∧ b < w'.heap.size ∧ Ints w' w'.heap.size A 2 [3, 1]) ∧ Below w.heap.size w w' := by
  refine Calls.mono (kern_ok h) ?_
  rintro e w3 ⟨A3, n3, c3, rows3, rfl, hM3, hK3, _, hb3⟩
  refine ⟨?_, hb3⟩
  obtain rfl := ex_kern hK3
  obtain rfl : n3 = 1 := hM3.len.symm
  obtain ⟨b, o, A, n, c, hA, _, hb, hc, hn, hI, _⟩ := (hM3.mat (Nat.le_refl _)).at_ (j := 0) (by omega)
  obtain rfl : n = 2 := hI.len.symm
  subst hA
  exact ⟨b, o, A, c3, c, rfl, hc, hb, hI⟩
theorem ex_count_call (h : EqW w 5 1 2 2 C 2 D 1 [1, 2] [3]) : Calls Try.prog 16 #[.agg #[.int .i64 5, .int .i64 1, .int .i64 2, .slice C 2 2, .slice D 1 1]] w fun e w' => e = .returned (.tuple #[.int .i64 5, .int .i64 0]) ∧ Below w.heap.size w w' := by
  refine Calls.mono (count_ok h) ?_
  rintro e w4 ⟨⟨v4, hC4, rfl⟩, hb4⟩
  obtain rfl := ex_count hC4
  exact ⟨rfl, hb4⟩
end

set_option maxHeartbeats 800000 in
set_option maxRecDepth 100000 in
theorem sane06_any (w : World) : Calls Try.prog 9 #[] w fun e w' => e = .returned (.bool true) ∧ Below w.heap.size w w' := by
  have hb0 : Below w.heap.size w (((w.alloc (.cells #[.int .i64 1, .int .i64 2] 3)).alloc (.cells #[.int .i64 3] 3)).alloc (.cells #[.int .i64 5, .int .i64 1, .int .i64 2, .slice (some ⟨w.heap.size, 0, none⟩) 2 2, .slice (some ⟨w.heap.size + 1, 0, none⟩) 1 1] 30)) := ballocs (ballocs (bbox _) _) _
  have hE0 := ex_eqW w
  have hB0 := Blk.new ((w.alloc (.cells #[.int .i64 1, .int .i64 2] 3)).alloc (.cells #[.int .i64 3] 3)) 30 #[.int .i64 5, .int .i64 1, .int .i64 2, .slice (some ⟨w.heap.size, 0, none⟩) 2 2, .slice (some ⟨w.heap.size + 1, 0, none⟩) 1 1]
  have hsz : ((w.alloc (.cells #[.int .i64 1, .int .i64 2] 3)).alloc (.cells #[.int .i64 3] 3)).heap.size = w.heap.size + 2 := by simp
  rw [hsz] at hB0
  go_enter Try.func9, Try.ntmps9
  go_wp2_with (first
    | (go_at_call 15; refine (ex_solve_call hE0).mono ?_; rintro e w2 ⟨⟨g1, rfl, hown1⟩, hb2⟩
       have hE2 := hE0.upto hb2
       have hB2 := hB0.below hb2 (by simp)
       have hbb2 := bnext hb0 hb2
       have ha0 : w2.cell? ⟨w.heap.size + 2, 0, none⟩ = some (.int .i64 5) := (hB2.cell 0).trans rfl
       have ha1 : w2.cell? ⟨w.heap.size + 2, 1, none⟩ = some (.int .i64 1) := (hB2.cell 1).trans rfl
       have ha2 : w2.cell? ⟨w.heap.size + 2, 2, none⟩ = some (.int .i64 2) := (hB2.cell 2).trans rfl
       have ha3 : w2.cell? ⟨w.heap.size + 2, 3, none⟩ = some (.slice (some ⟨w.heap.size, 0, none⟩) 2 2) := (hB2.cell 3).trans rfl
       have ha4 : w2.cell? ⟨w.heap.size + 2, 4, none⟩ = some (.slice (some ⟨w.heap.size + 1, 0, none⟩) 1 1) := (hB2.cell 4).trans rfl
       clear hb2 hE0 hB0)
    | (go_at_call 23; refine (ex_kern_call hE2).mono ?_; rintro e w3 ⟨⟨bM, oM, AM, c3, cM, rfl, hcM, hbM, hIM⟩, hb3⟩
       have hE3 := hE2.upto hb3
       have hB3 := hB2.below hb3 hB2.lt
       have hbb3 := bnext hbb2 hb3
       have hown3 := hown1.belowAll hb3
       have hc0 : w3.cell? ⟨w.heap.size + 2, 0, none⟩ = some (.int .i64 5) := (hB3.cell 0).trans rfl
       have hc1 : w3.cell? ⟨w.heap.size + 2, 1, none⟩ = some (.int .i64 1) := (hB3.cell 1).trans rfl
       have hc2 : w3.cell? ⟨w.heap.size + 2, 2, none⟩ = some (.int .i64 2) := (hB3.cell 2).trans rfl
       have hc3 : w3.cell? ⟨w.heap.size + 2, 3, none⟩ = some (.slice (some ⟨w.heap.size, 0, none⟩) 2 2) := (hB3.cell 3).trans rfl
       have hc4 : w3.cell? ⟨w.heap.size + 2, 4, none⟩ = some (.slice (some ⟨w.heap.size + 1, 0, none⟩) 1 1) := (hB3.cell 4).trans rfl
       clear hb3 hE2 hB2 ha0 ha1 ha2 ha3 ha4)
    | (go_at_call 16; refine (ex_count_call hE3).mono ?_; rintro e w4 ⟨rfl, hb4⟩
       have hbb4 := bnext hbb3 hb4
       have hown4 := hown3.belowAll hb4
       have hI4 := hown4.ints
       have hIM4 := hIM.upto hb4
       have hcM4 : w4.cell? ⟨bM, oM, none⟩ = some (.slice AM 2 cM) := (hb4.cell (p := ⟨bM, oM, none⟩) hbM).trans hcM
       have hIa : Ints (w4.alloc (.cells #[.int .i64 3, .int .i64 0] 3)) (w4.alloc (.cells #[.int .i64 3, .int .i64 0] 3)).heap.size (some ⟨g1, 0, none⟩) 2 [3, 0] := hI4.upto (bbox _)
       have hIb : Ints (w4.alloc (.cells #[.int .i64 3, .int .i64 0] 3)) (w4.alloc (.cells #[.int .i64 3, .int .i64 0] 3)).heap.size (some ⟨w4.heap.size, 0, none⟩) 2 [3, 0] := Ints.lit w4 _ [3, 0] 3 2 _ rfl rfl rfl
       have hIMa := hIM4.upto (bbox (.cells #[.int .i64 3, .int .i64 0] 3))
       have hcMa : (w4.alloc (.cells #[.int .i64 3, .int .i64 0] 3)).cell? ⟨bM, oM, none⟩ = some (.slice AM 2 cM) := ((bbox (w0 := w4) (.cells #[.int .i64 3, .int .i64 0] 3)).cell (p := ⟨bM, oM, none⟩) (Nat.lt_of_lt_of_le hbM hb4.size)).trans hcM4
       have hbb5 := ballocs hbb4 (.cells #[.int .i64 3, .int .i64 0] 3)
       obtain ⟨W, hW⟩ : ∃ W, w4.alloc (.cells #[.int .i64 3, .int .i64 0] 3) = W := ⟨_, rfl⟩
       have HW := Lib.hid hW
       rw [hW] at hIa hIb hIMa hcMa hbb5
       clear hb4 hW)
    | (go_at_call 17; rw [HW.out]; refine (same_any (some ⟨g1, 0, none⟩) (some ⟨w4.heap.size, 0, none⟩) 2 2 2 2 [3, 0] [3, 0] _ hIa hIb (by omega) (by omega)).mono ?_; rintro e w5 ⟨rfl, q5, rfl⟩
       have hs5 : sameL [3, 0] [3, 0] = true := rfl
       have hIMb := (hIMa.drewN q5).upto (bbox (.cells #[.int .i64 3, .int .i64 1] 3))
       have hlit := Ints.lit (W.drewN q5) _ [3, 1] 3 2 _ rfl rfl rfl
       have hW6 : (W.drewN q5).heap.size = W.heap.size := rfl)
    | (go_at_call 17; refine (same_any AM (some ⟨W.heap.size, 0, none⟩) 2 2 cM 2 [3, 1] [3, 1] _ hIMb hlit (by omega) (by omega)).mono ?_; rintro e w6 ⟨rfl, q6, rfl⟩
       have hs6 : sameL [3, 1] [3, 1] = true := rfl))
  go_ret
  exact ⟨rfl, below_drewN (ballocs (below_drewN hbb5 q5) _) q6⟩
end Go.Proofs.Yteipcjmkhacdgaa
