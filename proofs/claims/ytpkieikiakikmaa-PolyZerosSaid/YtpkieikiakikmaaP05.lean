/-
  What the statements' own helpers on polynomials hand back: two, sane. Conditions: none beyond the deck's.
-/
import Derived.Test.YtpkieikiakikmaaItp
import Derived.Test.YtpkieikiakikmaaSame
import Derived.Test.YtpkieikiakikmaaDeck
namespace Go.Proofs.Ytpkieikiakikmaa
open Go.RowKit
set_option linter.unusedVariables false

def TwoPost (g : Nat) (A : Option Addr) (n c : Nat) (xs : List Int) (w : World) (e : Ending) (w' : World) : Prop :=
  ∃ (p : Int) (A1 : Option Addr) (n1 c1 : Nat) (us : List Int) (A2 : Option Addr) (n2 c2 : Nat) (vs : List Int) (q' : Nat), e = .returned (.tuple #[.agg #[.int .i64 p], .slice A1 n1 c1, .slice A2 n2 c2]) ∧ okP p = true ∧ n1 ≤ 8 ∧ n2 ≤ 8 ∧
    OwnI w' w.heap.size 3 A1 n1 c1 us ∧ OwnI w' w.heap.size 3 A2 n2 c2 vs ∧ allP p us = true ∧ allP p vs = true ∧ Deck w' g A n c xs q' ∧ Step g w w'

set_option maxRecDepth 100000 in
set_option maxHeartbeats 800000 in
theorem two05_any (g : Nat) (A : Option Addr) (n c : Nat) (xs : List Int) (q : Nat) (w : World) (h : Deck w g A n c xs q) :
    Calls Try.prog 45 #[.pointer (some ⟨g, 0, none⟩)] w (TwoPost g A n c xs w) := by
  have hg := h.1.lt
  have hR0 := Blk.new w 47 #[.int .i64 0]
  go_enter Try.func45, Try.ntmps45
  go_wp2_with (go_at_call 36; refine (field_any g A n c xs q _ (h.alloc (.cells #[.int .i64 0] 47))).mono ?_; rintro e w3 ⟨p, q3, rfl, hkn, hD3, hS3⟩
               have hok := okP_known hkn
               have hp := okP_pos hok
               have HO := Lib.hid hok
               have hR3 := (Step.block hS3 hR0 (by omega)).alloc (.cells #[.int .i64 p] 47)
               have hF3 := Blk.new w3 47 #[.int .i64 p]
               have hD3' := hD3.alloc (.cells #[.int .i64 p] 47)
               have hSw := ((((Step.refl g w).alloc (.cells #[.int .i64 0] 47)).trans hS3).alloc (.cells #[.int .i64 p] 47)).drew
               have hgf : w3.heap.size ≠ g := by have := hD3.1.lt; omega
               have hgr : w.heap.size ≠ g := by omega
               have hrl := hR3.lt
               have hrf : w.heap.size ≠ w3.heap.size := by have := World.grownBy.size hS3; simp at this; omega
               have hc3 : (w3.alloc (.cells #[.int .i64 p] 47)).cell? ⟨w3.heap.size, 0, none⟩ = some (.int .i64 p) := (hF3.cell 0).trans rfl
               clear hkn hok)
  go_wp2_with fail
  go_region_held3 (fun w' => w'.cell? ⟨w3.heap.size, 0, none⟩ = some (.int .i64 p)) (first | exact hc3 | exact hc4 | exact hc5 | exact hc6 | exact hc7 | exact hc8)
    (first
      | (go_at_call 19; (with_reducible refine (next_any g A n c xs q5 9 w5 hD5 (by omega)).mono ?_); rintro e w6 ⟨r', q6, rfl, hr, hr0, hD6, hS6, hz6⟩
         obtain ⟨n2, rfl⟩ : ∃ r : Nat, r' = r := ⟨r'.toNat, by have := hr (by omega); omega⟩
         have hn2 : n2 < 9 := by have := hr (by omega); omega
         have hF6 := Step.block hS6 hF5 hgf
         have hc6 : w6.cell? ⟨w3.heap.size, 0, none⟩ = some (.int .i64 p) := (hF6.cell 0).trans rfl
         clear hr hr0 hz6)
      | (go_at_call 19; refine (next_any g A n c xs q3 9 _ hD3'.drew (by omega)).mono ?_; rintro e w4 ⟨r', q4, rfl, hr, hr0, hD4, hS4, hz4⟩
         obtain ⟨n1, rfl⟩ : ∃ r : Nat, r' = r := ⟨r'.toNat, by have := hr (by omega); omega⟩
         have hn1 : n1 < 9 := by have := hr (by omega); omega
         have hF4 := Step.block hS4 hF3.drew hgf
         have hc4 : w4.cell? ⟨w3.heap.size, 0, none⟩ = some (.int .i64 p) := (hF4.cell 0).trans rfl
         clear hr hr0 hz4)
      | (go_at_call 30; (with_reducible refine (elements_any g A n c xs q6 p n2 w6 hD6 hp (by omega)).mono ?_); rintro e w7 ⟨B2, d2, vs, q7, rfl, hown7, hY, hD7, hS7⟩
         have hF7 := Step.block hS7 hF6 hgf
         have hc7 : w7.cell? ⟨w3.heap.size, 0, none⟩ = some (.int .i64 p) := (hF7.cell 0).trans rfl
         have hR7 := Step.block hS7 (Step.block hS6 (Step.block hS5 (Step.block hS4 hR3.drew hgr) hgr) hgr) hgr
         have hR8 := hR7.set_ 0 (.int .i64 p)
         have hc8 : (w7.setCell ⟨w.heap.size, 0, none⟩ (.int .i64 p)).cell? ⟨w3.heap.size, 0, none⟩ = some (.int .i64 p) := ((hF7.far (p := ⟨w.heap.size, 0, none⟩) (fun e => hrf e.symm) (.int .i64 p)).cell 0).trans rfl
         have hy0 : w7.cell? ⟨w.heap.size, 0, none⟩ = some (.int .i64 0) := (hR7.cell 0).trans rfl
         have hz0 := hR7.frozen 0)
      | (go_at_call 30; (with_reducible refine (elements_any g A n c xs q4 p n1 w4 hD4 hp (by omega)).mono ?_); rintro e w5 ⟨B1, d1, us, q5, rfl, hown5, hX, hD5, hS5⟩
         have hF5 := Step.block hS5 hF4 hgf
         have hc5 : w5.cell? ⟨w3.heap.size, 0, none⟩ = some (.int .i64 p) := (hF5.cell 0).trans rfl))
  all_goals go_wp2
  all_goals have hSr := (Step.refl w.heap.size w7).set 0 (.int .i64 p)
  all_goals have hg4 := hD4.1.lt
  all_goals have hg6 := hD6.1.lt
  all_goals have hwl4 : w.heap.size < w4.heap.size := Nat.lt_of_lt_of_le (m := (w3.alloc (.cells #[.int .i64 p] 47)).drew.heap.size) hrl (World.grownBy.size hS4)
  all_goals have hwl6 : w.heap.size < w6.heap.size := Nat.lt_of_lt_of_le hwl4 (World.grownBy.size (hS5.trans hS6))
  all_goals have hO1 := (((hown5.step hS6 hg4).step hS7 hg4).step hSr hwl4).base (base' := w.heap.size) (by omega)
  all_goals have hO2 := (hown7.step hSr hwl6).base (base' := w.heap.size) (by omega)
  all_goals have hD8 := hD7.setCell (p := ⟨w.heap.size, 0, none⟩) hg (.int .i64 p)
  all_goals have hS8 := ((((hSw.trans hS4).trans hS5).trans hS6).trans hS7).setNew (p := ⟨w.heap.size, 0, none⟩) (Nat.le_refl _) (.int .i64 p)
  all_goals have hy8 := (hR8.cell 0).trans rfl
  all_goals exact bodyPost_ret (v := .tuple #[.agg #[.int .i64 p], .slice B1 n1 d1, .slice B2 n2 d2]) (by simp [results, Try.results45, go_sem, hy8]) rfl ⟨p, B1, n1, d1, us, B2, n2, d2, vs, q7, rfl, HO.out, by omega, by omega, hO1, hO2, hX, hY, hD8, hS8⟩

theorem through_12 {R : List Int} (h : Through 7 [1, 2] [3, 5] R) : R = [1, 2] := by
  have h1 := h.va 0 (by decide)
  have h2 := h.va 1 (by decide)
  have hl := h.ln
  have ha := allP_iff.1 h.al
  match R, h1, h2, hl, ha with
  | [], h1, _, _, _ => simp [valueP] at h1
  | [a], h1, h2, _, ha =>
    have := ha a (by simp)
    simp [valueP, addP, mulP] at h1 h2
    omega
  | [a, b], h1, h2, _, ha =>
    have := ha a (by simp)
    have := ha b (by simp)
    simp [valueP, addP, mulP] at h1 h2
    have : a = 1 ∧ b = 2 := by omega
    rw [this.1, this.2]
  | a :: b :: c :: r, _, _, hl, _ => simp at hl

set_option maxRecDepth 100000 in
/-- The sanity check of chapter 5. -/
theorem sane05_any (w : World) : Calls Try.prog 35 #[] w fun e w' => e = .returned (.bool true) ∧ Below w.heap.size w w' := by
  have h7 : okP 7 = true := okP_known (by simp [isKnown])
  have HO := Lib.hid h7
  go_enter Try.func35, Try.ntmps35
  have HDG : Hid (((tn [1, 2, 0] 3 : Nat) : Int) - 1 = 1) := Lib.hid (by decide)
  have HSM : Hid (sameL [1, 2] [1, 2] = true) := Lib.hid (by decide)
  have hB := Blk.new w 62 #[.int .i64 1, .int .i64 3, .int .i64 2, .int .i64 5]
  have HSH : Hid (Sh (w.alloc (.cells #[.int .i64 1, .int .i64 3, .int .i64 2, .int .i64 5] 62)) (w.alloc (.cells #[.int .i64 1, .int .i64 3, .int .i64 2, .int .i64 5] 62)).heap.size (some ⟨w.heap.size, 0, none⟩) 2 [1, 2] [3, 5]) := Lib.hid
    ⟨rfl, rfl, fun _ => ⟨_, 0, rfl, by simp, fun j hj => by
      rcases (by omega : j = 0 ∨ j = 1) with rfl | rfl
      · exact ⟨(hB.cell 0).trans rfl, (hB.cell 1).trans rfl⟩
      · exact ⟨(hB.cell 2).trans rfl, (hB.cell 3).trans rfl⟩⟩⟩
  have HDI : Hid (∀ j k : Nat, j < k → k < 2 → ([1, 2] : List Int).getD j 0 ≠ ([1, 2] : List Int).getD k 0) := Lib.hid fun j k h1 h2 => by
    obtain rfl : k = 1 := by omega
    obtain rfl : j = 0 := by omega
    decide
  clear h7
  go_wp2_with (first
    | (go_at_call 39; refine (interp_ok 7 _ 2 2 [1, 2] [3, 5] _ HO.out HSH.out (by decide) (by decide) (by omega) HDI.out).mono ?_; rintro e w1 ⟨⟨R, A1, c1, rfl, hown1, hT⟩, hb1⟩
       obtain rfl := through_12 hT
       have hbb1 := bnext (bbox _) hb1
       clear hb1 hT)
    | (go_at_call 44; refine (pdeg_ok 7 _ 3 3 [1, 2, 0] _ HO.out (by exact Ints.lit w1 _ [1, 2, 0] 3 3 w1.heap.size rfl rfl rfl) (by decide) (by omega) (by omega)).mono ?_; rintro e w2 ⟨rfl, hb2⟩
       rw [HDG.out]
       have hbb2 := bnext (ballocs hbb1 _) hb2
       have hown2 := ((hown1.alloc (.cells #[.int .i64 1, .int .i64 2, .int .i64 0] 3)).belowAll hb2).alloc (.cells #[.int .i64 1, .int .i64 2] 3))
    | (go_at_call 41; refine (same_any A1 _ 2 2 c1 2 [1, 2] [1, 2] _ hown2.ints (by exact Ints.lit w2 _ [1, 2] 3 2 w2.heap.size rfl rfl rfl) (by omega) (by omega)).mono ?_; rintro e w3 ⟨rfl, q3, rfl⟩
       rw [HSM.out]))
  go_ret
  exact ⟨rfl, below_drewN (ballocs hbb2 _) _⟩
end Go.Proofs.Ytpkieikiakikmaa
