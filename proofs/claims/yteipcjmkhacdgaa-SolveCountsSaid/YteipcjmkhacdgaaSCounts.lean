/-
  SolveCounts returns true: the walk of the law. Conditions: none beyond the reading of its arguments.
-/
import Derived.Test.YteipcjmkhacdgaaS06
import Derived.Test.YteipcjmkhacdgaaSolvE
import Derived.Test.YteipcjmkhacdgaaEqu
import Derived.Test.YteipcjmkhacdgaaEqB
import Derived.Deep.RegionHeld3
import Derived.Deep.RegionLaw
import Derived.Deep.DeepCutAuto
import Derived.Deep.QuietTactic
import Derived.BigQuiet
namespace Go.Proofs.Yteipcjmkhacdgaa
open Go.RowKit
set_option linter.unusedVariables false

theorem OwnI.cap_ {w : World} {base n c : Nat} {e : TypeId} {A : Option Addr} {xs : List Int} (h : OwnI w base e A n c xs) : n ≤ c := by
  rcases h.2 with ⟨hv, _⟩ | ⟨_, _, _, hv, _, _, hnc, _⟩
  · injection hv with _ h1 h2
    omega
  · injection hv with _ h1 h2
    omega
/-- The small fields. -/
def smallF (i : Nat) : Nat := [2, 3, 5].getD i 0
theorem smallF_cell {i : Nat} (h : i < 3) : (#[Value.int .i64 2, .int .i64 3, .int .i64 5])[i]? = some (.int .i64 (smallF i)) := by
  rcases (by omega : i = 0 ∨ i = 1 ∨ i = 2) with rfl | rfl | rfl <;> rfl
theorem smallF_ok {i : Nat} (h : i < 3) : isKnown (smallF i : Int) ∧ 2 ≤ smallF i ∧ smallF i ≤ 5 := by
  rcases (by omega : i = 0 ∨ i = 1 ∨ i = 2) with rfl | rfl | rfl <;> simp [smallF, isKnown]
theorem cnt_small {P m : Nat} (h2 : 2 ≤ P) (h5 : P ≤ 5) (hm : m ≤ 3) : cntP (P : Int) m ≠ none := by
  rcases (by omega : P = 2 ∨ P = 3 ∨ P = 4 ∨ P = 5) with rfl | rfl | rfl | rfl <;> rcases (by omega : m = 0 ∨ m = 1 ∨ m = 2 ∨ m = 3) with rfl | rfl | rfl | rfl <;> decide
/-- How many of the first K lists solve the equations. -/
noncomputable def foundN (P k : Nat) (m0 : List (List Int)) (K : Nat) : Int := by
  classical exact Sg (fun j => if Solv (P : Int) k m0 (digL P k j) then 1 else 0) K
theorem foundN_zero (P k : Nat) (m0 : List (List Int)) : foundN P k m0 0 = 0 := rfl
theorem foundN_yes {P k : Nat} {m0 : List (List Int)} {K : Nat} (h : Solv (P : Int) k m0 (digL P k K)) : foundN P k m0 (K + 1) = foundN P k m0 K + 1 := by
  classical
  show Sg _ K + (if Solv (P : Int) k m0 (digL P k K) then (1 : Int) else 0) = _
  rw [if_pos h]; rfl
theorem foundN_no {P k : Nat} {m0 : List (List Int)} {K : Nat} (h : ¬ Solv (P : Int) k m0 (digL P k K)) : foundN P k m0 (K + 1) = foundN P k m0 K := by
  classical
  show Sg _ K + (if Solv (P : Int) k m0 (digL P k K) then (1 : Int) else 0) = _
  rw [if_neg h, Int.add_zero]; rfl
theorem foundN_le (P k : Nat) (m0 : List (List Int)) : ∀ K, 0 ≤ foundN P k m0 K ∧ foundN P k m0 K ≤ K
  | 0 => ⟨Int.le_refl _, Int.le_refl _⟩
  | K + 1 => by
    have := foundN_le P k m0 K
    by_cases h : Solv (P : Int) k m0 (digL P k K)
    · rw [foundN_yes h]; omega
    · rw [foundN_no h]; omega
theorem foundN_all {P k : Nat} {m0 : List (List Int)} {v : Int} (hp : 2 ≤ P) (h : CountOf (P : Int) k m0 (some v)) : foundN P k m0 (P ^ k) = v := by
  classical
  rw [← count_found (S := fun x => decide (Solv (P : Int) k m0 x)) hp h (fun x => decide_eq_true_iff)]
  exact Sg_congr fun j _ => by simp
theorem pow_small {P k : Nat} (h : P ≤ 5) (hk : k ≤ 3) : P ^ k ≤ 125 := by
  refine Nat.le_trans (Nat.pow_le_pow_left h k) ?_
  rcases (by omega : k = 0 ∨ k = 1 ∨ k = 2 ∨ k = 3) with rfl | rfl | rfl | rfl <;> decide

set_option maxHeartbeats 16000000 in
set_option maxRecDepth 100000 in
theorem solveCounts_walk (A : Option Addr) (n c : Nat) (zs : List Int) (at_ col : Int) (w : World) (w0 : IsRow .i64 w A n c zs) (w1 : (Lit.int .u8 at_).wf = true) (w2 : (Lit.int .u8 col).wf = true) :
    Calls Try.prog 8 #[.slice A n c, .int .u8 at_, .int .u8 col] w fun e w' => e = .returned (.bool true) ∧ Below w.heap.size w w' := by
  obtain ⟨i0, hi0, hz0, hz1, hz2⟩ := info_parts info_int
  have hat : 0 ≤ at_ ∧ at_ ≤ 255 := by simpa [Lit.wf, IntKind.min, IntKind.max, IntKind.signed, IntKind.bits] using w1
  have hcol : 0 ≤ col ∧ col ≤ 255 := by simpa [Lit.wf, IntKind.min, IntKind.max, IntKind.signed, IntKind.bits] using w2
  obtain ⟨h, hw⟩ := w0.ints
  generalize zs.take n = xs at h hw
  clear w0 w1 w2
  by_cases hn : n ≤ 500
  · have hd : decide (n ≤ 500) = true := by simpa using hn
    obtain ⟨i, hi⟩ : ∃ kk : Nat, at_ % 3 = kk := ⟨(at_ % 3).toNat, by rw [Int.toNat_of_nonneg (Int.emod_nonneg _ (by omega))]⟩
    have hi3 : i < 3 := by omega
    have hit : at_.tmod 3 = (i : Int) := by rw [Int.tmod_eq_emod_of_nonneg hat.1]; exact hi
    obtain ⟨k, hk⟩ : ∃ kk : Nat, col % 4 = kk := ⟨(col % 4).toNat, by rw [Int.toNat_of_nonneg (Int.emod_nonneg _ (by omega))]⟩
    have hk3 : k ≤ 3 := by omega
    have hkt : col.tmod 4 = (k : Int) := by rw [Int.tmod_eq_emod_of_nonneg hcol.1]; exact hk
    have hiw8 : IntKind.u8.wrap (i : Int) = (i : Int) := by simp [IntKind.wrap, IntKind.bits, IntKind.signed]; omega
    have hkw8 : IntKind.u8.wrap (k : Int) = (k : Int) := by simp [IntKind.wrap, IntKind.bits, IntKind.signed]; omega
    have hkw : IntKind.i64.wrap (k : Int) = (k : Int) := IntWalk.i64_in _ (by omega)
    obtain ⟨hKN, hP2, hP5⟩ := smallF_ok hi3
    have HKN := Lib.hid hKN
    have hcl0 := smallF_cell hi3
    obtain ⟨P, hP⟩ : ∃ P, smallF i = P := ⟨_, rfl⟩
    rw [hP] at hKN hP2 hP5 HKN hcl0
    have hp := okP_pos (okP_known hKN)
    have hp0 : ¬ (P : Int) = 0 := by omega
    have h0i : (0 : Int) ≤ (i : Int) := by omega
    have h3i : (i : Int) < 3 := by omega
    clear hi hk hP hKN
    go_enter Try.func8, Try.ntmps8
    go_upto_region 6 with (first
      | (go_at_call 9; refine (sane06_any _).mono ?_; rintro e w1 ⟨rfl, hb1⟩)
      | (go_at_call 10; refine (few_any A n c _).mono ?_; rintro e w' ⟨rfl, rfl⟩)
      | (go_at_call 11; refine (new_any A n c xs _ (h.upto hb1) hn).mono ?_; rintro e w2 ⟨⟨g, rfl, hge, hD2⟩, hb2⟩
         have hbb2 := bnext hb1 hb2
         have hg : w.heap.size ≤ g := by rw [hge]; exact hb1.size
         clear hge hb1 hb2))
    have hclx : (w2.alloc (.cells #[.int .i64 2, .int .i64 3, .int .i64 5] 3)).cell? ⟨w2.heap.size, i, none⟩ = some (.int .i64 P) := ((Blk.new w2 3 _).cell i).trans hcl0
    have hgB := hD2.1.lt
    have hbb4 := ballocs (ballocs hbb2 (.cells #[.int .i64 2, .int .i64 3, .int .i64 5] 3)) (.cells #[.int .i64 P] 28)
    have hD4 := (hD2.alloc (.cells #[.int .i64 2, .int .i64 3, .int .i64 5] 3)).alloc (.cells #[.int .i64 P] 28)
    have hF4 := Blk.new (w2.alloc (.cells #[.int .i64 2, .int .i64 3, .int .i64 5] 3)) 28 #[.int .i64 P]
    have hsz4 : (w2.alloc (.cells #[.int .i64 2, .int .i64 3, .int .i64 5] 3)).heap.size = w2.heap.size + 1 := World.size_alloc _ _
    go_upto_region 7 with fail
    obtain ⟨B8, hB8⟩ : ∃ b, w2.heap.size + 1 = b := ⟨_, rfl⟩
    obtain ⟨W, hW⟩ : ∃ W, (w2.alloc (.cells #[.int .i64 2, .int .i64 3, .int .i64 5] 3)).alloc (.cells #[.int .i64 P] 28) = W := ⟨_, rfl⟩
    rw [hsz4] at hF4
    rw [hW] at hbb4 hD4 hF4 ⊢
    rw [hB8] at hF4 ⊢
    have hg8 : g < B8 := by omega
    clear hW hB8 hsz4 hclx hbb2 hD2 hcl0 hgB
    have hl8 : B8 < W.heap.size := hF4.lt
    have hsW := hbb4.size
    have hf0 : W.cell? ⟨B8, 0, none⟩ = some (.int .i64 P) := (hF4.cell 0).trans rfl
    go_cut [9] (fun s wx => ∃ (B9 r q' : Nat), s = .pointer (some ⟨B9, 0, none⟩) ∧ B8 < B9 ∧ r ≤ 3 ∧ Blk wx B9 30 #[.int .i64 P, .int .i64 r, .int .i64 k, .slice none 0 0, .slice none 0 0] ∧ Blk wx B8 28 #[.int .i64 P] ∧ Deck wx g A n c xs q' ∧ Below w.heap.size w wx)
    case first =>
      have hf0d : W.drew.cell? ⟨B8, 0, none⟩ = some (.int .i64 P) := hf0
      have hDd := hD4.drew
      have hDa : Deck (W.alloc (.cells #[.int .i64 0, .int .i64 0, .int .i64 0, .slice none 0 0, .slice none 0 0] 30)).drew g A n c xs 0 := (hD4.alloc (.cells #[.int .i64 0, .int .i64 0, .int .i64 0, .slice none 0 0, .slice none 0 0] 30)).drew
      have hBa : Blk (W.alloc (.cells #[.int .i64 0, .int .i64 0, .int .i64 0, .slice none 0 0, .slice none 0 0] 30)).drew W.heap.size 30 #[.int .i64 0, .int .i64 0, .int .i64 0, .slice none 0 0, .slice none 0 0] := (Blk.new W 30 #[.int .i64 0, .int .i64 0, .int .i64 0, .slice none 0 0, .slice none 0 0]).drew
      have hFa : Blk (W.alloc (.cells #[.int .i64 0, .int .i64 0, .int .i64 0, .slice none 0 0, .slice none 0 0] 30)).drew B8 28 #[.int .i64 P] := (hF4.alloc (.cells #[.int .i64 0, .int .i64 0, .int .i64 0, .slice none 0 0, .slice none 0 0] 30)).drew
      have hfa : (W.alloc (.cells #[.int .i64 0, .int .i64 0, .int .i64 0, .slice none 0 0, .slice none 0 0] 30)).drew.cell? ⟨B8, 0, none⟩ = some (.int .i64 P) := (hFa.cell 0).trans rfl
      have hba : Below w.heap.size w (W.alloc (.cells #[.int .i64 0, .int .i64 0, .int .i64 0, .slice none 0 0, .slice none 0 0] 30)).drew := (ballocs hbb4 (.cells #[.int .i64 0, .int .i64 0, .int .i64 0, .slice none 0 0, .slice none 0 0] 30)).drew
      go_region_law (first
        | (go_simp; go_at_call 13; (with_reducible refine (next_any g A n c xs 0 4 _ hDd (by omega)).mono ?_); rintro e w5 ⟨r1, q5, rfl, hr1, hr0, hD5, hS5, hz5⟩
           obtain ⟨r, rfl⟩ : ∃ s : Nat, r1 = s := ⟨r1.toNat, by have := hr1 (by omega); omega⟩
           have hr3 : r ≤ 3 := by have := hr1 (by omega); omega
           have hS5 := Step.undrew hS5
           have hF5 := Step.block hS5 hF4 (by omega)
           have hf5 : w5.cell? ⟨B8, 0, none⟩ = some (.int .i64 P) := (hF5.cell 0).trans rfl
           have hb5 := Step.below hbb4 hS5 hsW hg
           have hl5 := hF5.lt
           have hf6 : (w5.alloc (.cells #[.int .i64 0, .int .i64 0, .int .i64 0, .slice none 0 0, .slice none 0 0] 30)).cell? ⟨B8, 0, none⟩ = some (.int .i64 P) := ((hF5.alloc (.cells #[.int .i64 0, .int .i64 0, .int .i64 0, .slice none 0 0, .slice none 0 0] 30)).cell 0).trans rfl
           have hf7 : (w5.alloc (.cells #[.int .i64 P, .int .i64 r, .int .i64 k, .slice none 0 0, .slice none 0 0] 30)).cell? ⟨B8, 0, none⟩ = some (.int .i64 P) := ((hF5.alloc _).cell 0).trans rfl
           clear hr1 hr0 hz5 hS5)
        | (go_simp; go_at_call 13; (with_reducible refine (next_any g A n c xs 0 4 _ hDa (by omega)).mono ?_); rintro e w5 ⟨r1, q5, rfl, hr1, hr0, hD5, hS5, hz5⟩
           obtain ⟨r, rfl⟩ : ∃ s : Nat, r1 = s := ⟨r1.toNat, by have := hr1 (by omega); omega⟩
           have hr3 : r ≤ 3 := by have := hr1 (by omega); omega
           have hF5 := Step.block hS5 hFa (by omega)
           have hf5 : w5.cell? ⟨B8, 0, none⟩ = some (.int .i64 P) := (hF5.cell 0).trans rfl
           have hB5 := Step.block hS5 hBa (by omega)
           have hb5 := Step.below hba hS5 hba.size hg
           have hz0 : w5.cell? ⟨W.heap.size, 0, none⟩ = some (.int .i64 0) := (hB5.cell 0).trans rfl
           have hfz0 : w5.frozen? ⟨W.heap.size, 0, none⟩ = false := hB5.frozen 0
           have hz1 : w5.cell? ⟨W.heap.size, 1, none⟩ = some (.int .i64 0) := (hB5.cell 1).trans rfl
           have hfz1 : w5.frozen? ⟨W.heap.size, 1, none⟩ = false := hB5.frozen 1
           have hz2 : w5.cell? ⟨W.heap.size, 2, none⟩ = some (.int .i64 0) := (hB5.cell 2).trans rfl
           have hfz2 : w5.frozen? ⟨W.heap.size, 2, none⟩ = false := hB5.frozen 2
           have hz3 : w5.cell? ⟨W.heap.size, 3, none⟩ = some (.slice none 0 0) := (hB5.cell 3).trans rfl
           have hfz3 : w5.frozen? ⟨W.heap.size, 3, none⟩ = false := hB5.frozen 3
           have hz4 : w5.cell? ⟨W.heap.size, 4, none⟩ = some (.slice none 0 0) := (hB5.cell 4).trans rfl
           have hfz4 : w5.frozen? ⟨W.heap.size, 4, none⟩ = false := hB5.frozen 4
           have hF6 := (((((hF5.far (p := ⟨W.heap.size, 0, none⟩) (show B8 ≠ W.heap.size by omega) (.int .i64 P)).far (p := ⟨W.heap.size, 1, none⟩) (show B8 ≠ W.heap.size by omega) (.int .i64 r)).far (p := ⟨W.heap.size, 2, none⟩) (show B8 ≠ W.heap.size by omega) (.int .i64 k)).far (p := ⟨W.heap.size, 3, none⟩) (show B8 ≠ W.heap.size by omega) (.slice none 0 0)).far (p := ⟨W.heap.size, 4, none⟩) (show B8 ≠ W.heap.size by omega) (.slice none 0 0))
           have hf6 : (((((w5.setCell ⟨W.heap.size, 0, none⟩ (.int .i64 P)).setCell ⟨W.heap.size, 1, none⟩ (.int .i64 r)).setCell ⟨W.heap.size, 2, none⟩ (.int .i64 k)).setCell ⟨W.heap.size, 3, none⟩ (.slice none 0 0)).setCell ⟨W.heap.size, 4, none⟩ (.slice none 0 0)).cell? ⟨B8, 0, none⟩ = some (.int .i64 P) := (hF6.cell 0).trans rfl
           have hf7 := hf6
           clear hr1 hr0 hz5 hS5))
      all_goals go_wp2
      all_goals go_meet
      all_goals first
        | exact ⟨w5.heap.size, r, q5, rfl, hl5, hr3, Blk.new _ _ _, hF5.alloc _, hD5.alloc _, ballocs hb5 _⟩
        | exact ⟨W.heap.size, r, q5, rfl, hl8, hr3, (((((hB5.set_ 0 (.int .i64 P)).set_ 1 (.int .i64 r)).set_ 2 (.int .i64 k)).set_ 3 (.slice none 0 0)).set_ 4 (.slice none 0 0)), hF6, (((((hD5.setCell (p := ⟨W.heap.size, 0, none⟩) (show g < W.heap.size by omega) (.int .i64 P)).setCell (p := ⟨W.heap.size, 1, none⟩) (show g < W.heap.size by omega) (.int .i64 r)).setCell (p := ⟨W.heap.size, 2, none⟩) (show g < W.heap.size by omega) (.int .i64 k)).setCell (p := ⟨W.heap.size, 3, none⟩) (show g < W.heap.size by omega) (.slice none 0 0)).setCell (p := ⟨W.heap.size, 4, none⟩) (show g < W.heap.size by omega) (.slice none 0 0)), (((((hb5.setCell (p := ⟨W.heap.size, 0, none⟩) (show w.heap.size ≤ W.heap.size from hsW) (.int .i64 P)).setCell (p := ⟨W.heap.size, 1, none⟩) (show w.heap.size ≤ W.heap.size from hsW) (.int .i64 r)).setCell (p := ⟨W.heap.size, 2, none⟩) (show w.heap.size ≤ W.heap.size from hsW) (.int .i64 k)).setCell (p := ⟨W.heap.size, 3, none⟩) (show w.heap.size ≤ W.heap.size from hsW) (.slice none 0 0)).setCell (p := ⟨W.heap.size, 4, none⟩) (show w.heap.size ≤ W.heap.size from hsW) (.slice none 0 0))⟩
    case rest =>
    clear hD4 hF4 hbb4 hf0 hl8 hsW
    obtain ⟨B9, r, q5, rfl, hB89, hr3, hB, hF, hD, hb⟩ := hcut
    obtain ⟨nc, hnc⟩ : ∃ nc, r * k = nc := ⟨_, rfl⟩
    have hmul : (r : Int) * (k : Int) = (nc : Int) := by rw [← hnc]; simp
    have hnc9 : nc ≤ 9 := by rw [← hnc]; exact Nat.mul_le_mul hr3 hk3
    have hwn : IntKind.i64.wrap (nc : Int) = (nc : Int) := IntWalk.i64_in _ (by omega)
    have HNC := Lib.hid hnc
    clear hnc
    have hl9 := hB.lt
    have hbs := hb.size
    have h00 : wc.cell? ⟨B8, 0, none⟩ = some (.int .i64 P) := (hF.cell 0).trans rfl
    have h01 : wc.cell? ⟨B9, 1, none⟩ = some (.int .i64 r) := (hB.cell 1).trans rfl
    have h02 : wc.cell? ⟨B9, 2, none⟩ = some (.int .i64 k) := (hB.cell 2).trans rfl
    have hbB : Hid (w.heap.size ≤ B9) := Lib.hid (by omega)
    go_upto_region 8 with fail
    go_cut [9] (fun s wx => ∃ (C : Option Addr) (cc : Nat) (D : Option Addr) (cd : Nat) (cells right : List Int), s = .pointer (some ⟨B9, 0, none⟩) ∧ Blk wx B9 30 (eqC P r k C nc cc D r cd) ∧ Blk wx B8 28 #[.int .i64 P] ∧ Hid (Two wx (B9 + 1) 3 C nc cc cells D r cd right) ∧ Hid (allP P cells = true ∧ allP P right = true) ∧ Below w.heap.size w wx)
    case first =>
      have hDd := hD.drew
      have h00d : wc.drew.cell? ⟨B8, 0, none⟩ = some (.int .i64 P) := h00
      have h01d : wc.drew.cell? ⟨B9, 1, none⟩ = some (.int .i64 r) := h01
      have h02d : wc.drew.cell? ⟨B9, 2, none⟩ = some (.int .i64 k) := h02
      go_region_held3 (fun w' => w'.cell? ⟨B8, 0, none⟩ = some (.int .i64 P) ∧ w'.cell? ⟨B9, 1, none⟩ = some (.int .i64 r) ∧ w'.cell? ⟨B9, 2, none⟩ = some (.int .i64 k)) (first | with_reducible exact ⟨h00d, h01d, h02d⟩ | with_reducible exact ⟨h40, h41, h42⟩ | with_reducible exact ⟨h50, h51, h52⟩ | with_reducible exact ⟨hq0, hq1, hq2⟩ | with_reducible exact ⟨hr0, hr1, hr2⟩) (first
        | (go_at_call 14; (with_reducible refine (elements_any g A n c xs q5 P nc _ hDd hp (by omega)).mono ?_); rintro e w4 ⟨C, cc, cells, q4, rfl, hC4, hA4, hD4, hS4⟩
           have hS4 := Step.undrew hS4
           have hE4 := Step.block hS4 hB (by omega)
           have hF4 := Step.block hS4 hF (by omega)
           have HA4 := Lib.hid hA4
           have h40 : w4.cell? ⟨B8, 0, none⟩ = some (.int .i64 P) := (hF4.cell 0).trans rfl
           have h41 : w4.cell? ⟨B9, 1, none⟩ = some (.int .i64 r) := (hE4.cell 1).trans rfl
           have h42 : w4.cell? ⟨B9, 2, none⟩ = some (.int .i64 k) := (hE4.cell 2).trans rfl
           have hs4 : wc.heap.size ≤ w4.heap.size := World.grownBy.size hS4
           have hb4 := Step.below hb hS4 hbs hg
           have hC4' : OwnI w4 (B9 + 1) 3 C nc cc cells := hC4.base (by show B9 + 1 ≤ wc.heap.size; omega)
           clear hA4 hS4 hC4)
        | (go_at_call 14; (with_reducible refine (elements_any g A n c xs q4 P r _ hD4 hp (by omega)).mono ?_); rintro e w5 ⟨D, cd, right, q5b, rfl, hC5, hA5, hD5, hS5⟩
           have hE5 := Step.block hS5 hE4 (by omega)
           have hF5 := Step.block hS5 hF4 (by omega)
           have HA5 := Lib.hid (And.intro HA4.out hA5)
           have hb5 := Step.below hb4 hS5 hb4.size hg
           have h50 : w5.cell? ⟨B8, 0, none⟩ = some (.int .i64 P) := (hF5.cell 0).trans rfl
           have h51 : w5.cell? ⟨B9, 1, none⟩ = some (.int .i64 r) := (hE5.cell 1).trans rfl
           have h52 : w5.cell? ⟨B9, 2, none⟩ = some (.int .i64 k) := (hE5.cell 2).trans rfl
           have hg3 := hE5.set_ 3 (.slice C nc cc)
           have hg34 := (hE5.set_ 3 (.slice C nc cc)).set_ 4 (.slice D r cd)
           have hF3 := hF5.far (p := ⟨B9, 3, none⟩) (Nat.ne_of_lt hB89) (.slice C nc cc)
           have hF34 := hF3.far (p := ⟨B9, 4, none⟩) (Nat.ne_of_lt hB89) (.slice D r cd)
           have hf3 := hE5.frozen 3
           have hf4 := hE5.frozen 4
           have h53 : w5.cell? ⟨B9, 3, none⟩ = some (.slice none 0 0) := (hE5.cell 3).trans rfl
           have h54 : w5.cell? ⟨B9, 4, none⟩ = some (.slice none 0 0) := (hE5.cell 4).trans rfl
           have hq0 : (w5.setCell ⟨B9, 3, none⟩ (.slice C nc cc)).cell? ⟨B8, 0, none⟩ = some (.int .i64 P) := (hF3.cell 0).trans rfl
           have hq1 : (w5.setCell ⟨B9, 3, none⟩ (.slice C nc cc)).cell? ⟨B9, 1, none⟩ = some (.int .i64 r) := (hg3.cell 1).trans rfl
           have hq2 : (w5.setCell ⟨B9, 3, none⟩ (.slice C nc cc)).cell? ⟨B9, 2, none⟩ = some (.int .i64 k) := (hg3.cell 2).trans rfl
           have hr0 : ((w5.setCell ⟨B9, 3, none⟩ (.slice C nc cc)).setCell ⟨B9, 4, none⟩ (.slice D r cd)).cell? ⟨B8, 0, none⟩ = some (.int .i64 P) := (hF34.cell 0).trans rfl
           have hr1 : ((w5.setCell ⟨B9, 3, none⟩ (.slice C nc cc)).setCell ⟨B9, 4, none⟩ (.slice D r cd)).cell? ⟨B9, 1, none⟩ = some (.int .i64 r) := (hg34.cell 1).trans rfl
           have hr2 : ((w5.setCell ⟨B9, 3, none⟩ (.slice C nc cc)).setCell ⟨B9, 4, none⟩ (.slice D r cd)).cell? ⟨B9, 2, none⟩ = some (.int .i64 k) := (hg34.cell 2).trans rfl
           have hT5 : Two w5 (B9 + 1) 3 C nc cc cells D r cd right := ⟨hC4'.step hS5 (by omega), hC5.base (by show B9 + 1 ≤ w4.heap.size; omega), fun b h1 h2 => by have h3 := (World.ownsRow.lt hC4' b h1).2; have h4 := (World.ownsRow.lt hC5 b h2).1; have h5 : w4.heap.size ≤ b := h4; omega⟩
           have HT5 := Lib.hid hT5
           clear hA5 hS5 hT5 hC5))
      all_goals go_wp2
      all_goals go_meet
      case rel => exact ⟨C, cc, D, cd, cells, right, rfl, hg34, hF34, Lib.hid ((HT5.out.step ((Step.refl B9 w5).set 3 (.slice C nc cc)) (Nat.lt_succ_self _)).step ((Step.refl B9 _).set 4 (.slice D r cd)) (Nat.lt_succ_self _)), HA5, (hb5.setCell (p := ⟨B9, 3, none⟩) hbB.out _).setCell (p := ⟨B9, 4, none⟩) hbB.out _⟩
    case rest =>
    clear hB hF hD hb h00 h01 h02 hbs hl9
    obtain ⟨C, cc, D, cd, cells, right, rfl, hB, hF, HT, HA, hb⟩ := hcut
    have HC : Hid (EqOk P r k cells right) := Lib.hid ⟨okP_known HKN.out, by omega, by omega, by rw [HNC.out]; exact HT.out.1.len, HT.out.2.1.len, HA.out.1, HA.out.2⟩
    have HE : Hid (EqW wc P r k nc C cc D cd cells right) := Lib.hid ⟨HC.out, HNC.out, HT.out.1.ints, HT.out.2.1.ints, HT.out.1.cap_⟩
    have hx0 : wc.cell? ⟨B9, 0, none⟩ = some (.int .i64 P) := (hB.cell 0).trans rfl
    have hx1 : wc.cell? ⟨B9, 1, none⟩ = some (.int .i64 r) := (hB.cell 1).trans rfl
    have hx2 : wc.cell? ⟨B9, 2, none⟩ = some (.int .i64 k) := (hB.cell 2).trans rfl
    have hx3 : wc.cell? ⟨B9, 3, none⟩ = some (.slice C nc cc) := (hB.cell 3).trans rfl
    have hx4 : wc.cell? ⟨B9, 4, none⟩ = some (.slice D r cd) := (hB.cell 4).trans rfl
    go_upto_region 14 with (first
      | (go_at_call 19; (with_reducible refine (rank_ok HE.out).mono ?_); rintro e w6 ⟨rk, rfl, hR6, hb6⟩
         have HR6 := Lib.hid hR6
         have hB6 := hB.below hb6 hB.lt
         have hF6 := hF.below hb6 hF.lt
         have HE6 := Lib.hid (HE.out.upto hb6)
         have hbb6 := bnext hb hb6
         have hy0 : w6.cell? ⟨B9, 0, none⟩ = some (.int .i64 P) := (hB6.cell 0).trans rfl
         have hy1 : w6.cell? ⟨B9, 1, none⟩ = some (.int .i64 r) := (hB6.cell 1).trans rfl
         have hy2 : w6.cell? ⟨B9, 2, none⟩ = some (.int .i64 k) := (hB6.cell 2).trans rfl
         have hy3 : w6.cell? ⟨B9, 3, none⟩ = some (.slice C nc cc) := (hB6.cell 3).trans rfl
         have hy4 : w6.cell? ⟨B9, 4, none⟩ = some (.slice D r cd) := (hB6.cell 4).trans rfl
         clear hR6 hb6 hx0 hx1 hx2 hx3 hx4)
      | (go_at_call 23; (with_reducible refine (kern_ok HE6.out).mono ?_); rintro e w7 ⟨KA, nk, kc, ks, rfl, hM7, hK7, hnk, hb7⟩
         have hrk := rank_kern hp.1 HR6.out hK7
         rw [hM7.len] at hrk
         have hrk2 : (rk : Int) + (nk : Int) = (k : Int) := by omega
         have hB7 := hB6.below hb7 hB6.lt
         have hF7 := hF6.below hb7 hF6.lt
         have HE7 := Lib.hid (HE6.out.upto hb7)
         have hbb7 := bnext hbb6 hb7
         have hv0 : w7.cell? ⟨B9, 0, none⟩ = some (.int .i64 P) := (hB7.cell 0).trans rfl
         have hv1 : w7.cell? ⟨B9, 1, none⟩ = some (.int .i64 r) := (hB7.cell 1).trans rfl
         have hv2 : w7.cell? ⟨B9, 2, none⟩ = some (.int .i64 k) := (hB7.cell 2).trans rfl
         have hv3 : w7.cell? ⟨B9, 3, none⟩ = some (.slice C nc cc) := (hB7.cell 3).trans rfl
         have hv4 : w7.cell? ⟨B9, 4, none⟩ = some (.slice D r cd) := (hB7.cell 4).trans rfl
         clear hK7 hM7 hb7 hy0 hy1 hy2 hy3 hy4)
      | (go_at_call 16; (with_reducible refine (count_ok HE7.out).mono ?_); rintro e w8 ⟨⟨v, hC8, he8⟩, hb8⟩
         obtain ⟨u, rfl⟩ : ∃ u, v = some u := by
           rcases v with _ | u
           · obtain ⟨m9, l9, h9, h10 | h10⟩ := hC8
             · cases h10.2
             · exact absurd h10.2.symm (cnt_small hP2 hP5 (by omega))
           · exact ⟨u, rfl⟩
         have he8 := he8
         simp only [] at he8
         subst he8
         have HC8 := Lib.hid hC8
         have hB8 := hB7.below hb8 hB7.lt
         have hF8 := hF7.below hb8 hF7.lt
         have HE8 := Lib.hid (HE7.out.upto hb8)
         have hbb8 := bnext hbb7 hb8
         have hw82 : w8.cell? ⟨B9, 2, none⟩ = some (.int .i64 k) := (hB8.cell 2).trans rfl
         have hw80 : w8.cell? ⟨B8, 0, none⟩ = some (.int .i64 P) := (hF8.cell 0).trans rfl
         clear hC8 hb8))
    have HUV : Hid (foundN P k (augM r k cells right) (P ^ k) = u) := Lib.hid (foundN_all hP2 HC8.out)
    clear hw80 hw82
    go_upto_region 15 with fail
    have hw80 : w8.cell? ⟨B8, 0, none⟩ = some (.int .i64 P) := (hF8.cell 0).trans rfl
    have hw82 : w8.cell? ⟨B9, 2, none⟩ = some (.int .i64 k) := (hB8.cell 2).trans rfl
    go_wp2_with fail
    go_loop [16, 90] (fun s v => ∃ (j T : Nat), j ≤ k ∧ v = .int .i64 j ∧ s = .int .i64 T ∧ Hid (T = P ^ j)) (fun _ v => k - (intOf v).toNat)
    case atStart => exact ⟨0, 1, Nat.zero_le _, rfl, rfl, Lib.hid (by simp)⟩
    case round =>
      obtain ⟨j, T, hj, rfl, rfl, HT0⟩ := hrel
      by_cases hlt : j < k
      · have h1 : (j : Int) < (k : Int) := by omega
        obtain ⟨T2, hT2⟩ : ∃ T2, T * P = T2 := ⟨_, rfl⟩
        have HT2 : Hid (T2 = P ^ (j + 1)) := Lib.hid (by rw [← hT2, HT0.out, Nat.pow_succ])
        have hT125 : T2 ≤ 125 := by rw [HT2.out]; exact pow_small hP5 (by omega)
        have hmT : (T : Int) * (P : Int) = (T2 : Int) := by rw [← hT2]; simp
        have hwT : IntKind.i64.wrap (T2 : Int) = (T2 : Int) := IntWalk.i64_in _ (by omega)
        clear hT2
        go_wp2
        go_round
        case rel => exact ⟨j + 1, T2, by omega, by go_num, rfl, HT2⟩
        case measure => simp [intOf]; omega
      · obtain rfl : j = k := by omega
        have hT125 : T ≤ 125 := by rw [HT0.out]; exact pow_small hP5 hk3
        go_wp2_with fail
        go_loopw [17, 18] (fun f v wx => ∃ (K : Nat) (F : Int), K ≤ T ∧ v = .int .i64 K ∧ f = .int .i64 F ∧ Hid (F = foundN P j (augM r j cells right) K) ∧ Hid (EqW wx P r j nc C cc D cd cells right) ∧ Blk wx B9 30 (eqC P r j C nc cc D r cd) ∧ Blk wx B8 28 #[.int .i64 P] ∧ Below w.heap.size w wx) (fun _ v _ => T - (intOf v).toNat)
        case atStart => exact ⟨0, 0, Nat.zero_le _, rfl, rfl, Lib.hid rfl, HE8, hB8, hF8, hbb8⟩
        case round =>
          clear hw80 hw82
          rename_i wo _
          obtain ⟨K, F, hK, rfl, rfl, HF, HE, hB, hF, hb⟩ := hrel
          have hr0 : wr.cell? ⟨B9, 0, none⟩ = some (.int .i64 P) := (hB.cell 0).trans rfl
          have hr1 : wr.cell? ⟨B9, 1, none⟩ = some (.int .i64 r) := (hB.cell 1).trans rfl
          have hr2 : wr.cell? ⟨B9, 2, none⟩ = some (.int .i64 j) := (hB.cell 2).trans rfl
          have hr3 : wr.cell? ⟨B9, 3, none⟩ = some (.slice C nc cc) := (hB.cell 3).trans rfl
          have hr4 : wr.cell? ⟨B9, 4, none⟩ = some (.slice D r cd) := (hB.cell 4).trans rfl
          have hr8 : wr.cell? ⟨B8, 0, none⟩ = some (.int .i64 P) := (hF.cell 0).trans rfl
          by_cases hltK : K < T
          · have h1K : (K : Int) < (T : Int) := by omega
            have hK125 : K < 125 := by omega
            obtain ⟨WK, rfl⟩ : ∃ WK, WK = wr := ⟨_, rfl⟩
            go_wp2_with fail
            go_loopw [19, 20] (fun x v wz => ∃ (i M : Nat) (XA : Option Addr) (xc : Nat), i ≤ j ∧ v = .int .i64 M ∧ x = .slice XA i xc ∧ Hid (M = K / P ^ i) ∧ M ≤ K ∧ OwnI wz WK.heap.size 3 XA i xc (digL P i K) ∧ Below WK.heap.size WK wz) (fun x _ _ => j - sliceLen x)
            case atStart => exact ⟨0, K, none, 0, Nat.zero_le _, rfl, rfl, Lib.hid (by simp), Nat.le_refl _, OwnI.nil_, Below.refl _ _⟩
            case round =>
              clear hr0 hr1 hr2 hr3 hr4 hr8
              obtain ⟨i2, M, XA, xc, hi2, rfl, rfl, HM, hMK, hX, hbz⟩ := hrel
              have hBz := hB.below hbz hB.lt
              have hFz := hF.below hbz hF.lt
              have hza0 : wr.cell? ⟨B9, 0, none⟩ = some (.int .i64 P) := (hBz.cell 0).trans rfl
              have hza1 : wr.cell? ⟨B9, 1, none⟩ = some (.int .i64 r) := (hBz.cell 1).trans rfl
              have hza2 : wr.cell? ⟨B9, 2, none⟩ = some (.int .i64 j) := (hBz.cell 2).trans rfl
              have hza3 : wr.cell? ⟨B9, 3, none⟩ = some (.slice C nc cc) := (hBz.cell 3).trans rfl
              have hza4 : wr.cell? ⟨B9, 4, none⟩ = some (.slice D r cd) := (hBz.cell 4).trans rfl
              have hza8 : wr.cell? ⟨B8, 0, none⟩ = some (.int .i64 P) := (hFz.cell 0).trans rfl
              by_cases hlti : i2 < j
              · have h1i : (i2 : Int) < (j : Int) := by omega
                have ht : (M : Int).tmod (P : Int) = ((M % P : Nat) : Int) := by rw [Int.tmod_eq_emod_of_nonneg (by omega)]; simp
                have hq : (M : Int).tdiv (P : Int) = ((M / P : Nat) : Int) := by rw [Int.tdiv_eq_ediv_of_nonneg (by omega)]; simp
                have hdv : M / P ≤ M := Nat.div_le_self _ _
                have HM2 : Hid (M / P = K / P ^ (i2 + 1)) := Lib.hid (by rw [HM.out, Nat.div_div_eq_div_mul, Nat.pow_succ])
                have HDS : Hid (digL P i2 K ++ [((M % P : Nat) : Int)] = digL P (i2 + 1) K) := Lib.hid (by rw [digL_snoc, HM.out])
                have hszW : WK.heap.size ≤ wr.heap.size := hbz.size
                obtain ⟨d1, hd1⟩ : ∃ d, M % P = d := ⟨_, rfl⟩
                rw [hd1] at ht HDS
                obtain ⟨M2, hM2⟩ : ∃ d, M / P = d := ⟨_, rfl⟩
                rw [hM2] at hq HM2 hdv
                have hwq : IntKind.i64.wrap (M2 : Int) = (M2 : Int) := IntWalk.i64_in _ (by omega)
                clear hd1 hM2
                go_wp2_with (at_builtin; refine (?_ : Hid _).out)
                refine Lib.hid ?_
                refine wpList_append_ints rfl _ _ 22 rfl WK.heap.size 3 i0 _ Try.underlying22 hi0 hz0 hz1 hz2 rfl XA i2 xc (digL P i2 K) rfl (hX.alloc _) _ _ 1 1 [(d1 : Int)] rfl (Ints.one _ _ _) (i2 + 1) rfl (digL P (i2 + 1) K) HDS.out (by omega) (le_alloc hszW _) ?_
                intro A2 c2 w9 hown9 hgr9 hbw9 hab9
                have hbz9 := (hbz.alloc hszW (.cells #[.int .i64 d1] 3)).trans hbw9
                have hza9 : w9.cell? ⟨B8, 0, none⟩ = some (.int .i64 P) := ((hF.below hbz9 hF.lt).cell 0).trans rfl
                clear hgr9 hab9 hbw9
                go_wp2
                go_roundw
                case rel => exact ⟨i2 + 1, M2, A2, c2, by omega, rfl, rfl, HM2, by omega, hown9, hbz9⟩
                case measure => simp [sliceLen]; omega
              · obtain rfl : i2 = j := by omega
                have HEz := Lib.hid (HE.out.upto hbz)
                have hbbz := bnext hb hbz
                go_upto_region 31 with (first
                  | (go_at_call 22; refine (solves_ok HEz.out hX.ints (by omega)).mono ?_; rintro e w11 ⟨b, er, rfl, her, hbi, hb11⟩
                     obtain rfl : er = 0 := by rw [her]; unfold solvesE; rw [if_pos (digL_len _ _ _), if_pos (digL_all hP2 _ _)]
                     have HBI : Hid (b = true ↔ Solv (P : Int) i2 (augM r i2 cells right) (digL P i2 K)) := Lib.hid (hbi.trans ⟨fun h => (solvesB_iff HC.out (digL_len _ _ _)).1 h.2, fun h => ⟨rfl, (solvesB_iff HC.out (digL_len _ _ _)).2 h⟩⟩)
                     have hB11 := hBz.below hb11 hBz.lt
                     have hF11 := hFz.below hb11 hFz.lt
                     have HE11 := Lib.hid (HEz.out.upto hb11)
                     have hbb11 := bnext hbbz hb11
                     have hFl := foundN_le P i2 (augM r i2 cells right) K
                     rw [← HF.out] at hFl
                     clear her hbi hb11))
                rcases b with _ | _
                · have HN : Hid (F = foundN P i2 (augM r i2 cells right) (K + 1)) := Lib.hid (by rw [foundN_no (fun h => by have := HBI.out.2 h; cases this)]; exact HF.out)
                  go_wp2
                  go_roundw
                  case rel => exact ⟨K + 1, F, by omega, by go_num, rfl, HN, HE11, hB11, hF11, hbb11⟩
                  case measure => simp [intOf]; omega
                · have HN : Hid (F + 1 = foundN P i2 (augM r i2 cells right) (K + 1)) := Lib.hid (by rw [foundN_yes (HBI.out.1 rfl), ← HF.out])
                  have hwF : IntKind.i64.wrap (F + 1) = F + 1 := IntWalk.i64_in _ (by omega)
                  go_wp2
                  go_roundw
                  case rel => exact ⟨K + 1, F + 1, by omega, by go_num, rfl, HN, HE11, hB11, hF11, hbb11⟩
                  case measure => simp [intOf]; omega
          · obtain rfl : K = T := by omega
            obtain rfl : F = u := by rw [HF.out, HT0.out, HUV.out]
            go_wp2
            go_ret
            exact ⟨rfl, hb⟩
  · have hd : decide (n ≤ 500) = false := by simpa using hn
    go_enter Try.func8, Try.ntmps8
    go_wp2_with (first
      | (go_at_call 9; refine (sane06_any _).mono ?_; rintro e w1 ⟨rfl, hb1⟩)
      | (go_at_call 10; refine (few_any A n c _).mono ?_; rintro e w' ⟨rfl, rfl⟩))
    go_ret
    exact ⟨rfl, hb1⟩
end Go.Proofs.Yteipcjmkhacdgaa
