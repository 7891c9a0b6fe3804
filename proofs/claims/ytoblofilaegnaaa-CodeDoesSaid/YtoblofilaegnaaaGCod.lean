/-
  Words for memory and contracts of small functions of the second form. Conditions: those of each lemma.
-/
import Derived.Test.YtoblofilaegnaaaCode1
import Derived.Test.YtoblofilaegnaaaRef8
import Derived.Test.YtoblofilaegnaaaGC34
import Derived.Test.YtoblofilaegnaaaPAll
import Derived.Test.YtoblofilaegnaaaUniq
import Derived.Test.YtoblofilaegnaaaR5All
import Derived.Test.YtoblofilaegnaaaRItp
/-! CellAll -/
namespace Go.Proofs.Ytoblofilaegnaaa
open Go.RowKit Go.Shelf
set_option linter.unusedVariables false
attribute [local go_sem] Oper.semAt_some

set_option maxRecDepth 100000 in
set_option maxHeartbeats 4000000 in
theorem cells_bad (p : Int) (A : Option Addr) (m c : Nat) (vs : List Int) (bs : List Bool) (w : World) (hok : okP p = true) (h : Cel w w.heap.size A m vs bs) (hm : m ≤ 32) (hmp : (m : Int) < p) (hk : ¬ knOk p vs bs) :
    Calls Try.prog 145 #[.agg #[.int .i64 p], .slice A m c] w fun e w' => e = .returned (.tuple #[.int .i64 0, .int .i64 0, .int .i64 9]) ∧ Below w.heap.size w w' := by
  have hp := okP_pos hok
  have HO := Lib.hid hok
  have HKN := Lib.hid hk
  have hl := h.1
  have hmi : ¬ ((32 : Int) < (m : Int)) := by omega
  have hmiN : ¬ 32 < m := by omega
  have hmpi : ¬ (p ≤ (m : Int)) := by omega
  clear hok hk
  refine (callsIn_wide (n := 5)).1 ?_
  refine callsIn_of_wp_marks Try.func145 rfl trivial ?_ rfl
  simp only [Try.ntmps145, List.size_toArray, List.length_cons, List.length_nil, Nat.reduceAdd, Nat.reduceSub, Array.replicate_succ, Array.replicate_zero, List.push_toArray, List.append_toArray, List.nil_append, List.cons_append]
  have hw0 : Below w.heap.size w ((((w.alloc (.cells #[.int .i64 p] 24)).alloc (.cells #[.int .i64 0] 126)).alloc (.cells #[.int .i64 0] 3)).alloc (.cells #[.int .i64 0] 36)) := ballocs (ballocs (ballocs (bbox _) _) _) _
  have hB4 := blk4 w 24 126 3 36 #[.int .i64 p] #[.int .i64 0] #[.int .i64 0] #[.int .i64 0]
  gi_wp2_with (first
    | (refine ⟨trivial, ?_⟩; gi_at_call 118; refine (callsIn_wide.2 (of_yes p _ HO.out)).mono ?_; rintro e w1 ⟨rfl, hb1⟩
       have hF1 := hB4.1.below hb1 hB4.1.lt
       have hcF1 : (w1.alloc (.cells #[.int .i64 p] 126)).cell? ⟨w.heap.size, 0, none⟩ = some (.int .i64 p) := ((hF1.alloc _).cell 0).trans rfl
       have hR4 := hB4.2.1.below hb1 hB4.2.1.lt
       have hR5 := hB4.2.2.1.below hb1 hB4.2.2.1.lt
       have hR6 := hB4.2.2.2.below hb1 hB4.2.2.2.lt
       have hw1 := bnext hw0 hb1
       have hsz1 : w.heap.size + 4 ≤ w1.heap.size := by have := hb1.size; simp at this; omega
       clear hB4 hb1)
    | (refine ⟨trivial, ?_⟩; gi_at_call 149; refine (callsIn_wide.2 (known_any A m c _)).mono ?_; rintro e w' ⟨rfl, rfl⟩))
  obtain ⟨W4, hW4⟩ : ∃ W4, ((w1.alloc (.cells #[.int .i64 p] 126)).alloc (.cells #[.int .i64 0] 3)).alloc (.cells #[.slice A m c] 77) = W4 := ⟨_, rfl⟩
  have hsz : W4.heap.size = w1.heap.size + 3 := by rw [← hW4]; simp
  have hB3 := blk3 w1 126 3 77 #[.int .i64 p] #[.int .i64 0] #[.slice A m c]
  rw [hW4] at hB3
  obtain ⟨bP, bN, bL⟩ := hB3
  have hB0 : Below w.heap.size w W4 := by rw [← hW4]; exact ballocs (ballocs (ballocs hw1 _) _) _
  have hB14 : Below w1.heap.size w1 W4 := by rw [← hW4]; exact ballocs (ballocs (bbox _) _) _
  have bR4 := hR4.below hB14 hR4.lt
  have bR5 := hR5.below hB14 hR5.lt
  have bR6 := hR6.below hB14 hR6.lt
  have hC4 : Cel W4 (w1.heap.size + 1) A m vs bs := (h.below hB0).more (by omega)
  rw [hW4]
  clear hW4 hcF1 hF1 hR4 hR5 hR6 hw0 hw1 hB14
  refine wpIn_rangeFunc_ownG (α := KnElt vs bs) rfl (by omega) (gf := 173) (lb := #[.pointer (some ⟨w1.heap.size + 1 + 1, 0, none⟩)]) rfl trivial (enters_of Try.func173 (by kernel_rfl) rfl)
    (encs := fun y : KnElt vs bs => #[Value.int .i64 y.1.1, Value.int .i64 y.1.2]) (Kp := KeepsB (w1.heap.size + 3) (w1.heap.size + 1)) (S := fun ys => eltsOf ys = knL vs bs) (Sp := fun pre => ∃ k, eltsOf pre = (knL vs bs).take k) (N := (knL vs bs).length) (w0 := W4)
    (fun l J Jx W hW hJ _ hY h0 => known1_in _ (by omega) l (w1.heap.size + 1 + 1) (w1.heap.size + 3) (w1.heap.size + 1) m A c vs bs (by omega) J Jx hJ hY W (by have := hW.size; omega) (by omega) (by omega) (by omega) ((hW.cell (p := ⟨w1.heap.size + 1 + 1, 0, none⟩) (by simp; omega)).trans ((bL.cell 0).trans rfl)) (hC4.below (hW.mono (by omega))) h0)
    KeepsB.trans (KeepsB.put (by omega)) (Below.refl _ _) (fun _ => rfl)
    (fun pre W => KeepsB (w1.heap.size + 3) (w1.heap.size + 1) W4 W ∧ (W.cell? ⟨w1.heap.size + 1, 0, none⟩ = some (.int .i64 (pre.length : Int)) ∧ W.frozen? ⟨w1.heap.size + 1, 0, none⟩ = false) ∧ (∀ e ∈ eltsOf pre, inP p e.2 = true) ∧ Below w.heap.size w W)
    (fun cc pre W => cc = .ret ∧ W.cell? ⟨w.heap.size + 1, 0, none⟩ = some (.int .i64 0) ∧ W.cell? ⟨w.heap.size + 1 + 1, 0, none⟩ = some (.int .i64 0) ∧ W.cell? ⟨w.heap.size + 1 + 1 + 1, 0, none⟩ = some (.int .i64 9) ∧ Below w.heap.size w W)
    (fun s W W' row hs hg hr => by
      obtain ⟨h1, ⟨h2, h3⟩, h4, h5⟩ := hs
      have hr2 : ∀ r, row = some r → ∃ o : Obj, W.heap[r]? = some o ∧ o.isCells = false := fun r e => (hr r e).2
      exact ⟨ownFrom_keepsB (β := Unit) (by omega) (by omega) () W W' row h1 hg hr, ⟨cell_kept h2 hg hr2, (frozen_kept h2 hg hr2).trans h3⟩, h4, ownFrom_below (β := Unit) (Nat.le_refl _) (by omega) () W W' row h5 hg hr⟩)
    (fun cc s W W' row hs hg hr => by
      obtain ⟨h0, h1, h2, h3, h5⟩ := hs
      have hr2 : ∀ r, row = some r → ∃ o : Obj, W.heap[r]? = some o ∧ o.isCells = false := fun r e => (hr r e).2
      exact ⟨h0, cell_kept h1 hg hr2, cell_kept h2 hg hr2, cell_kept h3 hg hr2, ownFrom_below (β := Unit) (Nat.le_refl _) (by omega) () W W' row h5 hg hr⟩)
    ⟨KeepsB.refl _ _ _, ⟨(bN.cell 0).trans rfl, bN.frozen 0⟩, (fun e he => by cases he), hB0⟩
    (fun y => { tmps := #[.agg #[.int .i64 p], .slice A m c, .pointer (some ⟨w.heap.size, 0, none⟩), undef, .pointer (some ⟨w.heap.size + 1, 0, none⟩), .pointer (some ⟨w.heap.size + 1 + 1, 0, none⟩), .pointer (some ⟨w.heap.size + 1 + 1 + 1, 0, none⟩), .pointer (some ⟨w1.heap.size, 0, none⟩), .bool true, .pointer (some ⟨w1.heap.size + 1, 0, none⟩), undef, .int .i64 y.1.2, .tuple #[.int .i64 p, .bool true], .agg #[.int .i64 p], .tuple #[.int .i64 p, .bool true], .int .i64 p, .bool true, .bool true, .bool false, .slice A m c, .int .i64 m, .bool (decide ((32 : Int) < (m : Int))), .bool (decide ((32 : Int) < (m : Int))), .slice A m c, .int .i64 m, .pointer (some ⟨w.heap.size, 0, none⟩), .int .i64 p, .bool (decide (p ≤ (m : Int))), .bool (decide ((32 : Int) < (m : Int)) || decide (p ≤ (m : Int))), .slice A m c, .func (.func 173) #[] #[.pointer (some ⟨w1.heap.size + 1 + 1, 0, none⟩)], .int .i64 y.1.1, .int .i64 y.1.2, undef, undef, undef, undef, undef, undef, undef, undef], defers := [] }) ?assign ?body ?done ?stop
  case assign =>
    intro l y W K hK
    gi_wp2
    exact hK
  case body =>
    rintro l pre y W ⟨hKB, ⟨hcn, hfn⟩, hAll, hB⟩ hlt
    have hd : 1 ≤ 5 - 1 - 1 := by omega
    have hcp : W.cell? ⟨w1.heap.size, 0, none⟩ = some (.int .i64 p) := ((hKB.blk (by omega) (by omega) bP).cell 0).trans rfl
    have hkl := knL_len vs bs
    have hnw : IntKind.i64.wrap ((pre.length : Int) + 1) = (pre.length : Int) + 1 := IntWalk.i64_in _ (by omega)
    have HAll := Lib.hid hAll
    clear hAll
    by_cases hin : inP p y.1.2 = true
    · have HIN := Lib.hid hin
      have HA2 : Hid (∀ e ∈ eltsOf (pre ++ [y]), inP p e.2 = true) := Lib.hid (by
        rw [eltsOf_snoc]
        intro e he
        rcases List.mem_append.1 he with h1 | h1
        · exact HAll.out e h1
        · rw [List.mem_singleton.1 h1]; exact hin)
      clear hin
      gi_wp2_with (refine ⟨trivial, ?_⟩; gi_at_call 123; refine (CallsIn.inRound l (callsIn_wide.2 (has_any p y.1.2 _))).mono ?_; rintro e w' ⟨rfl, rfl⟩; rw [HIN.out])
      have hpl : ((pre ++ [y]).length : Int) = (pre.length : Int) + 1 := by simp
      exact ⟨(KeepsOthers.setCell _ _ _).from _, (KeepsB.refl _ _ _).setGs 0 _, hKB.setGs 0 _, ⟨(World.cell?_setCell_same' _ _ _ (by rw [hcn]; rfl)).trans (by rw [hpl]), (World.frozen?_setCell _ _ _ _).trans hfn⟩, HA2.out, hB.setCell (p := ⟨w1.heap.size + 1, 0, none⟩) (by simp; omega) _⟩
    · have hin2 : inP p y.1.2 = false := by simpa using hin
      have HIN := Lib.hid hin2
      clear hin hin2
      have gR4 := hKB.blk (by omega) (by omega) bR4
      have gR5 := hKB.blk (by omega) (by omega) bR5
      have gR6 := hKB.blk (by omega) (by omega) bR6
      have hc4 : W.cell? ⟨w.heap.size + 1, 0, none⟩ = some (.int .i64 0) := (gR4.cell 0).trans rfl
      have hc5 : W.cell? ⟨w.heap.size + 1 + 1, 0, none⟩ = some (.int .i64 0) := (gR5.cell 0).trans rfl
      have hc6 : W.cell? ⟨w.heap.size + 1 + 1 + 1, 0, none⟩ = some (.int .i64 0) := (gR6.cell 0).trans rfl
      have hf4 := gR4.frozen 0
      have hf5 := gR5.frozen 0
      have hf6 := gR6.frozen 0
      gi_wp2_with (refine ⟨trivial, ?_⟩; gi_at_call 123; refine (CallsIn.inRound l (callsIn_wide.2 (has_any p y.1.2 _))).mono ?_; rintro e w' ⟨rfl, rfl⟩; rw [HIN.out])
      refine ⟨(((KeepsOthers.setCell _ _ _).trans (KeepsOthers.setCell _ _ _)).trans (KeepsOthers.setCell _ _ _)).from _, rfl, ?_, ?_, ?_, ((hB.setCell (by simp) _).setCell (by simp; omega) _).setCell (by simp; omega) _⟩
      · go_simp
      · go_simp
      · go_simp
  case done =>
    rintro D ys W hD hS ⟨hKB, ⟨hcn, hfn⟩, hAll, hB⟩ hK
    exact absurd (fun e he => inP_iff.1 (hAll e (by rw [hS]; exact he))) HKN.out
  case stop =>
    rintro D cc pre W hD _ ⟨rfl, h4, h5, h6, hB⟩ hK
    gi_wp2
    refine leave3 (u := 0) (v := 0) (x := 9) (B := w.heap.size) (W0 := w) rfl rfl rfl rfl (fun w h => by go_simp) (fun w h => by go_simp) (fun w h => by go_simp) (by omega) (by omega) hK h4 h5 h6 hB (Nat.le_refl _) (fun w' hb => ⟨rfl, hb⟩)

set_option maxRecDepth 100000 in
theorem cells_field (p : Int) (A : Option Addr) (m c : Nat) (w : World) (hp64 : -9223372036854775808 ≤ p ∧ p ≤ 9223372036854775807) (hok : okP p = false) :
    Calls Try.prog 145 #[.agg #[.int .i64 p], .slice A m c] w fun e w' => e = .returned (.tuple #[.int .i64 0, .int .i64 0, .int .i64 9]) ∧ Below w.heap.size w w' := by
  have HO := Lib.hid hok
  clear hok
  have hw0 : Below w.heap.size w ((((w.alloc (.cells #[.int .i64 p] 24)).alloc (.cells #[.int .i64 0] 126)).alloc (.cells #[.int .i64 0] 3)).alloc (.cells #[.int .i64 0] 36)) := ballocs (ballocs (ballocs (bbox _) _) _) _
  have hB4 := blk4 w 24 126 3 36 #[.int .i64 p] #[.int .i64 0] #[.int .i64 0] #[.int .i64 0]
  go_enter Try.func145, Try.ntmps145
  go_wp2_with (go_at_call 118; refine (of_no p _ hp64 HO.out).mono ?_; rintro e w1 ⟨rfl, hb1⟩
               have hw1 := ballocs (bnext hw0 hb1) (.cells #[.int .i64 0] 126)
               have hR4 := (hB4.2.1.below hb1 hB4.2.1.lt).alloc (.cells #[.int .i64 0] 126)
               have hR5 := (hB4.2.2.1.below hb1 hB4.2.2.1.lt).alloc (.cells #[.int .i64 0] 126)
               have hR6 := (hB4.2.2.2.below hb1 hB4.2.2.2.lt).alloc (.cells #[.int .i64 0] 126)
               have hc4 : (w1.alloc (.cells #[.int .i64 0] 126)).cell? ⟨w.heap.size + 1, 0, none⟩ = some (.int .i64 0) := (hR4.cell 0).trans rfl
               have hc5 : (w1.alloc (.cells #[.int .i64 0] 126)).cell? ⟨w.heap.size + 1 + 1, 0, none⟩ = some (.int .i64 0) := (hR5.cell 0).trans rfl
               have hc6 : (w1.alloc (.cells #[.int .i64 0] 126)).cell? ⟨w.heap.size + 1 + 1 + 1, 0, none⟩ = some (.int .i64 0) := (hR6.cell 0).trans rfl
               have hf4 := hR4.frozen 0
               have hf5 := hR5.frozen 0
               have hf6 := hR6.frozen 0
               clear hb1 hw0)
  obtain ⟨W, hW⟩ : ∃ W, w1.alloc (.cells #[.int .i64 0] 126) = W := ⟨_, rfl⟩
  rw [hW] at hw1 hc4 hc5 hc6 hf4 hf5 hf6 ⊢
  have hg4 : (((W.setCell ⟨w.heap.size + 1, 0, none⟩ (.int .i64 0)).setCell ⟨w.heap.size + 1 + 1, 0, none⟩ (.int .i64 0)).setCell ⟨w.heap.size + 1 + 1 + 1, 0, none⟩ (.int .i64 9)).cell? ⟨w.heap.size + 1, 0, none⟩ = some (.int .i64 0) := by go_simp
  have hg5 : (((W.setCell ⟨w.heap.size + 1, 0, none⟩ (.int .i64 0)).setCell ⟨w.heap.size + 1 + 1, 0, none⟩ (.int .i64 0)).setCell ⟨w.heap.size + 1 + 1 + 1, 0, none⟩ (.int .i64 9)).cell? ⟨w.heap.size + 1 + 1, 0, none⟩ = some (.int .i64 0) := by go_simp
  have hg6 : (((W.setCell ⟨w.heap.size + 1, 0, none⟩ (.int .i64 0)).setCell ⟨w.heap.size + 1 + 1, 0, none⟩ (.int .i64 0)).setCell ⟨w.heap.size + 1 + 1 + 1, 0, none⟩ (.int .i64 9)).cell? ⟨w.heap.size + 1 + 1 + 1, 0, none⟩ = some (.int .i64 9) := by go_simp
  refine bodyPost_ret (v := .tuple #[.int .i64 0, .int .i64 0, .int .i64 9]) (by simp [results, Try.results145, go_sem, hg4, hg5, hg6]) rfl ⟨rfl, ((hw1.setCell (by simp) _).setCell (by simp; omega) _).setCell (by simp; omega) _⟩
end Go.Proofs.Ytoblofilaegnaaa

/-! RCellE -/
namespace Go.Proofs.Ytoblofilaegnaaa
open Go.RowKit
set_option linter.unusedVariables false

/-- The error of a field and cells. -/
def cellsE (p : Int) (vs : List Int) (bs : List Bool) : Int := if okP p = true then (if 32 < vs.length ∨ p ≤ (vs.length : Int) then 4 else (if (knL vs bs).all (fun e => inP p e.2) = true then 0 else 9)) else 9
theorem knOk_iff {p : Int} {vs : List Int} {bs : List Bool} : knOk p vs bs ↔ (knL vs bs).all (fun e => inP p e.2) = true := by
  rw [List.all_eq_true]
  exact ⟨fun h e he => inP_iff.2 (h e he), fun h e he => inP_iff.1 (h e he)⟩
theorem cellsE_ok {p : Int} {vs : List Int} {bs : List Bool} (h : cellsE p vs bs = 0) : okP p = true ∧ vs.length ≤ 32 ∧ (vs.length : Int) < p ∧ knOk p vs bs := by
  unfold cellsE at h
  split at h
  · rename_i h1
    split at h
    · cases h
    · rename_i h2
      split at h
      · rename_i h3
        exact ⟨h1, by omega, by omega, knOk_iff.2 h3⟩
      · cases h
  · cases h
theorem cellsE_field {p : Int} {vs : List Int} {bs : List Bool} (h : okP p = false) : cellsE p vs bs = 9 := by unfold cellsE; rw [if_neg (by rw [h]; simp)]
theorem cellsE_size {p : Int} {vs : List Int} {bs : List Bool} (h : okP p = true) (h2 : 32 < vs.length ∨ p ≤ (vs.length : Int)) : cellsE p vs bs = 4 := by unfold cellsE; rw [if_pos h, if_pos h2]
theorem cellsE_bad {p : Int} {vs : List Int} {bs : List Bool} (h : okP p = true) (h2 : ¬ (32 < vs.length ∨ p ≤ (vs.length : Int))) (h3 : ¬ knOk p vs bs) : cellsE p vs bs = 9 := by unfold cellsE; rw [if_pos h, if_neg h2, if_neg (fun a => h3 (knOk_iff.2 a))]
theorem cellsE_yes {p : Int} {vs : List Int} {bs : List Bool} (h : okP p = true) (h2 : ¬ (32 < vs.length ∨ p ≤ (vs.length : Int))) (h3 : knOk p vs bs) : cellsE p vs bs = 0 := by unfold cellsE; rw [if_pos h, if_neg h2, if_pos (knOk_iff.1 h3)]

set_option maxRecDepth 100000 in
theorem rcells_bad (p : Int) (A : Option Addr) (m c : Nat) (vs : List Int) (bs : List Bool) (w : World) (hok : okP p = true) (h : Cel w w.heap.size A m vs bs) (hm : m ≤ 32) (hmp : (m : Int) < p) (hkn : ¬ knOk p vs bs) :
    Calls Try.prog 150 #[.agg #[.int .i64 p], .slice A m c] w fun e w' => e = .returned (.int .i64 9) ∧ Below w.heap.size w w' := by
  have hp := okP_pos hok
  have HOK := Lib.hid hok
  have HKN := Lib.hid hkn
  have HV := Lib.hid h.1
  have HB := Lib.hid h.2.1
  have hF0 := Blk.new w 24 #[.int .i64 p]
  have hb0 : Below w.heap.size w (w.alloc (.cells #[.int .i64 p] 24)) := bbox _
  have hge1 : ¬ p ≤ (m : Int) := by omega
  have hge2 : ¬ (32 : Int) < (m : Int) := by omega
  have hge3 : ¬ 32 < m := by omega
  have hge5 : decide ((m : Int) ≥ p) = false := decide_eq_false hge1
  clear hok hkn
  go_enter Try.func150, Try.ntmps150
  go_wp2_with (go_at_call 128; refine (check_yes p _ HOK.out).mono ?_; rintro e w1 ⟨rfl, hb1⟩
               have hbb1 := bnext hb0 hb1
               have hF1 := hF0.below hb1 hF0.lt
               have hcf : w1.cell? ⟨w.heap.size, 0, none⟩ = some (.int .i64 p) := (hF1.cell 0).trans rfl)
  go_loopw [25] (fun i wz => ∃ k : Nat, k ≤ m ∧ i = .int .i64 k ∧ Hid (knOk p (vs.take k) (bs.take k)) ∧ Below w1.heap.size w1 wz) (fun i _ => m - (intOf i).toNat)
  case atStart => exact ⟨0, Nat.zero_le _, rfl, Lib.hid (fun e he => by cases he), Below.refl _ _⟩
  case round =>
    obtain ⟨k, hk, rfl, HK, hb⟩ := hrel
    have hFz := hF1.below hb hF1.lt
    have hbw := bnext hbb1 hb
    by_cases hlt : k < m
    · have hS := h.upto hbw
      obtain ⟨b1, o1, rfl, hbl1, hc1⟩ := hS.2.2 (by omega)
      have hx0 := (hc1 k hlt).1
      have hx1 := (hc1 k hlt).2
      have HST := Lib.hid (knL_step (vs := vs) (bs := bs) (by rw [HV.out, HB.out]) (j := k) (by rw [HV.out]; exact hlt))
      clear hc1
      have hki : (k : Int) < (m : Int) := by omega
      have hk0 : (0 : Int) ≤ (k : Int) := by omega
      by_cases hbk : bs.getD k false = true
      · obtain ⟨y, hy⟩ : ∃ y, vs.getD k 0 = y := ⟨_, rfl⟩
        rw [hy] at hx0 HST
        rw [hbk] at hx1 HST
        clear hy hbk
        have hFz1 := hFz.alloc (.cells #[.int .i64 y, .bool true] 86)
        have hcf1 : (wr.alloc (.cells #[.int .i64 y, .bool true] 86)).cell? ⟨w.heap.size, 0, none⟩ = some (.int .i64 p) := (hFz1.cell 0).trans rfl
        have hcf2 : wr.cell? ⟨w.heap.size, 0, none⟩ = some (.int .i64 p) := (hFz.cell 0).trans rfl
        by_cases hin : 0 ≤ y ∧ y < p
        · have HIN : Hid (inF p [y] = true) := Lib.hid (inF_iff.2 ⟨HOK.out, allP_iff.2 fun z hz => by rw [List.mem_singleton.1 hz]; exact hin⟩)
          have HK2 : Hid (knOk p (vs.take (k + 1)) (bs.take (k + 1))) := Lib.hid fun e he => by
            rw [HST.out] at he
            rcases List.mem_append.1 he with h1 | h1
            · exact HK.out e h1
            · rw [if_pos rfl] at h1; rw [List.mem_singleton.1 h1]; exact hin
          clear hin
          go_wp2_with (go_at_call 126; (refine (in_any p _ 1 1 [y] _ (by exact Ints.oneAt _ y 3 _ (by simp)) (by omega)).mono ?_); rintro e w2 ⟨rfl, hb2⟩
                       rw [HIN.out]
                       have hbz2 := bnext (ballocs (ballocs hb (.cells #[.int .i64 y, .bool true] 86)) (.cells #[.int .i64 y] 3)) hb2)
          go_roundw
          case rel => exact ⟨k + 1, by omega, by go_num, HK2, hbz2⟩
          case measure => simp [intOf]; omega
        · have HIN : Hid (inF p [y] = false) := Lib.hid (inF_false.2 fun _ => by
            rw [← Bool.not_eq_true, allP_iff]
            intro ha
            exact hin (ha y List.mem_cons_self))
          clear hin
          go_wp2_with (go_at_call 126; (refine (in_any p _ 1 1 [y] _ (by exact Ints.oneAt _ y 3 _ (by simp)) (by omega)).mono ?_); rintro e w2 ⟨rfl, hb2⟩
                       rw [HIN.out]
                       have hbz2 := bnext (ballocs (ballocs hb (.cells #[.int .i64 y, .bool true] 86)) (.cells #[.int .i64 y] 3)) hb2)
          go_ret
          exact ⟨rfl, bnext hbb1 hbz2⟩
      · have hbf : bs.getD k false = false := by simpa using hbk
        obtain ⟨y, hy⟩ : ∃ y, vs.getD k 0 = y := ⟨_, rfl⟩
        rw [hy] at hx0
        rw [hbf] at hx1 HST
        have HK2 : Hid (knOk p (vs.take (k + 1)) (bs.take (k + 1))) := Lib.hid fun e he => by
          rw [HST.out] at he
          rcases List.mem_append.1 he with h1 | h1
          · exact HK.out e h1
          · simp at h1
        clear hy hbk hbf
        go_wp2_with fail
        go_roundw
        case rel => exact ⟨k + 1, by omega, by go_num, HK2, ballocs hb _⟩
        case measure => simp [intOf]; omega
    · obtain rfl : k = m := by omega
      have hK := HK.out
      rw [List.take_of_length_le (by rw [HV.out]; exact Nat.le_refl _), List.take_of_length_le (by rw [HB.out]; exact Nat.le_refl _)] at hK
      exact absurd hK HKN.out

set_option maxRecDepth 100000 in
theorem rcells_all (p : Int) (A : Option Addr) (m c : Nat) (vs : List Int) (bs : List Bool) (w : World) (hp64 : -9223372036854775808 ≤ p ∧ p ≤ 9223372036854775807) (h : Cel w w.heap.size A m vs bs) (hm : m ≤ 1000) :
    Calls Try.prog 150 #[.agg #[.int .i64 p], .slice A m c] w fun e w' => e = .returned (.int .i64 (cellsE p vs bs)) ∧ Below w.heap.size w w' := by
  have hF0 := Blk.new w 24 #[.int .i64 p]
  have hb0 : Below w.heap.size w (w.alloc (.cells #[.int .i64 p] 24)) := bbox _
  have hv := h.1
  by_cases hok : okP p = true
  · by_cases hs : 32 < m ∨ p ≤ (m : Int)
    · have HE : Hid (cellsE p vs bs = 4) := Lib.hid (cellsE_size hok (by rw [hv]; exact hs))
      have HOK := Lib.hid hok
      rw [HE.out]
      clear hok
      by_cases h1 : 32 < m
      · have h1i : (32 : Int) < (m : Int) := by omega
        go_enter Try.func150, Try.ntmps150
        go_wp2_with (go_at_call 128; refine (check_yes p _ HOK.out).mono ?_; rintro e w1 ⟨rfl, hb1⟩
                     have hbb1 := bnext hb0 hb1
                     have hF1 := hF0.below hb1 hF0.lt
                     have hcf : w1.cell? ⟨w.heap.size, 0, none⟩ = some (.int .i64 p) := (hF1.cell 0).trans rfl)
        go_ret
        exact ⟨rfl, hbb1⟩
      · have h1i : ¬ (32 : Int) < (m : Int) := by omega
        have hge : p ≤ (m : Int) := by omega
        have hge5 : decide ((m : Int) ≥ p) = true := decide_eq_true hge
        go_enter Try.func150, Try.ntmps150
        go_wp2_with (go_at_call 128; refine (check_yes p _ HOK.out).mono ?_; rintro e w1 ⟨rfl, hb1⟩
                     have hbb1 := bnext hb0 hb1
                     have hF1 := hF0.below hb1 hF0.lt
                     have hcf : w1.cell? ⟨w.heap.size, 0, none⟩ = some (.int .i64 p) := (hF1.cell 0).trans rfl)
        go_ret
        exact ⟨rfl, hbb1⟩
    · by_cases hk : knOk p vs bs
      · rw [cellsE_yes hok (by rw [hv]; exact hs) hk]
        exact rcells_ok p A m c vs bs w hok h (by omega) (by omega) hk
      · rw [cellsE_bad hok (by rw [hv]; exact hs) hk]
        exact rcells_bad p A m c vs bs w hok h (by omega) (by omega) hk
  · have hokf : okP p = false := by simpa using hok
    have HO := Lib.hid hokf
    rw [cellsE_field hokf]
    clear hok hokf
    go_enter Try.func150, Try.ntmps150
    go_wp2_with (go_at_call 128; refine (check_no p _ HO.out).mono ?_; rintro e w1 ⟨rfl, hb1⟩
                 have hbb1 := bnext hb0 hb1)
    go_ret
    exact ⟨rfl, hbb1⟩

/-- The error of a field, cells and k, but that of few cells. -/
def beginE (p : Int) (vs : List Int) (bs : List Bool) (k : Int) : Int := if cellsE p vs bs = 0 then (if k < 1 ∨ (vs.length : Int) < k then 1 else 0) else cellsE p vs bs
theorem beginE_ok {p : Int} {vs : List Int} {bs : List Bool} {k : Int} (h : beginE p vs bs k = 0) : cellsE p vs bs = 0 ∧ 1 ≤ k ∧ k ≤ (vs.length : Int) := by
  unfold beginE at h
  split at h
  · rename_i h1
    split at h
    · cases h
    · exact ⟨h1, by omega, by omega⟩
  · rename_i h1; exact absurd h h1
theorem rbegin_all (p : Int) (A : Option Addr) (m c : Nat) (k : Int) (vs : List Int) (bs : List Bool) (w : World) (hp64 : -9223372036854775808 ≤ p ∧ p ≤ 9223372036854775807) (h : Cel w w.heap.size A m vs bs) (hm : m ≤ 1000) (hk64 : -9223372036854775808 ≤ k ∧ k ≤ 9223372036854775807) :
    Calls Try.prog 147 #[.agg #[.int .i64 p], .slice A m c, .int .i64 k] w fun e w' => e = .returned (.int .i64 (beginE p vs bs k)) ∧ Below w.heap.size w w' := by
  have hb0 : Below w.heap.size w (w.alloc (.cells #[.int .i64 p] 24)) := bbox _
  have hv := h.1
  have H0 := Lib.hid (h.upto hb0)
  obtain ⟨ce, hce⟩ : ∃ ce, cellsE p vs bs = ce := ⟨_, rfl⟩
  have HCE := Lib.hid hce
  by_cases h0 : ce = 0
  · have HC0 : Hid (cellsE p vs bs = 0) := Lib.hid (by rw [hce, h0])
    have HBG : Hid (beginE p vs bs k = if k < 1 ∨ (m : Int) < k then 1 else 0) := Lib.hid (by unfold beginE; rw [if_pos HC0.out, hv])
    rw [HBG.out]
    clear hce HCE h0 HBG
    by_cases h1 : k < 1
    · rw [if_pos (.inl h1)]
      go_enter Try.func147, Try.ntmps147
      go_wp2_with (go_at_call 150; refine (rcells_all p A m c vs bs _ hp64 H0.out hm).mono ?_; rintro e w1 ⟨rfl, hb1⟩; rw [HC0.out]
                   have hbb1 := bnext hb0 hb1)
      go_ret
      exact ⟨rfl, hbb1⟩
    · by_cases h2 : (m : Int) < k
      · rw [if_pos (.inr h2)]
        go_enter Try.func147, Try.ntmps147
        go_wp2_with (go_at_call 150; refine (rcells_all p A m c vs bs _ hp64 H0.out hm).mono ?_; rintro e w1 ⟨rfl, hb1⟩; rw [HC0.out]
                     have hbb1 := bnext hb0 hb1)
        go_ret
        exact ⟨rfl, hbb1⟩
      · rw [if_neg (by omega)]
        go_enter Try.func147, Try.ntmps147
        go_wp2_with (go_at_call 150; refine (rcells_all p A m c vs bs _ hp64 H0.out hm).mono ?_; rintro e w1 ⟨rfl, hb1⟩; rw [HC0.out]
                     have hbb1 := bnext hb0 hb1)
        go_ret
        exact ⟨rfl, hbb1⟩
  · have HBG : Hid (beginE p vs bs k = ce) := Lib.hid (by unfold beginE; rw [hce, if_neg h0])
    rw [HBG.out]
    clear hce HBG
    go_enter Try.func147, Try.ntmps147
    go_wp2_with (go_at_call 150; refine (rcells_all p A m c vs bs _ hp64 H0.out hm).mono ?_; rintro e w1 ⟨rfl, hb1⟩; rw [HCE.out]
                 have hbb1 := bnext hb0 hb1)
    go_ret
    exact ⟨rfl, hbb1⟩
end Go.Proofs.Ytoblofilaegnaaa

/-! CodAll -/
namespace Go.Proofs.Ytoblofilaegnaaa
open Go.RowKit
set_option linter.unusedVariables false

/-- What filling finds: the error, too few, or the polynomial through the first known cells. -/
def FillR (p : Int) (vs : List Int) (bs : List Bool) (k : Int) (R : List Int) (er : Int) : Prop :=
  (beginE p vs bs k ≠ 0 ∧ R = [] ∧ er = beginE p vs bs k) ∨ (beginE p vs bs k = 0 ∧ ((knL vs bs).length : Int) < k ∧ R = [] ∧ er = 11) ∨
  (beginE p vs bs k = 0 ∧ k ≤ ((knL vs bs).length : Int) ∧ er = 0 ∧ Through p (ptK ((knL vs bs).take k.toNat)) (vlK ((knL vs bs).take k.toNat)) R)
/-- What Fill leaves. -/
def FillPost (p : Int) (vs : List Int) (bs : List Bool) (k : Int) (w : World) (e : Ending) (w' : World) : Prop :=
  ∃ (A : Option Addr) (n ca : Nat) (R : List Int) (er : Int), e = .returned (.tuple #[.slice A n ca, .int .i64 er]) ∧ n ≤ 32 ∧ n ≤ ca ∧ Ints w' w'.heap.size A n R ∧ FillR p vs bs k R er ∧ Below w.heap.size w w'
theorem fill_points {p : Int} {vs : List Int} {bs : List Bool} {k : Nat} (h : (vs.length : Int) < p) (hk : k ≤ (knL vs bs).length) : (ptK ((knL vs bs).take k)).Pairwise (fun x y => ¬ Cong p (y - x) 0) :=
  pairwise_of (by rw [ptK_take]; exact take_allP (ptK_allP vs bs h) k) fun i j h1 h2 => by
    rw [ptK_take]
    rw [ptK_take, List.length_take, ptK_len] at h2
    exact ((ptK_apart vs bs).take k) i j h1 (by rw [List.length_take, ptK_len]; omega)
theorem FillR.one {p : Int} {vs : List Int} {bs : List Bool} {k : Int} {R R' : List Int} {er er' : Int} (h : FillR p vs bs k R er) (h' : FillR p vs bs k R' er') : R = R' ∧ er = er' := by
  rcases h with ⟨h0, h1, h2⟩ | ⟨h0, h1, h2, h3⟩ | ⟨h0, h1, h2, h3⟩ <;> rcases h' with ⟨k0, k1, k2⟩ | ⟨k0, k1, k2, k3⟩ | ⟨k0, k1, k2, k3⟩
  · exact ⟨by rw [h1, k1], by rw [h2, k2]⟩
  · exact absurd k0 h0
  · exact absurd k0 h0
  · exact absurd h0 k0
  · exact ⟨by rw [h2, k2], by rw [h3, k3]⟩
  · omega
  · exact absurd h0 k0
  · omega
  · have hb := beginE_ok h0
    have hc := cellsE_ok hb.1
    refine ⟨?_, by rw [h2, k2]⟩
    have := Through.unique hc.1 h3 (fill_points hc.2.2.1 (by omega)) k3.al k3.ln k3.va
    rw [this, k3.tr.trimL]
/-- What Right finds. -/
def RightR (p : Int) (vs : List Int) (bs : List Bool) (k : Int) (b : Bool) (er : Int) : Prop :=
  (beginE p vs bs k ≠ 0 ∧ b = false ∧ er = beginE p vs bs k) ∨ (beginE p vs bs k = 0 ∧ ((knL vs bs).length : Int) < k ∧ b = true ∧ er = 0) ∨
  (beginE p vs bs k = 0 ∧ k ≤ ((knL vs bs).length : Int) ∧ er = 0 ∧ ∃ R, Through p (ptK ((knL vs bs).take k.toNat)) (vlK ((knL vs bs).take k.toNat)) R ∧ b = ((agr p R (knL vs bs) : Int) == ((knL vs bs).length : Int)))
def RightPost (p : Int) (vs : List Int) (bs : List Bool) (k : Int) (w : World) (e : Ending) (w' : World) : Prop :=
  ∃ (b : Bool) (er : Int), e = .returned (.tuple #[.bool b, .int .i64 er]) ∧ RightR p vs bs k b er ∧ Below w.heap.size w w'
theorem RightR.one {p : Int} {vs : List Int} {bs : List Bool} {k : Int} {b b' : Bool} {er er' : Int} (h : RightR p vs bs k b er) (h' : RightR p vs bs k b' er') : b = b' ∧ er = er' := by
  rcases h with ⟨h0, h1, h2⟩ | ⟨h0, h1, h2, h3⟩ | ⟨h0, h1, h2, R, h3, h4⟩ <;> rcases h' with ⟨k0, k1, k2⟩ | ⟨k0, k1, k2, k3⟩ | ⟨k0, k1, k2, R', k3, k4⟩
  · exact ⟨by rw [h1, k1], by rw [h2, k2]⟩
  · exact absurd k0 h0
  · exact absurd k0 h0
  · exact absurd h0 k0
  · exact ⟨by rw [h2, k2], by rw [h3, k3]⟩
  · omega
  · exact absurd h0 k0
  · omega
  · have := (FillR.one (R := R) (R' := R') (er := 0) (er' := 0) (.inr (.inr ⟨h0, h1, rfl, h3⟩)) (.inr (.inr ⟨k0, k1, rfl, k3⟩))).1
    subst this
    exact ⟨by rw [h4, k4], by rw [h2, k2]⟩
/-- What Agree finds. -/
def agreeR (p : Int) (vs : List Int) (bs : List Bool) (cs : List Int) : Int × Int := if cellsE p vs bs = 0 then (if errL p [cs] = 0 then ((agr p cs (knL vs bs) : Int), 0) else (0, errL p [cs])) else (0, cellsE p vs bs)
/-- What Encode finds. -/
def encR (p : Int) (cs : List Int) (n : Int) : List Int × Int := if errL p [cs] = 0 then (if n < 0 ∨ 32 < n ∨ p ≤ n then ([], 1) else (valsP p cs (ptsL n.toNat), 0)) else ([], errL p [cs])
/-- What Distance finds. -/
def distR (n k : Int) : Int × Int := if k < 1 ∨ n < k ∨ 32 < n then (0, 1) else (n - k + 1, 0)

set_option maxRecDepth 100000 in
theorem cells_size (p : Int) (A : Option Addr) (m c : Nat) (w : World) (hok : okP p = true) (hm : m ≤ 1000) (hs : 32 < m ∨ p ≤ (m : Int)) :
    Calls Try.prog 145 #[.agg #[.int .i64 p], .slice A m c] w fun e w' => e = .returned (.tuple #[.int .i64 0, .int .i64 0, .int .i64 4]) ∧ Below w.heap.size w w' := by
  have HO := Lib.hid hok
  clear hok
  have hw0 : Below w.heap.size w ((((w.alloc (.cells #[.int .i64 p] 24)).alloc (.cells #[.int .i64 0] 126)).alloc (.cells #[.int .i64 0] 3)).alloc (.cells #[.int .i64 0] 36)) := ballocs (ballocs (ballocs (bbox _) _) _) _
  have hB4 := blk4 w 24 126 3 36 #[.int .i64 p] #[.int .i64 0] #[.int .i64 0] #[.int .i64 0]
  by_cases h1 : 32 < m
  · have h1i : (32 : Int) < (m : Int) := by omega
    go_enter Try.func145, Try.ntmps145
    go_wp2_with (go_at_call 118; refine (of_yes p _ HO.out).mono ?_; rintro e w1 ⟨rfl, hb1⟩
                 have hw1 := ballocs (bnext hw0 hb1) (.cells #[.int .i64 p] 126)
                 have hF1 := (hB4.1.below hb1 hB4.1.lt).alloc (.cells #[.int .i64 p] 126)
                 have hR4 := (hB4.2.1.below hb1 hB4.2.1.lt).alloc (.cells #[.int .i64 p] 126)
                 have hR5 := (hB4.2.2.1.below hb1 hB4.2.2.1.lt).alloc (.cells #[.int .i64 p] 126)
                 have hR6 := (hB4.2.2.2.below hb1 hB4.2.2.2.lt).alloc (.cells #[.int .i64 p] 126)
                 have hcF1 : (w1.alloc (.cells #[.int .i64 p] 126)).cell? ⟨w.heap.size, 0, none⟩ = some (.int .i64 p) := (hF1.cell 0).trans rfl
                 have hc4 : (w1.alloc (.cells #[.int .i64 p] 126)).cell? ⟨w.heap.size + 1, 0, none⟩ = some (.int .i64 0) := (hR4.cell 0).trans rfl
                 have hc5 : (w1.alloc (.cells #[.int .i64 p] 126)).cell? ⟨w.heap.size + 1 + 1, 0, none⟩ = some (.int .i64 0) := (hR5.cell 0).trans rfl
                 have hc6 : (w1.alloc (.cells #[.int .i64 p] 126)).cell? ⟨w.heap.size + 1 + 1 + 1, 0, none⟩ = some (.int .i64 0) := (hR6.cell 0).trans rfl
                 have hf4 := hR4.frozen 0
                 have hf5 := hR5.frozen 0
                 have hf6 := hR6.frozen 0
                 clear hb1 hw0)
    obtain ⟨W, hW⟩ : ∃ W, w1.alloc (.cells #[.int .i64 p] 126) = W := ⟨_, rfl⟩
    rw [hW] at hw1 hc4 hc5 hc6 hf4 hf5 hf6 ⊢
    have hg4 : (((W.setCell ⟨w.heap.size + 1, 0, none⟩ (.int .i64 0)).setCell ⟨w.heap.size + 1 + 1, 0, none⟩ (.int .i64 0)).setCell ⟨w.heap.size + 1 + 1 + 1, 0, none⟩ (.int .i64 4)).cell? ⟨w.heap.size + 1, 0, none⟩ = some (.int .i64 0) := by go_simp
    have hg5 : (((W.setCell ⟨w.heap.size + 1, 0, none⟩ (.int .i64 0)).setCell ⟨w.heap.size + 1 + 1, 0, none⟩ (.int .i64 0)).setCell ⟨w.heap.size + 1 + 1 + 1, 0, none⟩ (.int .i64 4)).cell? ⟨w.heap.size + 1 + 1, 0, none⟩ = some (.int .i64 0) := by go_simp
    have hg6 : (((W.setCell ⟨w.heap.size + 1, 0, none⟩ (.int .i64 0)).setCell ⟨w.heap.size + 1 + 1, 0, none⟩ (.int .i64 0)).setCell ⟨w.heap.size + 1 + 1 + 1, 0, none⟩ (.int .i64 4)).cell? ⟨w.heap.size + 1 + 1 + 1, 0, none⟩ = some (.int .i64 4) := by go_simp
    exact bodyPost_ret (v := .tuple #[.int .i64 0, .int .i64 0, .int .i64 4]) (by simp [results, Try.results145, go_sem, hg4, hg5, hg6]) rfl ⟨rfl, ((hw1.setCell (by simp) _).setCell (by simp; omega) _).setCell (by simp; omega) _⟩
  · have h1i : ¬ (32 : Int) < (m : Int) := by omega
    have hge : p ≤ (m : Int) := by omega
    have hge5 : decide ((m : Int) ≥ p) = true := decide_eq_true hge
    go_enter Try.func145, Try.ntmps145
    go_wp2_with (go_at_call 118; refine (of_yes p _ HO.out).mono ?_; rintro e w1 ⟨rfl, hb1⟩
                 have hw1 := ballocs (bnext hw0 hb1) (.cells #[.int .i64 p] 126)
                 have hF1 := (hB4.1.below hb1 hB4.1.lt).alloc (.cells #[.int .i64 p] 126)
                 have hR4 := (hB4.2.1.below hb1 hB4.2.1.lt).alloc (.cells #[.int .i64 p] 126)
                 have hR5 := (hB4.2.2.1.below hb1 hB4.2.2.1.lt).alloc (.cells #[.int .i64 p] 126)
                 have hR6 := (hB4.2.2.2.below hb1 hB4.2.2.2.lt).alloc (.cells #[.int .i64 p] 126)
                 have hcF1 : (w1.alloc (.cells #[.int .i64 p] 126)).cell? ⟨w.heap.size, 0, none⟩ = some (.int .i64 p) := (hF1.cell 0).trans rfl
                 have hc4 : (w1.alloc (.cells #[.int .i64 p] 126)).cell? ⟨w.heap.size + 1, 0, none⟩ = some (.int .i64 0) := (hR4.cell 0).trans rfl
                 have hc5 : (w1.alloc (.cells #[.int .i64 p] 126)).cell? ⟨w.heap.size + 1 + 1, 0, none⟩ = some (.int .i64 0) := (hR5.cell 0).trans rfl
                 have hc6 : (w1.alloc (.cells #[.int .i64 p] 126)).cell? ⟨w.heap.size + 1 + 1 + 1, 0, none⟩ = some (.int .i64 0) := (hR6.cell 0).trans rfl
                 have hf4 := hR4.frozen 0
                 have hf5 := hR5.frozen 0
                 have hf6 := hR6.frozen 0
                 clear hb1 hw0)
    obtain ⟨W, hW⟩ : ∃ W, w1.alloc (.cells #[.int .i64 p] 126) = W := ⟨_, rfl⟩
    rw [hW] at hw1 hc4 hc5 hc6 hf4 hf5 hf6 ⊢
    have hg4 : (((W.setCell ⟨w.heap.size + 1, 0, none⟩ (.int .i64 0)).setCell ⟨w.heap.size + 1 + 1, 0, none⟩ (.int .i64 0)).setCell ⟨w.heap.size + 1 + 1 + 1, 0, none⟩ (.int .i64 4)).cell? ⟨w.heap.size + 1, 0, none⟩ = some (.int .i64 0) := by go_simp
    have hg5 : (((W.setCell ⟨w.heap.size + 1, 0, none⟩ (.int .i64 0)).setCell ⟨w.heap.size + 1 + 1, 0, none⟩ (.int .i64 0)).setCell ⟨w.heap.size + 1 + 1 + 1, 0, none⟩ (.int .i64 4)).cell? ⟨w.heap.size + 1 + 1, 0, none⟩ = some (.int .i64 0) := by go_simp
    have hg6 : (((W.setCell ⟨w.heap.size + 1, 0, none⟩ (.int .i64 0)).setCell ⟨w.heap.size + 1 + 1, 0, none⟩ (.int .i64 0)).setCell ⟨w.heap.size + 1 + 1 + 1, 0, none⟩ (.int .i64 4)).cell? ⟨w.heap.size + 1 + 1 + 1, 0, none⟩ = some (.int .i64 4) := by go_simp
    exact bodyPost_ret (v := .tuple #[.int .i64 0, .int .i64 0, .int .i64 4]) (by simp [results, Try.results145, go_sem, hg4, hg5, hg6]) rfl ⟨rfl, ((hw1.setCell (by simp) _).setCell (by simp; omega) _).setCell (by simp; omega) _⟩
theorem cells_err {p : Int} {A : Option Addr} {m c : Nat} {vs : List Int} {bs : List Bool} {w : World} (hp64 : -9223372036854775808 ≤ p ∧ p ≤ 9223372036854775807) (h : Cel w w.heap.size A m vs bs) (hm : m ≤ 1000) (he : cellsE p vs bs ≠ 0) :
    Calls Try.prog 145 #[.agg #[.int .i64 p], .slice A m c] w fun e w' => e = .returned (.tuple #[.int .i64 0, .int .i64 0, .int .i64 (cellsE p vs bs)]) ∧ Below w.heap.size w w' := by
  have hv := h.1
  by_cases hok : okP p = true
  · by_cases hs : 32 < m ∨ p ≤ (m : Int)
    · rw [cellsE_size hok (by rw [hv]; exact hs)]
      exact cells_size p A m c w hok hm hs
    · by_cases hk : knOk p vs bs
      · exact absurd (cellsE_yes hok (by rw [hv]; exact hs) hk) he
      · rw [cellsE_bad hok (by rw [hv]; exact hs) hk]
        exact cells_bad p A m c vs bs w hok h (by omega) (by omega) hk
  · have hokf : okP p = false := by simpa using hok
    rw [cellsE_field hokf]
    exact cells_field p A m c w hp64 hokf

set_option maxRecDepth 100000 in
theorem fill_err {p : Int} {A : Option Addr} {m c : Nat} {k : Int} {vs : List Int} {bs : List Bool} {w : World} (hp64 : -9223372036854775808 ≤ p ∧ p ≤ 9223372036854775807) (h : Cel w w.heap.size A m vs bs) (hm : m ≤ 1000) (hk64 : -9223372036854775808 ≤ k ∧ k ≤ 9223372036854775807) (he : beginE p vs bs k ≠ 0) :
    Calls Try.prog 69 #[.agg #[.int .i64 p], .slice A m c, .int .i64 k] w fun e w' => e = .returned (.tuple #[.slice none 0 0, .int .i64 (beginE p vs bs k)]) ∧ Below w.heap.size w w' := by
  have hb0 : Below w.heap.size w (w.alloc (.cells #[.int .i64 p] 24)) := bbox _
  have H0 := Lib.hid (h.upto hb0)
  have hv := h.1
  obtain ⟨ce, hce⟩ : ∃ ce, cellsE p vs bs = ce := ⟨_, rfl⟩
  by_cases h0 : ce = 0
  · have hbg : beginE p vs bs k = if k < 1 ∨ (m : Int) < k then 1 else 0 := by unfold beginE; rw [if_pos (by rw [hce, h0]), hv]
    have hc := cellsE_ok (hce.trans h0)
    have HC := Lib.hid hc
    have hkk : k < 1 ∨ (m : Int) < k := by
      rcases Decidable.em (k < 1 ∨ (m : Int) < k) with h1 | h1
      · exact h1
      · rw [if_neg h1] at hbg; exact absurd hbg he
    rw [if_pos hkk] at hbg
    rw [hbg]
    have hml : m ≤ 32 := by rw [← hv]; exact hc.2.1
    have hmp : (m : Int) < p := by rw [← hv]; exact hc.2.2.1
    clear hbg hce h0 he hc
    by_cases h1 : k < 1
    · go_enter Try.func69, Try.ntmps69
      go_wp2_with (go_at_call 145; refine (cells_ok p A m c vs bs _ HC.out.1 H0.out hml hmp HC.out.2.2.2).mono ?_; rintro e w1 ⟨rfl, hb1⟩
                   have hbb1 := bnext hb0 hb1)
      go_ret2
      exact ⟨rfl, hbb1⟩
    · have h2 : (m : Int) < k := by omega
      go_enter Try.func69, Try.ntmps69
      go_wp2_with (go_at_call 145; refine (cells_ok p A m c vs bs _ HC.out.1 H0.out hml hmp HC.out.2.2.2).mono ?_; rintro e w1 ⟨rfl, hb1⟩
                   have hbb1 := bnext hb0 hb1)
      go_ret2
      exact ⟨rfl, hbb1⟩
  · have HBG : Hid (beginE p vs bs k = ce) := Lib.hid (by unfold beginE; rw [hce, if_neg h0])
    have HCE := Lib.hid hce
    have HNE : Hid (cellsE p vs bs ≠ 0) := Lib.hid (by rw [hce]; exact h0)
    rw [HBG.out]
    clear hce HBG he
    go_enter Try.func69, Try.ntmps69
    go_wp2_with (go_at_call 145; refine (cells_err hp64 H0.out hm HNE.out).mono ?_; rintro e w1 ⟨rfl, hb1⟩; rw [HCE.out]
                 have hbb1 := bnext hb0 hb1)
    go_ret2
    exact ⟨rfl, hbb1⟩
theorem fill_all (p : Int) (A : Option Addr) (m c : Nat) (k : Int) (vs : List Int) (bs : List Bool) (w : World) (hp64 : -9223372036854775808 ≤ p ∧ p ≤ 9223372036854775807) (h : Cel w w.heap.size A m vs bs) (hm : m ≤ 1000) (hk64 : -9223372036854775808 ≤ k ∧ k ≤ 9223372036854775807) :
    Calls Try.prog 69 #[.agg #[.int .i64 p], .slice A m c, .int .i64 k] w (FillPost p vs bs k w) := by
  by_cases h0 : beginE p vs bs k = 0
  · have hb := beginE_ok h0
    have hc := cellsE_ok hb.1
    have hv := h.1
    obtain ⟨q, rfl⟩ : ∃ q : Nat, k = q := ⟨k.toNat, by omega⟩
    by_cases hl : (knL vs bs).length < q
    · refine (fill_few p A m c q vs bs w hc.1 h (by omega) (by omega) hc.2.2.2 (by omega) (by omega) hl).mono ?_
      rintro e w' ⟨rfl, hb⟩
      exact ⟨none, 0, 0, [], 11, rfl, by omega, by omega, Ints.nil_, .inr (.inl ⟨h0, by omega, rfl, rfl⟩), hb⟩
    · refine (fill_ok p A m c q vs bs w hc.1 h (by omega) (by omega) hc.2.2.2 (by omega) (by omega) (by omega)).mono ?_
      rintro e w' ⟨⟨R, A', c', rfl, hO, hT⟩, hb⟩
      have hRl : R.length ≤ 32 := by have := hT.ln; rw [ptK_len, List.length_take] at this; omega
      exact ⟨A', _, c', R, 0, rfl, hRl, hO.cap, hO.ints, .inr (.inr ⟨h0, by omega, rfl, hT⟩), hb⟩
  · refine (fill_err hp64 h hm hk64 h0).mono ?_
    rintro e w' ⟨rfl, hb⟩
    exact ⟨none, 0, 0, [], _, rfl, by omega, by omega, Ints.nil_, .inl ⟨h0, rfl, rfl⟩, hb⟩
theorem beginE_val {p : Int} {vs : List Int} {bs : List Bool} {k : Int} : beginE p vs bs k ≠ 11 := by
  have hc : cellsE p vs bs = 0 ∨ cellsE p vs bs = 4 ∨ cellsE p vs bs = 9 := by unfold cellsE; repeat' split
                                                                               all_goals simp
  unfold beginE
  repeat' split
  all_goals omega

set_option maxRecDepth 100000 in
theorem right_err {p : Int} {A : Option Addr} {m c : Nat} {k : Int} {vs : List Int} {bs : List Bool} {w : World} (hp64 : -9223372036854775808 ≤ p ∧ p ≤ 9223372036854775807) (h : Cel w w.heap.size A m vs bs) (hm : m ≤ 1000) (hk64 : -9223372036854775808 ≤ k ∧ k ≤ 9223372036854775807) (he : beginE p vs bs k ≠ 0) :
    Calls Try.prog 71 #[.agg #[.int .i64 p], .slice A m c, .int .i64 k] w fun e w' => e = .returned (.tuple #[.bool false, .int .i64 (beginE p vs bs k)]) ∧ Below w.heap.size w w' := by
  have hb0 : Below w.heap.size w (w.alloc (.cells #[.int .i64 p] 24)) := bbox _
  have H0 := Lib.hid (h.upto hb0)
  have hE11 := beginE_val (p := p) (vs := vs) (bs := bs) (k := k)
  have HE := Lib.hid he
  obtain ⟨ce, hce⟩ : ∃ ce, beginE p vs bs k = ce := ⟨_, rfl⟩
  rw [hce] at he hE11 ⊢
  have HCE := Lib.hid hce
  have h0 : ¬ ce = 0 := he
  have h11 : ¬ ce = 11 := hE11
  clear hce he hE11
  go_enter Try.func71, Try.ntmps71
  go_wp2_with (go_at_call 69; refine (fill_err hp64 H0.out hm hk64 HE.out).mono ?_; rintro e w1 ⟨rfl, hb1⟩; rw [HCE.out]
               have hbb1 := bnext hb0 hb1)
  go_ret2
  exact ⟨rfl, hbb1⟩
theorem right_all (p : Int) (A : Option Addr) (m c : Nat) (k : Int) (vs : List Int) (bs : List Bool) (w : World) (hp64 : -9223372036854775808 ≤ p ∧ p ≤ 9223372036854775807) (h : Cel w w.heap.size A m vs bs) (hm : m ≤ 1000) (hk64 : -9223372036854775808 ≤ k ∧ k ≤ 9223372036854775807) :
    Calls Try.prog 71 #[.agg #[.int .i64 p], .slice A m c, .int .i64 k] w (RightPost p vs bs k w) := by
  by_cases h0 : beginE p vs bs k = 0
  · have hb := beginE_ok h0
    have hc := cellsE_ok hb.1
    have hv := h.1
    obtain ⟨q, rfl⟩ : ∃ q : Nat, k = q := ⟨k.toNat, by omega⟩
    by_cases hl : (knL vs bs).length < q
    · refine (right_few p A m c q vs bs w hc.1 h (by omega) (by omega) hc.2.2.2 (by omega) (by omega) hl).mono ?_
      rintro e w' ⟨rfl, hb⟩
      exact ⟨true, 0, rfl, .inr (.inl ⟨h0, by omega, rfl, rfl⟩), hb⟩
    · refine (right_ok p A m c q vs bs w hc.1 h (by omega) (by omega) hc.2.2.2 (by omega) (by omega) (by omega)).mono ?_
      rintro e w' ⟨⟨R, rfl, hT⟩, hb⟩
      exact ⟨_, 0, rfl, .inr (.inr ⟨h0, by omega, rfl, R, hT, rfl⟩), hb⟩
  · refine (right_err hp64 h hm hk64 h0).mono ?_
    rintro e w' ⟨rfl, hb⟩
    exact ⟨false, _, rfl, .inl ⟨h0, rfl, rfl⟩, hb⟩

set_option maxRecDepth 100000 in
theorem agree_all (p : Int) (A C : Option Addr) (m c n cc : Nat) (vs : List Int) (bs : List Bool) (cs : List Int) (w : World) (hp64 : -9223372036854775808 ≤ p ∧ p ≤ 9223372036854775807) (h : Cel w w.heap.size A m vs bs) (hm : m ≤ 1000) (hC : Ints w w.heap.size C n cs) (hnc : n ≤ cc) (hn : n ≤ 17592186044416) :
    Calls Try.prog 73 #[.agg #[.int .i64 p], .slice A m c, .slice C n cc] w (ValPost (agreeR p vs bs cs) w) := by
  have hv := h.1
  have hl := hC.len
  by_cases h0 : cellsE p vs bs = 0
  · have hc := cellsE_ok h0
    by_cases h1 : errL p [cs] = 0
    · have h2 := errL_one h1
      have e1 : agreeR p vs bs cs = ((agr p cs (knL vs bs) : Int), 0) := by unfold agreeR; rw [if_pos h0, if_pos h1]
      rw [e1]
      exact agree_code_ok p A C m c n cc vs bs cs w hc.1 h (by omega) (by omega) hc.2.2.2 hC h2.2.1 hnc (by omega)
    · have e1 : agreeR p vs bs cs = (0, errL p [cs]) := by unfold agreeR; rw [if_pos h0, if_neg h1]
      rw [e1]
      have hb0 : Below w.heap.size w ((w.alloc (.cells #[.int .i64 p] 24)).alloc (.cells #[.slice C n cc] 22)) := ballocs (bbox _) _
      have H0 := Lib.hid (h.upto hb0)
      have HC0 := Lib.hid (hC.upto hb0)
      have hF0 := (Blk.new w 24 #[.int .i64 p]).alloc (.cells #[.slice C n cc] 22)
      have hG0 := Blk.new1 w (.cells #[.int .i64 p] 24) 22 #[.slice C n cc]
      have HC := Lib.hid hc
      have hml : m ≤ 32 := by rw [← hv]; exact hc.2.1
      have hmp : (m : Int) < p := by rw [← hv]; exact hc.2.2.1
      have HNR : Hid (numR (errL p [cs]) ((tn cs n : Int) - 1) = (0, errL p [cs])) := Lib.hid (numR_no _ h1)
      obtain ⟨er, her⟩ : ∃ er, errL p [cs] = er := ⟨_, rfl⟩
      rw [her] at h1 HNR ⊢
      have HER := Lib.hid her
      clear hc h0 e1 her
      go_enter Try.func73, Try.ntmps73
      go_wp2_with (first
        | (go_at_call 145; refine (cells_ok p A m c vs bs _ HC.out.1 H0.out hml hmp HC.out.2.2.2).mono ?_; rintro e w1 ⟨rfl, hb1⟩
           have hbb1 := ballocs (bnext hb0 hb1) (.cells #[.int .i64 p] 126)
           have hF1 := (hF0.below hb1 hF0.lt).alloc (.cells #[.int .i64 p] 126)
           have hG1 := (hG0.below hb1 hG0.lt).alloc (.cells #[.int .i64 p] 126)
           have HC1 := Lib.hid ((HC0.out.upto hb1).upto (bbox (.cells #[.int .i64 p] 126)))
           have hcF1 : (w1.alloc (.cells #[.int .i64 p] 126)).cell? ⟨w.heap.size, 0, none⟩ = some (.int .i64 p) := (hF1.cell 0).trans rfl
           have hcG1 : (w1.alloc (.cells #[.int .i64 p] 126)).cell? ⟨w.heap.size + 1, 0, none⟩ = some (.slice C n cc) := (hG1.cell 0).trans rfl
           clear hb1)
        | (go_at_call 44; refine (pdeg_all p C n cc cs _ hp64 HC1.out hnc hn).mono ?_; rw [HER.out, HNR.out]; rintro e w2 ⟨rfl, hb2⟩
           have hbb2 := bnext hbb1 hb2))
      go_ret2
      exact ⟨rfl, hbb2⟩
  · have e1 : agreeR p vs bs cs = (0, cellsE p vs bs) := by unfold agreeR; rw [if_neg h0]
    rw [e1]
    have hb0 : Below w.heap.size w ((w.alloc (.cells #[.int .i64 p] 24)).alloc (.cells #[.slice C n cc] 22)) := ballocs (bbox _) _
    have H0 := Lib.hid (h.upto hb0)
    have HNE := Lib.hid h0
    obtain ⟨ce, hce⟩ : ∃ ce, cellsE p vs bs = ce := ⟨_, rfl⟩
    rw [hce] at h0 ⊢
    have HCE := Lib.hid hce
    clear hce e1
    go_enter Try.func73, Try.ntmps73
    go_wp2_with (go_at_call 145; refine (cells_err hp64 H0.out hm HNE.out).mono ?_; rintro e w1 ⟨rfl, hb1⟩; rw [HCE.out]
                 have hbb1 := ballocs (bnext hb0 hb1) (.cells #[.int .i64 0] 126))
    go_ret2
    exact ⟨rfl, hbb1⟩

set_option maxRecDepth 100000 in
theorem encode_all (p : Int) (C : Option Addr) (m c : Nat) (n : Int) (cs : List Int) (w : World) (hp64 : -9223372036854775808 ≤ p ∧ p ≤ 9223372036854775807) (h : Ints w w.heap.size C m cs) (hmc : m ≤ c) (hm : m ≤ 17592186044416) (hn64 : -9223372036854775808 ≤ n ∧ n ≤ 9223372036854775807) :
    Calls Try.prog 67 #[.agg #[.int .i64 p], .slice C m c, .int .i64 n] w (VecPost (encR p cs n) w) := by
  have hl := h.len
  have hb0 : Below w.heap.size w (w.alloc (.cells #[.int .i64 p] 24)) := bbox _
  have H0 := Lib.hid (h.upto hb0)
  have hF0 := Blk.new w 24 #[.int .i64 p]
  by_cases h0 : errL p [cs] = 0
  · have h1 := errL_one h0
    have HDG : Hid (numR (errL p [cs]) ((tn cs m : Int) - 1) = ((tn cs m : Int) - 1, 0)) := Lib.hid (numR_yes _ h0)
    by_cases hr : n < 0 ∨ 32 < n ∨ p ≤ n
    · have e1 : encR p cs n = ([], 1) := by unfold encR; rw [if_pos h0, if_pos hr]
      have HE1 := Lib.hid e1
      rw [e1]
      clear e1 h0 h1
      obtain ⟨dg, hdg⟩ : ∃ dg, (tn cs m : Int) - 1 = dg := ⟨_, rfl⟩
      rw [hdg] at HDG
      have HDD := Lib.hid hdg
      clear hdg
      by_cases r1 : n < 0
      · go_enter Try.func67, Try.ntmps67
        go_wp2_with (go_at_call 44; refine (pdeg_all p C m c cs _ hp64 H0.out hmc hm).mono ?_; rw [HDD.out, HDG.out]; rintro e w1 ⟨rfl, hb1⟩
                     have hbb1 := bnext hb0 hb1
                     have hcF : w1.cell? ⟨w.heap.size, 0, none⟩ = some (.int .i64 p) := ((hF0.below hb1 hF0.lt).cell 0).trans rfl)
        go_ret2
        exact ⟨⟨none, 0, 0, rfl, OwnI.nil_⟩, hbb1⟩
      · by_cases r2 : 32 < n
        · go_enter Try.func67, Try.ntmps67
          go_wp2_with (go_at_call 44; refine (pdeg_all p C m c cs _ hp64 H0.out hmc hm).mono ?_; rw [HDD.out, HDG.out]; rintro e w1 ⟨rfl, hb1⟩
                       have hbb1 := bnext hb0 hb1
                       have hcF : w1.cell? ⟨w.heap.size, 0, none⟩ = some (.int .i64 p) := ((hF0.below hb1 hF0.lt).cell 0).trans rfl)
          go_ret2
          exact ⟨⟨none, 0, 0, rfl, OwnI.nil_⟩, hbb1⟩
        · have r3 : p ≤ n := by omega
          have r4 : decide (n ≥ p) = true := decide_eq_true r3
          go_enter Try.func67, Try.ntmps67
          go_wp2_with (go_at_call 44; refine (pdeg_all p C m c cs _ hp64 H0.out hmc hm).mono ?_; rw [HDD.out, HDG.out]; rintro e w1 ⟨rfl, hb1⟩
                       have hbb1 := bnext hb0 hb1
                       have hcF : w1.cell? ⟨w.heap.size, 0, none⟩ = some (.int .i64 p) := ((hF0.below hb1 hF0.lt).cell 0).trans rfl)
          go_ret2
          exact ⟨⟨none, 0, 0, rfl, OwnI.nil_⟩, hbb1⟩
    · obtain ⟨q, rfl⟩ : ∃ q : Nat, n = q := ⟨n.toNat, by omega⟩
      have e1 : encR p cs q = (valsP p cs (ptsL q), 0) := by unfold encR; rw [if_pos h0, if_neg hr]; rfl
      rw [e1]
      refine (encode_ok p C m c q cs w h1.1 h h1.2.1 hmc (by omega) (by omega) (by omega)).mono ?_
      rintro e w' ⟨⟨A', c', rfl, hO⟩, hb⟩
      exact ⟨⟨A', q, c', rfl, hO⟩, hb⟩
  · have e1 : encR p cs n = ([], errL p [cs]) := by unfold encR; rw [if_neg h0]
    rw [e1]
    have HNR : Hid (numR (errL p [cs]) ((tn cs m : Int) - 1) = (0, errL p [cs])) := Lib.hid (numR_no _ h0)
    obtain ⟨er, her⟩ : ∃ er, errL p [cs] = er := ⟨_, rfl⟩
    rw [her] at h0 HNR ⊢
    have HER := Lib.hid her
    clear her e1
    go_enter Try.func67, Try.ntmps67
    go_wp2_with (go_at_call 44; refine (pdeg_all p C m c cs _ hp64 H0.out hmc hm).mono ?_; rw [HER.out, HNR.out]; rintro e w1 ⟨rfl, hb1⟩
                 have hbb1 := bnext hb0 hb1)
    go_ret2
    exact ⟨⟨none, 0, 0, rfl, OwnI.nil_⟩, hbb1⟩


theorem dist_all (n k : Int) (w : World) (hn64 : -9223372036854775808 ≤ n ∧ n ≤ 9223372036854775807) (hk64 : -9223372036854775808 ≤ k ∧ k ≤ 9223372036854775807) :
    Calls Try.prog 75 #[.int .i64 n, .int .i64 k] w fun e w' => e = .returned (.tuple #[.int .i64 (distR n k).1, .int .i64 (distR n k).2]) ∧ w = w' := by
  by_cases h1 : k < 1
  · have e1 : distR n k = (0, 1) := by unfold distR; rw [if_pos (.inl h1)]
    rw [e1]
    go_enter Try.func75, Try.ntmps75
    go_wp2
    go_ret2
    exact ⟨rfl, rfl⟩
  · by_cases h2 : n < k
    · have e1 : distR n k = (0, 1) := by unfold distR; rw [if_pos (.inr (.inl h2))]
      rw [e1]
      go_enter Try.func75, Try.ntmps75
      go_wp2
      go_ret2
      exact ⟨rfl, rfl⟩
    · by_cases h3 : 32 < n
      · have e1 : distR n k = (0, 1) := by unfold distR; rw [if_pos (.inr (.inr h3))]
        rw [e1]
        go_enter Try.func75, Try.ntmps75
        go_wp2
        go_ret2
        exact ⟨rfl, rfl⟩
      · have e1 : distR n k = (n - k + 1, 0) := by unfold distR; rw [if_neg (by omega)]
        rw [e1]
        have hw1 : IntKind.i64.wrap (n - k) = n - k := IntWalk.i64_in _ (by omega)
        have hw2 : IntKind.i64.wrap (n - k + 1) = n - k + 1 := IntWalk.i64_in _ (by omega)
        go_enter Try.func75, Try.ntmps75
        go_wp2
        go_ret2
        exact ⟨rfl, rfl⟩
end Go.Proofs.Ytoblofilaegnaaa

/-! RCodAll -/
namespace Go.Proofs.Ytoblofilaegnaaa
open Go.RowKit
set_option linter.unusedVariables false

theorem agr_wrL (p : Int) (cs : List Int) (l : List (Int × Int)) : agr p cs l + (wrL p cs l).length = l.length := by
  induction l with
  | nil => rfl
  | cons e l ih =>
    unfold agr wrL at *
    by_cases h : valueP p e.1 cs = e.2
    · simp [h] at *; omega
    · simp [h] at *; omega


set_option maxRecDepth 100000 in
theorem ragree_all (p : Int) (A C : Option Addr) (m c n cc : Nat) (vs : List Int) (bs : List Bool) (cs : List Int) (w : World) (hp64 : -9223372036854775808 ≤ p ∧ p ≤ 9223372036854775807) (h : Cel w w.heap.size A m vs bs) (hm : m ≤ 1000) (hC : Ints w w.heap.size C n cs) (hnc : n ≤ cc) (hn : n ≤ 17592186044416) :
    Calls Try.prog 74 #[.agg #[.int .i64 p], .slice A m c, .slice C n cc] w (ValPost (agreeR p vs bs cs) w) := by
  have hv := h.1
  have hl := hC.len
  by_cases h0 : cellsE p vs bs = 0
  · have hc := cellsE_ok h0
    by_cases h1 : errL p [cs] = 0
    · have h2 := errL_one h1
      have e1 : agreeR p vs bs cs = ((agr p cs (knL vs bs) : Int), 0) := by unfold agreeR; rw [if_pos h0, if_pos h1]
      rw [e1]
      refine (ragree_ok p A m c vs bs C n cc cs w hc.1 h (by omega) (by omega) hc.2.2.2 hC h2.2.1 hnc (by omega)).mono ?_
      rintro e w' ⟨⟨r, rfl, hr⟩, hb⟩
      have hr2 : r = agr p cs (knL vs bs) := by have := agr_wrL p cs (knL vs bs); omega
      subst hr2
      exact ⟨rfl, hb⟩
    · have e1 : agreeR p vs bs cs = (0, errL p [cs]) := by unfold agreeR; rw [if_pos h0, if_neg h1]
      rw [e1]
      have hb0 : Below w.heap.size w (w.alloc (.cells #[.int .i64 p] 24)) := bbox _
      have H0 := Lib.hid (h.upto hb0)
      have HC0 := Lib.hid (hC.upto hb0)
      have hF0 := Blk.new w 24 #[.int .i64 p]
      have HC := Lib.hid h0
      have HNR : Hid (polyR (errL p [cs]) (trimL cs) = ([], errL p [cs])) := Lib.hid (polyR_no _ h1)
      obtain ⟨er, her⟩ : ∃ er, errL p [cs] = er := ⟨_, rfl⟩
      rw [her] at h1 HNR ⊢
      have HER := Lib.hid her
      clear hc h0 e1 her
      go_enter Try.func74, Try.ntmps74
      go_wp2_with (first
        | (go_at_call 150; refine (rcells_all p A m c vs bs _ hp64 H0.out hm).mono ?_; rintro e w1 ⟨rfl, hb1⟩; rw [HC.out]
           have hbb1 := bnext hb0 hb1
           have hF1 := hF0.below hb1 hF0.lt
           have HC1 := Lib.hid (HC0.out.upto hb1)
           have hcF1 : w1.cell? ⟨w.heap.size, 0, none⟩ = some (.int .i64 p) := (hF1.cell 0).trans rfl
           clear hb1)
        | (go_at_call 43; refine (rTrim_all p C n cc cs _ HC1.out hnc hn).mono ?_; rw [HER.out, HNR.out]; rintro e w2 ⟨⟨A2, n2, c2, rfl, hO2⟩, hb2⟩
           have hbb2 := bnext hbb1 hb2))
      go_ret2
      exact ⟨rfl, hbb2⟩
  · have e1 : agreeR p vs bs cs = (0, cellsE p vs bs) := by unfold agreeR; rw [if_neg h0]
    rw [e1]
    have hb0 : Below w.heap.size w (w.alloc (.cells #[.int .i64 p] 24)) := bbox _
    have H0 := Lib.hid (h.upto hb0)
    obtain ⟨ce, hce⟩ : ∃ ce, cellsE p vs bs = ce := ⟨_, rfl⟩
    rw [hce] at h0 ⊢
    have HCE := Lib.hid hce
    clear hce e1
    go_enter Try.func74, Try.ntmps74
    go_wp2_with (go_at_call 150; refine (rcells_all p A m c vs bs _ hp64 H0.out hm).mono ?_; rintro e w1 ⟨rfl, hb1⟩; rw [HCE.out]
                 have hbb1 := bnext hb0 hb1)
    go_ret2
    exact ⟨rfl, hbb1⟩

set_option maxRecDepth 100000 in
theorem rfill_err {p : Int} {A : Option Addr} {m c : Nat} {k : Int} {vs : List Int} {bs : List Bool} {w : World} (hp64 : -9223372036854775808 ≤ p ∧ p ≤ 9223372036854775807) (h : Cel w w.heap.size A m vs bs) (hm : m ≤ 1000) (hk64 : -9223372036854775808 ≤ k ∧ k ≤ 9223372036854775807) (he : beginE p vs bs k ≠ 0) :
    Calls Try.prog 70 #[.agg #[.int .i64 p], .slice A m c, .int .i64 k] w fun e w' => e = .returned (.tuple #[.slice none 0 0, .int .i64 (beginE p vs bs k)]) ∧ Below w.heap.size w w' := by
  have hb0 : Below w.heap.size w (w.alloc (.cells #[.int .i64 p] 24)) := bbox _
  have H0 := Lib.hid (h.upto hb0)
  obtain ⟨ce, hce⟩ : ∃ ce, beginE p vs bs k = ce := ⟨_, rfl⟩
  rw [hce] at he ⊢
  have h0 : ¬ ce = 0 := he
  have HCE := Lib.hid hce
  clear hce he
  go_enter Try.func70, Try.ntmps70
  go_wp2_with (go_at_call 147; refine (rbegin_all p A m c k vs bs _ hp64 H0.out hm hk64).mono ?_; rintro e w1 ⟨rfl, hb1⟩; rw [HCE.out]
               have hbb1 := bnext hb0 hb1)
  go_ret2
  exact ⟨rfl, hbb1⟩

set_option maxRecDepth 100000 in
theorem rfill_few {p : Int} {A : Option Addr} {m c k : Nat} {vs : List Int} {bs : List Bool} {w : World} (hp64 : -9223372036854775808 ≤ p ∧ p ≤ 9223372036854775807) (h : Cel w w.heap.size A m vs bs) (hm : m ≤ 32) (he : beginE p vs bs k = 0) (hkl : (knL vs bs).length < k) (hk : k ≤ 1000) :
    Calls Try.prog 70 #[.agg #[.int .i64 p], .slice A m c, .int .i64 k] w fun e w' => e = .returned (.tuple #[.slice none 0 0, .int .i64 11]) ∧ Below w.heap.size w w' := by
  have hb0 : Below w.heap.size w (w.alloc (.cells #[.int .i64 p] 24)) := bbox _
  have H0 := Lib.hid (h.upto hb0)
  have HE := Lib.hid he
  obtain ⟨q, hq⟩ : ∃ q, (knL vs bs).length = q := ⟨_, rfl⟩
  have HQ := Lib.hid hq
  have hqk : (q : Int) < (k : Int) := by omega
  clear he hq hkl
  go_enter Try.func70, Try.ntmps70
  go_wp2_with (first
    | (go_at_call 147; refine (rbegin_all p A m c k vs bs _ hp64 H0.out (by omega) (by omega)).mono ?_; rintro e w1 ⟨rfl, hb1⟩; rw [HE.out]
       have hbb1 := bnext hb0 hb1
       have H1 := Lib.hid (H0.out.upto hb1))
    | (go_at_call 148; refine (rknown_ok A m c vs bs _ H1.out hm).mono ?_; rintro e w2 ⟨⟨A2, c2, rfl, hO2⟩, hb2⟩; rw [HQ.out]
       have hbb2 := bnext hbb1 hb2))
  go_ret2
  exact ⟨rfl, hbb2⟩

theorem rinterp_thr (p : Int) (A : Option Addr) (n c : Nat) (us ys : List Int) (w : World) (h : Sh w w.heap.size A n us ys) (hn : n ≤ 100) (h0 : errL p [us, ys] = 0) (hd : Dist us) :
    Calls Try.prog 49 #[.agg #[.int .i64 p], .slice A n c] w fun e w' => (∃ R A' c', e = .returned (.tuple #[.slice A' R.length c', .int .i64 0]) ∧ OwnI w' w.heap.size 3 A' R.length c' R ∧ Through p us ys R) ∧ Below w.heap.size w w' := by
  refine (rinterp_all p A n c us ys w h hn).mono ?_
  rintro e w' (⟨h1, _⟩ | ⟨_, h1, _⟩ | ⟨_, _, R, A', c', rfl, hO, hT, hb⟩)
  · exact absurd h0 h1
  · exact absurd hd h1
  · exact ⟨⟨R, A', c', rfl, hO, hT⟩, hb⟩

set_option maxRecDepth 100000 in
set_option maxHeartbeats 1600000 in
theorem rfill_ok {p : Int} {A : Option Addr} {m c k : Nat} {vs : List Int} {bs : List Bool} {w : World} (hp64 : -9223372036854775808 ≤ p ∧ p ≤ 9223372036854775807) (h : Cel w w.heap.size A m vs bs) (hm : m ≤ 32) (he : beginE p vs bs k = 0) (hkl : k ≤ (knL vs bs).length) :
    Calls Try.prog 70 #[.agg #[.int .i64 p], .slice A m c, .int .i64 k] w fun e w' => (∃ R A' c', e = .returned (.tuple #[.slice A' R.length c', .int .i64 0]) ∧ OwnI w' w.heap.size 3 A' R.length c' R ∧ Through p (ptK ((knL vs bs).take k)) (vlK ((knL vs bs).take k)) R) ∧ Below w.heap.size w w' := by
  have hb0 : Below w.heap.size w (w.alloc (.cells #[.int .i64 p] 24)) := bbox _
  have H0 := Lib.hid (h.upto hb0)
  have hF0 := Blk.new w 24 #[.int .i64 p]
  have HE := Lib.hid he
  have hbk := (beginE_ok he)
  have hc := cellsE_ok hbk.1
  have hkn := knL_len vs bs
  have hv := h.1
  have hlen : ((knL vs bs).take k).length = k := by rw [List.length_take]; omega
  have hua : allP p (ptK ((knL vs bs).take k)) = true := by rw [ptK_take]; exact take_allP (ptK_allP vs bs hc.2.2.1) k
  have hva : allP p (vlK ((knL vs bs).take k)) = true := by rw [vlK_take]; exact take_allP (vlK_allP hc.2.2.2) k
  have hud : Dist (ptK ((knL vs bs).take k)) := fun i j h1 h2 => by
    rw [ptK_take] at h2 ⊢
    exact ((ptK_apart vs bs).take k) i j h1 h2
  have HL0 : Hid (errL p [ptK ((knL vs bs).take k), vlK ((knL vs bs).take k)] = 0) := Lib.hid (by
    unfold errL
    rw [if_pos ⟨hc.1, by rw [allR_iff]; intro r hr; rcases List.mem_cons.1 hr with rfl | hr; exact hua; rw [List.mem_singleton.1 hr]; exact hva⟩, if_neg (by simp [ptK_len, vlK_len]; omega)])
  have HD := Lib.hid hud
  obtain ⟨q, hq⟩ : ∃ q, (knL vs bs).length = q := ⟨_, rfl⟩
  have HQ := Lib.hid hq
  have hqk : ¬ (q : Int) < (k : Int) := by omega
  have hqk2 : (k : Int) ≤ (q : Int) := by omega
  have hq32 : q ≤ 32 := by omega
  have hk0 : (0 : Int) ≤ (k : Int) := by omega
  have HTK : Hid (∀ W B A2, Sh W B A2 q (ptK (knL vs bs)) (vlK (knL vs bs)) → Sh W B A2 k (ptK ((knL vs bs).take k)) (vlK ((knL vs bs).take k))) := Lib.hid fun W B A2 hS => by
    rw [ptK_take, vlK_take]
    refine ⟨by rw [List.length_take, hS.1]; omega, by rw [List.length_take, hS.2.1]; omega, fun hn => ?_⟩
    obtain ⟨b, off, e, hl, hcl⟩ := hS.2.2 (by omega)
    refine ⟨b, off, e, hl, fun j hj => ?_⟩
    rw [show ((ptK (knL vs bs)).take k).getD j 0 = (ptK (knL vs bs)).getD j 0 by simp [List.getD_eq_getElem?_getD, hj], show ((vlK (knL vs bs)).take k).getD j 0 = (vlK (knL vs bs)).getD j 0 by simp [List.getD_eq_getElem?_getD, hj]]
    exact hcl j (by omega)
  clear he hq hkl hbk hc hua hva hud hlen hkn
  go_enter Try.func70, Try.ntmps70
  go_wp2_with (first
    | (go_at_call 147; refine (rbegin_all p A m c k vs bs _ hp64 H0.out (by omega) (by omega)).mono ?_; rintro e w1 ⟨rfl, hb1⟩; rw [HE.out]
       have hbb1 := bnext hb0 hb1
       have hF1 := hF0.below hb1 hF0.lt
       have H1 := Lib.hid (H0.out.upto hb1))
    | (go_at_call 148; refine (rknown_ok A m c vs bs _ H1.out hm).mono ?_; rintro e w2 ⟨⟨A2, c2, rfl, hO2⟩, hb2⟩
       rw [HQ.out] at hO2
       rw [HQ.out]
       have hbb2 := bnext hbb1 hb2
       have hF2 := hF1.below hb2 hF1.lt
       have hcap := hO2.cap
       have HSH := Lib.hid (HTK.out _ _ _ hO2.sh)))
  have hcF : w2.cell? ⟨w.heap.size, 0, none⟩ = some (.int .i64 p) := (hF2.cell 0).trans rfl
  have hkc : (k : Int) ≤ (c2 : Int) := by omega
  go_region_with (go_at_call 49; refine (rinterp_thr p A2 k _ _ _ _ (by exact HSH.out) (by omega) HL0.out HD.out).mono ?_; rintro e w3 ⟨⟨R, A3, c3, rfl, hO3, hT⟩, hb3⟩
                  have HT := Lib.hid hT
                  have HO3 := Lib.hid hO3
                  have hbb3 := bnext (show Below w.heap.size w w2.drew from hbb2.drew) hb3
                  clear hT hO3 hb3)
  go_wp2
  go_ret2
  exact ⟨⟨R, A3, c3, rfl, HO3.out.base (by have := hbb2.size; exact this), HT.out⟩, hbb3⟩
theorem rfill_all (p : Int) (A : Option Addr) (m c : Nat) (k : Int) (vs : List Int) (bs : List Bool) (w : World) (hp64 : -9223372036854775808 ≤ p ∧ p ≤ 9223372036854775807) (h : Cel w w.heap.size A m vs bs) (hm : m ≤ 1000) (hk64 : -9223372036854775808 ≤ k ∧ k ≤ 9223372036854775807) :
    Calls Try.prog 70 #[.agg #[.int .i64 p], .slice A m c, .int .i64 k] w (FillPost p vs bs k w) := by
  by_cases h0 : beginE p vs bs k = 0
  · have hb := beginE_ok h0
    have hc := cellsE_ok hb.1
    have hv := h.1
    obtain ⟨q, rfl⟩ : ∃ q : Nat, k = q := ⟨k.toNat, by omega⟩
    by_cases hl : (knL vs bs).length < q
    · refine (rfill_few hp64 h (by omega) h0 hl (by omega)).mono ?_
      rintro e w' ⟨rfl, hb⟩
      exact ⟨none, 0, 0, [], 11, rfl, by omega, by omega, Ints.nil_, .inr (.inl ⟨h0, by omega, rfl, rfl⟩), hb⟩
    · refine (rfill_ok hp64 h (by omega) h0 (by omega)).mono ?_
      rintro e w' ⟨⟨R, A', c', rfl, hO, hT⟩, hb⟩
      have hRl : R.length ≤ 32 := by have := hT.ln; rw [ptK_len, List.length_take] at this; omega
      exact ⟨A', _, c', R, 0, rfl, hRl, hO.cap, hO.ints, .inr (.inr ⟨h0, by omega, rfl, hT⟩), hb⟩
  · refine (rfill_err hp64 h hm hk64 h0).mono ?_
    rintro e w' ⟨rfl, hb⟩
    exact ⟨none, 0, 0, [], _, rfl, by omega, by omega, Ints.nil_, .inl ⟨h0, rfl, rfl⟩, hb⟩

set_option maxRecDepth 100000 in
theorem rright_err {p : Int} {A : Option Addr} {m c : Nat} {k : Int} {vs : List Int} {bs : List Bool} {w : World} (hp64 : -9223372036854775808 ≤ p ∧ p ≤ 9223372036854775807) (h : Cel w w.heap.size A m vs bs) (hm : m ≤ 1000) (hk64 : -9223372036854775808 ≤ k ∧ k ≤ 9223372036854775807) (he : beginE p vs bs k ≠ 0) :
    Calls Try.prog 72 #[.agg #[.int .i64 p], .slice A m c, .int .i64 k] w fun e w' => e = .returned (.tuple #[.bool false, .int .i64 (beginE p vs bs k)]) ∧ Below w.heap.size w w' := by
  have hb0 : Below w.heap.size w (w.alloc (.cells #[.int .i64 p] 24)) := bbox _
  have H0 := Lib.hid (h.upto hb0)
  obtain ⟨ce, hce⟩ : ∃ ce, beginE p vs bs k = ce := ⟨_, rfl⟩
  rw [hce] at he ⊢
  have h0 : ¬ ce = 0 := he
  have HCE := Lib.hid hce
  clear hce he
  go_enter Try.func72, Try.ntmps72
  go_wp2_with (go_at_call 147; refine (rbegin_all p A m c k vs bs _ hp64 H0.out hm hk64).mono ?_; rintro e w1 ⟨rfl, hb1⟩; rw [HCE.out]
               have hbb1 := bnext hb0 hb1)
  go_ret2
  exact ⟨rfl, hbb1⟩
set_option maxRecDepth 100000 in
theorem rright_few {p : Int} {A : Option Addr} {m c k : Nat} {vs : List Int} {bs : List Bool} {w : World} (hp64 : -9223372036854775808 ≤ p ∧ p ≤ 9223372036854775807) (h : Cel w w.heap.size A m vs bs) (hm : m ≤ 32) (he : beginE p vs bs k = 0) (hkl : (knL vs bs).length < k) (hk : k ≤ 1000) :
    Calls Try.prog 72 #[.agg #[.int .i64 p], .slice A m c, .int .i64 k] w fun e w' => e = .returned (.tuple #[.bool true, .int .i64 0]) ∧ Below w.heap.size w w' := by
  have hb0 : Below w.heap.size w (w.alloc (.cells #[.int .i64 p] 24)) := bbox _
  have hF0 := Blk.new w 24 #[.int .i64 p]
  have H0 := Lib.hid (h.upto hb0)
  have HE := Lib.hid he
  have HKL := Lib.hid hkl
  clear he hkl
  go_enter Try.func72, Try.ntmps72
  go_wp2_with (first
    | (go_at_call 147; refine (rbegin_all p A m c k vs bs _ hp64 H0.out (by omega) (by omega)).mono ?_; rintro e w1 ⟨rfl, hb1⟩; rw [HE.out]
       have hbb1 := bnext hb0 hb1
       have hcF1 : w1.cell? ⟨w.heap.size, 0, none⟩ = some (.int .i64 p) := ((hF0.below hb1 hF0.lt).cell 0).trans rfl
       have H1 := Lib.hid (H0.out.upto hb1))
    | (go_at_call 70; refine (rfill_few hp64 H1.out hm HE.out HKL.out hk).mono ?_; rintro e w2 ⟨rfl, hb2⟩
       have hbb2 := bnext hbb1 hb2))
  go_ret2
  exact ⟨rfl, hbb2⟩
set_option maxRecDepth 100000 in
set_option maxHeartbeats 1600000 in
theorem rright_ok {p : Int} {A : Option Addr} {m c k : Nat} {vs : List Int} {bs : List Bool} {w : World} (hp64 : -9223372036854775808 ≤ p ∧ p ≤ 9223372036854775807) (h : Cel w w.heap.size A m vs bs) (hm : m ≤ 32) (he : beginE p vs bs k = 0) (hkl : k ≤ (knL vs bs).length) :
    Calls Try.prog 72 #[.agg #[.int .i64 p], .slice A m c, .int .i64 k] w fun e w' =>
      (∃ R, e = .returned (.tuple #[.bool ((agr p R (knL vs bs) : Int) == ((knL vs bs).length : Int)), .int .i64 0]) ∧ Through p (ptK ((knL vs bs).take k)) (vlK ((knL vs bs).take k)) R) ∧ Below w.heap.size w w' := by
  have hb0 : Below w.heap.size w (w.alloc (.cells #[.int .i64 p] 24)) := bbox _
  have hF0 := Blk.new w 24 #[.int .i64 p]
  have H0 := Lib.hid (h.upto hb0)
  have HE := Lib.hid he
  have HKL := Lib.hid hkl
  have hbk := (beginE_ok he)
  have HC := Lib.hid (cellsE_ok hbk.1)
  have hmp : (m : Int) < p := by have := HC.out.2.2.1; rw [h.1] at this; exact this
  have hk32 : k ≤ 32 := by have := hbk.2.2; rw [h.1] at this; omega
  clear he hkl hbk
  go_enter Try.func72, Try.ntmps72
  go_wp2_with (first
    | (go_at_call 147; refine (rbegin_all p A m c k vs bs _ hp64 H0.out (by omega) (by omega)).mono ?_; rintro e w1 ⟨rfl, hb1⟩; rw [HE.out]
       have hbb1 := bnext hb0 hb1
       have hF1 := hF0.below hb1 hF0.lt
       have hcF1 : w1.cell? ⟨w.heap.size, 0, none⟩ = some (.int .i64 p) := (hF1.cell 0).trans rfl
       have H1 := Lib.hid (H0.out.upto hb1))
    | (go_at_call 70; refine (rfill_ok hp64 H1.out hm HE.out HKL.out).mono ?_; rintro e w2 ⟨⟨R, A2, c2, rfl, hO2, hT⟩, hb2⟩
       have HT := Lib.hid hT
       have hRl : R.length ≤ 32 := by have := hT.ln; rw [ptK_len, List.length_take] at this; omega
       have HRA := Lib.hid hT.al
       have hbb2 := bnext hbb1 hb2
       have hF2 := hF1.below hb2 hF1.lt
       have hcF2 : w2.cell? ⟨w.heap.size, 0, none⟩ = some (.int .i64 p) := (hF2.cell 0).trans rfl
       have H2 := Lib.hid (H1.out.upto hb2)
       have hIR := hO2.ints
       have hcR := hO2.cap
       clear hT hO2)
    | (go_at_call 74; refine (ragree_ok p A m c vs bs A2 R.length c2 R _ HC.out.1 H2.out hm hmp HC.out.2.2.2 hIR HRA.out hcR (by omega)).mono ?_; rintro e w3 ⟨⟨r, rfl, hr⟩, hb3⟩
       have hr2 : r = agr p R (knL vs bs) := by have := agr_wrL p R (knL vs bs); omega
       have HR2 := Lib.hid hr2
       have hbb3 := bnext hbb2 hb3
       have H3 := Lib.hid (H2.out.upto hb3)
       clear hr hr2)
    | (go_at_call 148; refine (rknown_ok A m c vs bs _ H3.out hm).mono ?_; rintro e w4 ⟨⟨A4, c4, rfl, hO4⟩, hb4⟩
       have hbb4 := bnext hbb3 hb4))
  go_ret2
  rw [HR2.out]
  exact ⟨⟨R, rfl, HT.out⟩, hbb4⟩
theorem rright_all (p : Int) (A : Option Addr) (m c : Nat) (k : Int) (vs : List Int) (bs : List Bool) (w : World) (hp64 : -9223372036854775808 ≤ p ∧ p ≤ 9223372036854775807) (h : Cel w w.heap.size A m vs bs) (hm : m ≤ 1000) (hk64 : -9223372036854775808 ≤ k ∧ k ≤ 9223372036854775807) :
    Calls Try.prog 72 #[.agg #[.int .i64 p], .slice A m c, .int .i64 k] w (RightPost p vs bs k w) := by
  by_cases h0 : beginE p vs bs k = 0
  · have hb := beginE_ok h0
    have hc := cellsE_ok hb.1
    have hv := h.1
    obtain ⟨q, rfl⟩ : ∃ q : Nat, k = q := ⟨k.toNat, by omega⟩
    by_cases hl : (knL vs bs).length < q
    · refine (rright_few hp64 h (by omega) h0 hl (by omega)).mono ?_
      rintro e w' ⟨rfl, hb⟩
      exact ⟨true, 0, rfl, .inr (.inl ⟨h0, by omega, rfl, rfl⟩), hb⟩
    · refine (rright_ok hp64 h (by omega) h0 (by omega)).mono ?_
      rintro e w' ⟨⟨R, rfl, hT⟩, hb⟩
      exact ⟨_, 0, rfl, .inr (.inr ⟨h0, by omega, rfl, R, hT, rfl⟩), hb⟩
  · refine (rright_err hp64 h hm hk64 h0).mono ?_
    rintro e w' ⟨rfl, hb⟩
    exact ⟨false, _, rfl, .inl ⟨h0, rfl, rfl⟩, hb⟩

set_option maxRecDepth 100000 in
theorem rencode_all (p : Int) (C : Option Addr) (m c : Nat) (n : Int) (cs : List Int) (w : World) (hp64 : -9223372036854775808 ≤ p ∧ p ≤ 9223372036854775807) (h : Ints w w.heap.size C m cs) (hmc : m ≤ c) (hm : m ≤ 17592186044416) (hn64 : -9223372036854775808 ≤ n ∧ n ≤ 9223372036854775807) :
    Calls Try.prog 68 #[.agg #[.int .i64 p], .slice C m c, .int .i64 n] w (VecPost (encR p cs n) w) := by
  have hl := h.len
  have hb0 : Below w.heap.size w (w.alloc (.cells #[.int .i64 p] 24)) := bbox _
  have H0 := Lib.hid (h.upto hb0)
  have hF0 := Blk.new w 24 #[.int .i64 p]
  by_cases h0 : errL p [cs] = 0
  · have h1 := errL_one h0
    by_cases hr : n < 0 ∨ 32 < n ∨ p ≤ n
    · have e1 : encR p cs n = ([], 1) := by unfold encR; rw [if_pos h0, if_pos hr]
      have HPR : Hid (polyR (errL p [cs]) (trimL cs) = (trimL cs, 0)) := Lib.hid (polyR_yes _ h0)
      rw [e1]
      clear e1 h0 h1
      obtain ⟨tl, htl⟩ : ∃ tl, trimL cs = tl := ⟨_, rfl⟩
      have HTL := Lib.hid htl
      rw [htl] at HPR
      clear htl
      by_cases r1 : n < 0
      · go_enter Try.func68, Try.ntmps68
        go_wp2_with (go_at_call 43; refine (rTrim_all p C m c cs _ H0.out hmc hm).mono ?_; rw [HTL.out, HPR.out]; rintro e w1 ⟨⟨A2, n2, c2, rfl, hO2⟩, hb1⟩
                     have hbb1 := bnext hb0 hb1
                     have hcF : w1.cell? ⟨w.heap.size, 0, none⟩ = some (.int .i64 p) := ((hF0.below hb1 hF0.lt).cell 0).trans rfl)
        go_ret2
        exact ⟨⟨none, 0, 0, rfl, OwnI.nil_⟩, hbb1⟩
      · by_cases r2 : 32 < n
        · go_enter Try.func68, Try.ntmps68
          go_wp2_with (go_at_call 43; refine (rTrim_all p C m c cs _ H0.out hmc hm).mono ?_; rw [HTL.out, HPR.out]; rintro e w1 ⟨⟨A2, n2, c2, rfl, hO2⟩, hb1⟩
                       have hbb1 := bnext hb0 hb1
                       have hcF : w1.cell? ⟨w.heap.size, 0, none⟩ = some (.int .i64 p) := ((hF0.below hb1 hF0.lt).cell 0).trans rfl)
          go_ret2
          exact ⟨⟨none, 0, 0, rfl, OwnI.nil_⟩, hbb1⟩
        · have r3 : p ≤ n := by omega
          have r4 : decide (n ≥ p) = true := decide_eq_true r3
          go_enter Try.func68, Try.ntmps68
          go_wp2_with (go_at_call 43; refine (rTrim_all p C m c cs _ H0.out hmc hm).mono ?_; rw [HTL.out, HPR.out]; rintro e w1 ⟨⟨A2, n2, c2, rfl, hO2⟩, hb1⟩
                       have hbb1 := bnext hb0 hb1
                       have hcF : w1.cell? ⟨w.heap.size, 0, none⟩ = some (.int .i64 p) := ((hF0.below hb1 hF0.lt).cell 0).trans rfl)
          go_ret2
          exact ⟨⟨none, 0, 0, rfl, OwnI.nil_⟩, hbb1⟩
    · obtain ⟨q, rfl⟩ : ∃ q : Nat, n = q := ⟨n.toNat, by omega⟩
      have e1 : encR p cs q = (valsP p cs (ptsL q), 0) := by unfold encR; rw [if_pos h0, if_neg hr]; rfl
      rw [e1]
      refine (rencode_ok p C m c q cs w h1.1 h h1.2.1 hmc (by omega) (by omega) (by omega)).mono ?_
      rintro e w' ⟨⟨A', c', rfl, hO⟩, hb⟩
      exact ⟨⟨A', q, c', rfl, hO⟩, hb⟩
  · have e1 : encR p cs n = ([], errL p [cs]) := by unfold encR; rw [if_neg h0]
    rw [e1]
    have HNR : Hid (polyR (errL p [cs]) (trimL cs) = ([], errL p [cs])) := Lib.hid (polyR_no _ h0)
    obtain ⟨er, her⟩ : ∃ er, errL p [cs] = er := ⟨_, rfl⟩
    rw [her] at h0 HNR ⊢
    have HER := Lib.hid her
    clear her e1
    go_enter Try.func68, Try.ntmps68
    go_wp2_with (go_at_call 43; refine (rTrim_all p C m c cs _ H0.out hmc hm).mono ?_; rw [HER.out, HNR.out]; rintro e w1 ⟨⟨A2, n2, c2, rfl, hO2⟩, hb1⟩
                 have hbb1 := bnext hb0 hb1)
    go_ret2
    exact ⟨⟨none, 0, 0, rfl, OwnI.nil_⟩, hbb1⟩


theorem rdist_all (n k : Int) (w : World) (hn64 : -9223372036854775808 ≤ n ∧ n ≤ 9223372036854775807) (hk64 : -9223372036854775808 ≤ k ∧ k ≤ 9223372036854775807) :
    Calls Try.prog 76 #[.int .i64 n, .int .i64 k] w fun e w' => e = .returned (.tuple #[.int .i64 (distR n k).1, .int .i64 (distR n k).2]) ∧ w = w' := by
  by_cases h1 : k < 1
  · have e1 : distR n k = (0, 1) := by unfold distR; rw [if_pos (.inl h1)]
    rw [e1]
    go_enter Try.func76, Try.ntmps76
    go_wp2
    go_ret2
    exact ⟨rfl, rfl⟩
  · by_cases h2 : n < k
    · have e1 : distR n k = (0, 1) := by unfold distR; rw [if_pos (.inr (.inl h2))]
      rw [e1]
      go_enter Try.func76, Try.ntmps76
      go_wp2
      go_ret2
      exact ⟨rfl, rfl⟩
    · by_cases h3 : 32 < n
      · have e1 : distR n k = (0, 1) := by unfold distR; rw [if_pos (.inr (.inr h3))]
        rw [e1]
        go_enter Try.func76, Try.ntmps76
        go_wp2
        go_ret2
        exact ⟨rfl, rfl⟩
      · have e1 : distR n k = (n - k + 1, 0) := by unfold distR; rw [if_neg (by omega)]
        rw [e1]
        have hw1 : IntKind.i64.wrap (n - k) = n - k := IntWalk.i64_in _ (by omega)
        have hw2 : IntKind.i64.wrap (n - k + 1) = n - k + 1 := IntWalk.i64_in _ (by omega)
        go_enter Try.func76, Try.ntmps76
        go_wp2
        go_ret2
        exact ⟨rfl, rfl⟩
end Go.Proofs.Ytoblofilaegnaaa
