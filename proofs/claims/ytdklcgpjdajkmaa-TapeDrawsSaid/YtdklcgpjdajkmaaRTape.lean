/-
  What the second form of chapter 2 hands back: Valid, Copy, Left, Draws, Draw, Same; and tape's Left. Conditions: the lists read as their numbers.
-/
import Derived.Test.YtdklcgpjdajkmaaTape
import Derived.Test.YtdklcgpjdajkmaaTapeD
import Derived.Deep.RegionHeld3
import Derived.BigQuiet
namespace Go.Proofs.Ytdklcgpjdajkmaa
open Go.RowKit
set_option linter.unusedVariables false

def leftV (m : Nat) (a : Int) : Int := if validT m a = true then (m : Int) - a else 0
def leftE (m : Nat) (a : Int) : Int := if validT m a = true then 0 else 2

theorem rvalid_any (A : Option Addr) (m c : Nat) (a : Int) (w : World) :
    Calls Try.prog 115 #[.agg #[.slice A m c, .int .i64 a]] w fun e w' => e = .returned (.bool (validT m a)) ∧ Below w.heap.size w w' := by
  go_enter Try.func115, Try.ntmps115
  go_wp2
  all_goals go_ret
  all_goals exact ⟨ret_bool (by unfold validT; rw [Bool.eq_iff_iff]; simp; try omega), bbox _⟩

/-- tape.Left. -/
theorem left_all (A : Option Addr) (m c : Nat) (a : Int) (w : World) :
    Calls Try.prog 17 #[.agg #[.slice A m c, .int .i64 a]] w fun e w' => e = .returned (.tuple #[.int .i64 (leftV m a), .int .i64 (leftE m a)]) ∧ Below w.heap.size w w' := by
  by_cases hv : validT m a = true
  · have HV := Lib.hid hv
    have HL : Hid (leftV m a = (m : Int) - a) := Lib.hid (by unfold leftV; rw [if_pos hv])
    have HE : Hid (leftE m a = 0) := Lib.hid (by unfold leftE; rw [if_pos hv])
    rw [HL.out, HE.out]
    have hvi := validT_iff.1 hv
    have hwr : IntKind.i64.wrap ((m : Int) - a) = (m : Int) - a := IntWalk.i64_in _ (by omega)
    clear hv
    go_enter Try.func17, Try.ntmps17
    go_wp2_with (go_at_call 114; refine (valid_any A m c a _).mono ?_; rintro e w1 ⟨rfl, hb1⟩; rw [HV.out]
                 have hO := (Blk.new w 24 #[.slice A m c, .int .i64 a]).below hb1 (by simp)
                 have hc0 : w1.cell? ⟨w.heap.size, 0, none⟩ = some (.slice A m c) := (hO.cell 0).trans rfl
                 have hc1 : w1.cell? ⟨w.heap.size, 1, none⟩ = some (.int .i64 a) := (hO.cell 1).trans rfl)
    go_ret2
    exact ⟨rfl, bnext (bbox _) hb1⟩
  · have hv' : validT m a = false := by simpa using hv
    have HV := Lib.hid hv'
    have HL : Hid (leftV m a = 0) := Lib.hid (by unfold leftV; rw [if_neg hv])
    have HE : Hid (leftE m a = 2) := Lib.hid (by unfold leftE; rw [if_neg hv])
    rw [HL.out, HE.out]
    clear hv hv'
    go_enter Try.func17, Try.ntmps17
    go_wp2_with (go_at_call 114; refine (valid_any A m c a _).mono ?_; rintro e w1 ⟨rfl, hb1⟩; rw [HV.out])
    go_ret2
    exact ⟨rfl, bnext (bbox _) hb1⟩

/-- ref02.Left. -/
theorem rleft_any (A : Option Addr) (m c : Nat) (a : Int) (w : World) :
    Calls Try.prog 18 #[.agg #[.slice A m c, .int .i64 a]] w fun e w' => e = .returned (.tuple #[.int .i64 (leftV m a), .int .i64 (leftE m a)]) ∧ Below w.heap.size w w' := by
  by_cases hv : validT m a = true
  · have HV := Lib.hid hv
    have HL : Hid (leftV m a = (m : Int) - a) := Lib.hid (by unfold leftV; rw [if_pos hv])
    have HE : Hid (leftE m a = 0) := Lib.hid (by unfold leftE; rw [if_pos hv])
    rw [HL.out, HE.out]
    have hvi := validT_iff.1 hv
    have hwr : IntKind.i64.wrap ((m : Int) - a) = (m : Int) - a := IntWalk.i64_in _ (by omega)
    clear hv
    go_enter Try.func18, Try.ntmps18
    go_wp2_with (go_at_call 115; refine (rvalid_any A m c a _).mono ?_; rintro e w1 ⟨rfl, hb1⟩; rw [HV.out]
                 have hO := (Blk.new w 24 #[.slice A m c, .int .i64 a]).below hb1 (by simp)
                 have hc0 : w1.cell? ⟨w.heap.size, 0, none⟩ = some (.slice A m c) := (hO.cell 0).trans rfl
                 have hc1 : w1.cell? ⟨w.heap.size, 1, none⟩ = some (.int .i64 a) := (hO.cell 1).trans rfl)
    go_ret2
    exact ⟨rfl, bnext (bbox _) hb1⟩
  · have hv' : validT m a = false := by simpa using hv
    have HV := Lib.hid hv'
    have HL : Hid (leftV m a = 0) := Lib.hid (by unfold leftV; rw [if_neg hv])
    have HE : Hid (leftE m a = 2) := Lib.hid (by unfold leftE; rw [if_neg hv])
    rw [HL.out, HE.out]
    clear hv hv'
    go_enter Try.func18, Try.ntmps18
    go_wp2_with (go_at_call 115; refine (rvalid_any A m c a _).mono ?_; rintro e w1 ⟨rfl, hb1⟩; rw [HV.out])
    go_ret2
    exact ⟨rfl, bnext (bbox _) hb1⟩

set_option maxRecDepth 100000 in
/-- ref02.Copy. -/
theorem rcopy_any (A : Option Addr) (m c : Nat) (a : Int) (xs : List Int) (w : World) (h : Ints w w.heap.size A m xs) (hm : m ≤ 17592186044416) :
    Calls Try.prog 15 #[.agg #[.slice A m c, .int .i64 a]] w fun e w' => (∃ A' c', e = .returned (.agg #[.slice A' m c', .int .i64 a]) ∧ OwnI w' w.heap.size 3 A' m c' xs) ∧ Below w.heap.size w w' := by
  obtain ⟨i0, hi0, hz0, hz1, hz2⟩ := info_parts info_int
  have hb0 : Below w.heap.size w ((w.alloc (.cells #[.slice A m c, .int .i64 a] 24)).alloc (.cells #[.slice none 0 0, .int .i64 0] 24)) := ballocs (bbox _) _
  have hX := (Blk.new w 24 #[.slice A m c, .int .i64 a]).alloc (.cells #[.slice none 0 0, .int .i64 0] 24)
  have hY := blk_pair (w := w) (o := .cells #[.slice A m c, .int .i64 a] 24) (t := 24) (cs := #[.slice none 0 0, .int .i64 0]) (Below.refl _ _)
  have hI := h.upto hb0
  obtain ⟨W, hW⟩ : ∃ W, (w.alloc (.cells #[.slice A m c, .int .i64 a] 24)).alloc (.cells #[.slice none 0 0, .int .i64 0] 24) = W := ⟨_, rfl⟩
  have hsz : W.heap.size = w.heap.size + 2 := by rw [← hW]; simp
  rw [hW] at hb0 hX hY hI
  have HSZ := Lib.hid hsz
  clear hsz
  have k0 : W.cell? ⟨w.heap.size, 0, none⟩ = some (.slice A m c) := (hX.cell 0).trans rfl
  have k1 : W.cell? ⟨w.heap.size, 1, none⟩ = some (.int .i64 a) := (hX.cell 1).trans rfl
  have f0 := hX.frozen 0
  go_enter Try.func15, Try.ntmps15
  go_wp2_with (
    at_builtin
    refine wpList_append_ints rfl _ _ _ rfl W.heap.size 3 i0 _ Try.underlying22 hi0 hz0 hz1 hz2 rfl none 0 0 [] rfl OwnI.nil_ _ _ m _ xs rfl hI m (by omega) xs rfl (by omega) (by simp) ?_
    intro A2 c2 w2 hown2 _ hbw2 _
    have hX2 := hX.below hbw2 (by have := HSZ.out; omega)
    have hY2 := hY.below hbw2 (by have := HSZ.out; omega)
    have j0 : w2.cell? ⟨w.heap.size, 0, none⟩ = some (.slice A m c) := (hX2.cell 0).trans rfl
    have j1 : w2.cell? ⟨w.heap.size, 1, none⟩ = some (.int .i64 a) := (hX2.cell 1).trans rfl
    have g0 := hX2.frozen 0
    have hY3 := hY2.far (p := ⟨w.heap.size, 0, none⟩) (by simp) (.slice A2 m c2)
    have hX3 := hX2.set_ 0 (.slice A2 m c2)
    have l0 : (w2.setCell ⟨w.heap.size, 0, none⟩ (.slice A2 m c2)).cell? ⟨w.heap.size, 0, none⟩ = some (.slice A2 m c2) := (hX3.cell 0).trans rfl
    have l1 : (w2.setCell ⟨w.heap.size, 0, none⟩ (.slice A2 m c2)).cell? ⟨w.heap.size, 1, none⟩ = some (.int .i64 a) := (hX3.cell 1).trans rfl
    have m0 : (w2.setCell ⟨w.heap.size, 0, none⟩ (.slice A2 m c2)).cell? ⟨w.heap.size + 1, 0, none⟩ = some (.slice none 0 0) := (hY3.cell 0).trans rfl
    have m1 : (w2.setCell ⟨w.heap.size, 0, none⟩ (.slice A2 m c2)).cell? ⟨w.heap.size + 1, 1, none⟩ = some (.int .i64 0) := (hY3.cell 1).trans rfl
    have q0 := hY3.frozen 0
    have q1 := hY3.frozen 1)
  have hR5 := blk_two (v0 := .slice A2 m c2) (v1 := .int .i64 a) hY3
  have hy0 := (hR5.cell 0).trans rfl
  have hy1 := (hR5.cell 1).trans rfl
  have hS5 := ((Step.refl w.heap.size w2).set 0 (.slice A2 m c2))
  have hown5 := hown2.step hS5 (by have := HSZ.out; omega)
  have hown6 := hown5.step (((Step.refl (w.heap.size + 1) _).set 0 (.slice A2 m c2)).set 1 (.int .i64 a)) (by have := HSZ.out; omega)
  exact bodyPost_ret (v := .agg #[.slice A2 m c2, .int .i64 a]) (by simp [results, Try.results15, go_sem, hy0, hy1]) rfl
    ⟨⟨A2, c2, rfl, hown6.base (by have := HSZ.out; omega)⟩, below_two ((hb0.trans (hbw2.mono (by have := HSZ.out; omega))).setCell (p := ⟨w.heap.size, 0, none⟩) (Nat.le_refl _) _) (by omega) _ _⟩
end Go.Proofs.Ytdklcgpjdajkmaa
