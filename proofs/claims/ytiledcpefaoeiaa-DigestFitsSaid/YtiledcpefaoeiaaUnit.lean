/-
  What vector's Unit and the reference's Same hand back; the sanity check of chapter 4. Conditions: the lists read as their numbers.
-/
import Derived.Test.YtiledcpefaoeiaaVec
import Derived.BigQuiet
namespace Go.Proofs.Ytiledcpefaoeiaa
open Go.RowKit
set_option linter.unusedVariables false

/-- Two lists are the same. -/
def sameL (xs ys : List Int) : Bool := xs == ys

theorem sameL_iff {xs ys : List Int} : sameL xs ys = true ↔ xs = ys := by simp [sameL]

theorem same_any (A B : Option Addr) (n m c d : Nat) (xs ys : List Int) (w : World) {B1 B2 : Nat} (h : Ints w B1 A n xs) (h2 : Ints w B2 B m ys) (hn : n ≤ 17592186044416) (hm : m ≤ 17592186044416) :
    Calls Try.prog 35 #[.slice A n c, .slice B m d] w fun e w' => e = .returned (.bool (sameL xs ys)) ∧ ∃ q, w' = w.drewN q := by
  by_cases hl : n = m
  · subst hl
    have HL := Lib.hid h.len
    have HM := Lib.hid h2.len
    go_enter Try.func35, Try.ntmps35
    go_wp2
    go_loopw [13] (fun i wr => ∃ k q : Nat, k ≤ n ∧ i = .int .i64 k ∧ Hid (xs.take k = ys.take k) ∧ wr = w.drewN q) (fun i _ => n - (intOf i).toNat)
    case atStart => exact ⟨0, 0, Nat.zero_le _, rfl, Lib.hid rfl, rfl⟩
    case round =>
      obtain ⟨k, q, hk, rfl, HE, rfl⟩ := hrel
      by_cases hlt : k < n
      · obtain ⟨b1, o1, rfl, hb1, hc1⟩ := h.2 (by omega)
        obtain ⟨b2, o2, rfl, hb2, hc2⟩ := h2.2 (by omega)
        have hr1 := hc1 k hlt
        have hr2 := hc2 k hlt
        clear hc1 hc2
        have HT1 := Lib.hid (take_snoc_int xs k (by rw [HL.out]; exact hlt))
        have HT2 := Lib.hid (take_snoc_int ys k (by rw [HM.out]; exact hlt))
        have HX := Lib.hid (show ∀ j, xs = ys → xs.getD j 0 = ys.getD j 0 from fun j e => by rw [e])
        have HXk := Lib.hid (HX.out k)
        clear HX
        generalize xs.getD k 0 = x at *
        generalize ys.getD k 0 = y at *
        by_cases hxy : x = y
        · subst hxy
          go_wp2
          go_quiet (fail)
          go_wp2
          go_roundw
          case rel => exact ⟨k + 1, _, by omega, by go_num, Lib.hid (by rw [HT1.out, HT2.out, HE.out]), rfl⟩
          case measure => simp [intOf]; omega
        · have hxb : (x != y) = true := by simpa using hxy
          have hf : sameL xs ys = false := by
            rw [← Bool.not_eq_true, sameL_iff]; intro e; exact hxy (HXk.out e)
          have HF := Lib.hid hf
          clear hf hxy
          go_wp2
          go_quiet (fail)
          go_wp2
          go_ret
          exact ⟨ret_bool HF.out.symm, _, World.drewN_drewN _ _ _⟩
      · go_wp2
        go_ret
        refine ⟨ret_bool ?_, q, rfl⟩
        have := HE.out
        rw [List.take_of_length_le (by rw [HL.out]; omega), List.take_of_length_le (by rw [HM.out]; omega)] at this
        exact (sameL_iff.2 this).symm
  · have hf : sameL xs ys = false := by
      rw [← Bool.not_eq_true, sameL_iff]; intro e; apply hl; rw [← h.len, ← h2.len, e]
    have HF := Lib.hid hf
    have hne : ((n : Int) != (m : Int)) = true := by simp; omega
    clear hf
    go_enter Try.func35, Try.ntmps35
    go_wp2
    go_ret
    exact ⟨ret_bool HF.out.symm, 0, rfl⟩

/-- A list with a single 1. -/
def unitL (n at_ : Nat) : List Int := (List.replicate n 0).set at_ 1

theorem made_zeros (n : Nat) : (madeCells (Value.int .i64 0).cells (n * 1)).toList = vals (List.replicate n 0) := by
  simp only [madeCells, vals, Value.cells]
  simp [Nat.mod_one]
  rw [List.map_const', List.length_range]

theorem unit_ok (p : Int) (n at_ : Nat) (w : World) (hok : okP p = true) (hn : n ≤ 1024) (hat : at_ < n) :
    Calls Try.prog 42 #[.agg #[.int .i64 p], .int .i64 n, .int .i64 at_] w fun e w' =>
      (∃ A' c', e = .returned (.tuple #[.slice A' n c', .int .i64 0]) ∧ OwnI w' w.heap.size 3 A' n c' (unitL n at_)) ∧ Below w.heap.size w w' := by
  have hp := okP_pos hok
  have HO := Lib.hid hok
  clear hok
  obtain ⟨i0, hi0, hz0, hz1, hz2⟩ := info_parts info_int
  go_enter Try.func42, Try.ntmps42
  go_wp2_with (first
    | (go_at_call 53; refine (of_yes p _ HO.out).mono ?_; rintro e w1 ⟨rfl, hb1⟩
       have hbb1 := bnext (bbox _) hb1)
    | (at_make
       refine wpList_make_full _ rfl _ _ 22 rfl w.heap.size 3 i0 (.int .i64 0) 1 Try.underlying22 hi0 hz0 hz1 .i64 .i64 n n n rfl rfl rfl rfl (by rw [hz2]; omega) (by unfold maxLen; omega) hbb1.size ?_
       intro w2 hown hgr
       have hown1 : OwnI w2 w.heap.size 3 (some ⟨w1.heap.size, 0, none⟩) n n (List.replicate n 0) := by rw [made_zeros] at hown; exact hown
       have hc := hown1.cellAt hat
       have hf := hown1.frozenAt at_
       have hown2 := hown1.stored at_ 1
       have hb2 := (hbb1.grown hgr hbb1.size (fun k hk => by cases hk)).setCell (p := ⟨w1.heap.size, at_, none⟩) hbb1.size (.int .i64 1)
       clear hown hgr))
  go_ret2
  exact ⟨⟨_, _, rfl, hown2⟩, hb2⟩

theorem Ints.lit (w : World) (cs : Array Value) (xs : List Int) (t : TypeId) (n g : Nat) (hg : g = w.heap.size) (hcs : cs = (vals xs).toArray) (hn : xs.length = n) : Ints (w.alloc (.cells cs t)) (w.alloc (.cells cs t)).heap.size (some ⟨g, 0, none⟩) n xs := by
  subst hg hcs
  refine ⟨hn, fun _ => ⟨_, _, rfl, by simp, fun j hj => ?_⟩⟩
  rw [Nat.zero_add, World.cell?_alloc_at _ _ _ _ rfl]
  simp [vals, List.getD_eq_getElem?_getD, show j < xs.length by omega]

set_option maxRecDepth 100000 in
/-- The sanity check of chapter 4. -/
theorem sane04_any (w : World) : Calls Try.prog 38 #[] w fun e w' => e = .returned (.bool true) ∧ Below w.heap.size w w' := by
  have h5 : okP 5 = true := okP_known (by simp [isKnown])
  have HO := Lib.hid h5
  have hd : Hid (dotP 5 [2, 3] [4, 1] = 1) := Lib.hid (by decide)
  have hu : Hid (sameL (unitL 3 1) [0, 1, 0] = true) := Lib.hid (by decide)
  clear h5
  go_enter Try.func38, Try.ntmps38
  go_wp2_with (first
    | (go_at_call 40; refine (dot_ok 5 _ _ 2 2 2 [2, 3] [4, 1] _ HO.out (by exact (Ints.lit _ _ [2, 3] 3 2 _ (by simp) rfl rfl).upto (bbox _)) (by exact Ints.lit _ _ [4, 1] 3 2 _ (by simp) rfl rfl) (by decide) (by decide) (by omega)).mono ?_; rintro e w1 ⟨rfl, hb1⟩; rw [hd.out]
       have hF1 : Blk w1 w.heap.size 35 #[.int .i64 5] := (((Blk.new w _ _).alloc _).alloc _).below hb1 (by simp; omega)
       have hcf : w1.cell? ⟨w.heap.size, 0, none⟩ = some (.int .i64 5) := (hF1.cell 0).trans rfl
       have hbb1 : Below w.heap.size w w1 := bnext (ballocs (ballocs (bbox _) _) _) hb1
       clear hb1)
    | (go_at_call 42; refine (unit_ok 5 3 1 _ HO.out (by omega) (by omega)).mono ?_; rintro e w2 ⟨⟨A', c', rfl, hown⟩, hb2⟩
       have hbb2 := bnext hbb1 hb2
       have hi2 := hown.ints
       clear hb2)
    | (go_at_call 35; refine (same_any A' _ 3 3 c' 3 (unitL 3 1) [0, 1, 0] _ (by exact hi2.upto (bbox _)) (by exact Ints.lit _ _ [0, 1, 0] 3 3 _ (by simp) rfl rfl) (by omega) (by omega)).mono ?_; rintro e w3 ⟨rfl, q, rfl⟩; rw [hu.out]))
  go_ret
  exact ⟨rfl, below_drewN (ballocs hbb2 _) _⟩
end Go.Proofs.Ytiledcpefaoeiaa
