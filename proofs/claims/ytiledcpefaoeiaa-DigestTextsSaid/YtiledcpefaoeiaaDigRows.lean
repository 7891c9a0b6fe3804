/-
  DigestRows returns true: the walk of the law. Conditions: none beyond the reading of its arguments.
-/
import Derived.Test.YtiledcpefaoeiaaDigW
import Derived.Deep.QuietTactic
import Derived.BigQuiet
namespace Go.Proofs.Ytiledcpefaoeiaa
open Go.RowKit
set_option linter.unusedVariables false

theorem info_int : (Try.prog.info? 3).map (fun i => (i.zero, i.size, i.bytes)) = some (some (.int .i64 0), 1, 8) := by kernel_rfl

set_option maxHeartbeats 1000000 in
theorem digestRows_walk (A : Option Addr) (n c : Nat) (xs : List Int) (at_ by_ x y z : Int) (w : World) (h : Ints w w.heap.size A n xs) (hw : Wf64 xs) (hat : 0 ≤ at_ ∧ at_ ≤ 65535)
    (hby : -9223372036854775808 ≤ by_ ∧ by_ ≤ 9223372036854775807) (hn : n ≤ maxLen) :
    Calls Try.prog 3 #[.slice A n c, .int .u16 at_, .int .i64 by_, .int .i64 x, .int .i64 y, .int .i64 z] w fun e w' => e = .returned (.bool true) ∧ Below w.heap.size w w' := by
  unfold maxLen at hn
  have hx : 0 ≤ x % 2147483647 ∧ x % 2147483647 < 2147483647 := by omega
  have hy : 0 ≤ y % 2147483647 ∧ y % 2147483647 < 2147483647 := by omega
  have h1 : (dNode (x % 2147483647) (z % 2147483647) == dNode (y % 2147483647) (z % 2147483647)) = (x % 2147483647 == y % 2147483647) := by
    rw [Bool.eq_iff_iff, beq_iff_eq, beq_iff_eq]; exact dNode_left _ _ _ hx.1 hx.2 hy.1 hy.2
  have h2 : (dNode (z % 2147483647) (x % 2147483647) == dNode (z % 2147483647) (y % 2147483647)) = (x % 2147483647 == y % 2147483647) := by
    rw [Bool.eq_iff_iff, beq_iff_eq, beq_iff_eq]; exact dNode_right _ _ _ hx.1 hx.2 hy.1 hy.2
  obtain ⟨i0, hi0, hz0, hz1, hz2⟩ := info_parts info_int
  by_cases hn0 : n = 0
  · subst hn0
    go_enter Try.func3, Try.ntmps3
    go_wp2_with (first
      | (go_at_call 13; refine (sane11_any _).mono ?_; rintro e w' ⟨rfl, rfl⟩)
      | (go_at_call 14; refine (mod_any _ _ _ (by omega) (by omega)).mono ?_; rintro e w' ⟨rfl, rfl⟩)
      | (go_at_call 15; refine (node_any _ _ _).mono ?_; rintro e w' ⟨rfl, rfl⟩))
    go_ret
    exact ⟨rfl, Below.refl _ _⟩
  have hz : ((n : Int) == 0) = false := by simp; omega
  by_cases hn1 : 2000 < n
  · go_enter Try.func3, Try.ntmps3
    go_wp2_with (first
      | (go_at_call 13; refine (sane11_any _).mono ?_; rintro e w' ⟨rfl, rfl⟩)
      | (go_at_call 14; refine (mod_any _ _ _ (by omega) (by omega)).mono ?_; rintro e w' ⟨rfl, rfl⟩)
      | (go_at_call 15; refine (node_any _ _ _).mono ?_; rintro e w' ⟨rfl, rfl⟩))
    go_ret
    exact ⟨rfl, Below.refl _ _⟩
  obtain ⟨k, hk, hkn⟩ : ∃ k : Nat, at_ % (n : Int) = k ∧ k < n := ⟨(at_ % (n : Int)).toNat, by have := Int.emod_nonneg at_ (by omega : (n : Int) ≠ 0); omega, by have := Int.emod_nonneg at_ (by omega : (n : Int) ≠ 0); have := Int.emod_lt_of_pos at_ (by omega : (0 : Int) < n); omega⟩
  obtain ⟨b, off, hA, hb, hcell⟩ := h.2 (by omega)
  subst hA
  have HC := Lib.hid hcell
  clear hcell
  go_enter Try.func3, Try.ntmps3
  go_wp2_with (first
    | (go_at_call 13; refine (sane11_any _).mono ?_; rintro e w' ⟨rfl, rfl⟩)
    | (go_at_call 14; refine (mod_any _ _ _ (by omega) (by omega)).mono ?_; rintro e w' ⟨rfl, rfl⟩)
    | (go_at_call 15; refine (node_any _ _ _).mono ?_; rintro e w' ⟨rfl, rfl⟩)
    | (at_builtin
       refine wpList_append_ints rfl _ _ _ rfl w.heap.size 3 i0 _ Try.underlying22 hi0 hz0 hz1 hz2 rfl none 0 0 [] rfl OwnI.nil_ w.heap.size (some ⟨b, off, none⟩) n c xs rfl h n (by omega) xs rfl (by omega) (Nat.le_refl _) ?_
       intro A' c' w1 hown hg hbw hab
       obtain ⟨g, rfl, hg1, hg2⟩ := hown.form (by omega)
       have hcm := hown.cellAt hkn
       have hfm := hown.frozenAt k
       have hown2 := hown.stored k by_
       have hbw2 := hbw.setCell (p := ⟨g, k, none⟩) hg1 (.int .i64 by_)
       have hrd := (hbw2.cell (p := ⟨b, off + k, none⟩) hb).trans (HC.out k hkn)
       clear hg hab))
  have hset : (dRow (xs.set k by_) == dRow xs) = (by_ % 2147483647 == xs.getD k 0 % 2147483647) := by
    have hl := h.len
    rw [Bool.eq_iff_iff, beq_iff_eq, beq_iff_eq, dRow_set xs k (by omega) by_, List.getD_eq_getElem?_getD, List.getElem?_eq_getElem (by omega)]; rfl
  have hbd := dRow_bd xs
  have hdl := h.below hbw2
  have hwm : Wf64 (xs.set k by_) := fun u hu => by
    rcases List.mem_or_eq_of_mem_set hu with h1 | h1
    · exact hw u h1
    · subst h1; exact hby
  go_quiet ((go_at_call 14; exact quiet_left (mod_any _ _ _ (by omega) (by omega))))
  go_wp2_with (first
    | (go_at_call 16; (with_reducible refine (row_any (some ⟨b, off, none⟩) n c xs _ (hdl.drewN _) hw (by omega)).mono ?_); rintro e w' ⟨rfl, rfl⟩)
    | (go_at_call 16; (with_reducible refine (row_any (some ⟨g, 0, none⟩) n c' (xs.set k by_) _ (hown2.ints.drewN _) hwm (by omega)).mono ?_); rintro e w' ⟨rfl, rfl⟩))
  go_ret
  exact ⟨rfl, below_drewN hbw2 _⟩
end Go.Proofs.Ytiledcpefaoeiaa
