/-
  What the functions of vector hand back: join with a sum or a product, Dot. Conditions: the lists read as their numbers.
-/
import Derived.Test.YtoblofilaegnaaaBase
import Derived.Test.YtoblofilaegnaaaRes
import Derived.Test.YtoblofilaegnaaaPlain
import Derived.Deep.DeepFit
namespace Go.Proofs.Ytoblofilaegnaaa
open Go.RowKit
set_option linter.unusedVariables false

theorem join_mul (p : Int) (A B : Option Addr) (n m c d : Nat) (xs ys : List Int) (w : World) (hp : 2 ≤ p ∧ p ≤ 65521) (h : Ints w w.heap.size A n xs) (h2 : Ints w w.heap.size B n ys) (hx : allP p xs = true) (hy : allP p ys = true) (hn : n ≤ 17592186044416) :
    Calls Try.prog 120 #[.slice A n c, .slice B n d, .func (.func 125) #[.int .i64 p] #[]] w fun e w' =>
      (∃ A' c', e = .returned (.slice A' n c') ∧ OwnI w' w.heap.size 3 A' n c' (zipI (mulP p) xs ys)) ∧ Below w.heap.size w w' := by
  obtain ⟨i0, hi0, hz0, hz1, hz2⟩ := info_parts info_int
  have HX := Lib.hid hx
  have HY := Lib.hid hy
  have HL := Lib.hid h.len
  have HM := Lib.hid h2.len
  clear hx hy
  go_enter Try.func120, Try.ntmps120
  go_wp2
  go_loopw [7, 12] (fun v i wr => ∃ (k : Nat) (A' : Option Addr) (c' : Nat), k ≤ n ∧ i = .int .i64 k ∧ v = .slice A' k c' ∧ OwnI wr w.heap.size 3 A' k c' (zipI (mulP p) (xs.take k) (ys.take k)) ∧ Below w.heap.size w wr) (fun _ i _ => n - (intOf i).toNat)
  case atStart => exact ⟨0, none, 0, Nat.zero_le _, rfl, rfl, OwnI.nil_, Below.refl _ _⟩
  case round =>
    obtain ⟨k, A', c', hk, rfl, rfl, hown, hb⟩ := hrel
    by_cases hlt : k < n
    · obtain ⟨b1, o1, rfl, hb1, hc1⟩ := h.2 (by omega)
      obtain ⟨b2, o2, rfl, hb2, hc2⟩ := h2.2 (by omega)
      have hr1 := (hb.cell (p := ⟨b1, o1 + k, none⟩) hb1).trans (hc1 k hlt)
      have hr2 := (hb.cell (p := ⟨b2, o2 + k, none⟩) hb2).trans (hc2 k hlt)
      clear hc1 hc2
      have HT := Lib.hid (zipI_take_succ (mulP p) xs ys k (by rw [HL.out]; exact hlt) (by rw [HM.out]; exact hlt))
      have hxk := allP_getD HX.out (k := k) (by rw [HL.out]; exact hlt)
      have hyk := allP_getD HY.out (k := k) (by rw [HM.out]; exact hlt)
      generalize xs.getD k 0 = x at *
      generalize ys.getD k 0 = y at *
      go_wp2_with (first
        | (go_at_call 125; refine (mulP_any p x y _ hp hxk hyk).mono ?_; rintro e w' ⟨rfl, rfl⟩)
        | (at_builtin
           refine wpList_append_ints rfl _ _ _ rfl w.heap.size 3 i0 _ Try.underlying22 hi0 hz0 hz1 hz2 rfl A' k c' _ rfl (hown.alloc _) _ _ 1 1 [mulP p x y] rfl (Ints.one _ _ _) (k + 1) rfl _ rfl (by omega) (le_alloc hb.size _) ?_
           intro A2 c2 w2 hown2 _ hbw2 _
           rw [← HT.out] at hown2
           have hb3 : Below w.heap.size w w2 := (hb.alloc hb.size _).trans hbw2))
      go_roundw
      case rel => exact ⟨k + 1, A2, c2, by omega, by go_num, rfl, hown2, hb3⟩
      case measure => simp [intOf]; omega
    · have hkn : k = n := by omega
      subst hkn
      have HE1 : xs.take k = xs := List.take_of_length_le (by rw [HL.out]; omega)
      have HE2 : ys.take k = ys := List.take_of_length_le (by rw [HM.out]; omega)
      rw [HE1, HE2] at hown
      clear HE1 HE2
      go_wp2
      go_ret
      exact ⟨⟨A', c', rfl, hown⟩, hb⟩

theorem join_add (p : Int) (A B : Option Addr) (n m c d : Nat) (xs ys : List Int) (w : World) (hp : 2 ≤ p ∧ p ≤ 65521) (h : Ints w w.heap.size A n xs) (h2 : Ints w w.heap.size B n ys) (hx : allP p xs = true) (hy : allP p ys = true) (hn : n ≤ 17592186044416) :
    Calls Try.prog 120 #[.slice A n c, .slice B n d, .func (.func 121) #[.int .i64 p] #[]] w fun e w' =>
      (∃ A' c', e = .returned (.slice A' n c') ∧ OwnI w' w.heap.size 3 A' n c' (zipI (addP p) xs ys)) ∧ Below w.heap.size w w' := by
  obtain ⟨i0, hi0, hz0, hz1, hz2⟩ := info_parts info_int
  have HX := Lib.hid hx
  have HY := Lib.hid hy
  have HL := Lib.hid h.len
  have HM := Lib.hid h2.len
  clear hx hy
  go_enter Try.func120, Try.ntmps120
  go_wp2
  go_loopw [7, 12] (fun v i wr => ∃ (k : Nat) (A' : Option Addr) (c' : Nat), k ≤ n ∧ i = .int .i64 k ∧ v = .slice A' k c' ∧ OwnI wr w.heap.size 3 A' k c' (zipI (addP p) (xs.take k) (ys.take k)) ∧ Below w.heap.size w wr) (fun _ i _ => n - (intOf i).toNat)
  case atStart => exact ⟨0, none, 0, Nat.zero_le _, rfl, rfl, OwnI.nil_, Below.refl _ _⟩
  case round =>
    obtain ⟨k, A', c', hk, rfl, rfl, hown, hb⟩ := hrel
    by_cases hlt : k < n
    · obtain ⟨b1, o1, rfl, hb1, hc1⟩ := h.2 (by omega)
      obtain ⟨b2, o2, rfl, hb2, hc2⟩ := h2.2 (by omega)
      have hr1 := (hb.cell (p := ⟨b1, o1 + k, none⟩) hb1).trans (hc1 k hlt)
      have hr2 := (hb.cell (p := ⟨b2, o2 + k, none⟩) hb2).trans (hc2 k hlt)
      clear hc1 hc2
      have HT := Lib.hid (zipI_take_succ (addP p) xs ys k (by rw [HL.out]; exact hlt) (by rw [HM.out]; exact hlt))
      have hxk := allP_getD HX.out (k := k) (by rw [HL.out]; exact hlt)
      have hyk := allP_getD HY.out (k := k) (by rw [HM.out]; exact hlt)
      generalize xs.getD k 0 = x at *
      generalize ys.getD k 0 = y at *
      go_wp2_with (first
        | (go_at_call 121; refine (addP_any p x y _ hp hxk hyk).mono ?_; rintro e w' ⟨rfl, rfl⟩)
        | (at_builtin
           refine wpList_append_ints rfl _ _ _ rfl w.heap.size 3 i0 _ Try.underlying22 hi0 hz0 hz1 hz2 rfl A' k c' _ rfl (hown.alloc _) _ _ 1 1 [addP p x y] rfl (Ints.one _ _ _) (k + 1) rfl _ rfl (by omega) (le_alloc hb.size _) ?_
           intro A2 c2 w2 hown2 _ hbw2 _
           rw [← HT.out] at hown2
           have hb3 : Below w.heap.size w w2 := (hb.alloc hb.size _).trans hbw2))
      go_roundw
      case rel => exact ⟨k + 1, A2, c2, by omega, by go_num, rfl, hown2, hb3⟩
      case measure => simp [intOf]; omega
    · have hkn : k = n := by omega
      subst hkn
      have HE1 : xs.take k = xs := List.take_of_length_le (by rw [HL.out]; omega)
      have HE2 : ys.take k = ys := List.take_of_length_le (by rw [HM.out]; omega)
      rw [HE1, HE2] at hown
      clear HE1 HE2
      go_wp2
      go_ret
      exact ⟨⟨A', c', rfl, hown⟩, hb⟩

theorem dot_ok (p : Int) (A B : Option Addr) (n c d : Nat) (xs ys : List Int) (w : World) (hok : okP p = true) (h : Ints w w.heap.size A n xs) (h2 : Ints w w.heap.size B n ys) (hx : allP p xs = true) (hy : allP p ys = true) (hn : n ≤ 17592186044416) :
    Calls Try.prog 28 #[.agg #[.int .i64 p], .slice A n c, .slice B n d] w fun e w' => e = .returned (.tuple #[.int .i64 (dotP p xs ys), .int .i64 0]) ∧ Below w.heap.size w w' := by
  have hp := okP_pos hok
  have HX := Lib.hid hx
  have HY := Lib.hid hy
  have HO := Lib.hid hok
  have HZ := Lib.hid (zipI_mul_all hp.1 xs ys)
  have HZL := Lib.hid (zipI_len2 (mulP p) xs ys h.len h2.len)
  clear hx hy hok
  go_enter Try.func28, Try.ntmps28
  go_wp2_with (first
    | (go_at_call 118; refine (of_yes p _ HO.out).mono ?_; rintro e w1 ⟨rfl, hb1⟩
       have hbb1 : Below w.heap.size w w1 := bnext (bbox _) hb1)
    | (go_at_call 119; (with_reducible refine (all_any p A n c xs _ (h.upto hbb1) (by omega)).mono ?_); rintro e w2 ⟨rfl, hb2⟩
       have hbb2 := bnext hbb1 hb2
       have hxx := HX.out)
    | (go_at_call 119; (with_reducible refine (all_any p B n d ys _ (h2.upto hbb2) (by omega)).mono ?_); rintro e w3 ⟨rfl, hb3⟩
       have hbb3 := bnext hbb2 hb3
       have hyy := HY.out)
    | (go_at_call 120; (with_reducible refine (join_mul p A B n 0 c d xs ys _ hp (h.upto hbb3) (h2.upto hbb3) HX.out HY.out hn).mono ?_); rintro e w4 ⟨⟨A', c', rfl, hown⟩, hb4⟩
       have hbb4 := bnext hbb3 hb4
       have hz := hown.ints))
  clear hxx hyy hbb1 hbb2 hbb3 hb1 hb2 hb3 hb4 h h2
  go_loop [10, 43] (fun s i => ∃ k : Nat, k ≤ n ∧ i = .int .i64 k ∧ s = .int .i64 (sumP p ((zipI (mulP p) xs ys).take k))) (fun _ i => n - (intOf i).toNat)
  case atStart => exact ⟨0, Nat.zero_le _, rfl, rfl⟩
  case round =>
    obtain ⟨k, hk, rfl, rfl⟩ := hrel
    have hs := sumP_in hp.1 ((zipI (mulP p) xs ys).take k)
    by_cases hlt : k < n
    · obtain ⟨b1, o1, rfl, hb1, hc1⟩ := hz.2 (by omega)
      have hck := hc1 k hlt
      clear hc1 hown
      have HS := Lib.hid (take_snoc_int (zipI (mulP p) xs ys) k (by rw [HZL.out]; exact hlt))
      have hxk := allP_getD HZ.out (k := k) (by rw [HZL.out]; exact hlt)
      generalize (zipI (mulP p) xs ys).getD k 0 = x at *
      go_wp2_with (go_at_call 121; refine (addP_any p _ x _ hp hs hxk).mono ?_; rintro e w' ⟨rfl, rfl⟩)
      go_round
      case rel => exact ⟨k + 1, by omega, by go_num, by rw [HS.out, sumP_snoc]⟩
      case measure => simp [intOf]; omega
    · go_wp2
      go_ret2
      refine ⟨?_, hbb4⟩
      rw [List.take_of_length_le (by rw [HZL.out]; omega)]; rfl
end Go.Proofs.Ytoblofilaegnaaa
