/-
  What the reference's functions on lists hand back: two, Scale, Add. Conditions: the lists read as their numbers.
-/
import Derived.Test.YtoblofilaegnaaaVec
import Derived.Test.YtoblofilaegnaaaChk
import Derived.Test.YtoblofilaegnaaaOrder
import Derived.Deep.RegionHeld3
import Derived.Deep.RegionLaw
namespace Go.Proofs.Ytoblofilaegnaaa
open Go.RowKit
set_option linter.unusedVariables false

/-- The first error of two lists. -/
def twoE (p : Int) (xs ys : List Int) : Int := if inF p xs = true ∧ inF p ys = true then (if xs.length = ys.length then 0 else 2) else 9

theorem two_any (p : Int) (A B : Option Addr) (n m c d : Nat) (xs ys : List Int) (w : World) (h : Ints w w.heap.size A n xs) (h2 : Ints w w.heap.size B m ys) (hn : n ≤ 17592186044416) (hm : m ≤ 17592186044416) :
    Calls Try.prog 122 #[.agg #[.int .i64 p], .slice A n c, .slice B m d] w fun e w' => e = .returned (.int .i64 (twoE p xs ys)) ∧ Below w.heap.size w w' := by
  have H1 := Lib.hid h.len
  have H2 := Lib.hid h2.len
  by_cases hx : inF p xs = true
  · by_cases hy : inF p ys = true
    · by_cases hl : n = m
      · subst hl
        have HR : Hid (twoE p xs ys = 0) := Lib.hid (by unfold twoE; rw [if_pos ⟨hx, hy⟩, if_pos (by rw [H1.out, H2.out])])
        go_enter Try.func122, Try.ntmps122
        go_wp2_with (first
          | (go_at_call 126; (with_reducible refine (in_any p A n c xs _ (h.upto (bbox _)) hn).mono ?_); rintro e w1 ⟨rfl, hb1⟩
             have hb := bnext (bbox _) hb1
             have hF := (Blk.new w 24 #[.int .i64 p]).below hb1 (by simp)
             have hfc : w1.cell? ⟨w.heap.size, 0, none⟩ = some (.int .i64 p) := (hF.cell 0).trans rfl)
          | (go_at_call 126; (with_reducible refine (in_any p B n d ys _ (h2.upto hb) hm).mono ?_); rintro e w2 ⟨rfl, hb2⟩
             have hbb := bnext hb hb2))
        go_ret
        exact ⟨ret_int HR.out.symm, hbb⟩
      · have HR : Hid (twoE p xs ys = 2) := Lib.hid (by unfold twoE; rw [if_pos ⟨hx, hy⟩, if_neg (by rw [H1.out, H2.out]; exact hl)])
        have hne : ((n : Int) != (m : Int)) = true := by simp; omega
        go_enter Try.func122, Try.ntmps122
        go_wp2_with (first
          | (go_at_call 126; (with_reducible refine (in_any p A n c xs _ (h.upto (bbox _)) hn).mono ?_); rintro e w1 ⟨rfl, hb1⟩
             have hb := bnext (bbox _) hb1
             have hF := (Blk.new w 24 #[.int .i64 p]).below hb1 (by simp)
             have hfc : w1.cell? ⟨w.heap.size, 0, none⟩ = some (.int .i64 p) := (hF.cell 0).trans rfl)
          | (go_at_call 126; (with_reducible refine (in_any p B m d ys _ (h2.upto hb) hm).mono ?_); rintro e w2 ⟨rfl, hb2⟩
             have hbb := bnext hb hb2))
        go_ret
        exact ⟨ret_int HR.out.symm, hbb⟩
    · have hy' : inF p ys = false := by simpa using hy
      have HR : Hid (twoE p xs ys = 9) := Lib.hid (by unfold twoE; rw [if_neg (fun e => hy e.2)])
      clear hy
      go_enter Try.func122, Try.ntmps122
      go_wp2_with (first
        | (go_at_call 126; (with_reducible refine (in_any p A n c xs _ (h.upto (bbox _)) hn).mono ?_); rintro e w1 ⟨rfl, hb1⟩
           have hb := bnext (bbox _) hb1
           have hF := (Blk.new w 24 #[.int .i64 p]).below hb1 (by simp)
           have hfc : w1.cell? ⟨w.heap.size, 0, none⟩ = some (.int .i64 p) := (hF.cell 0).trans rfl)
        | (go_at_call 126; (with_reducible refine (in_any p B m d ys _ (h2.upto hb) hm).mono ?_); rintro e w2 ⟨rfl, hb2⟩
           have hbb := bnext hb hb2))
      go_ret
      exact ⟨ret_int HR.out.symm, hbb⟩
  · have hx' : inF p xs = false := by simpa using hx
    have HR : Hid (twoE p xs ys = 9) := Lib.hid (by unfold twoE; rw [if_neg (fun e => hx e.1)])
    clear hx
    go_enter Try.func122, Try.ntmps122
    go_wp2_with (go_at_call 126; (with_reducible refine (in_any p A n c xs _ (h.upto (bbox _)) hn).mono ?_); rintro e w1 ⟨rfl, hb1⟩
                 have hb := bnext (bbox _) hb1)
    go_ret
    exact ⟨ret_int HR.out.symm, hb⟩

theorem info_int2 : (Try.prog.info? 3).map (fun i => (i.zero, i.size, i.bytes)) = some (some (.int .i64 0), 1, 8) := info_int

/-- The reference's Add on two lists of elements. -/
theorem radd_ok (p : Int) (A B : Option Addr) (n c d : Nat) (xs ys : List Int) (w : World) (hok : okP p = true) (h : Ints w w.heap.size A n xs) (h2 : Ints w w.heap.size B n ys) (hx : allP p xs = true) (hy : allP p ys = true) (hn : n ≤ 17592186044416) :
    Calls Try.prog 24 #[.agg #[.int .i64 p], .slice A n c, .slice B n d] w fun e w' =>
      (∃ A' c', e = .returned (.tuple #[.slice A' n c', .int .i64 0]) ∧ OwnI w' w.heap.size 3 A' n c' (zipI (addP p) xs ys)) ∧ Below w.heap.size w w' := by
  have hp := okP_pos hok
  obtain ⟨i0, hi0, hz0, hz1, hz2⟩ := info_parts info_int
  have HE : Hid (twoE p xs ys = 0) := Lib.hid (by unfold twoE; rw [if_pos ⟨inF_iff.2 ⟨hok, hx⟩, inF_iff.2 ⟨hok, hy⟩⟩, if_pos (by rw [h.len, h2.len])])
  have HX := Lib.hid hx
  have HY := Lib.hid hy
  have HL := Lib.hid h.len
  have HM := Lib.hid h2.len
  clear hx hy hok
  go_enter Try.func24, Try.ntmps24
  go_wp2_with (go_at_call 122; refine (two_any p A B n n c d xs ys _ (h.upto (bbox _)) (h2.upto (bbox _)) hn hn).mono ?_; rintro e w1 ⟨rfl, hb1⟩; rw [HE.out]
               have hb := bnext (bbox _) hb1
               have hF := (Blk.new w 24 #[.int .i64 p]).below hb1 (by simp)
               have hs1 : w.heap.size < w1.heap.size := hF.lt)
  clear hb1
  go_loopw [9, 20] (fun v i wr => ∃ (k : Nat) (A' : Option Addr) (c' : Nat), k ≤ n ∧ i = .int .i64 k ∧ v = .slice A' k c' ∧ OwnI wr (w.heap.size + 1) 3 A' k c' (zipI (addP p) (xs.take k) (ys.take k)) ∧ Below w.heap.size w wr ∧ Blk wr w.heap.size 24 #[.int .i64 p]) (fun _ i _ => n - (intOf i).toNat)
  case atStart => exact ⟨0, none, 0, Nat.zero_le _, rfl, rfl, OwnI.nil_, hb, hF⟩
  case round =>
    obtain ⟨k, A', c', hk, rfl, rfl, hown, hbr, hFr⟩ := hrel
    have hfr : wr.cell? ⟨w.heap.size, 0, none⟩ = some (.int .i64 p) := (hFr.cell 0).trans rfl
    have hlr := hFr.lt
    by_cases hlt : k < n
    · obtain ⟨b1, o1, rfl, hb1, hc1⟩ := h.2 (by omega)
      obtain ⟨b2, o2, rfl, hb2, hc2⟩ := h2.2 (by omega)
      have hr1 := (hbr.cell (p := ⟨b1, o1 + k, none⟩) hb1).trans (hc1 k hlt)
      have hr2 := (hbr.cell (p := ⟨b2, o2 + k, none⟩) hb2).trans (hc2 k hlt)
      clear hc1 hc2
      have HT := Lib.hid (zipI_take_succ (addP p) xs ys k (by rw [HL.out]; exact hlt) (by rw [HM.out]; exact hlt))
      have hxk := allP_getD HX.out (k := k) (by rw [HL.out]; exact hlt)
      have hyk := allP_getD HY.out (k := k) (by rw [HM.out]; exact hlt)
      generalize xs.getD k 0 = x at *
      generalize ys.getD k 0 = y at *
      have HT' : Hid (zipI (addP p) (xs.take (k + 1)) (ys.take (k + 1)) = zipI (addP p) (xs.take k) (ys.take k) ++ [(x + y).tmod p]) := Lib.hid (by rw [Int.tmod_eq_emod_of_nonneg (by omega)]; exact HT.out)
      have hk0 : (0 : Int) ≤ (k : Int) := by omega
      have hk1 : (k : Int) < (n : Int) := by omega
      have hbase : w.heap.size + 1 ≤ wr.drew.heap.size := hlr
      have hl1 : b1 < w.heap.size + 1 := by omega
      have hl2 : b2 < w.heap.size + 1 := by omega
      have hl3 : w.heap.size < w.heap.size + 1 := by omega
      have hwr : IntKind.i64.wrap (x + y) = x + y := IntWalk.i64_in _ (by omega)
      have hxy0 : 0 ≤ x + y := by omega
      have hp0 : ¬ p = 0 := by omega
      go_wp2_with fail
      go_region_held3 (fun w' => w'.cell? ⟨b1, o1 + k, none⟩ = some (.int .i64 x) ∧ w'.cell? ⟨b2, o2 + k, none⟩ = some (.int .i64 y) ∧ w'.cell? ⟨w.heap.size, 0, none⟩ = some (.int .i64 p)) (first | go_keep | exact ⟨(hbx.cell (p := ⟨b1, o1 + k, none⟩) hl1).trans hr1, (hbx.cell (p := ⟨b2, o2 + k, none⟩) hl2).trans hr2, (hbx.cell (p := ⟨w.heap.size, 0, none⟩) hl3).trans hfr⟩)
        ((refine step_append_own (w := wr.drew.alloc (.cells #[.int .i64 ((x + y).tmod p)] 3)) rfl (.tmp 23) (.tmp 36) 22 rfl (w.heap.size + 1) 3 i0 _ Try.underlying22 hi0 hz0 hz1 hz2 rfl A' k c' (zipI (addP p) (xs.take k) (ys.take k)) (hown.drew.alloc _) (by simp [Act.eval]) wr.heap.size 1 ((x + y).tmod p) (by simp [Act.eval]) (Ints.oneAt _ _ _ _ rfl) (by omega) (le_alloc hbase _) ?_; intro A2 c2 w2 hown2 hbw2; have hbx := ((Below.refl (w.heap.size + 1) wr).drew.alloc hbase (.cells #[.int .i64 ((x + y).tmod p)] 3)).trans hbw2))
      clear hwr hxy0 hp0
      go_wp2
      go_roundw
      case rel => exact ⟨k + 1, A2, c2, by omega, by go_num, rfl, by rw [HT'.out]; exact hown2, hbr.trans (hbx.mono (by omega)), hFr.below hbx (by omega)⟩
      case measure => simp [intOf]; omega
    · have hkn : k = n := by omega
      subst hkn
      have HE1 : xs.take k = xs := List.take_of_length_le (by rw [HL.out]; omega)
      have HE2 : ys.take k = ys := List.take_of_length_le (by rw [HM.out]; omega)
      rw [HE1, HE2] at hown
      clear HE1 HE2
      go_wp2
      go_ret2
      exact ⟨⟨A', c', rfl, hown.base (by omega)⟩, hbr⟩

/-- The reference's Scale on a list of elements. -/
theorem rscale_ok (p y : Int) (A : Option Addr) (n c : Nat) (xs : List Int) (w : World) (hok : okP p = true) (h : Ints w w.heap.size A n xs) (hx : allP p xs = true) (hy : 0 ≤ y ∧ y < p) (hn : n ≤ 17592186044416) :
    Calls Try.prog 26 #[.agg #[.int .i64 p], .slice A n c, .int .i64 y] w fun e w' =>
      (∃ A' c', e = .returned (.tuple #[.slice A' n c', .int .i64 0]) ∧ OwnI w' w.heap.size 3 A' n c' (scaleP p y xs)) ∧ Below w.heap.size w w' := by
  have hp := okP_pos hok
  obtain ⟨i0, hi0, hz0, hz1, hz2⟩ := info_parts info_int
  have HI1 : Hid (inF p xs = true) := Lib.hid (inF_iff.2 ⟨hok, hx⟩)
  have HI2 : Hid (inF p [y] = true) := Lib.hid (inF_iff.2 ⟨hok, allP_iff.2 (by simpa using hy)⟩)
  have HX := Lib.hid hx
  have HL := Lib.hid h.len
  clear hx hok
  go_enter Try.func26, Try.ntmps26
  go_wp2_with (first
    | (go_at_call 126; (with_reducible refine (in_any p A n c xs _ (h.upto (bbox _)) hn).mono ?_); rintro e w1 ⟨rfl, hb1⟩; rw [HI1.out]
       have hb := bnext (bbox _) hb1
       have hF1 := (Blk.new w 24 #[.int .i64 p]).below hb1 (by simp)
       have hfc1 : w1.cell? ⟨w.heap.size, 0, none⟩ = some (.int .i64 p) := (hF1.cell 0).trans rfl
       clear hb1)
    | (go_at_call 126; refine (in_any p (some ⟨w1.heap.size, 0, none⟩) 1 1 [y] _ (Ints.oneAt _ _ _ _ rfl) (by omega)).mono ?_; rintro e w2 ⟨rfl, hb2⟩; rw [HI2.out]
       have hbb := bnext (ballocs hb _) hb2
       have hF := (hF1.alloc (.cells #[.int .i64 y] 3)).below hb2 (by have := hF1.lt; simp; omega)
       clear hb2))
  clear hfc1 hF1 hb
  go_loopw [8, 24] (fun v i wr => ∃ (k : Nat) (A' : Option Addr) (c' : Nat), k ≤ n ∧ i = .int .i64 k ∧ v = .slice A' k c' ∧ OwnI wr (w.heap.size + 1) 3 A' k c' (scaleP p y (xs.take k)) ∧ Below w.heap.size w wr ∧ Blk wr w.heap.size 24 #[.int .i64 p]) (fun _ i _ => n - (intOf i).toNat)
  case atStart => exact ⟨0, none, 0, Nat.zero_le _, rfl, rfl, OwnI.nil_, hbb, hF⟩
  case round =>
    obtain ⟨k, A', c', hk, rfl, rfl, hown, hbr, hFr⟩ := hrel
    have hfr : wr.cell? ⟨w.heap.size, 0, none⟩ = some (.int .i64 p) := (hFr.cell 0).trans rfl
    have hlr : w.heap.size + 1 ≤ wr.heap.size := hFr.lt
    by_cases hlt : k < n
    · obtain ⟨b1, o1, rfl, hb1, hc1⟩ := h.2 (by omega)
      have hr1 := (hbr.cell (p := ⟨b1, o1 + k, none⟩) hb1).trans (hc1 k hlt)
      clear hc1
      have HT := Lib.hid (scaleP_take_succ p y xs k (by rw [HL.out]; exact hlt))
      have hxk := allP_getD HX.out (k := k) (by rw [HL.out]; exact hlt)
      generalize xs.getD k 0 = x at *
      have hm : 0 ≤ x * y ∧ x * y ≤ 65521 * 65521 := ⟨Int.mul_nonneg hxk.1 hy.1, Int.mul_le_mul (by omega) (by omega) hy.1 (by omega)⟩
      have HT' : Hid (scaleP p y (xs.take (k + 1)) = scaleP p y (xs.take k) ++ [x * y % p]) := HT
      go_wp2_with (
        at_builtin
        refine wpList_append_ints rfl _ _ _ rfl (w.heap.size + 1) 3 i0 _ Try.underlying22 hi0 hz0 hz1 hz2 rfl A' k c' _ rfl (hown.alloc _) _ _ 1 1 [x * y % p] rfl (Ints.one _ _ _) (k + 1) rfl _ rfl (by omega) (le_alloc hlr _) ?_
        intro A2 c2 w2 hown2 _ hbw2 _
        rw [← HT'.out] at hown2
        have hb3 : Below (w.heap.size + 1) wr w2 := ((Below.refl _ wr).alloc hlr _).trans hbw2)
      go_roundw
      case rel => exact ⟨k + 1, A2, c2, by omega, by go_num, rfl, hown2, hbr.trans (hb3.mono (by omega)), hFr.below hb3 (by omega)⟩
      case measure => simp [intOf]; omega
    · have hkn : k = n := by omega
      subst hkn
      rw [List.take_of_length_le (by rw [HL.out]; omega)] at hown
      go_wp2
      go_ret2
      exact ⟨⟨A', c', rfl, hown.base (by omega)⟩, hbr⟩
end Go.Proofs.Ytoblofilaegnaaa
