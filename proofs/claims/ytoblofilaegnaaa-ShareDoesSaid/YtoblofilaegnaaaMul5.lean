/-
  What the reference's Mul on polynomials hands back for valid arguments. Conditions: the lists read as their numbers, all of them elements, neither of them 0.
-/
import Derived.Test.YtoblofilaegnaaaRef5
import Derived.Test.YtoblofilaegnaaaPlain
namespace Go.Proofs.Ytoblofilaegnaaa
open Go.RowKit
set_option linter.unusedVariables false

set_option maxRecDepth 100000 in
set_option maxHeartbeats 3200000 in
theorem rmul5_ok (p : Int) (A B : Option Addr) (n m c d : Nat) (xs ys : List Int) (w : World) (hok : okP p = true) (h : Ints w w.heap.size A n xs) (h2 : Ints w w.heap.size B m ys) (hx : allP p xs = true) (hy : allP p ys = true) (hn : n ≤ 512) (hm : m ≤ 512) (hnc : n ≤ c) (hmd : m ≤ d)
    (h0 : 0 < (trimL xs).length) (h1 : 0 < (trimL ys).length) (hst : (trimL xs).length + (trimL ys).length ≤ 513) :
    Calls Try.prog 39 #[.agg #[.int .i64 p], .slice A n c, .slice B m d] w fun e w' =>
      (∃ A' c', e = .returned (.tuple #[.slice A' (mulL p xs ys).length c', .int .i64 0]) ∧ OwnI w' w.heap.size 3 A' (mulL p xs ys).length c' (mulL p xs ys)) ∧ Below w.heap.size w w' := by
  have hp := okP_pos hok
  obtain ⟨i0, hi0, hz0, hz1, hz2⟩ := info_parts info_int
  have HO := Lib.hid hok
  have HR : Hid (∀ r ∈ [xs, ys], allP p r = true ∧ r.length ≤ 512) := Lib.hid fun r hr => by
    simp only [List.mem_cons, List.not_mem_nil, or_false] at hr
    rcases hr with rfl | rfl
    · exact ⟨hx, by rw [h.len]; omega⟩
    · exact ⟨hy, by rw [h2.len]; omega⟩
  have HXA := Lib.hid (trimL_allP hx)
  have HYA := Lib.hid (trimL_allP hy)
  have HML : Hid (rawMul p (trimL xs) (trimL ys) = mulL p xs ys) := Lib.hid (by unfold mulL; rw [if_neg (by omega)])
  have HMT : Hid (trimL (mulL p xs ys) = mulL p xs ys) := Lib.hid (mulL_trimd hok hx hy).trimL
  have hl0 : (trimL xs).length ≤ n := by rw [trimL_len, h.len]; exact tn_le _ _
  have hl1 : (trimL ys).length ≤ m := by rw [trimL_len, h2.len]; exact tn_le _ _
  have HTX : Hid (tn xs n = (trimL xs).length) := Lib.hid (by rw [trimL_len, h.len])
  have HTY : Hid (tn ys m = (trimL ys).length) := Lib.hid (by rw [trimL_len, h2.len])
  have hF0 := Blk.new w 24 #[.int .i64 p]
  clear hok hx hy
  obtain ⟨us, HUS⟩ : ∃ us, Hid (trimL xs = us) := ⟨_, Lib.hid rfl⟩
  obtain ⟨vs, HVS⟩ : ∃ vs, Hid (trimL ys = vs) := ⟨_, Lib.hid rfl⟩
  rw [HUS.out] at HXA HML HTX h0 hl0 hst
  rw [HVS.out] at HYA HML HTY h1 hl1 hst
  obtain ⟨a, ha⟩ : ∃ a, us.length = a := ⟨_, rfl⟩
  obtain ⟨b, hb⟩ : ∃ b, vs.length = b := ⟨_, rfl⟩
  rw [ha] at HTX h0 hl0 hst
  rw [hb] at HTY h1 hl1 hst
  have HA := Lib.hid ha
  have HB := Lib.hid hb
  clear ha hb
  obtain ⟨N, hN⟩ : ∃ N, a + b - 1 = N := ⟨_, rfl⟩
  have hNi : (a : Int) + (b : Int) - 1 = (N : Int) := by omega
  have hNw : IntKind.i64.wrap ((a : Int) + (b : Int) - 1) = N := by rw [hNi]; exact IntWalk.i64_in _ (by omega)
  have hab : IntKind.i64.wrap ((a : Int) + (b : Int)) = (a : Int) + (b : Int) := IntWalk.i64_in _ (by omega)
  have hN5 : ¬ ((512 : Int) < (N : Int)) := by omega
  have hN5N : ¬ 512 < N := by omega
  have hae : ((a : Int) == 0) = false := by simp; omega
  have hbe : ((b : Int) == 0) = false := by simp; omega
  have HZ : Hid (mulK p us vs 0 = List.replicate N 0) := Lib.hid (by rw [mulK_zero, HA.out, HB.out, hN])
  go_enter Try.func39, Try.ntmps39
  go_wp2_with (first
    | (go_at_call 131; (refine (rlists_ok p _ 2 2 [xs, ys] _ HO.out (by exact Mat.two _ A B n m c d xs ys 22 _ (by simp) (h.upto (bbox _)) (h2.upto (bbox _)) (by omega) (by omega)) (by omega) HR.out).mono ?_); rintro e w1 ⟨rfl, hb1⟩
       have hw01 : Below w.heap.size w w1 := bnext (ballocs (bbox _) _) hb1
       have hF1 := (hF0.alloc _).below hb1 (hF0.alloc _).lt
       have hX1 := h.upto hw01
       have hY1 := h2.upto hw01
       clear hb1)
    | (go_at_call 132; (with_reducible refine (rtrim_any A n c xs _ hX1 hnc (by omega)).mono ?_); rintro e w2 ⟨⟨A2, c2, rfl, hown2⟩, hb2⟩
       rw [HTX.out, HUS.out] at hown2
       rw [HTX.out]
       have hw02 := bnext hw01 hb2
       have hF2 := hF1.below hb2 hF1.lt
       have hY2 := hY1.upto hb2
       have hU2 := hown2.ints)
    | (go_at_call 132; (with_reducible refine (rtrim_any B m d ys _ hY2 hmd (by omega)).mono ?_); rintro e w3 ⟨⟨A3, c3, rfl, hown3⟩, hb3⟩
       rw [HTY.out, HVS.out] at hown3
       rw [HTY.out]
       have hw03 := bnext hw02 hb3
       have hF3 := hF2.below hb3 hF2.lt
       have hU3 := hU2.upto hb3
       have hV3 := hown3.ints)
    | (at_make
       refine wpList_make_full _ rfl _ _ 22 rfl w3.heap.size 3 i0 (.int .i64 0) 1 Try.underlying22 hi0 hz0 hz1 .i64 .i64 _ _ N rfl rfl (by first | rfl | omega) (by first | rfl | omega) (by rw [hz2]; omega) (by unfold maxLen; omega) (Nat.le_refl _) ?_
       intro w4 hown hgr
       have hown4 : OwnI w4 w3.heap.size 3 (some ⟨w3.heap.size, 0, none⟩) N N (mulK p us vs 0) := by rw [zeros_made, ← HZ.out] at hown; exact hown
       have hb4 : Below w3.heap.size w3 w4 := (Below.refl _ _).grown hgr (Nat.le_refl _) (fun k hk => by cases hk)
       clear hown hgr))
  go_loopw [50] (fun i wz => ∃ k : Nat, k ≤ a ∧ i = .int .i64 k ∧ OwnI wz w3.heap.size 3 (some ⟨w3.heap.size, 0, none⟩) N N (mulK p us vs k) ∧ Below w3.heap.size w3 wz) (fun i _ => a - (intOf i).toNat)
  case atStart => exact ⟨0, Nat.zero_le _, rfl, hown4, hb4⟩
  case round =>
    obtain ⟨k, hk, rfl, hown, hbz⟩ := hrel
    by_cases hlt : k < a
    · obtain ⟨b1, o1, rfl, hb1, hc1⟩ := hU3.2 (by omega)
      have hcx := (hbz.cell (p := ⟨b1, o1 + k, none⟩) hb1).trans (hc1 k hlt)
      clear hc1
      have hxe := allP_getD HXA.out (k := k) (by rw [HA.out]; exact hlt)
      have HST := Lib.hid (mulK_step hp.1 us vs k HB.out)
      have HMA := Lib.hid (mulK_allP hp.1 us vs k)
      have HMLn : Hid ((mulK p us vs k).length = N) := Lib.hid (by rw [mulK_len, HA.out, HB.out, hN])
      obtain ⟨x, HX⟩ : ∃ x, Hid (us.getD k 0 = x) := ⟨_, Lib.hid rfl⟩
      rw [HX.out] at hcx hxe HST
      obtain ⟨ts, HTS⟩ : ∃ ts, Hid (mulK p us vs k = ts) := ⟨_, Lib.hid rfl⟩
      rw [HTS.out] at hown HST HMA HMLn
      have hk0 : (0 : Int) ≤ (k : Int) := by omega
      have hka : (k : Int) < (a : Int) := by omega
      go_wp2
      go_loopw [57] (fun i wx => ∃ j : Nat, j ≤ b ∧ i = .int .i64 j ∧ OwnI wx w3.heap.size 3 (some ⟨w3.heap.size, 0, none⟩) N N (addTo p x k vs ts j) ∧ Below w3.heap.size w3 wx) (fun i _ => b - (intOf i).toNat)
      case atStart => exact ⟨0, Nat.zero_le _, rfl, by rw [addTo_zero]; exact hown, hbz⟩
      case round =>
        rename_i wy
        obtain ⟨j, hj, rfl, hownj, hbj⟩ := hrel
        by_cases hlt2 : j < b
        · obtain ⟨b2, o2, rfl, hb2, hc2⟩ := hV3.2 (by omega)
          have hcy := (hbj.cell (p := ⟨b2, o2 + j, none⟩) hb2).trans (hc2 j hlt2)
          clear hc2
          have hye := allP_getD HYA.out (k := j) (by rw [HB.out]; exact hlt2)
          have hFz := hF3.below hbj hF3.lt
          have hcf : wr.cell? ⟨w.heap.size, 0, none⟩ = some (.int .i64 p) := (hFz.cell 0).trans rfl
          have hct := hownj.cellAt (j := k + j) (by omega)
          rw [addTo_at p x k vs ts j (by rw [HMLn.out]; omega)] at hct
          have hfz : wr.frozen? ⟨w3.heap.size, k + j, none⟩ = false := hownj.frozenAt (k + j)
          have hte := allP_getD HMA.out (k := k + j) (by rw [HMLn.out]; omega)
          have hst := hownj.stored (k + j) (timesP p x (ts.getD (k + j) 0) (vs.getD j 0))
          rw [addTo_set p x k vs ts j (by rw [HMLn.out]; omega)] at hst
          obtain ⟨y, HY⟩ : ∃ y, Hid (vs.getD j 0 = y) := ⟨_, Lib.hid rfl⟩
          obtain ⟨t, HT⟩ : ∃ t, Hid (ts.getD (k + j) 0 = t) := ⟨_, Lib.hid rfl⟩
          rw [HY.out] at hcy hye hst
          rw [HT.out] at hct hte hst
          obtain ⟨v, HV⟩ : ∃ v, Hid (timesP p x t y = v) := ⟨_, Lib.hid rfl⟩
          rw [HV.out] at hst
          have hxy : 0 ≤ x * y ∧ x * y ≤ 65521 * 65521 := ⟨Int.mul_nonneg hxe.1 hye.1, by have := Int.mul_le_mul (show x ≤ 65521 by omega) (show y ≤ 65521 by omega) hye.1 (by omega); omega⟩
          have hvt : (t + x * y).tmod p = v := by rw [Int.tmod_eq_emod_of_nonneg (by omega), times_raw hp.1]; exact HV.out
          have hw1 : IntKind.i64.wrap (x * y) = x * y := IntWalk.i64_in _ (by omega)
          have hw2 : IntKind.i64.wrap (t + x * y) = t + x * y := IntWalk.i64_in _ (by omega)
          have hkj : IntKind.i64.wrap ((k : Int) + (j : Int)) = (k : Int) + (j : Int) := IntWalk.i64_in _ (by omega)
          obtain ⟨z, hz⟩ : ∃ z : Nat, k + j = z := ⟨_, rfl⟩
          have hzi : (k : Int) + (j : Int) = (z : Int) := by omega
          rw [hz] at hct hfz hst
          have hzN : (z : Int) < (N : Int) := by omega
          have hz0 : (0 : Int) ≤ (z : Int) := by omega
          have hj0 : (0 : Int) ≤ (j : Int) := by omega
          have hjb : (j : Int) < (b : Int) := by omega
          have hp0 : ¬ p = 0 := by omega
          have HST2 := Lib.hid hst.drew
          have hbs : Below w3.heap.size w3 (wr.setCell ⟨w3.heap.size, z, none⟩ (.int .i64 v)).drew := (hbj.setCell (p := ⟨w3.heap.size, z, none⟩) (Nat.le_refl _) _).drew
          clear hst hxy
          go_wp2_with fail
          go_region
          go_wp2
          go_roundw
          case rel => exact ⟨j + 1, by omega, by go_num, HST2.out, hbs⟩
          case measure => simp [intOf]; omega
        · obtain rfl : j = b := by omega
          rw [HST.out] at hownj
          go_wp2
          go_roundw
          case rel => exact ⟨k + 1, by omega, by go_num, hownj, hbj⟩
          case measure => simp [intOf]; omega
    · obtain rfl : k = a := by omega
      have HE := Lib.hid (mulK_all p us vs HA.out)
      rw [HE.out, HML.out] at hown
      have hIw := hown.ints
      have hlen := hown.len
      have HTL : Hid (tn (mulL p xs ys) N = (mulL p xs ys).length) := Lib.hid (by rw [← hlen, ← trimL_len, HMT.out])
      clear hlen
      have hbw := bnext hw03 hbz
      go_wp2_with (go_at_call 132; refine (rtrim_any _ N N (mulL p xs ys) _ hIw (Nat.le_refl _) (by omega)).mono ?_; rintro e w9 ⟨⟨A5, c5, rfl, hown5⟩, hb9⟩
                   rw [HTL.out, HMT.out] at hown5
                   rw [HTL.out])
      go_ret2
      exact ⟨⟨A5, c5, rfl, hown5.base hbw.size⟩, bnext hbw hb9⟩
end Go.Proofs.Ytoblofilaegnaaa
