/-
  What code's Encode, Fill and Distance hand back for valid arguments. Conditions: the lists read as their numbers, all of them elements; the cells as their values and marks.
-/
import Derived.Test.YtieejgkheijgeaaCode2
import Derived.Test.YtieejgkheijgeaaPoly1
import Derived.Test.YtieejgkheijgeaaSplit
import Derived.Test.YtieejgkheijgeaaSame
import Derived.Deep.QuietTactic
import Derived.BigQuiet
import Derived.Deep.RegionHeld3
namespace Go.Proofs.Ytieejgkheijgeaa
open Go.RowKit
set_option linter.unusedVariables false

/-- poly's Degree. -/
theorem pdeg_ok (p : Int) (A : Option Addr) (n c : Nat) (xs : List Int) (w : World) (hok : okP p = true) (h : Ints w w.heap.size A n xs) (hx : allP p xs = true) (hc : n ≤ c) (hn : n ≤ 512) :
    Calls Try.prog 65 #[.agg #[.int .i64 p], .slice A n c] w fun e w' => e = .returned (.tuple #[.int .i64 ((tn xs n : Nat) - 1), .int .i64 0]) ∧ Below w.heap.size w w' := by
  have HO := Lib.hid hok
  have HR : Hid (∀ r ∈ [xs], allP p r = true ∧ r.length ≤ 512) := Lib.hid fun r hr => by rw [List.mem_singleton.1 hr]; exact ⟨hx, by rw [h.len]; exact hn⟩
  have ht := tn_le xs n
  clear hok hx
  obtain ⟨t, HT⟩ : ∃ t, Hid (tn xs n = t) := ⟨_, Lib.hid rfl⟩
  rw [HT.out] at ht
  rw [HT.out]
  go_enter Try.func65, Try.ntmps65
  go_wp2_with (first
    | (go_at_call 88; (refine (open_ok p _ 1 1 [xs] _ HO.out (by exact Mat.one _ A n c xs 22 _ (by simp) (h.upto (bbox _)) (by omega)) (by omega) HR.out).mono ?_); rintro e w1 ⟨rfl, hb1⟩
       have hbb1 := bnext (ballocs (bbox _) _) hb1
       clear hb1)
    | (go_at_call 89; refine (trim_any A n c xs _ (h.upto hbb1) hc (by omega)).mono ?_; rintro e w2 ⟨rfl, rfl⟩
       rw [HT.out]))
  go_ret2
  exact ⟨rfl, hbb1⟩


theorem distance_ok (n k : Nat) (w : World) (hk : 1 ≤ k) (hkn : k ≤ n) (hn : n ≤ 32) :
    Calls Try.prog 37 #[.int .i64 n, .int .i64 k] w fun e w' => e = .returned (.tuple #[.int .i64 ((n : Int) - k + 1), .int .i64 0]) ∧ w = w' := by
  have h1 : ¬ ((k : Int) < 1) := by omega
  have h1N : ¬ k < 1 := by omega
  have h2 : ¬ ((n : Int) < (k : Int)) := by omega
  have h2N : ¬ n < k := by omega
  have h3 : ¬ ((32 : Int) < (n : Int)) := by omega
  have h3N : ¬ 32 < n := by omega
  have h4 : IntKind.i64.wrap ((n : Int) - k) = (n : Int) - k := IntWalk.i64_in _ (by omega)
  have h5 : IntKind.i64.wrap ((n : Int) - k + 1) = (n : Int) - k + 1 := IntWalk.i64_in _ (by omega)
  go_enter Try.func37, Try.ntmps37
  go_wp2
  go_ret2
  exact ⟨rfl, rfl⟩

set_option maxRecDepth 100000 in
set_option maxHeartbeats 1600000 in
theorem encode_ok (p : Int) (C : Option Addr) (m c n : Nat) (cs : List Int) (w : World) (hok : okP p = true) (h : Ints w w.heap.size C m cs) (hca : allP p cs = true) (hmc : m ≤ c) (hm : m ≤ 512) (hn : n ≤ 32) (hnp : (n : Int) < p) :
    Calls Try.prog 38 #[.agg #[.int .i64 p], .slice C m c, .int .i64 n] w fun e w' => (∃ A' c', e = .returned (.tuple #[.slice A' n c', .int .i64 0]) ∧ OwnI w' w.heap.size 3 A' n c' (valsP p cs (ptsL n))) ∧ Below w.heap.size w w' := by
  obtain ⟨i0, hi0, hz0, hz1, hz2⟩ := info_parts info_int
  have hp := okP_pos hok
  have HO := Lib.hid hok
  have HC := Lib.hid hca
  have h1 : ¬ ((n : Int) < 0) := by omega
  have h3 : ¬ ((32 : Int) < (n : Int)) := by omega
  have h3N : ¬ 32 < n := by omega
  have h4 : ¬ (p ≤ (n : Int)) := by omega
  have hb0 : Below w.heap.size w (w.alloc (.cells #[.int .i64 p] 28)) := bbox _
  have hF0 := Blk.new w 28 #[.int .i64 p]
  have hS0 := h.upto hb0
  clear hok hca
  go_enter Try.func38, Try.ntmps38
  go_wp2_with (go_at_call 65; (refine (pdeg_ok p C m c cs _ HO.out hS0 HC.out hmc hm).mono ?_); rintro e w1 ⟨rfl, hb1⟩
               have hbb1 := bnext hb0 hb1
               have hF1 := hF0.below hb1 hF0.lt
               have hcF1 : w1.cell? ⟨w.heap.size, 0, none⟩ = some (.int .i64 p) := (hF1.cell 0).trans rfl
               have hC1 := hS0.upto hb1)
  go_loopw [10, 34] (fun s i wz => ∃ (k : Nat) (L : Option Addr) (lc : Nat), k ≤ n ∧ s = .slice L k lc ∧ i = .int .i64 k ∧ OwnI wz w1.heap.size 3 L k lc (valsP p cs (ptsL k)) ∧ Below w1.heap.size w1 wz) (fun _ i _ => n - (intOf i).toNat)
  case atStart => exact ⟨0, none, 0, Nat.zero_le _, rfl, rfl, OwnI.nil_, Below.refl _ _⟩
  case round =>
    obtain ⟨k, L, lc, hk, rfl, rfl, hown, hb⟩ := hrel
    by_cases hlt : k < n
    · have hki : (k : Int) < (n : Int) := by omega
      have hkw : IntKind.i64.wrap ((k : Int) + 1) = (k : Int) + 1 := IntWalk.i64_in _ (by omega)
      have hFz := hF1.below hb hF1.lt
      have hcz : wr.cell? ⟨w.heap.size, 0, none⟩ = some (.int .i64 p) := (hFz.cell 0).trans rfl
      have hCz := hC1.upto hb
      have hx : 0 ≤ (k : Int) + 1 ∧ (k : Int) + 1 < p := by omega
      obtain ⟨v, HV⟩ : ∃ v, Hid (valueP p ((k : Int) + 1) cs = v) := ⟨_, Lib.hid rfl⟩
      have HS : Hid (valsP p cs (ptsL (k + 1)) = valsP p cs (ptsL k) ++ [v]) := Lib.hid (by rw [ptsL_succ, valsP_snoc, HV.out])
      go_wp2_with (first
        | (go_at_call 59; refine (value_any p ((k : Int) + 1) C m c cs _ hp hx hCz HC.out (by omega)).mono ?_; rintro e w2 ⟨rfl, hb2⟩
           rw [HV.out]
           have hbz2 := bnext hb hb2
           have hbz3 := ballocs hbz2 (.cells #[.int .i64 v] 3)
           have hown2 := (hown.belowAll hb2).alloc (.cells #[.int .i64 v] 3))
        | (at_builtin
           refine wpList_append_ints rfl _ _ _ rfl w1.heap.size 3 i0 _ Try.underlying22 hi0 hz0 hz1 hz2 rfl L k lc _ rfl hown2 _ _ 1 1 [v] rfl (Ints.one _ _ _) (k + 1) rfl _ HS.out.symm (by omega) hbz3.size ?_
           intro A2 c2 w4 hown4 hgr hbw4 hab
           have hbz4 := hbz3.trans hbw4))
      go_roundw
      case rel => exact ⟨k + 1, A2, c2, by omega, rfl, by go_num, hown4, hbz4⟩
      case measure => simp [intOf]; omega
    · obtain rfl : k = n := by omega
      go_wp2
      go_ret2
      exact ⟨⟨L, lc, rfl, hown.base hbb1.size⟩, bnext hbb1 hb⟩

set_option maxRecDepth 100000 in
set_option maxHeartbeats 1600000 in
theorem fill_ok (p : Int) (A : Option Addr) (m c k : Nat) (vs : List Int) (bs : List Bool) (w : World) (hok : okP p = true) (h : Cel w w.heap.size A m vs bs) (hm : m ≤ 32) (hmp : (m : Int) < p) (hkn : knOk p vs bs) (hk : 1 ≤ k) (hkm : k ≤ m) (hkl : k ≤ (knL vs bs).length) :
    Calls Try.prog 45 #[.agg #[.int .i64 p], .slice A m c, .int .i64 k] w fun e w' =>
      (∃ R A' c', e = .returned (.tuple #[.slice A' R.length c', .int .i64 0]) ∧ OwnI w' w.heap.size 3 A' R.length c' R ∧ Through p (ptK ((knL vs bs).take k)) (vlK ((knL vs bs).take k)) R) ∧ Below w.heap.size w w' := by
  have HO := Lib.hid hok
  have HKN := Lib.hid hkn
  have hlen : ((knL vs bs).take k).length = k := by rw [List.length_take]; omega
  have hvl := h.1
  have HPA : Hid (allP p (ptK ((knL vs bs).take k)) = true) := Lib.hid (by rw [ptK_take]; exact take_allP (ptK_allP vs bs (by rw [hvl]; exact hmp)) k)
  have HVA : Hid (allP p (vlK ((knL vs bs).take k)) = true) := Lib.hid (by rw [vlK_take]; exact take_allP (vlK_allP hkn) k)
  have HPD : Hid (∀ i j, i < j → j < k → (ptK ((knL vs bs).take k)).getD i 0 ≠ (ptK ((knL vs bs).take k)).getD j 0) := Lib.hid fun i j h1 h2 => by
    rw [ptK_take]
    exact ((ptK_apart vs bs).take k) i j h1 (by rw [List.length_take, ptK_len]; omega)
  obtain ⟨q, hq⟩ : ∃ q, (knL vs bs).length = q := ⟨_, rfl⟩
  have hkq : ¬ ((q : Int) < (k : Int)) := by omega
  have hkqN : ¬ q < k := by omega
  have hk1 : ¬ ((k : Int) < 1) := by omega
  have hk1N : ¬ k < 1 := by omega
  have hkmi : ¬ ((m : Int) < (k : Int)) := by omega
  have hkmiN : ¬ m < k := by omega
  have hb0 : Below w.heap.size w (w.alloc (.cells #[.int .i64 p] 28)) := bbox _
  have hF0 := Blk.new w 28 #[.int .i64 p]
  have hS0 := h.upto hb0
  have HQ := Lib.hid hq
  clear hok hkn hq hkl
  obtain ⟨l, HL⟩ : ∃ l, Hid ((knL vs bs).take k = l) := ⟨_, Lib.hid rfl⟩
  rw [HL.out] at HPA HVA HPD hlen
  rw [HL.out]
  go_enter Try.func45, Try.ntmps45
  go_wp2_with (go_at_call 69; (refine (cells_ok p A m c vs bs _ HO.out hS0 hm hmp HKN.out).mono ?_); rintro e w1 ⟨rfl, hb1⟩
               rw [HQ.out]
               have hbb1 := bnext hb0 hb1
               have hF1 := hF0.below hb1 hF0.lt
               have hS1 := hS0.upto hb1)
  have hcF1 : w1.drew.cell? ⟨w.heap.size, 0, none⟩ = some (.int .i64 p) := (hF1.cell 0).trans rfl
  have hSd : Cel w1.drew w1.drew.heap.size A m vs bs := hS1
  have hB0 : Below w1.heap.size w1 w1.drew := (Below.refl _ w1).drew
  have HFF : Hid (∀ wx, Below w1.heap.size w1 wx → wx.cell? ⟨w.heap.size, 0, none⟩ = some (.int .i64 p)) := Lib.hid fun wx hx => ((hF1.below hx hF1.lt).cell 0).trans rfl
  go_region_held3 (fun w' => w'.cell? ⟨w.heap.size, 0, none⟩ = some (.int .i64 p)) (first | exact hcF1 | exact HFF.out _ hC2 | exact HFF.out _ hC3)
    (first
      | (go_at_call 71; (with_reducible refine (first_ok A m c k vs bs _ hSd hm (by omega)).mono ?_); rintro e w2 ⟨⟨A2, c2, rfl, hoS⟩, hb2⟩
         rw [HL.out, hlen] at hoS
         rw [HL.out, hlen]
         have hC2 := bnext hB0 hb2
         have hSh := hoS.sh
         have hcap := hoS.cap)
      | (go_at_call 70; (with_reducible refine (interp_ok p A2 k c2 (ptK l) (vlK l) _ HO.out hSh HPA.out HVA.out (by omega) HPD.out).mono ?_); rintro e w3 ⟨⟨R, A3, c3, rfl, hown3, hT⟩, hb3⟩
         have HT := Lib.hid hT
         have hC3 := bnext hC2 hb3
         clear hT))
  go_wp2
  go_ret2
  exact ⟨⟨R, A3, c3, rfl, hown3.base (by have := hbb1.size; have := hC2.size; omega), HT.out⟩, bnext hbb1 hC3⟩

/-- A block of cells reads as its values and marks. -/
theorem cel3 (w : World) (a b c : Int) (x y z : Bool) : Cel (w.alloc (.cells #[.int .i64 a, .bool x, .int .i64 b, .bool y, .int .i64 c, .bool z] 75)) (w.alloc (.cells #[.int .i64 a, .bool x, .int .i64 b, .bool y, .int .i64 c, .bool z] 75)).heap.size (some ⟨w.heap.size, 0, none⟩) 3 [a, b, c] [x, y, z] :=
  ⟨rfl, rfl, fun _ => ⟨w.heap.size, 0, rfl, by simp, fun j hj => by
    have hB : (w.alloc (.cells #[.int .i64 a, .bool x, .int .i64 b, .bool y, .int .i64 c, .bool z] 75)).heap[w.heap.size]? = some (.cells #[.int .i64 a, .bool x, .int .i64 b, .bool y, .int .i64 c, .bool z] 75 (0, 0)) := Blk.new w 75 _
    rcases (by omega : j = 0 ∨ j = 1 ∨ j = 2) with rfl | rfl | rfl
    · exact ⟨(Blk.cell hB 0).trans rfl, (Blk.cell hB 1).trans rfl⟩
    · exact ⟨(Blk.cell hB 2).trans rfl, (Blk.cell hB 3).trans rfl⟩
    · exact ⟨(Blk.cell hB 4).trans rfl, (Blk.cell hB 5).trans rfl⟩⟩⟩

set_option maxRecDepth 100000 in
set_option maxHeartbeats 1600000 in
theorem sane08_any (w : World) : Calls Try.prog 35 #[] w fun e w' => e = .returned (.bool true) ∧ Below w.heap.size w w' := by
  have h7 : okP 7 = true := okP_known (by simp [isKnown])
  have HO := Lib.hid h7
  have HV : Hid (valsP 7 [1, 2] (ptsL 4) = [3, 5, 0, 2]) := Lib.hid (by decide)
  have HK : Hid (knL [0, 5, 0] [false, true, true] = [(2, 5), (3, 0)]) := Lib.hid (by decide)
  have HKO : Hid (knOk 7 [0, 5, 0] [false, true, true]) := Lib.hid (by
    intro e he
    rw [HK.out] at he
    simp only [List.mem_cons, List.not_mem_nil, or_false] at he
    rcases he with rfl | rfl <;> decide)
  have HR : Hid (∀ R, Through 7 (ptK ((knL [0, 5, 0] [false, true, true]).take 2)) (vlK ((knL [0, 5, 0] [false, true, true]).take 2)) R → R = [1, 2]) := Lib.hid fun R hR => by
    rw [HK.out] at hR
    have h1 := share_join h7 (cs := [1, 2]) (us := [2, 3]) (m := 2) (by decide) (by decide) (by decide) (fun j k h1 h2 => by
      have h3 : k < 2 := h2
      obtain rfl : k = 1 := by omega
      obtain rfl : j = 0 := by omega
      decide) (by decide) hR
    rw [h1]; decide
  have HS1 : Hid (sameL [3, 5, 0, 2] [3, 5, 0, 2] = true) := Lib.hid (by decide)
  have HS2 : Hid (sameL [1, 2] [1, 2] = true) := Lib.hid (by decide)
  have hb0 : Below w.heap.size w ((w.alloc (.cells #[.int .i64 7] 28)).alloc (.cells #[.int .i64 1, .int .i64 2] 3)) := ballocs (bbox _) _
  have hF0 := (Blk.new w 28 #[.int .i64 7]).alloc (.cells #[.int .i64 1, .int .i64 2] 3)
  clear h7
  go_enter Try.func35, Try.ntmps35
  go_wp2_with (first
    | (go_at_call 38; (refine (encode_ok 7 _ 2 2 4 [1, 2] _ HO.out (by exact Ints.lit _ _ [1, 2] 3 2 _ (by simp) rfl rfl) (by decide) (by omega) (by omega) (by omega) (by omega)).mono ?_); rintro e w1 ⟨⟨A1, c1, rfl, hown1⟩, hb1⟩
       rw [HV.out] at hown1
       have hbb1 := ballocs (bnext hb0 hb1) (.cells #[.int .i64 0, .bool false, .int .i64 5, .bool true, .int .i64 0, .bool true] 75)
       have hF1 := (hF0.below hb1 hF0.lt).alloc (.cells #[.int .i64 0, .bool false, .int .i64 5, .bool true, .int .i64 0, .bool true] 75)
       have hcF1 : w1.cell? ⟨w.heap.size, 0, none⟩ = some (.int .i64 7) := ((hF0.below hb1 hF0.lt).cell 0).trans rfl
       have hI1 := hown1.ints.upto (bbox (.cells #[.int .i64 0, .bool false, .int .i64 5, .bool true, .int .i64 0, .bool true] 75)))
    | (go_at_call 45; (refine (fill_ok 7 _ 3 3 2 [0, 5, 0] [false, true, true] _ HO.out (cel3 w1 0 5 0 false true true) (by omega) (by omega) HKO.out (by omega) (by omega) (by rw [HK.out]; decide)).mono ?_); rintro e w2 ⟨⟨R, A2, c2, rfl, hown2, hT⟩, hb2⟩
       have hRe := HR.out R hT
       subst hRe
       have hbb2 := bnext hbb1 hb2
       have hI12 := hI1.upto hb2
       have hI2 := hown2.ints
       clear hT)
    | (go_at_call 37; (refine (distance_ok 4 2 _ (by omega) (by omega) (by omega)).mono ?_); rintro e w' ⟨rfl, rfl⟩)
    | (go_at_call 41; (refine (same_any A1 _ 4 4 c1 4 [3, 5, 0, 2] [3, 5, 0, 2] _ (hI12.upto (bbox _)) (by exact Ints.lit w2 _ [3, 5, 0, 2] 3 4 _ rfl rfl rfl) (by omega) (by omega)).mono ?_); rintro e w' ⟨rfl, q1, rfl⟩
       rw [HS1.out]
       go_wp2_with (go_at_call 41; (refine (same_any A2 _ 2 2 c2 2 [1, 2] [1, 2] _ (((hI2.upto (bbox (.cells #[.int .i64 3, .int .i64 5, .int .i64 0, .int .i64 2] 3))).drewN q1).upto (bbox _)) (by exact Ints.lit _ _ [1, 2] 3 2 _ (by simp) rfl rfl) (by omega) (by omega)).mono ?_); rintro e w' ⟨rfl, q2, rfl⟩; rw [HS2.out])))
  go_ret
  exact ⟨rfl, below_drewN (ballocs (below_drewN (ballocs hbb2 _) _) _) _⟩
end Go.Proofs.Ytieejgkheijgeaa
