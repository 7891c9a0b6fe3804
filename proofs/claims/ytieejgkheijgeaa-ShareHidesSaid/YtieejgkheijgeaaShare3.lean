/-
  What share's Agree hands back for valid arguments. Conditions: the shares read as their points and values, all of them elements, the points apart.
-/
import Derived.Test.YtieejgkheijgeaaShare2
namespace Go.Proofs.Ytieejgkheijgeaa
open Go.RowKit
open Go.Maps
set_option linter.unusedVariables false

set_option maxRecDepth 100000 in
set_option maxHeartbeats 1600000 in
theorem agree_share_ok (p : Int) (A : Option Addr) (n c th : Nat) (us ys : List Int) (w : World) (hok : okP p = true) (h : Sh w w.heap.size A n us ys) (ha : allP p us = true) (hy : allP p ys = true)
    (hn : n ≤ 60) (hc : n ≤ c) (hth : th + 1 ≤ n) (hth9 : th ≤ 9) (hd : Apart2 us) :
    Calls Try.prog 22 #[.agg #[.int .i64 p], .int .i64 th, .slice A n c] w fun e w' =>
      (∃ R, e = .returned (.tuple #[.bool (agreeB p us ys R), .int .i64 0]) ∧ Through p (us.take (th + 1)) (ys.take (th + 1)) R) ∧ Below w.heap.size w w' := by
  have hp := okP_pos hok
  have HO := Lib.hid hok
  have HA := Lib.hid ha
  have HY := Lib.hid hy
  have HD := Lib.hid hd
  have HLA := Lib.hid h.1
  have HLY := Lib.hid h.2.1
  clear ha hy hd hok
  have hb0 : Below w.heap.size w (w.alloc (.cells #[.int .i64 p] 28)) := bbox _
  have hS0 := h.upto hb0
  go_enter Try.func22, Try.ntmps22
  go_wp2_with (go_at_call 58; (refine (through_ok p A none n c 0 0 th us ys [] _ HO.out hS0 Ints.nil_ rfl HA.out HY.out hn (by omega) hc hth hth9 HD.out).mono ?_); rintro e w1 ⟨⟨R, A1, c1, rfl, hown1, hT⟩, hb1⟩
               have HT := Lib.hid hT
               have hRA := Lib.hid hT.al
               have hRL : R.length ≤ 10 := by have := hT.ln; rw [List.length_take] at this; omega
               have hbb1 := bnext hb0 hb1
               have hI1 := hown1.ints
               have hS1 := h.upto hbb1
               clear hT)
  go_loopw [26] (fun i wz => ∃ k : Nat, k ≤ n ∧ i = .int .i64 k ∧ Hid (∀ i, i < k → valueP p (us.getD i 0) R = ys.getD i 0) ∧ Below w1.heap.size w1 wz) (fun i _ => n - (intOf i).toNat)
  case atStart => exact ⟨0, Nat.zero_le _, rfl, Lib.hid (fun i hi => absurd hi (by omega)), Below.refl _ _⟩
  case round =>
    obtain ⟨k, hk, rfl, HV, hbz⟩ := hrel
    by_cases hlt : k < n
    · obtain ⟨b, off, rfl, hbl, hcell⟩ := hS1.2.2 (by omega)
      have hcA := (hbz.cell (p := ⟨b, off + k * 2, none⟩) hbl).trans (hcell k hlt).1
      have hcY := (hbz.cell (p := ⟨b, off + k * 2 + 1, none⟩) hbl).trans (hcell k hlt).2
      clear hcell
      have hxe := allP_getD HA.out (k := k) (by rw [HLA.out]; exact hlt)
      obtain ⟨x, HX⟩ : ∃ x, Hid (us.getD k 0 = x) := ⟨_, Lib.hid rfl⟩
      obtain ⟨y, HYk⟩ : ∃ y, Hid (ys.getD k 0 = y) := ⟨_, Lib.hid rfl⟩
      rw [HX.out] at hcA hxe
      rw [HYk.out] at hcY
      obtain ⟨v, HVV⟩ : ∃ v, Hid (valueP p x R = v) := ⟨_, Lib.hid rfl⟩
      have hN := Blk.new wr 40 #[.int .i64 x, .int .i64 y]
      have hsc : (wr.alloc (.cells #[.int .i64 x, .int .i64 y] 40)).drew.cell? ⟨wr.heap.size, 0, none⟩ = some (.int .i64 x) ∧ (wr.alloc (.cells #[.int .i64 x, .int .i64 y] 40)).drew.cell? ⟨wr.heap.size, 1, none⟩ = some (.int .i64 y) := ⟨(hN.cell 0).trans rfl, (hN.cell 1).trans rfl⟩
      have hbzA := (ballocs hbz (.cells #[.int .i64 x, .int .i64 y] 40)).drew
      have hIA : Ints (wr.alloc (.cells #[.int .i64 x, .int .i64 y] 40)).drew (wr.alloc (.cells #[.int .i64 x, .int .i64 y] 40)).drew.heap.size A1 R.length R := hI1.upto hbzA
      go_wp2_with fail
      go_region_held3 (fun w' => w'.cell? ⟨wr.heap.size, 0, none⟩ = some (.int .i64 x) ∧ w'.cell? ⟨wr.heap.size, 1, none⟩ = some (.int .i64 y)) (first | exact hsc | exact hsd)
        (first
          | (go_at_call 59; (refine (value_any p x A1 R.length c1 R _ hp hxe hIA hRA.out (by omega)).mono ?_); rintro e w2 ⟨rfl, hb2⟩
             rw [HVV.out]
             have hM := (Blk.drew hN).below hb2 hN.lt
             have hsd : w2.cell? ⟨wr.heap.size, 0, none⟩ = some (.int .i64 x) ∧ w2.cell? ⟨wr.heap.size, 1, none⟩ = some (.int .i64 y) := ⟨(hM.cell 0).trans rfl, (hM.cell 1).trans rfl⟩
             have hbz2 := bnext hbzA hb2))
      by_cases hvy : v = y
      · have HN : Hid (∀ i, i < k + 1 → valueP p (us.getD i 0) R = ys.getD i 0) := Lib.hid fun i hi => by
          by_cases hik : i = k
          · rw [hik, HX.out, HVV.out, HYk.out]; exact hvy
          · exact HV.out i (by omega)
        have hvb : (v != y) = false := by simpa using hvy
        clear hvy
        go_wp2
        go_roundw
        case rel => exact ⟨k + 1, by omega, by go_num, HN, hbz2⟩
        case measure => simp [intOf]; omega
      · have HF : Hid (agreeB p us ys R = false) := Lib.hid (by
          rw [← Bool.not_eq_true, agreeB_iff]
          intro hall
          have := hall k (by rw [HLA.out]; exact hlt)
          rw [HX.out, HVV.out, HYk.out] at this
          exact hvy this)
        have hvb : (v != y) = true := by simpa using hvy
        clear hvy
        go_wp2
        go_ret2
        exact ⟨⟨R, by rw [HF.out]; rfl, HT.out⟩, bnext hbb1 hbz2⟩
    · have HF : Hid (agreeB p us ys R = true) := Lib.hid (agreeB_iff.2 fun i hi => HV.out i (by rw [HLA.out] at hi; omega))
      go_wp2
      go_ret2
      exact ⟨⟨R, by rw [HF.out]; rfl, HT.out⟩, bnext hbb1 hbz⟩
end Go.Proofs.Ytieejgkheijgeaa
