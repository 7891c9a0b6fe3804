/-
  What share's shares, through, At, Join and Agree hand back for valid arguments. Conditions: the lists read as their numbers, all of them elements, the points apart.
-/
import Derived.Test.YtgboojmoplcpdaaPlain
import Derived.Test.YtgboojmoplcpdaaShares
namespace Go.Proofs.Ytgboojmoplcpdaa
open Go.RowKit
open Go.Maps
set_option linter.unusedVariables false

theorem Sh.below {w w' : World} {B : Nat} {A : Option Addr} {n : Nat} {us ys : List Int} (h : Sh w B A n us ys) (hb : Below B w w') : Sh w' B A n us ys :=
  ⟨h.1, h.2.1, fun hn => by
    obtain ⟨b, off, e, hl, hc⟩ := h.2.2 hn
    exact ⟨b, off, e, hl, fun j hj => ⟨(hb.cell (p := ⟨b, off + j * 2, none⟩) hl).trans (hc j hj).1, (hb.cell (p := ⟨b, off + j * 2 + 1, none⟩) hl).trans (hc j hj).2⟩⟩⟩
theorem Sh.more {w : World} {B B' : Nat} {A : Option Addr} {n : Nat} {us ys : List Int} (h : Sh w B A n us ys) (hB : B ≤ B') : Sh w B' A n us ys :=
  ⟨h.1, h.2.1, fun hn => by
    obtain ⟨b, off, e, hl, hc⟩ := h.2.2 hn
    exact ⟨b, off, e, by omega, hc⟩⟩
theorem Sh.upto {w0 w' : World} {A : Option Addr} {n : Nat} {us ys : List Int} (h : Sh w0 w0.heap.size A n us ys) (hb : Below w0.heap.size w0 w') : Sh w' w'.heap.size A n us ys := (h.below hb).more hb.size
theorem Sh.take_ {w : World} {B : Nat} {A : Option Addr} {n : Nat} {us ys : List Int} (h : Sh w B A n us ys) (k : Nat) (hk : k ≤ n) : Sh w B A k (us.take k) (ys.take k) :=
  ⟨by rw [List.length_take, h.1]; omega, by rw [List.length_take, h.2.1]; omega, fun hk0 => by
    obtain ⟨b, off, e, hl, hc⟩ := h.2.2 (by omega)
    exact ⟨b, off, e, hl, fun j hj => by rw [take_getD us hj, take_getD ys hj]; exact hc j (by omega)⟩⟩

set_option maxRecDepth 100000 in
theorem shares_any (p : Int) (C M : Option Addr) (n c m d : Nat) (cs us : List Int) (w : World) (hp : 2 ≤ p ∧ p ≤ 65521) (hC : Ints w w.heap.size C n cs) (hM : Ints w w.heap.size M m us) (hca : allP p cs = true) (hua : allP p us = true) (hn : n ≤ 1000) (hm : m ≤ 1000) :
    Calls Try.prog 94 #[.int .i64 p, .slice C n c, .slice M m d] w fun e w' => (∃ A' c', e = .returned (.slice A' m c') ∧ OwnS w' w.heap.size A' m c' us (valsP p cs us)) ∧ Below w.heap.size w w' := by
  have HC := Lib.hid hca
  have HU := Lib.hid hua
  have HL := Lib.hid hM.len
  clear hca hua
  go_enter Try.func94, Try.ntmps94
  go_wp2
  go_loopw [7, 12] (fun v7 v12 wz => ∃ (k : Nat) (L : Option Addr) (lc : Nat), k ≤ m ∧ v7 = .slice L k lc ∧ v12 = .int .i64 k ∧ OwnS wz w.heap.size L k lc (us.take k) (valsP p cs (us.take k)) ∧ Below w.heap.size w wz) (fun _ v12 _ => m - (intOf v12).toNat)
  case atStart => exact ⟨0, none, 0, Nat.zero_le _, rfl, rfl, OwnS.nil_, Below.refl _ _⟩
  case round =>
    obtain ⟨k, L, lc, hk, rfl, rfl, hS, hb⟩ := hrel
    by_cases hlt : k < m
    · obtain ⟨b1, o1, rfl, hb1, hc1⟩ := hM.2 (by omega)
      have hcx := (hb.cell (p := ⟨b1, o1 + k, none⟩) hb1).trans (hc1 k hlt)
      clear hc1
      have hxe := allP_getD HU.out (k := k) (by rw [HL.out]; exact hlt)
      have HT := Lib.hid (take_succ_getD us k (by rw [HL.out]; exact hlt))
      generalize us.getD k 0 = x at *
      obtain ⟨v, HV⟩ : ∃ v, Hid (valueP p x cs = v) := ⟨_, Lib.hid rfl⟩
      have HTV : Hid (valsP p cs (us.take (k + 1)) = valsP p cs (us.take k) ++ [v]) := Lib.hid (by rw [HT.out, valsP_snoc, HV.out])
      go_wp2_with (first
        | (go_at_call 89; refine (value_any p x C n c cs _ hp hxe (hC.upto hb) HC.out (by omega)).mono ?_; rintro e w8 ⟨rfl, hb8⟩
           rw [HV.out]
           have hbz8 := bnext hb hb8
           have hS9 := (hS.belowAll hb8).belowAll (bbox (.cells #[.int .i64 x, .int .i64 v] 52))
           have hN9 := Blk.new w8 52 #[.int .i64 x, .int .i64 v]
           have hbz9 := ballocs hbz8 (.cells #[.int .i64 x, .int .i64 v] 52))
        | (at_builtin
           refine wpList_append_share rfl _ _ 50 rfl Try.underlying50 w.heap.size L k lc (us.take k) _ rfl hS9 w8.heap.size 1 x v rfl ((hN9.cell 0).trans rfl) ((hN9.cell 1).trans rfl) (by omega) hbz9.size ?_
           intro L2 lc2 w10 hS10 hb10
           have hbz10 := hbz9.trans hb10))
      go_roundw
      case rel => exact ⟨k + 1, L2, lc2, by omega, rfl, by go_num, by rw [HTV.out, HT.out]; exact hS10, hbz10⟩
      case measure => simp [intOf]; omega
    · obtain rfl : k = m := by omega
      rw [List.take_of_length_le (by rw [HL.out]; omega)] at hS
      go_wp2
      go_ret
      exact ⟨⟨L, lc, rfl, hS⟩, hb⟩

theorem threshold_any (n : Int) (w : World) : Calls Try.prog 92 #[.int .i64 n] w fun e w' => e = .returned (.bool (decide (0 ≤ n ∧ n ≤ 9))) ∧ w = w' := by
  go_enter Try.func92, Try.ntmps92
  go_wp2
  all_goals go_ret
  all_goals exact ⟨ret_bool (by rw [Bool.eq_iff_iff]; simp; try omega), rfl⟩
end Go.Proofs.Ytgboojmoplcpdaa
