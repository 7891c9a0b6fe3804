/-
  Words for memory and contracts of small functions of the second form. Conditions: those of each lemma.
-/
import Derived.Test.YtmcgnpdfpfgfpaaGreatDoorGBas
import Derived.Test.YtmcgnpdfpfgfpaaGreatDoorPlain
import Derived.WalkKit
import Derived.WalkSpells
import Derived.Lib.Hide
import Derived.Test.YtmcgnpdfpfgfpaaGreatDoorGKwP
import Derived.Test.YtmcgnpdfpfgfpaaGreatDoorItp
import Derived.Test.YtmcgnpdfpfgfpaaGreatDoorGCod
import Derived.Deep.RegionHeld3
/-! KSum -/
namespace Go.Proofs.YtmcgnpdfpfgfpaaGreatDoor
open Go.RowKit
set_option linter.unusedVariables false

theorem take_snoc_byte (s : ByteArray) (k : Nat) (h : k < s.size) : s.data.toList.take (k + 1) = s.data.toList.take k ++ [s[k]] := by
  rw [List.take_succ_eq_append_getElem (by simpa using h)]; rfl

/-- digest.sum of a text. -/
theorem sum_any (s : ByteArray) (d : Int) (w : World) (hs : s.size ≤ maxLen) (h0 : 0 ≤ d) (h1 : d < 2147483647) :
    Calls Tryz.prog 114 #[.string s, .int .i64 d] w fun e w' => e = .returned (.int .i64 (dFold d (byteNums s.data.toList))) ∧ w = w' := by
  unfold maxLen at hs
  go_enter Tryz.func114, Tryz.ntmps114
  go_wp2
  go_loop [1, 8] (fun u i => ∃ k : Nat, k ≤ s.size ∧ i = .int .i64 k ∧ u = .int .i64 (dFold d (byteNums (s.data.toList.take k)))) (fun _ i => s.size - (intOf i).toNat)
  case atStart => exact ⟨0, Nat.zero_le _, rfl, rfl⟩
  case round =>
    obtain ⟨k, hk, rfl, rfl⟩ := hrel
    have hd := dFold_bd (byteNums (s.data.toList.take k)) d h0 h1
    by_cases hlt : k < s.size
    · have HS : Hid (dFold d (byteNums (s.data.toList.take (k + 1))) = dStep (dFold d (byteNums (s.data.toList.take k))) (s[k].toNat : Int)) := by
        rw [take_snoc_byte s k hlt]; exact dSum_snocFold _ _ _
      have hb : (s[k].toNat : Int) < 256 := by have := s[k].toNat_lt; omega
      go_wp2
      go_round
      case rel => exact ⟨k + 1, by omega, by go_num, by rw [HS.out]; rfl⟩
      case measure => simp [intOf]; omega
    · go_wp2
      go_ret
      exact ⟨ret_int (by rw [List.take_of_length_le (by simp; omega)]), rfl⟩

/-- digest.Sum. -/
theorem dsum_any (s : ByteArray) (w : World) (hs : s.size ≤ maxLen) :
    Calls Tryz.prog 80 #[.string s] w fun e w' => e = .returned (.int .i64 (dSum s.data.toList)) ∧ w = w' := by
  go_enter Tryz.func80, Tryz.ntmps80
  go_wp2_with (go_at_call 114; refine (sum_any s 1 _ hs (by omega) (by omega)).mono ?_; rintro e w' ⟨rfl, rfl⟩)
  go_ret
  exact ⟨rfl, rfl⟩

theorem rdsum_any (s : ByteArray) (w : World) (hs : s.size ≤ maxLen) :
    Calls Tryz.prog 108 #[.string s] w fun e w' => e = .returned (.int .i64 (dSum s.data.toList)) ∧ w = w' := by
  unfold maxLen at hs
  go_enter Tryz.func108, Tryz.ntmps108
  go_wp2
  go_loop [3, 4] (fun u i => ∃ k : Nat, k ≤ s.size ∧ i = .int .i64 k ∧ u = .int .i64 (dFold 1 (byteNums (s.data.toList.take k)))) (fun _ i => s.size - (intOf i).toNat)
  case atStart => exact ⟨0, Nat.zero_le _, rfl, rfl⟩
  case round =>
    obtain ⟨k, hk, rfl, rfl⟩ := hrel
    have hd := dFold_bd (byteNums (s.data.toList.take k)) 1 (by omega) (by omega)
    by_cases hlt : k < s.size
    · have HS : Hid (dFold 1 (byteNums (s.data.toList.take (k + 1))) = dStep (dFold 1 (byteNums (s.data.toList.take k))) (s[k].toNat : Int)) := by
        rw [take_snoc_byte s k hlt]; exact dSum_snocFold _ _ _
      have hb : (s[k].toNat : Int) < 256 := by have := s[k].toNat_lt; omega
      go_wp2
      go_round
      case rel => exact ⟨k + 1, by omega, by go_num, by rw [HS.out]; rfl⟩
      case measure => simp [intOf]; omega
    · go_wp2
      go_ret
      exact ⟨ret_int (by rw [List.take_of_length_le (by simp; omega)]; rfl), rfl⟩
end Go.Proofs.YtmcgnpdfpfgfpaaGreatDoor

/-! Hsh -/
namespace Go.Proofs.YtmcgnpdfpfgfpaaGreatDoor
open Go.RowKit
set_option linter.unusedVariables false

/-- A hashing that is valid. -/
structure HsOk (nb np : Nat) (us ys : List Int) : Prop where
  hnb : 1 ≤ nb ∧ nb ≤ 64
  hnp : 1 ≤ np ∧ np ≤ 4
  hus : ∀ k, k < np → 0 ≤ us.getD k 0 ∧ us.getD k 0 < 2147483647
  hys : ∀ k, k < np → 0 ≤ ys.getD k 0 ∧ ys.getD k 0 < 2147483647
theorem Sh.upto {w w' : World} {A : Option Addr} {n : Nat} {us ys : List Int} (h : Sh w w.heap.size A n us ys) (hb : Below w.heap.size w w') : Sh w' w'.heap.size A n us ys := by
  refine ⟨h.1, h.2.1, fun hn => ?_⟩
  obtain ⟨b, off, e, hlt, hc⟩ := h.2.2 hn
  exact ⟨b, off, e, Nat.lt_of_lt_of_le hlt hb.size, fun j hj => ⟨(hb.cell (p := ⟨b, off + j * 2, none⟩) hlt).trans (hc j hj).1, (hb.cell (p := ⟨b, off + j * 2 + 1, none⟩) hlt).trans (hc j hj).2⟩⟩
theorem mul_bd31 {u x : Int} (hu : 0 ≤ u ∧ u < 2147483647) (hx : 0 ≤ x ∧ x < 2147483647) : 0 ≤ u * x ∧ u * x ≤ 4611686009837453316 := by
  refine ⟨Int.mul_nonneg hu.1 hx.1, ?_⟩
  have h1 : u * x ≤ 2147483646 * x := Int.mul_le_mul_of_nonneg_right (by omega) hx.1
  omega
/-- One home. -/
def hom1 (nb : Nat) (u y x : Int) : Int := (u * x + y) % 2147483647 % (nb : Int)
/-- The homes of an item. -/
def homI (nb : Nat) (us ys : List Int) (x : Int) : List Int := (us.zip ys).map fun p => hom1 nb p.1 p.2 x
theorem homI_len (nb : Nat) (us ys : List Int) (x : Int) (h : us.length = ys.length) : (homI nb us ys x).length = us.length := by simp [homI, h]
theorem homI_take {nb : Nat} {us ys : List Int} {x : Int} {k : Nat} (h : k < us.length) (h2 : k < ys.length) : (homI nb us ys x).take (k + 1) = (homI nb us ys x).take k ++ [hom1 nb (us.getD k 0) (ys.getD k 0) x] := by
  have hl : k < (homI nb us ys x).length := by simp [homI]; omega
  rw [List.take_succ_eq_append_getElem hl]
  simp [homI, List.getD_eq_getElem?_getD, List.getElem?_eq_getElem h, List.getElem?_eq_getElem h2]
theorem homI_bd {nb : Nat} (hnb : 1 ≤ nb) {us ys : List Int} {x : Int} : ∀ h ∈ homI nb us ys x, ∃ c : Nat, h = (c : Int) ∧ c < nb := fun h hh => by
  obtain ⟨p, _, rfl⟩ := List.mem_map.1 hh
  have h1 := Int.emod_nonneg ((p.1 * x + p.2) % 2147483647) (show (nb : Int) ≠ 0 by omega)
  have h2 := Int.emod_lt_of_pos ((p.1 * x + p.2) % 2147483647) (show (0 : Int) < (nb : Int) by omega)
  exact ⟨((p.1 * x + p.2) % 2147483647 % (nb : Int)).toNat, by unfold hom1; omega, by omega⟩
theorem dSum_bd (l : List UInt8) : 0 ≤ dSum l ∧ dSum l < 2147483647 := dFold_bd _ 1 (by omega) (by omega)
/-- What leads to the homes. -/
def HomPost (nb : Nat) (us ys : List Int) (x : Int) (np : Nat) (w : World) (e : Ending) (w' : World) : Prop :=
  ∃ (A : Option Addr) (c : Nat), e = .returned (.slice A np c) ∧ OwnI w' w.heap.size 3 A np c (homI nb us ys x) ∧ Below w.heap.size w w'
def HomPost2 (nb : Nat) (us ys : List Int) (x : Int) (np : Nat) (w : World) (e : Ending) (w' : World) : Prop :=
  ∃ (A : Option Addr) (c : Nat), e = .returned (.tuple #[.slice A np c, .int .i64 0]) ∧ OwnI w' w.heap.size 3 A np c (homI nb us ys x) ∧ Below w.heap.size w w'

set_option maxRecDepth 100000 in
set_option maxHeartbeats 4000000 in
theorem check19_ok (nb np : Nat) (P : Option Addr) (pc : Nat) (us ys : List Int) (w : World) (hs : Sh w w.heap.size P np us ys) (ho : HsOk nb np us ys) :
    Calls Tryz.prog 72 #[.agg #[.int .i64 nb, .slice P np pc]] w fun e w' => e = .returned (.int .i64 0) ∧ Below w.heap.size w w' := by
  obtain ⟨hnb, hnp, hus, hys⟩ := ho
  have HUS := Lib.hid hus
  have HYS := Lib.hid hys
  have h1 : ¬ (nb : Int) < 1 := by omega
  have h2 : ¬ (64 : Int) < (nb : Int) := by omega
  have h3 : ¬ (np : Int) < 1 := by omega
  have h4 : ¬ (4 : Int) < (np : Int) := by omega
  clear hus hys
  go_enter Tryz.func72, Tryz.ntmps72
  go_wp2
  go_loopw [28] (fun v28 wz => ∃ k : Nat, k ≤ np ∧ v28 = .int .i64 k ∧ Below w.heap.size w wz) (fun v28 _ => np - (intOf v28).toNat)
  case atStart => exact ⟨0, Nat.zero_le _, rfl, bbox _⟩
  case round =>
  obtain ⟨k, hk, rfl, hbz⟩ := hrel
  by_cases hkn : k < np
  · have hki : (k : Int) < (np : Int) := by omega
    have hk0 : (0 : Int) ≤ (k : Int) := by omega
    obtain ⟨b, off, rfl, hlt, hc⟩ := hs.2.2 (by omega)
    obtain ⟨c1, c2⟩ := hc k hkn
    have d1 := (hbz.cell (p := ⟨b, off + k * 2, none⟩) hlt).trans c1
    have d2 := (hbz.cell (p := ⟨b, off + k * 2 + 1, none⟩) hlt).trans c2
    have hu := HUS.out k hkn
    have hy := HYS.out k hkn
    clear hc c1 c2
    generalize us.getD k 0 = u at *
    generalize ys.getD k 0 = y at *
    obtain ⟨hu0, hu1⟩ := hu
    obtain ⟨hy0, hy1⟩ := hy
    have e1 : ¬ u < 0 := by omega
    have e2 : ¬ 2147483647 ≤ u := by omega
    have e3 : ¬ y < 0 := by omega
    have e4 : ¬ 2147483647 ≤ y := by omega
    clear hu0 hu1 hy0 hy1
    go_wp2
    go_roundw
    case rel => exact ⟨k + 1, by omega, by go_num, hbz.alloc hbz.size _⟩
    case measure => simp [intOf]; omega
  · obtain rfl : k = np := by omega
    go_wp2
    go_ret
    exact ⟨rfl, hbz⟩

set_option maxRecDepth 100000 in
set_option maxHeartbeats 4000000 in
theorem cucheck_ok (nb np : Nat) (P : Option Addr) (pc : Nat) (us ys : List Int) (w : World) (hs : Sh w w.heap.size P np us ys) (ho : HsOk nb np us ys) :
    Calls Tryz.prog 43 #[.agg #[.int .i64 nb, .slice P np pc]] w fun e w' => e = .returned (.int .i64 0) ∧ Below w.heap.size w w' := by
  obtain ⟨hnb, hnp, hus, hys⟩ := ho
  have HUS := Lib.hid hus
  have HYS := Lib.hid hys
  have h1 : ¬ (nb : Int) < 1 := by omega
  have h2 : ¬ (64 : Int) < (nb : Int) := by omega
  have h3 : ¬ (np : Int) < 1 := by omega
  have h4 : ¬ (4 : Int) < (np : Int) := by omega
  clear hus hys
  go_enter Tryz.func43, Tryz.ntmps43
  go_wp2
  go_loopw [28] (fun v28 wz => ∃ k : Nat, k ≤ np ∧ v28 = .int .i64 k ∧ Below w.heap.size w wz) (fun v28 _ => np - (intOf v28).toNat)
  case atStart => exact ⟨0, Nat.zero_le _, rfl, bbox _⟩
  case round =>
  obtain ⟨k, hk, rfl, hbz⟩ := hrel
  by_cases hkn : k < np
  · have hki : (k : Int) < (np : Int) := by omega
    have hk0 : (0 : Int) ≤ (k : Int) := by omega
    obtain ⟨b, off, rfl, hlt, hc⟩ := hs.2.2 (by omega)
    obtain ⟨c1, c2⟩ := hc k hkn
    have d1 := (hbz.cell (p := ⟨b, off + k * 2, none⟩) hlt).trans c1
    have d2 := (hbz.cell (p := ⟨b, off + k * 2 + 1, none⟩) hlt).trans c2
    have hu := HUS.out k hkn
    have hy := HYS.out k hkn
    clear hc c1 c2
    generalize us.getD k 0 = u at *
    generalize ys.getD k 0 = y at *
    obtain ⟨hu0, hu1⟩ := hu
    obtain ⟨hy0, hy1⟩ := hy
    have e1 : ¬ u < 0 := by omega
    have e2 : ¬ 2147483647 ≤ u := by omega
    have e3 : ¬ y < 0 := by omega
    have e4 : ¬ 2147483647 ≤ y := by omega
    clear hu0 hu1 hy0 hy1
    go_wp2
    go_roundw
    case rel => exact ⟨k + 1, by omega, by go_num, hbz.alloc hbz.size _⟩
    case measure => simp [intOf]; omega
  · obtain rfl : k = np := by omega
    go_wp2
    go_ret
    exact ⟨rfl, hbz⟩

set_option maxRecDepth 100000 in
set_option maxHeartbeats 4000000 in
theorem cuhomes_ok (nb np : Nat) (P : Option Addr) (pc : Nat) (us ys : List Int) (w : World) (hs : Sh w w.heap.size P np us ys) (ho : HsOk nb np us ys) (x : Int) (hx : 0 ≤ x ∧ x < 2147483647) :
    Calls Tryz.prog 113 #[.agg #[.int .i64 nb, .slice P np pc], .int .i64 x] w (HomPost nb us ys x np w) := by
  obtain ⟨hnb, hnp, hus, hys⟩ := ho
  obtain ⟨i0, hi0, hz0, hz1, hz2⟩ := info_parts info_int
  have HUS := Lib.hid hus
  have HYS := Lib.hid hys
  have HL := Lib.hid (show us.length = np ∧ ys.length = np from ⟨hs.1, hs.2.1⟩)
  clear hus hys
  go_enter Tryz.func113, Tryz.ntmps113
  go_wp2
  have hBx := Blk.new w 29 #[.int .i64 nb, .slice P np pc]
  have hb1 : Below w.heap.size w (w.alloc (.cells #[.int .i64 nb, .slice P np pc] 29)) := bbox _
  have hs1 := hs.upto hb1
  obtain ⟨w1, hw1⟩ : ∃ v, w.alloc (.cells #[.int .i64 nb, .slice P np pc] 29) = v := ⟨_, rfl⟩
  rw [hw1] at hBx hb1 hs1
  rw [hw1]
  clear hw1
  go_loopw [5, 11] (fun v5 v11 wz => ∃ (k : Nat) (A : Option Addr) (c : Nat), k ≤ np ∧ v5 = .slice A k c ∧ v11 = .int .i64 k ∧ OwnI wz w1.heap.size 3 A k c ((homI nb us ys x).take k) ∧ Below w1.heap.size w1 wz) (fun _ v11 _ => np - (intOf v11).toNat)
  case atStart => exact ⟨0, none, 0, Nat.zero_le _, rfl, rfl, OwnI.nil_, Below.refl _ _⟩
  case round =>
  obtain ⟨k, A, c, hk, rfl, rfl, hA, hbz⟩ := hrel
  have hF := hBx.below hbz hBx.lt
  have hnbc : wr.cell? ⟨w.heap.size, 0, none⟩ = some (.int .i64 (nb : Int)) := (hF.cell 0).trans rfl
  by_cases hkn : k < np
  · have hki : (k : Int) < (np : Int) := by omega
    have hk0 : (0 : Int) ≤ (k : Int) := by omega
    obtain ⟨b, off, rfl, hlt, hc⟩ := hs1.2.2 (by omega)
    obtain ⟨c1, c2⟩ := hc k hkn
    have d1 := (hbz.cell (p := ⟨b, off + k * 2, none⟩) hlt).trans c1
    have d2 := (hbz.cell (p := ⟨b, off + k * 2 + 1, none⟩) hlt).trans c2
    have hu := HUS.out k hkn
    have hy := HYS.out k hkn
    have HTK := Lib.hid (homI_take (nb := nb) (x := x) (show k < us.length by rw [HL.out.1]; exact hkn) (show k < ys.length by rw [HL.out.2]; exact hkn))
    clear hc c1 c2
    generalize us.getD k 0 = u at *
    generalize ys.getD k 0 = y at *
    have HM := Lib.hid (mul_bd31 hu hx)
    have hm := HM.out
    have hm1 : IntKind.i64.wrap (u * x) = u * x := IntWalk.i64_in _ (by omega)
    have hm2 : IntKind.i64.wrap (u * x + y) = u * x + y := IntWalk.i64_in _ (by omega)
    have hm3 : (u * x + y).tmod 2147483647 = (u * x + y) % 2147483647 := Int.tmod_eq_emod_of_nonneg (by omega)
    have hm4 : ((u * x + y) % 2147483647).tmod (nb : Int) = (u * x + y) % 2147483647 % (nb : Int) := Int.tmod_eq_emod_of_nonneg (by omega)
    have hnz : ¬ (nb : Int) = 0 := by omega
    obtain ⟨h, hh⟩ : ∃ h, (u * x + y) % 2147483647 % (nb : Int) = h := ⟨_, rfl⟩
    have HH : Hid (hom1 nb u y x = h) := Lib.hid hh
    rw [hh] at hm4
    clear hh HM
    have hA1 := (hA.alloc (.cells #[.int .i64 u, .int .i64 y] 135)).alloc (.cells #[.int .i64 h] 3)
    have hb1z := hbz.alloc hbz.size (.cells #[.int .i64 u, .int .i64 y] 135)
    have hl1z := hb1z.size
    have hnbc2 : (wr.alloc (.cells #[.int .i64 u, .int .i64 y] 135)).cell? ⟨w.heap.size, 0, none⟩ = some (.int .i64 (nb : Int)) := ((hF.alloc _).cell 0).trans rfl
    go_wp2_with (at_builtin
                 refine wpList_append_ints rfl _ _ 22 rfl w1.heap.size 3 i0 _ Tryz.underlying22 hi0 hz0 hz1 hz2 rfl A k c _ rfl hA1 _ _ 1 1 [h] rfl (Ints.oneAt _ _ _ _ (by simp)) (k + 1) rfl _ rfl (by omega) (le_alloc hl1z _) ?_
                 intro A7 c7 w7 hown7 hgr7 hb7 hab7)
    go_roundw
    case rel => exact ⟨k + 1, A7, c7, by omega, rfl, by go_num, by rw [HTK.out, HH.out]; exact hown7, (hb1z.alloc hl1z _).trans hb7⟩
    case measure => simp [intOf]; omega
  · obtain rfl : k = np := by omega
    have HE := Lib.hid (List.take_of_length_le (i := k) (l := homI nb us ys x) (by rw [homI_len _ _ _ _ (by rw [HL.out.1, HL.out.2]), HL.out.1]; exact Nat.le_refl _))
    rw [HE.out] at hA
    go_wp2
    go_ret
    exact ⟨A, c, rfl, hA.base hb1.size, hb1.trans (hbz.mono hb1.size)⟩

set_option maxRecDepth 100000 in
set_option maxHeartbeats 4000000 in
theorem homes19_ok (nb np : Nat) (P : Option Addr) (pc : Nat) (us ys : List Int) (w : World) (hs : Sh w w.heap.size P np us ys) (ho : HsOk nb np us ys) (x : Int) (hx : 0 ≤ x ∧ x < 2147483647) :
    Calls Tryz.prog 107 #[.agg #[.int .i64 nb, .slice P np pc], .int .i64 x] w (HomPost2 nb us ys x np w) := by
  have HOK := Lib.hid ho
  obtain ⟨hnb, hnp, hus, hys⟩ := ho
  obtain ⟨i0, hi0, hz0, hz1, hz2⟩ := info_parts info_int
  have HUS := Lib.hid hus
  have HYS := Lib.hid hys
  have HL := Lib.hid (show us.length = np ∧ ys.length = np from ⟨hs.1, hs.2.1⟩)
  have hx1 : ¬ x < 0 := by omega
  have hx2 : ¬ 2147483647 ≤ x := by omega
  clear hus hys
  have hb0 : Below w.heap.size w (w.alloc (.cells #[.int .i64 nb, .slice P np pc] 29)) := bbox _
  have hs0 := hs.upto hb0
  have hB0 := Blk.new w 29 #[.int .i64 nb, .slice P np pc]
  go_enter Tryz.func107, Tryz.ntmps107
  go_wp2_with (go_at_call 72
               refine (check19_ok nb np P pc us ys _ hs0 HOK.out).mono ?_
               rintro e w1 ⟨rfl, hb1⟩
               have hs1 := hs0.upto hb1
               have hBx := hB0.below hb1 hB0.lt
               have hbw := bnext hb0 hb1
               have hc1 : w1.cell? ⟨w.heap.size, 1, none⟩ = some (.slice P np pc) := (hBx.cell 1).trans rfl
               clear hs0 hB0 hb0)
  go_loopw [7, 24] (fun v7 v24 wz => ∃ (k : Nat) (A : Option Addr) (c : Nat), k ≤ np ∧ v7 = .slice A k c ∧ v24 = .int .i64 k ∧ OwnI wz w1.heap.size 3 A k c ((homI nb us ys x).take k) ∧ Below w1.heap.size w1 wz) (fun _ v24 _ => np - (intOf v24).toNat)
  case atStart => exact ⟨0, none, 0, Nat.zero_le _, rfl, rfl, OwnI.nil_, Below.refl _ _⟩
  case round =>
  obtain ⟨k, A, c, hk, rfl, rfl, hA, hbz⟩ := hrel
  have hF := hBx.below hbz hBx.lt
  have hnbc : wr.cell? ⟨w.heap.size, 0, none⟩ = some (.int .i64 (nb : Int)) := (hF.cell 0).trans rfl
  by_cases hkn : k < np
  · have hki : (k : Int) < (np : Int) := by omega
    have hk0 : (0 : Int) ≤ (k : Int) := by omega
    obtain ⟨b, off, rfl, hlt, hc⟩ := hs1.2.2 (by omega)
    obtain ⟨c1, c2⟩ := hc k hkn
    have d1 := (hbz.cell (p := ⟨b, off + k * 2, none⟩) hlt).trans c1
    have d2 := (hbz.cell (p := ⟨b, off + k * 2 + 1, none⟩) hlt).trans c2
    have hu := HUS.out k hkn
    have hy := HYS.out k hkn
    have HTK := Lib.hid (homI_take (nb := nb) (x := x) (show k < us.length by rw [HL.out.1]; exact hkn) (show k < ys.length by rw [HL.out.2]; exact hkn))
    clear hc c1 c2
    generalize us.getD k 0 = u at *
    generalize ys.getD k 0 = y at *
    have HM := Lib.hid (mul_bd31 hu hx)
    have hm := HM.out
    have hm1 : IntKind.i64.wrap (u * x) = u * x := IntWalk.i64_in _ (by omega)
    have hm2 : IntKind.i64.wrap (u * x + y) = u * x + y := IntWalk.i64_in _ (by omega)
    have hm3 : (u * x + y).tmod 2147483647 = (u * x + y) % 2147483647 := Int.tmod_eq_emod_of_nonneg (by omega)
    have hm4 : ((u * x + y) % 2147483647).tmod (nb : Int) = (u * x + y) % 2147483647 % (nb : Int) := Int.tmod_eq_emod_of_nonneg (by omega)
    have hnz : ¬ (nb : Int) = 0 := by omega
    obtain ⟨h, hh⟩ : ∃ h, (u * x + y) % 2147483647 % (nb : Int) = h := ⟨_, rfl⟩
    have HH : Hid (hom1 nb u y x = h) := Lib.hid hh
    rw [hh] at hm4
    clear hh HM
    have hA1 := (hA.alloc (.cells #[.int .i64 u, .int .i64 y] 135)).alloc (.cells #[.int .i64 h] 3)
    have hb1z := hbz.alloc hbz.size (.cells #[.int .i64 u, .int .i64 y] 135)
    have hl1z := hb1z.size
    have hnbc2 : (wr.alloc (.cells #[.int .i64 u, .int .i64 y] 135)).cell? ⟨w.heap.size, 0, none⟩ = some (.int .i64 (nb : Int)) := ((hF.alloc _).cell 0).trans rfl
    go_wp2_with (at_builtin
                 refine wpList_append_ints rfl _ _ 22 rfl w1.heap.size 3 i0 _ Tryz.underlying22 hi0 hz0 hz1 hz2 rfl A k c _ rfl hA1 _ _ 1 1 [h] rfl (Ints.oneAt _ _ _ _ (by simp)) (k + 1) rfl _ rfl (by omega) (le_alloc hl1z _) ?_
                 intro A7 c7 w7 hown7 hgr7 hb7 hab7)
    go_roundw
    case rel => exact ⟨k + 1, A7, c7, by omega, rfl, by go_num, by rw [HTK.out, HH.out]; exact hown7, (hb1z.alloc hl1z _).trans hb7⟩
    case measure => simp [intOf]; omega
  · obtain rfl : k = np := by omega
    have HE := Lib.hid (List.take_of_length_le (i := k) (l := homI nb us ys x) (by rw [homI_len _ _ _ _ (by rw [HL.out.1, HL.out.2]), HL.out.1]; exact Nat.le_refl _))
    rw [HE.out] at hA
    go_wp2
    go_ret2
    exact ⟨A, c, rfl, hA.base hbw.size, hbw.trans (hbz.mono hbw.size)⟩

theorem key20_ok (s : ByteArray) (w : World) (h1 : 1 ≤ s.size) (h2 : s.size ≤ 32) :
    Calls Tryz.prog 106 #[.string s] w fun e w' => e = .returned (.bool true) ∧ w = w' := by
  have e1 : (1 : Int) ≤ (s.size : Int) := by omega
  have e2 : (s.size : Int) ≤ 32 := by omega
  go_enter Tryz.func106, Tryz.ntmps106
  go_wp2
  go_ret
  exact ⟨rfl, rfl⟩
theorem proper_ok (s : ByteArray) (w : World) (h1 : 1 ≤ s.size) (h2 : s.size ≤ 32) :
    Calls Tryz.prog 44 #[.string s] w fun e w' => e = .returned (.bool true) ∧ w = w' := by
  have e1 : (1 : Int) ≤ (s.size : Int) := by omega
  have e2 : (s.size : Int) ≤ 32 := by omega
  go_enter Tryz.func44, Tryz.ntmps44
  go_wp2
  go_ret
  exact ⟨rfl, rfl⟩
theorem item_ok (x : Int) (w : World) (hx : 0 ≤ x ∧ x < 2147483647) :
    Calls Tryz.prog 112 #[.int .i64 x] w fun e w' => e = .returned (.bool true) ∧ w = w' := by
  have e1 : 0 ≤ x := by omega
  have e2 : x < 2147483647 := by omega
  go_enter Tryz.func112, Tryz.ntmps112
  go_wp2
  go_ret
  exact ⟨rfl, rfl⟩

set_option maxRecDepth 100000 in
set_option maxHeartbeats 4000000 in
theorem cuHomes_ok (nb np : Nat) (P : Option Addr) (pc : Nat) (us ys : List Int) (w : World) (hs : Sh w w.heap.size P np us ys) (ho : HsOk nb np us ys) (x : Int) (hx : 0 ≤ x ∧ x < 2147483647) :
    Calls Tryz.prog 79 #[.agg #[.int .i64 nb, .slice P np pc], .int .i64 x] w (HomPost2 nb us ys x np w) := by
  have HOK := Lib.hid ho
  clear ho
  have hb0 : Below w.heap.size w (w.alloc (.cells #[.int .i64 nb, .slice P np pc] 29)) := bbox _
  have hs0 := hs.upto hb0
  have hB0 := Blk.new w 29 #[.int .i64 nb, .slice P np pc]
  go_enter Tryz.func79, Tryz.ntmps79
  go_wp2_with (first
    | (go_at_call 43
       refine (cucheck_ok nb np P pc us ys _ hs0 HOK.out).mono ?_
       rintro e w1 ⟨rfl, hb1⟩
       have hs1 := hs0.upto hb1
       have hBx := hB0.below hb1 hB0.lt
       have hbw := bnext hb0 hb1
       have hc0 : w1.cell? ⟨w.heap.size, 0, none⟩ = some (.int .i64 nb) := (hBx.cell 0).trans rfl
       have hc1 : w1.cell? ⟨w.heap.size, 1, none⟩ = some (.slice P np pc) := (hBx.cell 1).trans rfl
       clear hs0 hB0 hb0)
    | (go_at_call 112; refine (item_ok x _ hx).mono ?_; rintro e w2 ⟨rfl, rfl⟩)
    | (go_at_call 113; refine (cuhomes_ok nb np P pc us ys _ hs1 HOK.out x hx).mono ?_; rintro e w2 ⟨A, c, rfl, hA, hb2⟩))
  go_ret2
  exact ⟨A, c, rfl, hA.base hbw.size, bnext hbw hb2⟩
end Go.Proofs.YtmcgnpdfpfgfpaaGreatDoor

/-! Hsh2 -/
namespace Go.Proofs.YtmcgnpdfpfgfpaaGreatDoor
open Go.RowKit
set_option linter.unusedVariables false

set_option maxRecDepth 100000 in
set_option maxHeartbeats 4000000 in
theorem khomes_ok (nb np : Nat) (P : Option Addr) (pc : Nat) (us ys : List Int) (w : World) (hs : Sh w w.heap.size P np us ys) (ho : HsOk nb np us ys) (s : ByteArray) (h1 : 1 ≤ s.size) (h2 : s.size ≤ 32) :
    Calls Tryz.prog 45 #[.agg #[.int .i64 nb, .slice P np pc], .string s] w (HomPost nb us ys (dSum s.data.toList) np w) := by
  have HOK := Lib.hid ho
  clear ho
  have hml : s.size ≤ maxLen := by unfold maxLen; omega
  have HD := Lib.hid (dSum_bd s.data.toList)
  have hb0 : Below w.heap.size w (w.alloc (.cells #[.int .i64 nb, .slice P np pc] 29)) := bbox _
  have hs0 := hs.upto hb0
  have hB0 := Blk.new w 29 #[.int .i64 nb, .slice P np pc]
  obtain ⟨w1, hw1⟩ : ∃ v, w.alloc (.cells #[.int .i64 nb, .slice P np pc] 29) = v := ⟨_, rfl⟩
  have HW1 := Lib.hid hw1
  rw [hw1] at hb0 hs0 hB0
  clear hw1
  have hc0 : w1.cell? ⟨w.heap.size, 0, none⟩ = some (.int .i64 nb) := (hB0.cell 0).trans rfl
  have hc1 : w1.cell? ⟨w.heap.size, 1, none⟩ = some (.slice P np pc) := (hB0.cell 1).trans rfl
  have HSUM := Lib.hid (fun w => dsum_any s w hml)
  generalize dSum s.data.toList = x at *
  go_enter Tryz.func45, Tryz.ntmps45
  go_upto_region 1 with (fail)
  rw [HW1.out]
  go_region_held3 (fun w' => w'.cell? ⟨w.heap.size, 0, none⟩ = some (.int .i64 nb) ∧ w'.cell? ⟨w.heap.size, 1, none⟩ = some (.slice P np pc)) (first | exact ⟨hc0, hc1⟩ | exact hS2)
    (first
      | (go_at_call 80; refine (HSUM.out _).mono ?_; rintro e w2 ⟨rfl, rfl⟩)
      | (go_at_call 79; refine (cuHomes_ok nb np P pc us ys _ (show Sh w1.drew w1.drew.heap.size P np us ys from hs0) HOK.out _ HD.out).mono ?_; rintro e w2 ⟨A, c, rfl, hA, hb2⟩; have hS2 : w2.cell? ⟨w.heap.size, 0, none⟩ = some (.int .i64 nb) ∧ w2.cell? ⟨w.heap.size, 1, none⟩ = some (.slice P np pc) := ⟨(hb2.cell (p := ⟨w.heap.size, 0, none⟩) hB0.lt).trans hc0, (hb2.cell (p := ⟨w.heap.size, 1, none⟩) hB0.lt).trans hc1⟩))
  go_wp2
  go_ret
  exact ⟨A, c, rfl, hA.base hb0.size, bnext hb0 (show Below w1.heap.size w1 w2 from ⟨hb2.os, hb2.tape, hb2.output, hb2.size, hb2.block⟩)⟩

set_option maxRecDepth 100000 in
set_option maxHeartbeats 4000000 in
theorem kHomes_ok (nb np : Nat) (P : Option Addr) (pc : Nat) (us ys : List Int) (w : World) (hs : Sh w w.heap.size P np us ys) (ho : HsOk nb np us ys) (s : ByteArray) (h1 : 1 ≤ s.size) (h2 : s.size ≤ 32) :
    Calls Tryz.prog 12 #[.agg #[.int .i64 nb, .slice P np pc], .string s] w (HomPost2 nb us ys (dSum s.data.toList) np w) := by
  have HOK := Lib.hid ho
  clear ho
  have hb0 : Below w.heap.size w (w.alloc (.cells #[.int .i64 nb, .slice P np pc] 29)) := bbox _
  have hs0 := hs.upto hb0
  have hB0 := Blk.new w 29 #[.int .i64 nb, .slice P np pc]
  go_enter Tryz.func12, Tryz.ntmps12
  go_wp2_with (first
    | (go_at_call 43
       refine (cucheck_ok nb np P pc us ys _ hs0 HOK.out).mono ?_
       rintro e w1 ⟨rfl, hb1⟩
       have hs1 := hs0.upto hb1
       have hBx := hB0.below hb1 hB0.lt
       have hbw := bnext hb0 hb1
       have hc0 : w1.cell? ⟨w.heap.size, 0, none⟩ = some (.int .i64 nb) := (hBx.cell 0).trans rfl
       have hc1 : w1.cell? ⟨w.heap.size, 1, none⟩ = some (.slice P np pc) := (hBx.cell 1).trans rfl
       clear hs0 hB0 hb0)
    | (go_at_call 44; refine (proper_ok s _ h1 h2).mono ?_; rintro e w2 ⟨rfl, rfl⟩)
    | (go_at_call 45; refine (khomes_ok nb np P pc us ys _ hs1 HOK.out s h1 h2).mono ?_; rintro e w2 ⟨A, c, rfl, hA, hb2⟩))
  go_ret2
  exact ⟨A, c, rfl, hA.base hbw.size, bnext hbw hb2⟩

set_option maxRecDepth 100000 in
set_option maxHeartbeats 4000000 in
theorem homes20_ok (nb np : Nat) (P : Option Addr) (pc : Nat) (us ys : List Int) (w : World) (hs : Sh w w.heap.size P np us ys) (ho : HsOk nb np us ys) (s : ByteArray) (h1 : 1 ≤ s.size) (h2 : s.size ≤ 32) :
    Calls Tryz.prog 74 #[.agg #[.int .i64 nb, .slice P np pc], .string s] w (HomPost2 nb us ys (dSum s.data.toList) np w) := by
  have HOK := Lib.hid ho
  clear ho
  have hml : s.size ≤ maxLen := by unfold maxLen; omega
  have HD := Lib.hid (dSum_bd s.data.toList)
  have hb0 : Below w.heap.size w (w.alloc (.cells #[.int .i64 nb, .slice P np pc] 29)) := bbox _
  have hs0 := hs.upto hb0
  have hB0 := Blk.new w 29 #[.int .i64 nb, .slice P np pc]
  have HSUM := Lib.hid (fun w => rdsum_any s w hml)
  generalize dSum s.data.toList = x at *
  go_enter Tryz.func74, Tryz.ntmps74
  go_upto_region 5 with (first
    | (go_at_call 72
       refine (check19_ok nb np P pc us ys _ hs0 HOK.out).mono ?_
       rintro e w1 ⟨rfl, hb1⟩
       have hs1 := hs0.upto hb1
       have hBx := hB0.below hb1 hB0.lt
       have hbw := bnext hb0 hb1
       have hc0 : w1.cell? ⟨w.heap.size, 0, none⟩ = some (.int .i64 nb) := (hBx.cell 0).trans rfl
       have hc1 : w1.cell? ⟨w.heap.size, 1, none⟩ = some (.slice P np pc) := (hBx.cell 1).trans rfl
       clear hs0 hB0 hb0)
    | (go_at_call 106; refine (key20_ok s _ h1 h2).mono ?_; rintro e w2 ⟨rfl, rfl⟩))
  go_region_held3 (fun w' => w'.cell? ⟨w.heap.size, 0, none⟩ = some (.int .i64 nb) ∧ w'.cell? ⟨w.heap.size, 1, none⟩ = some (.slice P np pc)) (first | exact ⟨hc0, hc1⟩ | exact hS2)
    (first
      | (go_at_call 108; refine (HSUM.out _).mono ?_; rintro e w2 ⟨rfl, rfl⟩)
      | (go_at_call 107; refine (homes19_ok nb np P pc us ys _ (show Sh w1.drew w1.drew.heap.size P np us ys from hs1) HOK.out _ HD.out).mono ?_; rintro e w2 ⟨A, c, rfl, hA, hb2⟩; have hS2 : w2.cell? ⟨w.heap.size, 0, none⟩ = some (.int .i64 nb) ∧ w2.cell? ⟨w.heap.size, 1, none⟩ = some (.slice P np pc) := ⟨(hb2.cell (p := ⟨w.heap.size, 0, none⟩) hBx.lt).trans hc0, (hb2.cell (p := ⟨w.heap.size, 1, none⟩) hBx.lt).trans hc1⟩))
  go_wp2
  go_ret2
  exact ⟨A, c, rfl, hA.base hbw.size, bnext hbw (show Below w1.heap.size w1 w2 from ⟨hb2.os, hb2.tape, hb2.output, hb2.size, hb2.block⟩)⟩
end Go.Proofs.YtmcgnpdfpfgfpaaGreatDoor
