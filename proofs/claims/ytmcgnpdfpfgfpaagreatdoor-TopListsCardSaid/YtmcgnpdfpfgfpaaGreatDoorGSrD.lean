/-
  Words for memory and contracts of small functions of the second form. Conditions: those of each lemma.
-/
import Derived.Test.YtmcgnpdfpfgfpaaGreatDoorGSrA
import Derived.Shelf.SlSortCmp.Xorshift
import Derived.Test.YtmcgnpdfpfgfpaaGreatDoorLay1
import Derived.Test.YtmcgnpdfpfgfpaaGreatDoorGSrB
/-! Shelf -/
namespace Go.Proofs.YtmcgnpdfpfgfpaaGreatDoor
open Go.Shelf Go.Lib Go.RowKit Go.Sort
set_option linter.unusedVariables false

theorem xs_next (b o X : Nat) (hX : X < 18446744073709551616) (w : World) (hc : w.cell? ⟨b, o, none⟩ = some (.int .u64 X)) (hf : w.frozen? ⟨b, o, none⟩ = false) :
    Calls Tryz.prog 172 #[.pointer (some ⟨b, o, none⟩)] w fun e w' => ∃ Y : Nat, Y < 18446744073709551616 ∧ e = .returned (.int .u64 Y) ∧ w' = (w.setCell ⟨b, o, none⟩ (.int .u64 Y)).drewN 3 := by
  have h := AnyF.xorshift_Next Tryz.xsNext b o X hX w hc hf
  refine h.mono ?_
  rintro e w' ⟨rfl, rfl⟩
  exact ⟨_, xorNextN_lt X hX, rfl, rfl⟩
theorem np_two (n : Nat) (hn : 1 ≤ n ∧ n ≤ 100000) (w : World) :
    Calls Tryz.prog 171 #[.int .i64 n] w fun e w' => (∃ M : Nat, e = .returned (.int .u64 M) ∧ 1 ≤ M ∧ M ≤ 2 * n) ∧ w' = w := by
  refine (AnyF.nextPowerOfTwo Tryz.npTwo n (by omega) w).mono ?_
  rintro e w' ⟨rfl, rfl⟩
  refine ⟨⟨1 <<< bitsLen n, rfl, ?_, ?_⟩, rfl⟩
  · rw [Nat.one_shiftLeft]; exact Nat.one_le_two_pow
  · rw [Nat.one_shiftLeft]; exact two_pow_bitsLen_le (by omega)

theorem len_any (n : Nat) (hn : n ≤ 100000) (w : World) : Calls Tryz.prog 128 #[.int .u64 n] w fun e w' => (∃ l : Int, e = .returned (.int .i64 l)) ∧ w' = w := by
  have h := Any.bits_Len (SlLaysF0.n15.bits (P := Tryz.prog) Tryz.bLen) (n : Int) w (by omega) (by omega)
  exact h.mono fun _ _ ⟨he, hw⟩ => ⟨⟨_, he⟩, hw⟩
end Go.Proofs.YtmcgnpdfpfgfpaaGreatDoor

/-! SrtB -/
namespace Go.Proofs.YtmcgnpdfpfgfpaaGreatDoor
open Go.RowKit
set_option linter.unusedVariables false

set_option maxRecDepth 100000 in
set_option maxHeartbeats 4000000 in
theorem breakP_any (w0 : World) (base b n c g : Nat) (vs0 us : List Value) (lo hi : Nat) (w : World) (hS : SrtW w0 w base b n c vs0 us) (hh : hi ≤ n) (hn : n ≤ 100000) (hl : lo + 12 < hi) :
    Calls Tryz.prog 142 #[.slice (some ⟨b, 0, none⟩) n c, .int .i64 lo, .int .i64 hi, ordV g] w (SrtPost w0 base b n c vs0) := by
  obtain ⟨l, hle⟩ : ∃ l, hi - lo = l := ⟨_, rfl⟩
  have hli : (hi : Int) - (lo : Int) = (l : Int) := by omega
  have hlw : IntKind.i64.wrap (l : Int) = (l : Int) := IntWalk.i64_in _ (by omega)
  have hlu : IntKind.u64.wrap (l : Int) = (l : Int) := by simp [IntKind.wrap, IntKind.bits, IntKind.signed]; omega
  obtain ⟨q, hq⟩ : ∃ q, l / 4 = q := ⟨_, rfl⟩
  have hqi : (l : Int).tdiv 4 = (q : Int) := by rw [Int.tdiv_eq_ediv_of_nonneg (by omega)]; omega
  have hqw : IntKind.i64.wrap (q : Int) = (q : Int) := IntWalk.i64_in _ (by omega)
  obtain ⟨q2, hq2⟩ : ∃ q2, q * 2 = q2 := ⟨_, rfl⟩
  have hq2i : (q : Int) * 2 = (q2 : Int) := by omega
  have hq2w : IntKind.i64.wrap (q2 : Int) = (q2 : Int) := IntWalk.i64_in _ (by omega)
  obtain ⟨m, hm⟩ : ∃ m, lo + q2 = m := ⟨_, rfl⟩
  have hmi : (lo : Int) + (q2 : Int) = (m : Int) := by omega
  have hmw : IntKind.i64.wrap (m : Int) = (m : Int) := IntWalk.i64_in _ (by omega)
  obtain ⟨m0, hm0⟩ : ∃ m0, m - 1 = m0 := ⟨_, rfl⟩
  have hm0i : (m : Int) - 1 = (m0 : Int) := by omega
  have hm0w : IntKind.i64.wrap (m0 : Int) = (m0 : Int) := IntWalk.i64_in _ (by omega)
  obtain ⟨m1, hm1⟩ : ∃ m1, m + 1 = m1 := ⟨_, rfl⟩
  have hm1i : (m : Int) + 1 = (m1 : Int) := by omega
  have hm1w : IntKind.i64.wrap (m1 : Int) = (m1 : Int) := IntWalk.i64_in _ (by omega)
  have hl8 : (8 : Int) ≤ (l : Int) := by omega
  have hl8N : 8 ≤ l := by omega
  have hSa := hS.below (bbox (.cells #[.int .u64 l] 252))
  have hs1 : w0.heap.size ≤ w.heap.size := World.grownBy.size hS.step
  have hs2 : w.heap.size ≠ b := by have := (World.ownsRow.lt hS.own b rfl).2; omega
  have hBa := Blk.new w 252 #[.int .u64 l]
  go_enter Tryz.func142, Tryz.ntmps142
  go_upto_region 5 with (go_at_call 171; refine (np_two l (by omega) _).mono ?_; rintro e w1 ⟨⟨M, rfl, hM1, hM2⟩, rfl⟩)
  obtain ⟨M1, hM⟩ : ∃ M1, M - 1 = M1 := ⟨_, rfl⟩
  have hMi : (M : Int) - 1 = (M1 : Int) := by omega
  have hMw : IntKind.u64.wrap (M1 : Int) = (M1 : Int) := by simp [IntKind.wrap, IntKind.bits, IntKind.signed]; omega
  go_loopw [11] (fun v11 wz => ∃ (i Y : Nat) (us : List Value), v11 = .int .i64 i ∧ m0 ≤ i ∧ i ≤ m1 + 1 ∧ Y < 18446744073709551616 ∧ Blk wz w.heap.size 252 #[.int .u64 Y] ∧ SrtW w0 wz base b n c vs0 us) (fun v11 _ => m1 + 1 - (intOf v11).toNat)
  case atStart => exact ⟨m0, l, us, rfl, Nat.le_refl _, by omega, by omega, hBa, hSa⟩
  case round =>
    clear hS hSa hBa
    obtain ⟨i, Y, us, rfl, hi0, hi1, hY, hB, hS⟩ := hrel
    by_cases hlt : i ≤ m1
    · have hlti : (i : Int) ≤ (m1 : Int) := by omega
      have hc0 : wr.cell? ⟨w.heap.size, 0, none⟩ = some (.int .u64 Y) := (hB.cell 0).trans rfl
      go_upto_region 8 with (
        go_at_call 172
        refine (xs_next w.heap.size 0 Y hY _ hc0 (hB.frozen 0)).mono ?_
        rintro e w2 ⟨Z, hZ, rfl, rfl⟩
        obtain ⟨O, hO⟩ : ∃ O, Z &&& M1 = O := ⟨_, rfl⟩
        have hOl : O ≤ M1 := by rw [← hO]; exact Nat.and_le_right
        have eAnd : bits .and .u64 (Z : Int) (M1 : Int) = (O : Int) := by rw [bits_and_u64_nat _ _ hZ (by omega), hO]
        have hOw : IntKind.i64.wrap (O : Int) = (O : Int) := IntWalk.i64_in _ (by omega)
        clear hO)
      have hB1 : Blk ((wr.setCell ⟨w.heap.size, 0, none⟩ (.int .u64 Z)).drewN 3) w.heap.size 252 #[.int .u64 Z] := (hB.set_ 0 (.int .u64 Z)).drewN 3
      have hS1 := (hS.setNew (o := 0) hs1 hs2 (.int .u64 Z)).drewN 3
      clear hB hS hc0
      generalize (wr.setCell ⟨w.heap.size, 0, none⟩ (.int .u64 Z)).drewN 3 = w3 at *
      by_cases hO2 : l ≤ O
      · have hO2i : (l : Int) ≤ (O : Int) := by omega
        obtain ⟨O2, hO3⟩ : ∃ t, O - l = t := ⟨_, rfl⟩
        have hO3i : (O : Int) - (l : Int) = (O2 : Int) := by omega
        have hO3w : IntKind.i64.wrap (O2 : Int) = (O2 : Int) := IntWalk.i64_in _ (by omega)
        obtain ⟨y, hy'⟩ : ∃ y, lo + O2 = y := ⟨_, rfl⟩
        have hyi : (lo : Int) + (O2 : Int) = (y : Int) := by omega
        have hyw : IntKind.i64.wrap (y : Int) = (y : Int) := IntWalk.i64_in _ (by omega)
        have hS := hS1
        obtain ⟨xA, xk, xd, hx, hxm, hcx, hfx⟩ := hS.at_ (show i < n by omega)
        have hx0 : (0 : Int) ≤ (i : Int) := by omega
        have hxn : (i : Int) < (n : Int) := by omega
        obtain ⟨yA, yk, yd, hy, hym, hcy, hfy⟩ := hS.at_ (show y < n by omega)
        have hy0 : (0 : Int) ≤ (y : Int) := by omega
        have hyn : (y : Int) < (n : Int) := by omega
        obtain ⟨us3, hS3⟩ := hS.swap hx hy
        by_cases heq : i = y
        · subst heq
          rw [hx] at hy
          cases hy
          go_upto_region 10 with fail
          go_region
          have hB4 := Step.block (((Step.refl b w3).set i (.slice xA xk xd)).set i (.slice xA xk xd)) hB1 hs2
          have hS4 := hS3.drew
          clear hcx hfx hcy hfy hx hS hS1 hS3 hB1
          go_wp2
          go_roundw
          case rel => exact ⟨i + 1, Z, us3, by go_num, by omega, by omega, hZ, hB4.drew, hS4⟩
          case measure => (simp [intOf] <;> omega)
        · go_upto_region 10 with fail
          go_region
          have hB4 := Step.block (((Step.refl b w3).set i (.slice yA yk yd)).set y (.slice xA xk xd)) hB1 hs2
          have hS4 := hS3.drew
          clear hcx hfx hcy hfy hx hS hS1 hS3 hB1
          go_wp2
          go_roundw
          case rel => exact ⟨i + 1, Z, us3, by go_num, by omega, by omega, hZ, hB4.drew, hS4⟩
          case measure => (simp [intOf] <;> omega)
      · have hO2i : ¬ (l : Int) ≤ (O : Int) := by omega
        obtain ⟨y, hy'⟩ : ∃ y, lo + O = y := ⟨_, rfl⟩
        have hyi : (lo : Int) + (O : Int) = (y : Int) := by omega
        have hyw : IntKind.i64.wrap (y : Int) = (y : Int) := IntWalk.i64_in _ (by omega)
        have hS := hS1
        obtain ⟨xA, xk, xd, hx, hxm, hcx, hfx⟩ := hS.at_ (show i < n by omega)
        have hx0 : (0 : Int) ≤ (i : Int) := by omega
        have hxn : (i : Int) < (n : Int) := by omega
        obtain ⟨yA, yk, yd, hy, hym, hcy, hfy⟩ := hS.at_ (show y < n by omega)
        have hy0 : (0 : Int) ≤ (y : Int) := by omega
        have hyn : (y : Int) < (n : Int) := by omega
        obtain ⟨us3, hS3⟩ := hS.swap hx hy
        by_cases heq : i = y
        · subst heq
          rw [hx] at hy
          cases hy
          go_upto_region 10 with fail
          go_region
          have hB4 := Step.block (((Step.refl b w3).set i (.slice xA xk xd)).set i (.slice xA xk xd)) hB1 hs2
          have hS4 := hS3.drew
          clear hcx hfx hcy hfy hx hS hS1 hS3 hB1
          go_wp2
          go_roundw
          case rel => exact ⟨i + 1, Z, us3, by go_num, by omega, by omega, hZ, hB4.drew, hS4⟩
          case measure => (simp [intOf] <;> omega)
        · go_upto_region 10 with fail
          go_region
          have hB4 := Step.block (((Step.refl b w3).set i (.slice yA yk yd)).set y (.slice xA xk xd)) hB1 hs2
          have hS4 := hS3.drew
          clear hcx hfx hcy hfy hx hS hS1 hS3 hB1
          go_wp2
          go_roundw
          case rel => exact ⟨i + 1, Z, us3, by go_num, by omega, by omega, hZ, hB4.drew, hS4⟩
          case measure => (simp [intOf] <;> omega)
    · have hlti : ¬ (i : Int) ≤ (m1 : Int) := by omega
      go_wp2
      go_end0
      exact ⟨rfl, us, hS⟩
end Go.Proofs.YtmcgnpdfpfgfpaaGreatDoor
