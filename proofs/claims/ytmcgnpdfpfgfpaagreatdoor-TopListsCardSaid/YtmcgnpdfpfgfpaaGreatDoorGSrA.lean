/-
  Words for memory and contracts of small functions of the second form. Conditions: those of each lemma.
-/
import Derived.Test.YtmcgnpdfpfgfpaaGreatDoorGMem
import Derived.Deep.RegionLaw
import Derived.Deep.QuietTactic
import Derived.BigQuiet
/-! Srt1 -/
namespace Go.Proofs.YtmcgnpdfpfgfpaaGreatDoor
open Go.RowKit
set_option linter.unusedVariables false

/-- The row holds the same values in another order; nothing else has turned. -/
structure SrtW (w0 w : World) (base b n c : Nat) (vs0 vs : List Value) : Prop where
  own : w.ownsRow base 22 1 (.slice (some ⟨b, 0, none⟩) n c) n vs
  perm : vs.Perm vs0
  sl : ∀ v ∈ vs0, ∃ A k d, v = .slice A k d
  step : Step b w0 w

section
variable {w0 w w' : World} {base b n c : Nat} {vs0 vs : List Value}
theorem SrtW.len (h : SrtW w0 w base b n c vs0 vs) : vs.length = n := by have := h.own.1; omega
theorem SrtW.drewN (h : SrtW w0 w base b n c vs0 vs) (q : Nat) : SrtW w0 (w.drewN q) base b n c vs0 vs := ⟨h.own, h.perm, h.sl, h.step.drewN q⟩
theorem SrtW.drew (h : SrtW w0 w base b n c vs0 vs) : SrtW w0 w.drew base b n c vs0 vs := h.drewN 1
theorem SrtW.at_ (h : SrtW w0 w base b n c vs0 vs) {j : Nat} (hj : j < n) : ∃ A k d, vs[j]? = some (.slice A k d) ∧ Value.slice A k d ∈ vs0 ∧ w.cell? ⟨b, j, none⟩ = some (.slice A k d) ∧ w.frozen? ⟨b, j, none⟩ = false := by
  have hl := h.len
  have hm : vs[j]'(by omega) ∈ vs0 := h.perm.mem_iff.1 (List.getElem_mem _)
  obtain ⟨A, k, d, e⟩ := h.sl _ hm
  refine ⟨A, k, d, by rw [← e]; exact List.getElem?_eq_getElem _, by rw [← e]; exact hm, ?_, World.ownsRow.frozenAt h.own j⟩
  rw [World.ownsRow.cellAt h.own j (by omega), List.getElem?_eq_getElem (by omega), e]
theorem SrtW.swap (h : SrtW w0 w base b n c vs0 vs) {i j : Nat} {x y : Value} (hi : vs[i]? = some x) (hj : vs[j]? = some y) :
    ∃ vs', SrtW w0 ((w.setCell ⟨b, i, none⟩ y).setCell ⟨b, j, none⟩ x) base b n c vs0 vs' := by
  have hi' := List.getElem?_eq_some_iff.1 hi
  have hj' := List.getElem?_eq_some_iff.1 hj
  obtain ⟨hil, rfl⟩ := hi'
  obtain ⟨hjl, rfl⟩ := hj'
  exact ⟨_, (World.ownsRow.stored (World.ownsRow.stored h.own i _).1 j _).1, (List.set_set_perm hil hjl).trans h.perm, h.sl, h.step.trans (((Step.refl b w).set i _).set j _)⟩
theorem SrtW.start (h : w.ownsRow base 22 1 (.slice (some ⟨b, 0, none⟩) n c) n vs) (hs : ∀ v ∈ vs, ∃ A k d, v = .slice A k d) : SrtW w w base b n c vs vs := ⟨h, List.Perm.refl _, hs, Step.refl b w⟩
theorem SrtW.below (h : SrtW w0 w base b n c vs0 vs) (hb : Below w.heap.size w w') : SrtW w0 w' base b n c vs0 vs := by
  refine ⟨⟨h.own.1, ?_⟩, h.perm, h.sl, h.step.thenBelow (hb.mono ?_)⟩
  · rcases h.own.2 with h0 | ⟨g2, cap, cur, hv, hg, hh, r⟩
    · exact .inl h0
    · refine .inr ⟨g2, cap, cur, hv, hg, ?_, r⟩
      rw [hb.block g2 (Blk.lt (t := 22) hh)]; exact hh
  · exact World.grownBy.size h.step
end
end Go.Proofs.YtmcgnpdfpfgfpaaGreatDoor

/-! Srt2 -/
namespace Go.Proofs.YtmcgnpdfpfgfpaaGreatDoor
open Go.RowKit
set_option linter.unusedVariables false

/-- The method's value. -/
abbrev ordV (g : Nat) : Value := .func (.func 98) #[.pointer (some ⟨g, 0, none⟩)] #[]
/-- What is asked of the comparing method: on the row's values it hands back a number that they alone tell, and turns nothing. -/
def CmpV (w0 : World) (b g : Nat) (vs0 : List Value) (cv : Value → Value → Int) : Prop := ∀ W, Step b w0 W → ∀ x ∈ vs0, ∀ y ∈ vs0, Calls Tryz.prog 98 #[.pointer (some ⟨g, 0, none⟩), x, y] W fun e w' => e = .returned (.int .i64 (cv x y)) ∧ W = w'
theorem CmpV.quiet {w0 w : World} {base b n c g : Nat} {vs0 vs : List Value} {cv : Value → Value → Int} (h : CmpV w0 b g vs0 cv) (hS : SrtW w0 w base b n c vs0 vs) {x y : Value} (hx : x ∈ vs0) (hy : y ∈ vs0) (q : Nat) :
    Calls Tryz.prog 98 #[.pointer (some ⟨g, 0, none⟩), x, y] (w.drewN q) fun e w' => e = .returned (.int .i64 (cv x y)) ∧ ∃ m, w' = w.drewN m :=
  (h _ (hS.step.drewN q) x hx y hy).mono fun _ _ ⟨he, hw⟩ => ⟨he, q, hw.symm⟩
/-- What a part of the sort leaves. -/
def SrtPost (w0 : World) (base b n c : Nat) (vs0 : List Value) (e : Ending) (w' : World) : Prop := e = .returned (.tuple #[]) ∧ ∃ vs, SrtW w0 w' base b n c vs0 vs

set_option maxRecDepth 100000 in
set_option maxHeartbeats 2000000 in
theorem revRange_any (w0 : World) (base b n c g : Nat) (vs0 vs : List Value) (lo hi : Nat) (w : World) (h : SrtW w0 w base b n c vs0 vs) (hh : hi ≤ n) (hn : n ≤ 100000) (hlo : lo ≤ hi) :
    Calls Tryz.prog 144 #[.slice (some ⟨b, 0, none⟩) n c, .int .i64 lo, .int .i64 hi, ordV g] w (SrtPost w0 base b n c vs0) := by
  go_enter Tryz.func144, Tryz.ntmps144
  go_wp2
  go_loopw [8, 9] (fun v8 v9 wz => ∃ (i : Nat) (j : Int) (us : List Value), v8 = .int .i64 i ∧ v9 = .int .i64 j ∧ i ≤ n ∧ -1 ≤ j ∧ j < n ∧ SrtW w0 wz base b n c vs0 us) (fun v8 v9 _ => (intOf v9 - intOf v8 + 2).toNat)
  case atStart => exact ⟨lo, (hi : Int) - 1, vs, rfl, by go_num, by omega, by omega, by omega, h⟩
  case round =>
    obtain ⟨i, j, us, rfl, rfl, hi1, hj1, hj2, hS⟩ := hrel
    by_cases hlt : (i : Int) < j
    · obtain ⟨k, rfl⟩ : ∃ k : Nat, j = k := ⟨j.toNat, by omega⟩
      have hltN : i < k := by omega
      obtain ⟨xA, xk, xd, hx, _, hcx, hfx⟩ := hS.at_ (show i < n by omega)
      obtain ⟨yA, yk, yd, hy, _, hcy, hfy⟩ := hS.at_ (show k < n by omega)
      obtain ⟨us2, hS2⟩ := hS.swap hx hy
      have hi0 : (0 : Int) ≤ (i : Int) := by omega
      have hk0 : (0 : Int) ≤ (k : Int) := by omega
      have hin : (i : Int) < (n : Int) := by omega
      have hkn : (k : Int) < (n : Int) := by omega
      have hne : ¬ i = k := by omega
      go_upto_region 3 with fail
      go_region
      have hS3 := hS2.drew
      clear hcx hfx hcy hfy hx hy hS hS2
      go_wp2
      go_roundw
      case rel => exact ⟨i + 1, (k : Int) - 1, us2, by go_num, by go_num, by omega, by omega, by omega, hS3⟩
      case measure => simp [intOf]; omega
    · go_wp2
      go_end0
      exact ⟨rfl, us, hS⟩

set_option maxRecDepth 100000 in
set_option maxHeartbeats 2000000 in
theorem insSort_any (w0 : World) (base b n c g : Nat) (vs0 vs : List Value) (cv : Value → Value → Int) (HC : Hid (CmpV w0 b g vs0 cv)) (lo hi : Nat) (w : World) (h : SrtW w0 w base b n c vs0 vs) (hh : hi ≤ n) (hn : n ≤ 100000) (hlo : lo ≤ hi) :
    Calls Tryz.prog 140 #[.slice (some ⟨b, 0, none⟩) n c, .int .i64 lo, .int .i64 hi, ordV g] w (SrtPost w0 base b n c vs0) := by
  go_enter Tryz.func140, Tryz.ntmps140
  go_wp2
  go_loopw [8] (fun v8 wz => ∃ (i : Nat) (us : List Value), v8 = .int .i64 i ∧ lo < i ∧ i ≤ n + 1 ∧ SrtW w0 wz base b n c vs0 us) (fun v8 _ => n + 1 - (intOf v8).toNat)
  case atStart => exact ⟨lo + 1, vs, by go_num, by omega, by omega, h⟩
  case round =>
    obtain ⟨i, us, rfl, hil, hi1, hS⟩ := hrel
    by_cases hlt : i < hi
    · have hlti : (i : Int) < (hi : Int) := by omega
      go_wp2
      go_loopw [9] (fun v9 wz => ∃ (j : Nat) (us : List Value), v9 = .int .i64 j ∧ lo ≤ j ∧ j ≤ i ∧ SrtW w0 wz base b n c vs0 us) (fun v9 _ => (intOf v9).toNat)
      case atStart => exact ⟨i, us, rfl, by omega, Nat.le_refl _, hS⟩
      case round =>
        obtain ⟨j, us, rfl, hjl, hji, hS⟩ := hrel
        by_cases hj : lo < j
        · have hj1 : (lo : Int) < (j : Int) := by omega
          obtain ⟨k, hk⟩ : ∃ k, j - 1 = k := ⟨_, rfl⟩
          have hki : (j : Int) - 1 = (k : Int) := by omega
          obtain ⟨xA, xk, xd, hx, hxm, hcx, hfx⟩ := hS.at_ (show j < n by omega)
          obtain ⟨yA, yk, yd, hy, hym, hcy, hfy⟩ := hS.at_ (show k < n by omega)
          obtain ⟨us2, hS2⟩ := hS.swap hx hy
          have HQ := Lib.hid (HC.out.quiet hS hxm hym)
          obtain ⟨r, hr⟩ : ∃ r, cv (.slice xA xk xd) (.slice yA yk yd) = r := ⟨_, rfl⟩
          rw [hr] at HQ
          have hj0 : (0 : Int) ≤ (j : Int) := by omega
          have hk0 : (0 : Int) ≤ (k : Int) := by omega
          have hjn : (j : Int) < (n : Int) := by omega
          have hkn : (k : Int) < (n : Int) := by omega
          have hne : ¬ j = k := by omega
          clear hr
          by_cases hr0 : r < 0
          · go_upto_region 4 with fail
            go_quiet ((go_at_call 98; exact HQ.out _))
            go_upto_region 6 with fail
            have hS3 := ((hS2.drewN nq).drew)
            clear hcx hfx hcy hfy hS2
            have hq := hS.drewN nq
            obtain ⟨_, _, _, ex, _, hcx, hfx⟩ := hq.at_ (show j < n by omega)
            obtain ⟨_, _, _, ey, _, hcy, hfy⟩ := hq.at_ (show k < n by omega)
            rw [hx] at ex
            rw [hy] at ey
            cases ex
            cases ey
            obtain ⟨us3, hS3⟩ := hq.swap hx hy
            generalize wr.drewN nq = w5 at *
            go_region
            have hS4 := hS3.drew
            clear hcx hfx hcy hfy hx hy hS hS3 hq HQ
            go_wp2
            go_roundw
            case rel => exact ⟨k, us3, by go_num, by omega, by omega, hS4⟩
            case measure => simp [intOf]; omega
          · go_upto_region 4 with fail
            go_quiet ((go_at_call 98; exact HQ.out _))
            have hS3 := hS.drewN nq
            go_wp2
            go_roundw
            case rel => exact ⟨i + 1, us, by go_num, by omega, by omega, hS3⟩
            case measure => simp [intOf]; omega
        · have hj1 : ¬ (lo : Int) < (j : Int) := by omega
          go_upto_region 4 with fail
          go_quiet (fail)
          have hS3 := hS.drewN nq
          go_wp2
          go_roundw
          case rel => exact ⟨i + 1, us, by go_num, by omega, by omega, hS3⟩
          case measure => simp [intOf]; omega
    · have hlti : ¬ (i : Int) < (hi : Int) := by omega
      go_wp2
      go_end0
      exact ⟨rfl, us, hS⟩
end Go.Proofs.YtmcgnpdfpfgfpaaGreatDoor
