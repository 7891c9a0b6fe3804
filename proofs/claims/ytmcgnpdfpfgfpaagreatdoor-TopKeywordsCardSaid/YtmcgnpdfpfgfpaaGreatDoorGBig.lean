/-
  Words for memory and contracts of small functions of the second form. Conditions: those of each lemma.
-/
import Derived.Test.YtmcgnpdfpfgfpaaGreatDoorGBas
import Derived.Test.YtmcgnpdfpfgfpaaGreatDoorGSpl
import Derived.Test.YtmcgnpdfpfgfpaaGreatDoorGSha
import Derived.Deep.RegionLaw
import Derived.Deep.QuietTactic
import Derived.BigQuiet
import Derived.Test.YtmcgnpdfpfgfpaaGreatDoorPlain
import Derived.WalkKit
import Derived.WalkSpells
import Derived.Lib.Hide
/-! Big -/
namespace Go.Proofs.YtmcgnpdfpfgfpaaGreatDoor
open Go.RowKit
set_option linter.unusedVariables false

end Go.Proofs.YtmcgnpdfpfgfpaaGreatDoor

/-! SeedK -/
namespace Go.Proofs.YtmcgnpdfpfgfpaaGreatDoor
open Go.RowKit
set_option linter.unusedVariables false

set_option maxRecDepth 100000 in
set_option maxHeartbeats 1600000 in
theorem rseeded_ok (p s0 : Int) (N : Nat) (A : Option Addr) (c : Nat) (w : World) (hp : 2 ≤ p ∧ p ≤ 65521) (hs : 1 ≤ s0 ∧ s0 ≤ 2147483646) (h : Ints w w.heap.size A N (List.replicate N p)) (hN : N ≤ 16384) :
    Calls Tryz.prog 61 #[.int .i64 s0, .slice A N c] w fun e w' =>
      (∃ D dc ys, e = .returned (.tuple #[.agg #[.slice D N dc, .int .i64 0], .int .i64 0]) ∧ OwnI w' w.heap.size 3 D N dc ys ∧ allP p ys = true) ∧ Below w.heap.size w w' := by
  obtain ⟨i0, hi0, hz0, hz1, hz2⟩ := info_parts info_int
  have h1 : ¬ s0 < 1 := by omega
  have h2 : ¬ (2147483647 : Int) ≤ s0 := by omega
  have h3 : ¬ (16384 : Int) < (N : Int) := by omega
  have h4 : ¬ 16384 < N := by omega
  have hR0 := Blk.new w 75 #[.slice none 0 0, .int .i64 0]
  have hb0 : Below w.heap.size w (w.alloc (.cells #[.slice none 0 0, .int .i64 0] 75)) := bbox _
  go_enter Tryz.func61, Tryz.ntmps61
  go_wp2
  go_loopw [24] (fun i wz => ∃ k : Nat, k ≤ N ∧ i = .int .i64 k ∧ wz = w.alloc (.cells #[.slice none 0 0, .int .i64 0] 75)) (fun i _ => N - (intOf i).toNat)
  case atStart => exact ⟨0, Nat.zero_le _, rfl, rfl⟩
  case round =>
    obtain ⟨k, hk, rfl, rfl⟩ := hrel
    by_cases hlt : k < N
    · obtain ⟨b, off, rfl, hb, hcell⟩ := h.2 (by omega)
      have hcp := (hb0.cell (p := ⟨b, off + k, none⟩) hb).trans ((hcell k hlt).trans (by rw [List.getD_eq_getElem?_getD, List.getElem?_replicate, if_pos hlt]; rfl : _ = some (Value.int .i64 p)))
      clear hcell
      have hp1 : ¬ p < 1 := by omega
      have hp2 : ¬ (2147483647 : Int) < p := by omega
      have hk0 : (0 : Int) ≤ (k : Int) := by omega
      have hk1 : (k : Int) < (N : Int) := by omega
      go_wp2
      go_roundw
      case rel => exact ⟨k + 1, by omega, by go_num, trivial⟩
      case measure => simp [intOf]; omega
    · obtain rfl : k = N := by omega
      have hT0 := Blk.new1 w (.cells #[.slice none 0 0, .int .i64 0] 75) 75 #[.slice none 0 0, .int .i64 0]
      have hRa := hR0.alloc (.cells #[.slice none 0 0, .int .i64 0] 75)
      have hba := ballocs hb0 (.cells #[.slice none 0 0, .int .i64 0] 75)
      go_wp2
      go_loopw [0, 38] (fun v i wz => ∃ (j : Nat) (m : Int) (D : Option Addr) (dc : Nat) (ys : List Int), j ≤ k ∧ i = .int .i64 j ∧ v = .int .i64 m ∧ (0 ≤ m ∧ m ≤ 2147483646) ∧ Hid (allP p ys = true) ∧ OwnI wz (w.heap.size + 2) 3 D j dc ys ∧
        Blk wz (w.heap.size + 1) 75 #[.slice D j dc, .int .i64 0] ∧ Blk wz w.heap.size 75 #[.slice none 0 0, .int .i64 0] ∧ Below w.heap.size w wz) (fun _ i _ => k - (intOf i).toNat)
      case atStart => exact ⟨0, s0, none, 0, [], Nat.zero_le _, rfl, rfl, by omega, Lib.hid rfl, OwnI.nil_, hT0, hRa, hba⟩
      case round =>
        obtain ⟨j, m, D, dc, ys, hj, rfl, rfl, hm, HY, hown, hT, hR, hbz⟩ := hrel
        have hTl := hT.lt
        by_cases hlt2 : j < k
        · obtain ⟨b, off, rfl, hb, hcell⟩ := h.2 (by omega)
          have hcp := (hbz.cell (p := ⟨b, off + j, none⟩) hb).trans ((hcell j hlt2).trans (by rw [List.getD_eq_getElem?_getD, List.getElem?_replicate, if_pos hlt2]; rfl : _ = some (Value.int .i64 p)))
          clear hcell
          have hc0 : wr.cell? ⟨w.heap.size + 1, 0, none⟩ = some (.slice D j dc) := (hT.cell 0).trans rfl
          have hf0 := hT.frozen 0
          have hmw : IntKind.i64.wrap (m * 48271) = m * 48271 := IntWalk.i64_in _ (by omega)
          obtain ⟨m2, hm2⟩ : ∃ m2, (m * 48271).tmod 2147483647 = m2 := ⟨_, rfl⟩
          have hm2b : 0 ≤ m2 ∧ m2 ≤ 2147483646 := by
            rw [Int.tmod_eq_emod_of_nonneg (by omega)] at hm2
            omega
          obtain ⟨y, hy⟩ : ∃ y, m2.tmod p = y := ⟨_, rfl⟩
          have HYY : Hid (allP p (ys ++ [y]) = true) := Lib.hid (allP_iff.2 fun x hx => by
            rcases List.mem_append.1 hx with h | h
            · exact allP_iff.1 HY.out x h
            · rw [List.mem_singleton.1 h, ← hy, Int.tmod_eq_emod_of_nonneg hm2b.1]
              exact ⟨Int.emod_nonneg _ (by omega), Int.emod_lt_of_pos _ (by omega)⟩)
          have hp0 : ¬ p = 0 := by omega
          have hki : (j : Int) < (k : Int) := by omega
          have hk0 : (0 : Int) ≤ (j : Int) := by omega
          have hl2 : w.heap.size + 2 ≤ wr.drew.heap.size := hTl
          have hownd : OwnI wr.drew (w.heap.size + 2) 3 D j dc ys := hown
          have hTd : Blk wr.drew (w.heap.size + 1) 75 #[.slice D j dc, .int .i64 0] := hT
          go_wp2_with fail
          go_region_law
           (first
            | ((refine step_append_own (w := wr.drew.alloc (.cells #[.int .i64 y] 3)) rfl (.tmp 46) (.tmp 50) 22 rfl (w.heap.size + 2) 3 i0 _ Tryz.underlying22 hi0 hz0 hz1 hz2 rfl D j dc ys (hownd.alloc _) (by simp [Act.eval]) wr.heap.size 1 y (by simp [Act.eval]) (Ints.oneAt _ _ _ _ rfl) (by omega) (le_alloc hl2 _) ?_); intro A3 c3 w3 hown3 hbw3
               have hbx := ((Below.refl (w.heap.size + 2) wr.drew).alloc hl2 (.cells #[.int .i64 y] 3)).trans hbw3
               have hT3 := hTd.below hbx (by omega)
               have hc3 : w3.cell? ⟨w.heap.size + 1, 0, none⟩ = some (.slice D j dc) := (hT3.cell 0).trans rfl
               have hf3 := hT3.frozen 0))
          all_goals have hT4 := hT3.set_ 0 (.slice A3 (j + 1) c3)
          all_goals have hRd : Blk wr.drew w.heap.size 75 #[.slice none 0 0, .int .i64 0] := hR
          all_goals have hR4 := (hRd.below hbx (by omega)).far (p := ⟨w.heap.size + 1, 0, none⟩) (by show w.heap.size ≠ w.heap.size + 1; omega) (.slice A3 (j + 1) c3)
          all_goals have hown4 := hown3.step ((Step.refl (w.heap.size + 1) w3).set 0 (.slice A3 (j + 1) c3)) (by omega)
          all_goals have hbE := (hbz.drew.trans (hbx.mono (by omega))).setCell (p := ⟨w.heap.size + 1, 0, none⟩) (by show w.heap.size ≤ w.heap.size + 1; omega) (.slice A3 (j + 1) c3)
          all_goals clear hT3 hown3 hc3 hf3 hcp hc0 hf0
          all_goals go_wp2
          all_goals go_roundw
          all_goals first
            | exact ⟨j + 1, m2, A3, c3, ys ++ [y], by omega, by go_num, rfl, hm2b, HYY, hown4, hT4, hR4, hbE⟩
            | (simp [intOf]; omega)
        · obtain rfl : j = k := by omega
          have hr0 : wr.cell? ⟨w.heap.size, 0, none⟩ = some (.slice none 0 0) := (hR.cell 0).trans rfl
          have hr1 : wr.cell? ⟨w.heap.size, 1, none⟩ = some (.int .i64 0) := (hR.cell 1).trans rfl
          have hg0 := hR.frozen 0
          have hg1 := hR.frozen 1
          have ht0 : wr.cell? ⟨w.heap.size + 1, 0, none⟩ = some (.slice D j dc) := (hT.cell 0).trans rfl
          have ht1 : wr.cell? ⟨w.heap.size + 1, 1, none⟩ = some (.int .i64 0) := (hT.cell 1).trans rfl
          go_wp2
          have hR5 := blk_two (v0 := .slice D j dc) (v1 := .int .i64 0) hR
          have hy0 := (hR5.cell 0).trans rfl
          have hy1 := (hR5.cell 1).trans rfl
          have hown5 := (hown.step (((Step.refl w.heap.size wr).set 0 (.slice D j dc)).set 1 (.int .i64 0)) (by omega)).base (base' := w.heap.size) (by omega)
          exact bodyPost_ret (v := .tuple #[.agg #[.slice D j dc, .int .i64 0], .int .i64 0]) (by simp [results, Tryz.results61, go_sem, hy0, hy1]) rfl ⟨⟨D, dc, ys, rfl, hown5, HY.out⟩, below_two hbz (Nat.le_refl _) _ _⟩
/-- What Seed leaves. -/
def SeedPost (g : Nat) (A : Option Addr) (n c : Nat) (xs : List Int) (p : Int) (N : Nat) (w : World) (e : Ending) (w' : World) : Prop :=
  ∃ (D : Option Addr) (dc : Nat) (ys : List Int) (q' : Nat), e = .returned (.agg #[.slice D N dc, .int .i64 0]) ∧ OwnI w' w.heap.size 3 D N dc ys ∧ allP p ys = true ∧ Deck w' g A n c xs q' ∧ Step g w w'
set_option maxRecDepth 100000 in
theorem seed_any (g : Nat) (A : Option Addr) (n c : Nat) (xs : List Int) (q : Nat) (p : Int) (N : Nat) (L : Option Addr) (lc : Nat) (w : World) {base : Nat} (h : Deck w g A n c xs q) (hp : 2 ≤ p ∧ p ≤ 65521) (hL : OwnI w base 3 L N lc (List.replicate N p)) (hgb : g < base) (hN : N ≤ 16384) :
    Calls Tryz.prog 26 #[.pointer (some ⟨g, 0, none⟩), .slice L N lc] w (SeedPost g A n c xs p N w) := by
  have hg := h.1.lt
  have hba : Below w.heap.size w (w.alloc (.cells #[.slice none 0 0, .int .i64 0] 75)) := bbox _
  have hRa := Blk.new w 75 #[.slice none 0 0, .int .i64 0]
  have hLa := hL.alloc (.cells #[.slice none 0 0, .int .i64 0] 75)
  have hDa := h.alloc (.cells #[.slice none 0 0, .int .i64 0] 75)
  go_enter Tryz.func26, Tryz.ntmps26
  go_wp2_with (first
    | (go_at_call 22; refine (next_any g A n c xs q 2147483646 _ hDa (by omega)).mono ?_; rintro e w1 ⟨r, q', rfl, hr, hr0, hD, hS, hz⟩
       obtain ⟨s0, hs0⟩ : ∃ s0, 1 + r = s0 := ⟨_, rfl⟩
       have hrb := hr (by omega)
       have hsb : 1 ≤ s0 ∧ s0 ≤ 2147483646 := by omega
       have hsw : IntKind.i64.wrap (1 + r) = s0 := by rw [hs0]; exact IntWalk.i64_in _ (by omega)
       have hL1 := hLa.step hS hgb
       have hR1 := Step.block hS hRa (by omega)
       have hQ1 := (Step.of_below hba).trans hS
       clear hr hr0 hz)
    | (go_at_call 61; refine (rseeded_ok p s0 N L lc _ hp hsb hL1.ints hN).mono ?_; rintro e w2 ⟨⟨D, dc, ys, rfl, hown2, hY⟩, hb2⟩
       have hba2 : Below w2.heap.size w2 (w2.alloc (.cells #[.slice D N dc, .int .i64 0] 75)) := bbox _
       have hT3 := Blk.new w2 75 #[.slice D N dc, .int .i64 0]
       have hb3 := bnext hb2 hba2
       have hR3 := hR1.below hb3 hR1.lt
       have hown3 := hown2.belowAll hba2
       have hD3 := hD.belowAll hb3
       have hQ3 := hQ1.trans (Step.of_below hb3)
       have hc0 : (w2.alloc (.cells #[.slice D N dc, .int .i64 0] 75)).cell? ⟨w2.heap.size, 0, none⟩ = some (.slice D N dc) := (hT3.cell 0).trans rfl
       have hc1 : (w2.alloc (.cells #[.slice D N dc, .int .i64 0] 75)).cell? ⟨w2.heap.size, 1, none⟩ = some (.int .i64 0) := (hT3.cell 1).trans rfl
       have hr0 : (w2.alloc (.cells #[.slice D N dc, .int .i64 0] 75)).cell? ⟨w.heap.size, 0, none⟩ = some (.slice none 0 0) := (hR3.cell 0).trans rfl
       have hr1 : (w2.alloc (.cells #[.slice D N dc, .int .i64 0] 75)).cell? ⟨w.heap.size, 1, none⟩ = some (.int .i64 0) := (hR3.cell 1).trans rfl
       have hz0' := hR3.frozen 0
       have hz1' := hR3.frozen 1
       have hlw : w.heap.size < w1.heap.size := hR1.lt
       clear hb2))
  have hR5 := blk_two (v0 := .slice D N dc) (v1 := .int .i64 0) hR3
  have hy0 := (hR5.cell 0).trans rfl
  have hy1 := (hR5.cell 1).trans rfl
  have hown5 := (hown3.step (((Step.refl w.heap.size _).set 0 (.slice D N dc)).set 1 (.int .i64 0)) (by omega)).base (base' := w.heap.size) (by omega)
  exact bodyPost_ret (v := .agg #[.slice D N dc, .int .i64 0]) (by simp [results, Tryz.results26, go_sem, hy0, hy1]) rfl
    ⟨D, dc, ys, q', rfl, hown5, hY, (hD3.setCell (p := ⟨w.heap.size, 0, none⟩) hg _).setCell (p := ⟨w.heap.size, 1, none⟩) hg _, (hQ3.setNew (p := ⟨w.heap.size, 0, none⟩) (Nat.le_refl _) _).setNew (p := ⟨w.heap.size, 1, none⟩) (Nat.le_refl _) _⟩
end Go.Proofs.YtmcgnpdfpfgfpaaGreatDoor

/-! DigR -/
namespace Go.Proofs.YtmcgnpdfpfgfpaaGreatDoor
open Go.RowKit
set_option linter.unusedVariables false

end Go.Proofs.YtmcgnpdfpfgfpaaGreatDoor
