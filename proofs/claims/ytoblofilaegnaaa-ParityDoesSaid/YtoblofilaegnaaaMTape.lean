/-
  What the maker's Tape hands back. Conditions: the limits read as their numbers and are at least 1.
-/
import Derived.Test.YtoblofilaegnaaaDeck
import Derived.Test.YtoblofilaegnaaaOrder
import Derived.Test.YtoblofilaegnaaaPlain
import Derived.Test.YtoblofilaegnaaaGTap
import Derived.Deep.RegionLaw
namespace Go.Proofs.Ytoblofilaegnaaa
open Go.RowKit
set_option linter.unusedVariables false

def MTapePost (g : Nat) (A : Option Addr) (n c : Nat) (xs l : List Int) (m : Nat) (w : World) (e : Ending) (w' : World) : Prop :=
  ∃ (T : Option Addr) (k tc : Nat) (ds : List Int) (q' : Nat), e = .returned (.agg #[.slice T k tc, .int .i64 0]) ∧ OwnI w' w.heap.size 3 T k tc ds ∧ m ≤ k ∧ k ≤ m + 2 ∧ (∀ i, i < m → 0 ≤ ds.getD i 0 ∧ ds.getD i 0 < l.getD i 0) ∧ Deck w' g A n c xs q' ∧ Step g w w'

set_option maxRecDepth 100000 in
set_option maxHeartbeats 1600000 in
theorem mtape_any (g : Nat) (A : Option Addr) (n c : Nat) (xs : List Int) (q : Nat) (L : Option Addr) (m lc : Nat) (l : List Int) (w : World) (h : Deck w g A n c xs q) (hL : Ints w w.heap.size L m l) (hl : ∀ i, i < m → 1 ≤ l.getD i 0 ∧ l.getD i 0 ≤ 4611686018427387904) (hm : m ≤ 100) (hLg : ∀ b off s, L = some ⟨b, off, s⟩ → 0 < m → b ≠ g) :
    Calls Try.prog 53 #[.pointer (some ⟨g, 0, none⟩), .slice L m lc] w (MTapePost g A n c xs l m w) := by
  obtain ⟨i0, hi0, hz0, hz1, hz2⟩ := info_parts info_int
  have hg := h.1.lt
  have HL := Lib.hid hL.len
  have HLI := Lib.hid hl
  have hR0 := (Blk.new w 62 #[.slice none 0 0, .int .i64 0]).alloc (.cells #[.slice none 0 0, .int .i64 0] 62)
  have hT0 := Blk.new (w.alloc (.cells #[.slice none 0 0, .int .i64 0] 62)) 62 #[.slice none 0 0, .int .i64 0]
  rw [World.size_alloc] at hT0
  have hS0 := ((Step.refl g w).alloc (.cells #[.slice none 0 0, .int .i64 0] 62)).alloc (.cells #[.slice none 0 0, .int .i64 0] 62)
  have hD0 := (h.alloc (.cells #[.slice none 0 0, .int .i64 0] 62)).alloc (.cells #[.slice none 0 0, .int .i64 0] 62)
  go_enter Try.func53, Try.ntmps53
  go_wp2
  go_loopw [11] (fun i wz => ∃ (k : Nat) (D : Option Addr) (dc : Nat) (ds : List Int) (q : Nat), k ≤ m ∧ i = .int .i64 k ∧ OwnI wz (w.heap.size + 2) 3 D k dc ds ∧ Hid (∀ i, i < k → 0 ≤ ds.getD i 0 ∧ ds.getD i 0 < l.getD i 0) ∧
    Blk wz (w.heap.size + 1) 62 #[.slice D k dc, .int .i64 0] ∧ Blk wz w.heap.size 62 #[.slice none 0 0, .int .i64 0] ∧ Deck wz g A n c xs q ∧ Step g w wz) (fun i _ => m - (intOf i).toNat)
  case atStart => exact ⟨0, none, 0, [], q, Nat.zero_le _, rfl, OwnI.nil_, Lib.hid (fun i hi => absurd hi (by omega)), hT0, hR0, hD0, hS0⟩
  case round =>
    obtain ⟨k, D, dc, ds, q, hk, rfl, hown, HB, hT, hR, hD, hS⟩ := hrel
    have hTl := hT.lt
    by_cases hlt : k < m
    · obtain ⟨b1, o1, rfl, hb1, hc1⟩ := hL.2 (by omega)
      have hbg := hLg b1 o1 none rfl (by omega)
      have hck := hc1 k hlt
      have hcl := (World.cell?_of_block (a := ⟨b1, o1 + k, none⟩) (World.grownBy.block hS b1 hb1 (fun e => hbg (by injection e)))).trans hck
      clear hc1
      have hlk := HLI.out k hlt
      obtain ⟨lk, HLK⟩ : ∃ lk, Hid (l.getD k 0 = lk) := ⟨_, Lib.hid rfl⟩
      rw [HLK.out] at hcl hlk hck
      have hc0 : wr.cell? ⟨w.heap.size + 1, 0, none⟩ = some (.slice D k dc) := (hT.cell 0).trans rfl
      have hf0 := hT.frozen 0
      go_wp2_with fail
      go_region_law
       (first
        | (go_simp; go_at_call 20; refine (next_any g A n c xs q lk _ hD.drew (by omega)).mono ?_; rintro e w2 ⟨y, q2, rfl, hy, hy0, hD2, hS2, hz2'⟩
           have hyb := hy (by omega)
           clear hy hy0 hz2'
           have hT2 := Step.block hS2 (Blk.drew hT) (by omega)
           have hc2 : w2.cell? ⟨w.heap.size + 1, 0, none⟩ = some (.slice D k dc) := (hT2.cell 0).trans rfl
           have hf2 := hT2.frozen 0
           have hc2a : (w2.alloc (.cells #[.int .i64 y] 3)).cell? ⟨w.heap.size + 1, 0, none⟩ = some (.slice D k dc) := ((hT2.alloc _).cell 0).trans rfl
           have hown2 := hown.drew.step hS2 (by omega)
           have hl2 : w.heap.size + 2 ≤ w2.heap.size := hT2.lt
           have hk2 := (World.cell?_of_block (a := ⟨b1, o1 + k, none⟩) (World.grownBy.block (hS.drew.trans hS2) b1 hb1 (fun e => hbg (by injection e)))).trans hck
           have hk2a := (World.cell?_of_block (a := ⟨b1, o1 + k, none⟩) (World.grownBy.block ((hS.drew.trans hS2).alloc (.cells #[.int .i64 y] 3)) b1 hb1 (fun e => hbg (by injection e)))).trans hck
           dsimp only)
        | ((refine step_append_own (w := w2.alloc (.cells #[.int .i64 y] 3)) rfl (.tmp 16) (.tmp 20) 22 rfl (w.heap.size + 2) 3 i0 _ Try.underlying22 hi0 hz0 hz1 hz2 rfl D k dc ds (hown2.alloc _) (by simp [Act.eval]) w2.heap.size 1 y (by simp [Act.eval]) (Ints.oneAt _ _ _ _ rfl) (by omega) (le_alloc hl2 _) ?_); intro A3 c3 w3 hown3 hbw3
           have hbx := ((Below.refl (w.heap.size + 2) w2).alloc hl2 (.cells #[.int .i64 y] 3)).trans hbw3
           have hT3 := hT2.below hbx (by omega)
           have hc3 : w3.cell? ⟨w.heap.size + 1, 0, none⟩ = some (.slice D k dc) := (hT3.cell 0).trans rfl
           have hf3 := hT3.frozen 0
           have hk3 := (hbx.cell (p := ⟨b1, o1 + k, none⟩) (Nat.lt_of_lt_of_le hb1 (Nat.le_add_right _ 2))).trans hk2
           have hk4 := (((Below.refl (w.heap.size + 1) w3).setCell (p := ⟨w.heap.size + 1, 0, none⟩) (Nat.le_refl _) (.slice A3 (k + 1) c3)).cell (p := ⟨b1, o1 + k, none⟩) (Nat.lt_of_lt_of_le hb1 (Nat.le_succ _))).trans hk3))
      all_goals have hT4 := hT3.set_ 0 (.slice A3 (k + 1) c3)
      all_goals have hS4 := (Step.refl (w.heap.size + 1) w3).set 0 (.slice A3 (k + 1) c3)
      all_goals have hR4 := Step.block hS4 ((Step.block hS2 (Blk.drew hR) (by omega)).below hbx (by omega)) (by omega)
      all_goals have hown4 := hown3.step hS4 (by omega)
      all_goals have hD4 := (hD2.below hbx (by omega)).setCell (p := ⟨w.heap.size + 1, 0, none⟩) (by show g < w.heap.size + 1; omega) (.slice A3 (k + 1) c3)
      all_goals have hSE := ((hS.drew.trans hS2).thenBelow (hbx.mono (by omega))).setNew (p := ⟨w.heap.size + 1, 0, none⟩) (Nat.le_succ _) (.slice A3 (k + 1) c3)
      all_goals have hdl := hown.len
      all_goals have HBN : Hid (∀ i, i < k + 1 → 0 ≤ (ds ++ [y]).getD i 0 ∧ (ds ++ [y]).getD i 0 < l.getD i 0) := Lib.hid (fun i hi => by
        rw [List.getD_eq_getElem?_getD (l := ds ++ [y]), List.getElem?_append]
        split
        · rw [← List.getD_eq_getElem?_getD]; exact HB.out i (by omega)
        · obtain rfl : i = k := by omega
          rw [hdl, Nat.sub_self, HLK.out]; exact hyb)
      all_goals go_wp2
      all_goals go_roundw
      all_goals first
        | exact ⟨k + 1, A3, c3, ds ++ [y], q2, by omega, by go_num, hown4, HBN, hT4, hR4, hD4, hSE⟩
        | (simp [intOf]; omega)
    · obtain rfl : k = m := by omega
      go_wp2_with (go_at_call 20; refine (next_any g A n c xs q 3 _ hD (by omega)).mono ?_; rintro e w1 ⟨r', q1, rfl, hr, hr0, hD1, hS1, hz1'⟩
                   obtain ⟨K, rfl⟩ : ∃ r : Nat, r' = r := ⟨r'.toNat, by have := hr (by omega); omega⟩
                   have hK : K ≤ 2 := by have := hr (by omega); omega
                   have hown1 := hown.step hS1 (by omega)
                   have hT1 := Step.block hS1 hT (by omega)
                   have hR1 := Step.block hS1 hR (by omega)
                   have hSS1 := hS.trans hS1
                   clear hr hr0 hz1')
      clear hT hR hD hS hS1 hown
      go_loopw [8] (fun v8 wz => ∃ (j e : Nat) (D : Option Addr) (dc : Nat) (ds : List Int) (q : Nat), j + e ≤ 2 ∧ v8 = .int .i64 j ∧ OwnI wz (w.heap.size + 2) 3 D (k + e) dc ds ∧ Hid (∀ i, i < k → 0 ≤ ds.getD i 0 ∧ ds.getD i 0 < l.getD i 0) ∧
        Blk wz (w.heap.size + 1) 62 #[.slice D (k + e) dc, .int .i64 0] ∧ Blk wz w.heap.size 62 #[.slice none 0 0, .int .i64 0] ∧ Deck wz g A n c xs q ∧ Step g w wz) (fun v8 _ => (intOf v8).toNat)
      case atStart => exact ⟨K, 0, D, dc, ds, q1, by omega, rfl, hown1, HB, hT1, hR1, hD1, hSS1⟩
      case round =>
        clear hown1 HB hT1 hR1 hD1 hSS1
        obtain ⟨j, e, D, dc, ds, q, hje, rfl, hown, HB, hT, hR, hD, hS⟩ := hrel
        have hTl := hT.lt
        obtain ⟨ke, hke⟩ : ∃ ke, k + e = ke := ⟨_, rfl⟩
        rw [hke] at hown hT
        have HKE := Lib.hid hke
        have hke2 : ke ≤ 102 := by omega
        clear hke
        have hc0 : wr.cell? ⟨w.heap.size + 1, 0, none⟩ = some (.slice D ke dc) := (hT.cell 0).trans rfl
        have hc1 : wr.cell? ⟨w.heap.size + 1, 1, none⟩ = some (.int .i64 0) := (hT.cell 1).trans rfl
        have hf0 := hT.frozen 0
        by_cases hj : 0 < j
        · have hj1 : (0 : Int) < (j : Int) := by omega
          obtain ⟨j1, hj2⟩ : ∃ j1 : Nat, (j : Int) - 1 = j1 := ⟨j - 1, by omega⟩
          have hcl : wr.cell? ⟨w.heap.size, 1, none⟩ = some (.int .i64 0) := (hR.cell 1).trans rfl
          go_wp2_with fail
          go_region_law
           (first
            | (go_simp; go_at_call 20; refine (next_any g A n c xs q 9 _ hD.drew (by omega)).mono ?_; rintro e w2 ⟨y, q2, rfl, hy, hy0, hD2, hS2, hz2'⟩
               clear hy hy0 hz2'
               have hT2 := Step.block hS2 (Blk.drew hT) (by omega)
               have hR2 := Step.block hS2 (Blk.drew hR) (by omega)
               have hc2 : w2.cell? ⟨w.heap.size + 1, 0, none⟩ = some (.slice D ke dc) := (hT2.cell 0).trans rfl
               have hf2 := hT2.frozen 0
               have hc2a : (w2.alloc (.cells #[.int .i64 y] 3)).cell? ⟨w.heap.size + 1, 0, none⟩ = some (.slice D ke dc) := ((hT2.alloc _).cell 0).trans rfl
               have hown2 := hown.drew.step hS2 (by omega)
               have hl2 : w.heap.size + 2 ≤ w2.heap.size := hT2.lt
               have hk2 : w2.cell? ⟨w.heap.size, 1, none⟩ = some (.int .i64 0) := (hR2.cell 1).trans rfl
               have hk2a : (w2.alloc (.cells #[.int .i64 y] 3)).cell? ⟨w.heap.size, 1, none⟩ = some (.int .i64 0) := ((hR2.alloc _).cell 1).trans rfl
               dsimp only)
            | ((refine step_append_own (w := w2.alloc (.cells #[.int .i64 y] 3)) rfl (.tmp 31) (.tmp 34) 22 rfl (w.heap.size + 2) 3 i0 _ Try.underlying22 hi0 hz0 hz1 hz2 rfl D ke dc ds (hown2.alloc _) (by simp [Act.eval]) w2.heap.size 1 y (by simp [Act.eval]) (Ints.oneAt _ _ _ _ rfl) (by omega) (le_alloc hl2 _) ?_); intro A3 c3 w3 hown3 hbw3
               have hbx := ((Below.refl (w.heap.size + 2) w2).alloc hl2 (.cells #[.int .i64 y] 3)).trans hbw3
               have hT3 := hT2.below hbx (by omega)
               have hR3 := hR2.below hbx (by omega)
               have hc3 : w3.cell? ⟨w.heap.size + 1, 0, none⟩ = some (.slice D ke dc) := (hT3.cell 0).trans rfl
               have hf3 := hT3.frozen 0
               have hk3 : w3.cell? ⟨w.heap.size, 1, none⟩ = some (.int .i64 0) := (hR3.cell 1).trans rfl
               have hR4 := hR3.far (p := ⟨w.heap.size + 1, 0, none⟩) (by simp) (.slice A3 (ke + 1) c3)
               have hk4 : (w3.setCell ⟨w.heap.size + 1, 0, none⟩ (.slice A3 (ke + 1) c3)).cell? ⟨w.heap.size, 1, none⟩ = some (.int .i64 0) := (hR4.cell 1).trans rfl))
          all_goals have hT4 := hT3.set_ 0 (.slice A3 (ke + 1) c3)
          all_goals have hS4 := (Step.refl (w.heap.size + 1) w3).set 0 (.slice A3 (ke + 1) c3)
          all_goals have hown4 := hown3.step hS4 (by omega)
          all_goals have hD4 := (hD2.below hbx (by omega)).setCell (p := ⟨w.heap.size + 1, 0, none⟩) (by show g < w.heap.size + 1; omega) (.slice A3 (ke + 1) c3)
          all_goals have hSE := ((hS.drew.trans hS2).thenBelow (hbx.mono (by omega))).setNew (p := ⟨w.heap.size + 1, 0, none⟩) (Nat.le_succ _) (.slice A3 (ke + 1) c3)
          all_goals have hdl := hown.len
          all_goals have HBN : Hid (∀ i, i < k → 0 ≤ (ds ++ [y]).getD i 0 ∧ (ds ++ [y]).getD i 0 < l.getD i 0) := Lib.hid (fun i hi => by
            have := HKE.out
            rw [List.getD_eq_getElem?_getD (l := ds ++ [y]), List.getElem?_append_left (by omega), ← List.getD_eq_getElem?_getD]
            exact HB.out i hi)
          all_goals have hke3 : ke + 1 = k + (e + 1) := by have := HKE.out; omega
          all_goals have HKE3 := Lib.hid hke3
          all_goals clear hke3
          all_goals go_wp2
          all_goals go_roundw
          all_goals first
            | exact ⟨j1, e + 1, A3, c3, ds ++ [y], q2, by omega, rfl, by rw [← HKE3.out]; exact hown4, HBN, by rw [← HKE3.out]; exact hT4, hR4, hD4, hSE⟩
            | (simp [intOf]; omega)
        · have hr0 : wr.cell? ⟨w.heap.size, 0, none⟩ = some (.slice none 0 0) := (hR.cell 0).trans rfl
          have hr1 : wr.cell? ⟨w.heap.size, 1, none⟩ = some (.int .i64 0) := (hR.cell 1).trans rfl
          have hg0 := hR.frozen 0
          have hg1 := hR.frozen 1
          have hj0 : ¬ (0 : Int) < (j : Int) := by omega
          go_wp2
          have hR5 := blk_two (v0 := .slice D ke dc) (v1 := .int .i64 0) hR
          have hy0 := (hR5.cell 0).trans rfl
          have hy1 := (hR5.cell 1).trans rfl
          have hke4 := HKE.out
          exact bodyPost_ret (v := .agg #[.slice D ke dc, .int .i64 0]) (by simp [results, Try.results53, go_sem, hy0, hy1]) rfl
            ⟨D, ke, dc, ds, q, rfl, (hown.step (((Step.refl w.heap.size wr).set 0 (.slice D ke dc)).set 1 (.int .i64 0)) (by omega)).base (by omega), by omega, by omega, HB.out, (hD.setCell (p := ⟨w.heap.size, 0, none⟩) hg _).setCell (p := ⟨w.heap.size, 1, none⟩) hg _, (hS.setNew (p := ⟨w.heap.size, 0, none⟩) (Nat.le_refl _) _).setNew (p := ⟨w.heap.size, 1, none⟩) (Nat.le_refl _) _⟩
end Go.Proofs.Ytoblofilaegnaaa
