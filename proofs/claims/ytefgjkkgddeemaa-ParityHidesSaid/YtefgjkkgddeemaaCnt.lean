/-
  What the reference's Count and At of tapes hand back for few equal limits. Conditions: the list reads as its numbers.
-/
import Derived.Test.YtefgjkkgddeemaaSeed
import Derived.Deep.RegionLaw
namespace Go.Proofs.Ytefgjkkgddeemaa
open Go.RowKit
set_option linter.unusedVariables false

/-- The number of tapes of th numbers below p. -/
def powN (p : Int) : Nat → Int
  | 0 => 1
  | k + 1 => powN p k * p
set_option maxRecDepth 100000 in
theorem rcount_ok (p : Int) (th : Nat) (A : Option Addr) (c : Nat) (w : World) {B : Nat} (hp : p = 2 ∨ p = 3) (hpw : ∀ k, k ≤ th → 1 ≤ powN p k ∧ powN p k ≤ 100) (h : Ints w B A th (List.replicate th p)) (hth : th ≤ 6) :
    Calls Try.prog 19 #[.slice A th c] w fun e w' => e = .returned (.tuple #[.int .i64 (powN p th), .int .i64 0]) ∧ w = w' := by
  have hp2 : 2 ≤ p ∧ p ≤ 5 := by omega
  have hth1 : ¬ ((16384 : Int) < (th : Int)) := by omega
  have hth2 : ¬ 16384 < th := by omega
  have hquo : 1000 ≤ (1099511627776 : Int).tdiv p := by rcases hp with rfl | rfl <;> decide
  obtain ⟨q, hq⟩ : ∃ q, (1099511627776 : Int).tdiv p = q := ⟨_, rfl⟩
  rw [hq] at hquo
  go_enter Try.func19, Try.ntmps19
  go_wp2
  go_loopw [4, 12] (fun v i wz => ∃ (k : Nat) (m : Int), k ≤ th ∧ i = .int .i64 k ∧ v = .int .i64 m ∧ Hid (powN p k = m) ∧ wz = w) (fun _ i _ => th - (intOf i).toNat)
  case atStart => exact ⟨0, 1, Nat.zero_le _, rfl, rfl, Lib.hid rfl, rfl⟩
  case round =>
    obtain ⟨k, m, hk, rfl, rfl, HM, rfl⟩ := hrel
    have hm := hpw k (by omega)
    rw [HM.out] at hm
    by_cases hlt : k < th
    · obtain ⟨b, off, rfl, hb, hcell⟩ := h.2 (by omega)
      have hcp : wr.cell? ⟨b, off + k, none⟩ = some (.int .i64 p) := (hcell k hlt).trans (by rw [List.getD_eq_getElem?_getD, List.getElem?_replicate, if_pos hlt]; rfl)
      clear hcell
      have hm2 := hpw (k + 1) (by omega)
      have HM2 : Hid (powN p (k + 1) = m * p) := Lib.hid (by show powN p k * p = m * p; rw [HM.out])
      rw [HM2.out] at hm2
      have hmw : IntKind.i64.wrap (m * p) = m * p := IntWalk.i64_in _ (by omega)
      have hmq : ¬ (q < m) := by omega
      have hp1 : ¬ (p < 1) := by omega
      have hp3 : ¬ ((2147483647 : Int) < p) := by omega
      have hp0 : ¬ p = 0 := by omega
      have hki : (k : Int) < (th : Int) := by omega
      have hk0 : (0 : Int) ≤ (k : Int) := by omega
      have hqw : IntKind.i64.wrap q = q := IntWalk.i64_in _ (by rcases hp with rfl | rfl <;> (rw [← hq]; decide))
      go_wp2
      go_roundw
      case rel => exact ⟨k + 1, m * p, by omega, by go_num, rfl, HM2, trivial⟩
      case measure => simp [intOf]; omega
    · obtain rfl : k = th := by omega
      go_wp2
      go_ret2
      exact ⟨by rw [HM.out]; rfl, rfl⟩

/-- What is left of a number, and its digits. -/
def quoN (p n : Int) : Nat → Int
  | 0 => n
  | k + 1 => quoN p n k / p
def digN (p n : Int) : Nat → List Int
  | 0 => []
  | k + 1 => digN p n k ++ [quoN p n k % p]
theorem quoN_in {p n : Int} (hp : 2 ≤ p) (hn : 0 ≤ n) : ∀ k, 0 ≤ quoN p n k ∧ quoN p n k ≤ n
  | 0 => ⟨hn, Int.le_refl _⟩
  | k + 1 => by
    have ih := quoN_in hp hn k
    refine ⟨Int.ediv_nonneg ih.1 (by omega), Int.le_trans (Int.ediv_le_self _ ih.1) ih.2⟩
theorem digN_len (p n : Int) : ∀ k, (digN p n k).length = k
  | 0 => rfl
  | k + 1 => by simp [digN, digN_len p n k]
theorem digN_in {p n : Int} (hp : 2 ≤ p) : ∀ k, ∀ x ∈ digN p n k, 0 ≤ x ∧ x < p
  | 0, x, h => by simp [digN] at h
  | k + 1, x, h => by
    rcases List.mem_append.1 h with h1 | h1
    · exact digN_in hp k x h1
    · rw [List.mem_singleton.1 h1]
      exact ⟨Int.emod_nonneg _ (by omega), Int.emod_lt_of_pos _ (by omega)⟩

set_option maxRecDepth 100000 in
set_option maxHeartbeats 1600000 in
theorem tapeat_ok (p : Int) (th : Nat) (A : Option Addr) (c : Nat) (N : Int) (w : World) (hp : p = 2 ∨ p = 3) (hpw : ∀ k, k ≤ th → 1 ≤ powN p k ∧ powN p k ≤ 100) (h : Ints w w.heap.size A th (List.replicate th p)) (hth : th ≤ 6) (hN : 0 ≤ N ∧ N < powN p th) :
    Calls Try.prog 20 #[.slice A th c, .int .i64 N] w fun e w' =>
      (∃ D dc, e = .returned (.tuple #[.agg #[.slice D th dc, .int .i64 0], .int .i64 0]) ∧ OwnI w' w.heap.size 3 D th dc (digN p N th)) ∧ Below w.heap.size w w' := by
  obtain ⟨i0, hi0, hz0, hz1, hz2⟩ := info_parts info_int
  have hp2 : 2 ≤ p ∧ p ≤ 5 := by omega
  have hpw' := hpw th (Nat.le_refl _)
  obtain ⟨T, HT⟩ : ∃ T, Hid (powN p th = T) := ⟨_, Lib.hid rfl⟩
  rw [HT.out] at hN hpw'
  have hN1 : ¬ (N < 0) := by omega
  have hN2 : ¬ (T ≤ N) := by omega
  have hR0 := (Blk.new w 36 #[.slice none 0 0, .int .i64 0]).alloc (.cells #[.slice none 0 0, .int .i64 0] 36)
  have hT0 := Blk.new1 w (.cells #[.slice none 0 0, .int .i64 0] 36) 36 #[.slice none 0 0, .int .i64 0]
  have hb0 : Below w.heap.size w ((w.alloc (.cells #[.slice none 0 0, .int .i64 0] 36)).alloc (.cells #[.slice none 0 0, .int .i64 0] 36)) := ballocs (bbox _) _
  have hI1 := h.upto (bbox (.cells #[.slice none 0 0, .int .i64 0] 36))
  go_enter Try.func20, Try.ntmps20
  go_wp2_with (go_at_call 19; refine (rcount_ok p th A c _ hp hpw hI1 hth).mono ?_; rintro e w' ⟨rfl, rfl⟩; rw [HT.out])
  go_loopw [1, 30] (fun v i wz => ∃ (k : Nat) (m : Int) (D : Option Addr) (dc : Nat), k ≤ th ∧ i = .int .i64 k ∧ v = .int .i64 m ∧ Hid (quoN p N k = m) ∧ OwnI wz (w.heap.size + 2) 3 D k dc (digN p N k) ∧
    Blk wz (w.heap.size + 1) 36 #[.slice D k dc, .int .i64 0] ∧ Blk wz w.heap.size 36 #[.slice none 0 0, .int .i64 0] ∧ Below w.heap.size w wz) (fun _ i _ => th - (intOf i).toNat)
  case atStart => exact ⟨0, N, none, 0, Nat.zero_le _, rfl, rfl, Lib.hid rfl, OwnI.nil_, hT0, hR0, hb0⟩
  case round =>
    obtain ⟨k, m, D, dc, hk, rfl, rfl, HM, hown, hT, hR, hbz⟩ := hrel
    have hTl := hT.lt
    have hm := quoN_in hp2.1 hN.1 k
    rw [HM.out] at hm
    by_cases hlt : k < th
    · obtain ⟨b, off, rfl, hb, hcell⟩ := h.2 (by omega)
      have hcp := (hbz.cell (p := ⟨b, off + k, none⟩) hb).trans ((hcell k hlt).trans (by rw [List.getD_eq_getElem?_getD, List.getElem?_replicate, if_pos hlt]; rfl : _ = some (Value.int .i64 p)))
      clear hcell
      have hc0 : wr.cell? ⟨w.heap.size + 1, 0, none⟩ = some (.slice D k dc) := (hT.cell 0).trans rfl
      have hf0 := hT.frozen 0
      obtain ⟨y, hy⟩ : ∃ y, m.tmod p = y := ⟨_, rfl⟩
      have HYE : Hid (m % p = y) := Lib.hid (by rw [← hy, Int.tmod_eq_emod_of_nonneg hm.1])
      obtain ⟨m2, hm2⟩ : ∃ m2, m.tdiv p = m2 := ⟨_, rfl⟩
      have HM2 : Hid (quoN p N (k + 1) = m2) := Lib.hid (by show quoN p N k / p = m2; rw [HM.out, ← hm2, Int.tdiv_eq_ediv_of_nonneg hm.1])
      have hm2b := quoN_in hp2.1 hN.1 (k + 1)
      rw [HM2.out] at hm2b
      have HDG : Hid (digN p N (k + 1) = digN p N k ++ [y]) := Lib.hid (by show digN p N k ++ [quoN p N k % p] = _; rw [HM.out, HYE.out])
      have hp0 : ¬ p = 0 := by omega
      have hki : (k : Int) < (th : Int) := by omega
      have hk0 : (0 : Int) ≤ (k : Int) := by omega
      have hmw : IntKind.i64.wrap m2 = m2 := IntWalk.i64_in _ (by omega)
      have hl2 : w.heap.size + 2 ≤ wr.drew.heap.size := hTl
      have hownd : OwnI wr.drew (w.heap.size + 2) 3 D k dc (digN p N k) := hown
      have hTd : Blk wr.drew (w.heap.size + 1) 36 #[.slice D k dc, .int .i64 0] := hT
      go_wp2_with fail
      go_region_law
       (first
        | ((refine step_append_own (w := wr.drew.alloc (.cells #[.int .i64 y] 3)) rfl (.tmp 35) (.tmp 39) 22 rfl (w.heap.size + 2) 3 i0 _ Try.underlying22 hi0 hz0 hz1 hz2 rfl D k dc (digN p N k) (hownd.alloc _) (by simp [Act.eval]) wr.heap.size 1 y (by simp [Act.eval]) (Ints.oneAt _ _ _ _ rfl) (by omega) (le_alloc hl2 _) ?_); intro A3 c3 w3 hown3 hbw3
           have hbx := ((Below.refl (w.heap.size + 2) wr.drew).alloc hl2 (.cells #[.int .i64 y] 3)).trans hbw3
           have hT3 := hTd.below hbx (by omega)
           have hc3 : w3.cell? ⟨w.heap.size + 1, 0, none⟩ = some (.slice D k dc) := (hT3.cell 0).trans rfl
           have hf3 := hT3.frozen 0))
      all_goals have hT4 := hT3.set_ 0 (.slice A3 (k + 1) c3)
      all_goals have hRd : Blk wr.drew w.heap.size 36 #[.slice none 0 0, .int .i64 0] := hR
      all_goals have hR4 := (hRd.below hbx (by omega)).far (p := ⟨w.heap.size + 1, 0, none⟩) (by show w.heap.size ≠ w.heap.size + 1; omega) (.slice A3 (k + 1) c3)
      all_goals have hown4 := hown3.step ((Step.refl (w.heap.size + 1) w3).set 0 (.slice A3 (k + 1) c3)) (by omega)
      all_goals have hbE := (hbz.drew.trans (hbx.mono (by omega))).setCell (p := ⟨w.heap.size + 1, 0, none⟩) (by show w.heap.size ≤ w.heap.size + 1; omega) (.slice A3 (k + 1) c3)
      all_goals have hown5 : OwnI (w3.setCell ⟨w.heap.size + 1, 0, none⟩ (.slice A3 (k + 1) c3)) (w.heap.size + 2) 3 A3 (k + 1) c3 (digN p N (k + 1)) := by rw [HDG.out]; exact hown4
      all_goals clear hT3 hown3 hown4 hc3 hf3 hcp hc0 hf0
      all_goals go_wp2
      all_goals go_roundw
      all_goals first
        | exact ⟨k + 1, m2, A3, c3, by omega, by go_num, rfl, HM2, hown5, hT4, hR4, hbE⟩
        | (simp [intOf]; omega)
    · obtain rfl : k = th := by omega
      have hr0 : wr.cell? ⟨w.heap.size, 0, none⟩ = some (.slice none 0 0) := (hR.cell 0).trans rfl
      have hr1 : wr.cell? ⟨w.heap.size, 1, none⟩ = some (.int .i64 0) := (hR.cell 1).trans rfl
      have hg0 := hR.frozen 0
      have hg1 := hR.frozen 1
      have ht0 : wr.cell? ⟨w.heap.size + 1, 0, none⟩ = some (.slice D k dc) := (hT.cell 0).trans rfl
      have ht1 : wr.cell? ⟨w.heap.size + 1, 1, none⟩ = some (.int .i64 0) := (hT.cell 1).trans rfl
      go_wp2
      have hR5 := blk_two (v0 := .slice D k dc) (v1 := .int .i64 0) hR
      have hy0 := (hR5.cell 0).trans rfl
      have hy1 := (hR5.cell 1).trans rfl
      exact bodyPost_ret (v := .tuple #[.agg #[.slice D k dc, .int .i64 0], .int .i64 0]) (by simp [results, Try.results20, go_sem, hy0, hy1]) rfl
        ⟨⟨D, dc, rfl, (hown.step (((Step.refl w.heap.size wr).set 0 (.slice D k dc)).set 1 (.int .i64 0)) (by omega)).base (by omega)⟩, below_two hbz (Nat.le_refl _) _ _⟩
end Go.Proofs.Ytefgjkkgddeemaa
