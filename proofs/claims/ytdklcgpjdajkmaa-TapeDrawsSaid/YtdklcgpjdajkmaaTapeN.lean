/-
  What tape's bounded, Count, At, Number, Seeded and Left hand back. Conditions: the lists read as their numbers, the limits are few and small, where a name ends in ok.
-/
import Derived.Test.YtdklcgpjdajkmaaTape
import Derived.Test.YtdklcgpjdajkmaaTapeM
import Derived.Test.YtdklcgpjdajkmaaCut
import Derived.Test.YtdklcgpjdajkmaaOrder
import Derived.Deep.RegionLaw
namespace Go.Proofs.Ytdklcgpjdajkmaa
open Go.RowKit
set_option linter.unusedVariables false

theorem left_any (A : Option Addr) (m c : Nat) (a : Int) (w : World) (hv : validT m a = true) :
    Calls Try.prog 17 #[.agg #[.slice A m c, .int .i64 a]] w fun e w' => e = .returned (.tuple #[.int .i64 (m - a), .int .i64 0]) ∧ Below w.heap.size w w' := by
  have hvd := validT_iff.1 hv
  have HV := Lib.hid hv
  clear hv
  go_enter Try.func17, Try.ntmps17
  go_wp2_with (go_at_call 114; refine (valid_any A m c a _).mono ?_; rintro e w1 ⟨rfl, hb1⟩; rw [HV.out]
               have hbb1 := bnext (bbox _) hb1
               have hO := (Blk.new w 24 #[.slice A m c, .int .i64 a]).below hb1 (by simp)
               have hx0 : w1.cell? ⟨w.heap.size, 0, none⟩ = some (.slice A m c) := (hO.cell 0).trans rfl
               have hx1 : w1.cell? ⟨w.heap.size, 1, none⟩ = some (.int .i64 a) := (hO.cell 1).trans rfl)
  go_ret2
  exact ⟨rfl, hbb1⟩

/-- The closure in bounded. -/
theorem lim1_any (a : Int) (w : World) : Calls Try.prog 169 #[.int .i64 a] w fun e w' => e = .returned (.bool (!limT a)) ∧ w = w' := by
  go_enter Try.func169, Try.ntmps169
  go_wp2_with (go_at_call 117; refine (limit_any a _).mono ?_; rintro e w' ⟨rfl, rfl⟩)
  go_ret
  exact ⟨rfl, rfl⟩

theorem limAll_append {xs ys : List Int} : (xs ++ ys).all limT = true ↔ xs.all limT = true ∧ ys.all limT = true := by simp

theorem indexLim_any (A : Option Addr) (n c : Nat) (xs : List Int) (w : World) {B : Nat} (h : Ints w B A n xs) (hn : n ≤ 4611686018427387904) :
    Calls Try.prog 170 #[.slice A n c, .func (.func 169) #[] #[]] w fun e w' =>
      (∃ i : Int, e = .returned (.int .i64 i) ∧ (0 ≤ i ↔ xs.all limT = false)) ∧ w = w' := by
  obtain ⟨hl, hc⟩ := h
  have HL := Lib.hid hl
  clear hl
  obtain ⟨al, HAL⟩ : ∃ al, Hid (xs.all limT = al) := ⟨_, Lib.hid rfl⟩
  rw [HAL.out]
  go_enter Try.func170, Try.ntmps170
  go_wp2
  go_loop [8] (fun i => ∃ k : Nat, k ≤ n ∧ i = .int .i64 k ∧ Hid ((xs.take k).all limT = true)) (fun i => n - (intOf i).toNat)
  case atStart => exact ⟨0, Nat.zero_le _, rfl, Lib.hid rfl⟩
  case round =>
    obtain ⟨k, hk, rfl, HA⟩ := hrel
    by_cases hlt : k < n
    · obtain ⟨b', off, rfl, hb', hcell⟩ := hc (by omega)
      have hck := hcell k hlt
      clear hc hcell
      have HT := Lib.hid (take_snoc_int xs k (by rw [HL.out]; exact hlt))
      generalize xs.getD k 0 = x at *
      by_cases hx : limT x = true
      · go_wp2_with (go_at_call 169; refine (lim1_any x _).mono ?_; rintro e w' ⟨rfl, rfl⟩)
        go_round
        case rel => exact ⟨k + 1, by omega, by go_num, Lib.hid (by rw [HT.out, limAll_append]; exact ⟨HA.out, by simp [hx]⟩)⟩
        case measure => simp [intOf]; omega
      · have hx' : limT x = false := by simpa using hx
        clear hx
        go_wp2_with (go_at_call 169; refine (lim1_any x _).mono ?_; rintro e w' ⟨rfl, rfl⟩)
        go_ret
        refine ⟨⟨k, rfl, fun _ => ?_, fun _ => by omega⟩, rfl⟩
        rw [← Bool.not_eq_true]
        intro ha
        rw [← HAL.out] at ha
        have hs : (xs.take (k + 1)).all limT = true := List.all_eq_true.2 fun u hu => List.all_eq_true.1 ha u (List.mem_of_mem_take hu)
        rw [HT.out, limAll_append] at hs
        have := hs.2
        simp [hx'] at this
    · go_wp2
      go_ret
      refine ⟨⟨-1, rfl, fun h => by omega, fun h => ?_⟩, rfl⟩
      have := HA.out
      rw [List.take_of_length_le (by rw [HL.out]; omega), HAL.out, h] at this
      cases this

theorem containsLim_any (A : Option Addr) (n c : Nat) (xs : List Int) (w : World) {B : Nat} (h : Ints w B A n xs) (hn : n ≤ 4611686018427387904) :
    Calls Try.prog 163 #[.slice A n c, .func (.func 169) #[] #[]] w fun e w' =>
      e = .returned (.bool (!xs.all limT)) ∧ w = w' := by
  go_enter Try.func163, Try.ntmps163
  go_wp2_with (go_at_call 170; refine (indexLim_any A n c xs _ h hn).mono ?_; rintro e w' ⟨⟨i, rfl, hi⟩, rfl⟩; have HI := Lib.hid hi; clear hi)
  go_ret
  refine ⟨ret_bool ?_, rfl⟩
  show decide (0 ≤ i) = _
  rw [Bool.eq_iff_iff, decide_eq_true_eq, HI.out]
  simp

theorem bounded_any (A : Option Addr) (n c : Nat) (xs : List Int) (w : World) {B : Nat} (h : Ints w B A n xs) (hn : n ≤ 4611686018427387904) :
    Calls Try.prog 161 #[.slice A n c] w fun e w' => e = .returned (.bool (boundL n xs)) ∧ w = w' := by
  obtain ⟨al, HAL⟩ : ∃ al, Hid (xs.all limT = al) := ⟨_, Lib.hid rfl⟩
  go_enter Try.func161, Try.ntmps161
  go_wp2_with (go_at_call 163; refine (containsLim_any A n c xs _ h hn).mono ?_; rintro e w' ⟨rfl, rfl⟩; rw [HAL.out])
  all_goals go_ret
  all_goals refine ⟨ret_bool ?_, rfl⟩
  all_goals unfold boundL
  all_goals rw [HAL.out]
  · rw [decide_eq_true (by omega)]; simp
  · rw [decide_eq_false (by omega)]; simp

set_option maxHeartbeats 400000 in
set_option maxRecDepth 100000 in
/-- Count of few and small limits. -/
theorem count_ok (A : Option Addr) (n c : Nat) (l : List Int) (w : World) {B : Nat} (h : Ints w B A n l) (hs : smallL l) :
    Calls Try.prog 112 #[.slice A n c] w fun e w' => e = .returned (.tuple #[.int .i64 (prodL l), .int .i64 0]) ∧ w = w' := by
  have HL := Lib.hid h.len
  have HS := Lib.hid hs
  have hn6 : n ≤ 6 := by have := hs.1; rw [HL.out] at this; exact this
  have HB : Hid (boundL n l = true) := Lib.hid (by rw [← HL.out]; exact smallL_bound HS.out)
  clear hs
  go_enter Try.func112, Try.ntmps112
  go_wp2_with (go_at_call 161; refine (bounded_any A n c l _ h (by omega)).mono ?_; rintro e w' ⟨rfl, rfl⟩; rw [HB.out])
  go_loop [4, 12] (fun p i => ∃ k : Nat, k ≤ n ∧ i = .int .i64 k ∧ p = .int .i64 (prodL (l.take k))) (fun _ i => n - (intOf i).toNat)
  case atStart => exact ⟨0, Nat.zero_le _, rfl, rfl⟩
  case round =>
    obtain ⟨k, hk, rfl, rfl⟩ := hrel
    by_cases hlt : k < n
    · obtain ⟨b', off, rfl, hb', hcell⟩ := h.2 (by omega)
      have hck := hcell k hlt
      clear hcell
      have HT := Lib.hid (take_snoc_int l k (by rw [HL.out]; exact hlt))
      have hx := smallL_at HS.out (k := k) (by rw [HL.out]; exact hlt)
      have hp := smallL_prod (smallL_take HS.out k)
      have HP : Hid (prodL (l.take (k + 1)) = prodL (l.take k) * l.getD k 0) := Lib.hid (by rw [HT.out, prodL_snoc])
      generalize l.getD k 0 = x at *
      generalize prodL (l.take k) = p at *
      have hm : 1 ≤ p * x ∧ p * x ≤ 46656 * 6 := ⟨by have := Int.mul_le_mul hp.1 hx.1 (by omega) (by omega); omega, Int.mul_le_mul (by omega) hx.2 (by omega) (by omega)⟩
      have hq : p ≤ 1099511627776 / x := Int.le_ediv_of_mul_le (by omega) (by omega)
      have hq2 : p ≤ (1099511627776 : Int).tdiv x := by rw [Int.tdiv_eq_ediv_of_nonneg (by omega)]; exact hq
      go_wp2
      go_round
      case rel => exact ⟨k + 1, by omega, by go_num, by rw [HP.out]⟩
      case measure => simp [intOf]; omega
    · have hkn : k = n := by omega
      subst hkn
      have HE : Hid (l.take k = l) := Lib.hid (List.take_of_length_le (by rw [HL.out]; omega))
      rw [HE.out]
      go_wp2
      go_ret2
      exact ⟨rfl, rfl⟩

theorem digL_step {l ds : List Int} {x y : Int} {k : Nat} (h : digL l x = ds ++ digL (l.drop k) y) (hk : k < l.length) : digL l x = (ds ++ [y % l.getD k 0]) ++ digL (l.drop (k + 1)) (y / l.getD k 0) := by
  rw [h, drop_cons l k hk]; simp [digL]

set_option maxHeartbeats 800000 in
set_option maxRecDepth 100000 in
/-- At, of few and small limits. -/
theorem at_ok (A : Option Addr) (n c : Nat) (l : List Int) (x : Int) (w : World) (h : Ints w w.heap.size A n l) (hs : smallL l) (hx : 0 ≤ x ∧ x < prodL l) :
    Calls Try.prog 113 #[.slice A n c, .int .i64 x] w fun e w' => (∃ D dc, e = .returned (.tuple #[.agg #[.slice D n dc, .int .i64 0], .int .i64 0]) ∧ OwnI w' w.heap.size 3 D n dc (digL l x)) ∧ Below w.heap.size w w' := by
  obtain ⟨i0, hi0, hz0, hz1, hz2⟩ := info_parts info_int
  have HL := Lib.hid h.len
  have HS := Lib.hid hs
  have hn6 : n ≤ 6 := by have := hs.1; rw [HL.out] at this; exact this
  have hP := smallL_prod hs
  obtain ⟨P, HPP⟩ : ∃ P, Hid (prodL l = P) := ⟨_, Lib.hid rfl⟩
  rw [HPP.out] at hx hP
  clear hs
  go_enter Try.func113, Try.ntmps113
  go_wp2_with (go_at_call 112; refine (count_ok A n c l _ (h.alloc (Nat.le_refl _) _) HS.out).mono ?_; rintro e w' ⟨rfl, rfl⟩; rw [HPP.out])
  go_loopw [1, 30] (fun num i wr => ∃ (k : Nat) (y : Int) (D : Option Addr) (dc : Nat) (ds : List Int), k ≤ n ∧ i = .int .i64 k ∧ num = .int .i64 y ∧ 0 ≤ y ∧ y ≤ 46656 ∧ Hid (digL l x = ds ++ digL (l.drop k) y) ∧ OwnI wr (w.heap.size + 2) 3 D k dc ds ∧
    Blk wr (w.heap.size + 1) 24 #[.slice D k dc, .int .i64 0] ∧ Blk wr w.heap.size 24 #[.slice none 0 0, .int .i64 0] ∧ Below w.heap.size w wr) (fun _ i _ => n - (intOf i).toNat)
  case atStart => exact ⟨0, x, none, 0, [], Nat.zero_le _, rfl, rfl, hx.1, by omega, Lib.hid rfl, OwnI.nil_, by have := Blk.new (w.alloc (.cells #[.slice none 0 0, .int .i64 0] 24)) 24 #[.slice none 0 0, .int .i64 0]; rwa [World.size_alloc] at this, (Blk.new w _ _).alloc _, ballocs (bbox _) _⟩
  case round =>
    obtain ⟨k, y, D, dc, ds, hk, rfl, rfl, hy0, hy1, HD, hown, hT, hR, hbr⟩ := hrel
    have hlr : w.heap.size + 2 ≤ wr.heap.size := hT.lt
    by_cases hlt : k < n
    · obtain ⟨b', off, rfl, hb', hcell⟩ := h.2 (by omega)
      have hck := (hbr.cell (p := ⟨b', off + k, none⟩) hb').trans (hcell k hlt)
      clear hcell
      have hm := smallL_at HS.out (k := k) (by rw [HL.out]; exact hlt)
      have HD2 := Lib.hid (digL_step HD.out (by rw [HL.out]; exact hlt))
      generalize l.getD k 0 = m at *
      have hc0 : wr.cell? ⟨w.heap.size + 1, 0, none⟩ = some (.slice D k dc) := (hT.cell 0).trans rfl
      have hf0 := hT.frozen 0
      have hyd : 0 ≤ y / m ∧ y / m ≤ y := ⟨Int.ediv_nonneg hy0 (by omega), Int.ediv_le_self _ hy0⟩
      have hm0 : ¬ m = 0 := by omega
      have hc0' : (wr.alloc (.cells #[.int .i64 (y.tmod m)] 3)).cell? ⟨w.heap.size + 1, 0, none⟩ = some (.slice D k dc) := ((hT.alloc _).cell 0).trans rfl
      have HTM : Hid (y.tmod m = y % m) := Lib.hid (Int.tmod_eq_emod_of_nonneg hy0)
      go_wp2_with fail
      go_region_law (refine step_append_own (w := wr.drew.alloc (.cells #[.int .i64 (y.tmod m)] 3)) rfl (.tmp 35) (.tmp 39) 22 rfl (w.heap.size + 2) 3 i0 _ Try.underlying22 hi0 hz0 hz1 hz2 rfl D k dc ds (hown.drew.alloc _) (by simp [Act.eval]) wr.heap.size 1 (y.tmod m) (by simp [Act.eval]) (Ints.oneAt _ _ _ _ rfl) (by omega) (le_alloc hlr _) ?_; intro A2 c2 w2 hown2 hbw2; have hbx := ((Below.refl (w.heap.size + 2) wr).drew.alloc hlr (.cells #[.int .i64 (y.tmod m)] 3)).trans hbw2; have hT2 := hT.below hbx (by omega); have hR2 := hR.below hbx (by omega); have hg0 : w2.cell? ⟨w.heap.size + 1, 0, none⟩ = some (.slice D k dc) := (hT2.cell 0).trans rfl; have hgf := hT2.frozen 0)
      all_goals have hT3 := hT2.set_ 0 (.slice A2 (k + 1) c2)
      all_goals have hS3 := (Step.refl (w.heap.size + 1) w2).set 0 (.slice A2 (k + 1) c2)
      all_goals have hR3 := Step.block hS3 hR2 (by omega)
      all_goals have hown3 := hown2.step hS3 (by omega)
      all_goals have hb3 := Step.below (hbr.trans (hbx.mono (by omega))) hS3 (hbr.trans (hbx.mono (by omega))).size (by omega)
      all_goals rw [HTM.out] at hown3
      all_goals go_wp2
      all_goals go_roundw
      all_goals first
        | exact ⟨k + 1, y / m, A2, c2, ds ++ [y % m], by omega, by go_num, rfl, hyd.1, by omega, HD2, hown3, hT3, hR3, hb3⟩
        | (simp [intOf]; omega)
    · have hkn : k = n := by omega
      subst hkn
      have HF : Hid (digL l x = ds) := Lib.hid (by have := HD.out; rwa [← HL.out, List.drop_length, digL, List.append_nil] at this)
      rw [← HF.out] at hown
      clear HD HF
      have hc0 : wr.cell? ⟨w.heap.size + 1, 0, none⟩ = some (.slice D k dc) := (hT.cell 0).trans rfl
      have hc1 : wr.cell? ⟨w.heap.size + 1, 1, none⟩ = some (.int .i64 0) := (hT.cell 1).trans rfl
      have hr0 : wr.cell? ⟨w.heap.size, 0, none⟩ = some (.slice none 0 0) := (hR.cell 0).trans rfl
      have hr1 : wr.cell? ⟨w.heap.size, 1, none⟩ = some (.int .i64 0) := (hR.cell 1).trans rfl
      have hf0 := hR.frozen 0
      have hf1 := hR.frozen 1
      go_wp2
      have hR5 := blk_two (v0 := .slice D k dc) (v1 := .int .i64 0) hR
      have hS5 := ((Step.refl w.heap.size wr).set 0 (.slice D k dc)).set 1 (.int .i64 0)
      have hy0 := (hR5.cell 0).trans rfl
      have hy1 := (hR5.cell 1).trans rfl
      exact bodyPost_ret (v := .tuple #[.agg #[.slice D k dc, .int .i64 0], .int .i64 0]) (by simp [results, Try.results113, go_sem, hy0, hy1]) rfl
        ⟨⟨D, dc, rfl, (hown.step hS5 (by omega)).base (by omega)⟩, below_two hbr (Nat.le_refl _) _ _⟩

end Go.Proofs.Ytdklcgpjdajkmaa
