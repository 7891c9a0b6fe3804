/-
  What tape's bounded, Count, At, Number, Seeded and Left hand back. Conditions: the lists read as their numbers, the limits are few and small, where a name ends in ok.
-/
import Derived.Test.YtpkieikiakikmaaTape
import Derived.Test.YtpkieikiakikmaaTapeM
import Derived.Test.YtpkieikiakikmaaCut
import Derived.Test.YtpkieikiakikmaaOrder
import Derived.Deep.RegionLaw
namespace Go.Proofs.Ytpkieikiakikmaa
open Go.RowKit
set_option linter.unusedVariables false

theorem left_any (A : Option Addr) (m c : Nat) (a : Int) (w : World) (hv : validT m a = true) :
    Calls Try.prog 20 #[.agg #[.slice A m c, .int .i64 a]] w fun e w' => e = .returned (.tuple #[.int .i64 (m - a), .int .i64 0]) ∧ Below w.heap.size w w' := by
  have hvd := validT_iff.1 hv
  have HV := Lib.hid hv
  clear hv
  go_enter Try.func20, Try.ntmps20
  go_wp2_with (go_at_call 55; refine (valid_any A m c a _).mono ?_; rintro e w1 ⟨rfl, hb1⟩; rw [HV.out]
               have hbb1 := bnext (bbox _) hb1
               have hO := (Blk.new w 24 #[.slice A m c, .int .i64 a]).below hb1 (by simp)
               have hx0 : w1.cell? ⟨w.heap.size, 0, none⟩ = some (.slice A m c) := (hO.cell 0).trans rfl
               have hx1 : w1.cell? ⟨w.heap.size, 1, none⟩ = some (.int .i64 a) := (hO.cell 1).trans rfl)
  go_ret2
  exact ⟨rfl, hbb1⟩

/-- The closure in bounded. -/
theorem lim1_any (a : Int) (w : World) : Calls Try.prog 78 #[.int .i64 a] w fun e w' => e = .returned (.bool (!limT a)) ∧ w = w' := by
  go_enter Try.func78, Try.ntmps78
  go_wp2_with (go_at_call 58; refine (limit_any a _).mono ?_; rintro e w' ⟨rfl, rfl⟩)
  go_ret
  exact ⟨rfl, rfl⟩

theorem limAll_append {xs ys : List Int} : (xs ++ ys).all limT = true ↔ xs.all limT = true ∧ ys.all limT = true := by simp

theorem indexLim_any (A : Option Addr) (n c : Nat) (xs : List Int) (w : World) {B : Nat} (h : Ints w B A n xs) (hn : n ≤ 4611686018427387904) :
    Calls Try.prog 85 #[.slice A n c, .func (.func 78) #[] #[]] w fun e w' =>
      (∃ i : Int, e = .returned (.int .i64 i) ∧ (0 ≤ i ↔ xs.all limT = false)) ∧ w = w' := by
  obtain ⟨hl, hc⟩ := h
  have HL := Lib.hid hl
  clear hl
  obtain ⟨al, HAL⟩ : ∃ al, Hid (xs.all limT = al) := ⟨_, Lib.hid rfl⟩
  rw [HAL.out]
  go_enter Try.func85, Try.ntmps85
  go_wp2
  go_loop [8] (fun i => ∃ k : Nat, k ≤ n ∧ i = .int .i64 k ∧ Hid ((xs.take k).all limT = true)) (fun i => n - (intOf i).toNat)
  case atStart => exact ⟨0, Nat.zero_le _, rfl, Lib.hid rfl⟩
  case round =>
    obtain ⟨k, hk, rfl, HA⟩ := hrel
    by_cases hlt : k < n
    · obtain ⟨b', off, rfl, hb', hcell⟩ := hc (by omega)
      have hck := hcell k hlt
      clear hc hcell
      have HT := Lib.hid (take_snoc_int xs k (by rw [HL.out]; exact hlt))
      generalize xs.getD k 0 = x at *
      by_cases hx : limT x = true
      · go_wp2_with (go_at_call 78; refine (lim1_any x _).mono ?_; rintro e w' ⟨rfl, rfl⟩)
        go_round
        case rel => exact ⟨k + 1, by omega, by go_num, Lib.hid (by rw [HT.out, limAll_append]; exact ⟨HA.out, by simp [hx]⟩)⟩
        case measure => simp [intOf]; omega
      · have hx' : limT x = false := by simpa using hx
        clear hx
        go_wp2_with (go_at_call 78; refine (lim1_any x _).mono ?_; rintro e w' ⟨rfl, rfl⟩)
        go_ret
        refine ⟨⟨k, rfl, fun _ => ?_, fun _ => by omega⟩, rfl⟩
        rw [← Bool.not_eq_true]
        intro ha
        rw [← HAL.out] at ha
        have hs : (xs.take (k + 1)).all limT = true := List.all_eq_true.2 fun u hu => List.all_eq_true.1 ha u (List.mem_of_mem_take hu)
        rw [HT.out, limAll_append] at hs
        have := hs.2
        simp [hx'] at this
    · go_wp2
      go_ret
      refine ⟨⟨-1, rfl, fun h => by omega, fun h => ?_⟩, rfl⟩
      have := HA.out
      rw [List.take_of_length_le (by rw [HL.out]; omega), HAL.out, h] at this
      cases this

theorem containsLim_any (A : Option Addr) (n c : Nat) (xs : List Int) (w : World) {B : Nat} (h : Ints w B A n xs) (hn : n ≤ 4611686018427387904) :
    Calls Try.prog 77 #[.slice A n c, .func (.func 78) #[] #[]] w fun e w' =>
      e = .returned (.bool (!xs.all limT)) ∧ w = w' := by
  go_enter Try.func77, Try.ntmps77
  go_wp2_with (go_at_call 85; refine (indexLim_any A n c xs _ h hn).mono ?_; rintro e w' ⟨⟨i, rfl, hi⟩, rfl⟩; have HI := Lib.hid hi; clear hi)
  go_ret
  refine ⟨ret_bool ?_, rfl⟩
  show decide (0 ≤ i) = _
  rw [Bool.eq_iff_iff, decide_eq_true_eq, HI.out]
  simp

theorem bounded_any (A : Option Addr) (n c : Nat) (xs : List Int) (w : World) {B : Nat} (h : Ints w B A n xs) (hn : n ≤ 4611686018427387904) :
    Calls Try.prog 61 #[.slice A n c] w fun e w' => e = .returned (.bool (boundL n xs)) ∧ w = w' := by
  obtain ⟨al, HAL⟩ : ∃ al, Hid (xs.all limT = al) := ⟨_, Lib.hid rfl⟩
  go_enter Try.func61, Try.ntmps61
  go_wp2_with (go_at_call 77; refine (containsLim_any A n c xs _ h hn).mono ?_; rintro e w' ⟨rfl, rfl⟩; rw [HAL.out])
  all_goals go_ret
  all_goals refine ⟨ret_bool ?_, rfl⟩
  all_goals unfold boundL
  all_goals rw [HAL.out]
  · rw [decide_eq_true (by omega)]; simp
  · rw [decide_eq_false (by omega)]; simp

set_option maxHeartbeats 400000 in
set_option maxRecDepth 100000 in
/-- Count of few and small limits. -/
theorem count_ok (A : Option Addr) (n c : Nat) (l : List Int) (w : World) {B : Nat} (h : Ints w B A n l) (hs : smallL l) :
    Calls Try.prog 31 #[.slice A n c] w fun e w' => e = .returned (.tuple #[.int .i64 (prodL l), .int .i64 0]) ∧ w = w' := by
  have HL := Lib.hid h.len
  have HS := Lib.hid hs
  have hn6 : n ≤ 6 := by have := hs.1; rw [HL.out] at this; exact this
  have HB : Hid (boundL n l = true) := Lib.hid (by rw [← HL.out]; exact smallL_bound HS.out)
  clear hs
  go_enter Try.func31, Try.ntmps31
  go_wp2_with (go_at_call 61; refine (bounded_any A n c l _ h (by omega)).mono ?_; rintro e w' ⟨rfl, rfl⟩; rw [HB.out])
  go_loop [4, 12] (fun p i => ∃ k : Nat, k ≤ n ∧ i = .int .i64 k ∧ p = .int .i64 (prodL (l.take k))) (fun _ i => n - (intOf i).toNat)
  case atStart => exact ⟨0, Nat.zero_le _, rfl, rfl⟩
  case round =>
    obtain ⟨k, hk, rfl, rfl⟩ := hrel
    by_cases hlt : k < n
    · obtain ⟨b', off, rfl, hb', hcell⟩ := h.2 (by omega)
      have hck := hcell k hlt
      clear hcell
      have HT := Lib.hid (take_snoc_int l k (by rw [HL.out]; exact hlt))
      have hx := smallL_at HS.out (k := k) (by rw [HL.out]; exact hlt)
      have hp := smallL_prod (smallL_take HS.out k)
      have HP : Hid (prodL (l.take (k + 1)) = prodL (l.take k) * l.getD k 0) := Lib.hid (by rw [HT.out, prodL_snoc])
      generalize l.getD k 0 = x at *
      generalize prodL (l.take k) = p at *
      have hm : 1 ≤ p * x ∧ p * x ≤ 46656 * 6 := ⟨by have := Int.mul_le_mul hp.1 hx.1 (by omega) (by omega); omega, Int.mul_le_mul (by omega) hx.2 (by omega) (by omega)⟩
      have hq : p ≤ 1099511627776 / x := Int.le_ediv_of_mul_le (by omega) (by omega)
      have hq2 : p ≤ (1099511627776 : Int).tdiv x := by rw [Int.tdiv_eq_ediv_of_nonneg (by omega)]; exact hq
      go_wp2
      go_round
      case rel => exact ⟨k + 1, by omega, by go_num, by rw [HP.out]⟩
      case measure => simp [intOf]; omega
    · have hkn : k = n := by omega
      subst hkn
      have HE : Hid (l.take k = l) := Lib.hid (List.take_of_length_le (by rw [HL.out]; omega))
      rw [HE.out]
      go_wp2
      go_ret2
      exact ⟨rfl, rfl⟩

theorem digL_step {l ds : List Int} {x y : Int} {k : Nat} (h : digL l x = ds ++ digL (l.drop k) y) (hk : k < l.length) : digL l x = (ds ++ [y % l.getD k 0]) ++ digL (l.drop (k + 1)) (y / l.getD k 0) := by
  rw [h, drop_cons l k hk]; simp [digL]

set_option maxHeartbeats 800000 in
set_option maxRecDepth 100000 in
/-- At, of few and small limits. -/
theorem at_ok (A : Option Addr) (n c : Nat) (l : List Int) (x : Int) (w : World) (h : Ints w w.heap.size A n l) (hs : smallL l) (hx : 0 ≤ x ∧ x < prodL l) :
    Calls Try.prog 32 #[.slice A n c, .int .i64 x] w fun e w' => (∃ D dc, e = .returned (.tuple #[.agg #[.slice D n dc, .int .i64 0], .int .i64 0]) ∧ OwnI w' w.heap.size 3 D n dc (digL l x)) ∧ Below w.heap.size w w' := by
  obtain ⟨i0, hi0, hz0, hz1, hz2⟩ := info_parts info_int
  have HL := Lib.hid h.len
  have HS := Lib.hid hs
  have hn6 : n ≤ 6 := by have := hs.1; rw [HL.out] at this; exact this
  have hP := smallL_prod hs
  obtain ⟨P, HPP⟩ : ∃ P, Hid (prodL l = P) := ⟨_, Lib.hid rfl⟩
  rw [HPP.out] at hx hP
  clear hs
  go_enter Try.func32, Try.ntmps32
  go_wp2_with (go_at_call 31; refine (count_ok A n c l _ (h.alloc (Nat.le_refl _) _) HS.out).mono ?_; rintro e w' ⟨rfl, rfl⟩; rw [HPP.out])
  go_loopw [1, 30] (fun num i wr => ∃ (k : Nat) (y : Int) (D : Option Addr) (dc : Nat) (ds : List Int), k ≤ n ∧ i = .int .i64 k ∧ num = .int .i64 y ∧ 0 ≤ y ∧ y ≤ 46656 ∧ Hid (digL l x = ds ++ digL (l.drop k) y) ∧ OwnI wr (w.heap.size + 2) 3 D k dc ds ∧
    Blk wr (w.heap.size + 1) 24 #[.slice D k dc, .int .i64 0] ∧ Blk wr w.heap.size 24 #[.slice none 0 0, .int .i64 0] ∧ Below w.heap.size w wr) (fun _ i _ => n - (intOf i).toNat)
  case atStart => exact ⟨0, x, none, 0, [], Nat.zero_le _, rfl, rfl, hx.1, by omega, Lib.hid rfl, OwnI.nil_, by have := Blk.new (w.alloc (.cells #[.slice none 0 0, .int .i64 0] 24)) 24 #[.slice none 0 0, .int .i64 0]; rwa [World.size_alloc] at this, (Blk.new w _ _).alloc _, ballocs (bbox _) _⟩
  case round =>
    obtain ⟨k, y, D, dc, ds, hk, rfl, rfl, hy0, hy1, HD, hown, hT, hR, hbr⟩ := hrel
    have hlr : w.heap.size + 2 ≤ wr.heap.size := hT.lt
    by_cases hlt : k < n
    · obtain ⟨b', off, rfl, hb', hcell⟩ := h.2 (by omega)
      have hck := (hbr.cell (p := ⟨b', off + k, none⟩) hb').trans (hcell k hlt)
      clear hcell
      have hm := smallL_at HS.out (k := k) (by rw [HL.out]; exact hlt)
      have HD2 := Lib.hid (digL_step HD.out (by rw [HL.out]; exact hlt))
      generalize l.getD k 0 = m at *
      have hc0 : wr.cell? ⟨w.heap.size + 1, 0, none⟩ = some (.slice D k dc) := (hT.cell 0).trans rfl
      have hf0 := hT.frozen 0
      have hyd : 0 ≤ y / m ∧ y / m ≤ y := ⟨Int.ediv_nonneg hy0 (by omega), Int.ediv_le_self _ hy0⟩
      have hm0 : ¬ m = 0 := by omega
      have hc0' : (wr.alloc (.cells #[.int .i64 (y.tmod m)] 3)).cell? ⟨w.heap.size + 1, 0, none⟩ = some (.slice D k dc) := ((hT.alloc _).cell 0).trans rfl
      have HTM : Hid (y.tmod m = y % m) := Lib.hid (Int.tmod_eq_emod_of_nonneg hy0)
      go_wp2_with fail
      go_region_law (refine step_append_own (w := wr.drew.alloc (.cells #[.int .i64 (y.tmod m)] 3)) rfl (.tmp 35) (.tmp 39) 22 rfl (w.heap.size + 2) 3 i0 _ Try.underlying22 hi0 hz0 hz1 hz2 rfl D k dc ds (hown.drew.alloc _) (by simp [Act.eval]) wr.heap.size 1 (y.tmod m) (by simp [Act.eval]) (Ints.oneAt _ _ _ _ rfl) (by omega) (le_alloc hlr _) ?_; intro A2 c2 w2 hown2 hbw2; have hbx := ((Below.refl (w.heap.size + 2) wr).drew.alloc hlr (.cells #[.int .i64 (y.tmod m)] 3)).trans hbw2; have hT2 := hT.below hbx (by omega); have hR2 := hR.below hbx (by omega); have hg0 : w2.cell? ⟨w.heap.size + 1, 0, none⟩ = some (.slice D k dc) := (hT2.cell 0).trans rfl; have hgf := hT2.frozen 0)
      all_goals have hT3 := hT2.set_ 0 (.slice A2 (k + 1) c2)
      all_goals have hS3 := (Step.refl (w.heap.size + 1) w2).set 0 (.slice A2 (k + 1) c2)
      all_goals have hR3 := Step.block hS3 hR2 (by omega)
      all_goals have hown3 := hown2.step hS3 (by omega)
      all_goals have hb3 := Step.below (hbr.trans (hbx.mono (by omega))) hS3 (hbr.trans (hbx.mono (by omega))).size (by omega)
      all_goals rw [HTM.out] at hown3
      all_goals go_wp2
      all_goals go_roundw
      all_goals first
        | exact ⟨k + 1, y / m, A2, c2, ds ++ [y % m], by omega, by go_num, rfl, hyd.1, by omega, HD2, hown3, hT3, hR3, hb3⟩
        | (simp [intOf]; omega)
    · have hkn : k = n := by omega
      subst hkn
      have HF : Hid (digL l x = ds) := Lib.hid (by have := HD.out; rwa [← HL.out, List.drop_length, digL, List.append_nil] at this)
      rw [← HF.out] at hown
      clear HD HF
      have hc0 : wr.cell? ⟨w.heap.size + 1, 0, none⟩ = some (.slice D k dc) := (hT.cell 0).trans rfl
      have hc1 : wr.cell? ⟨w.heap.size + 1, 1, none⟩ = some (.int .i64 0) := (hT.cell 1).trans rfl
      have hr0 : wr.cell? ⟨w.heap.size, 0, none⟩ = some (.slice none 0 0) := (hR.cell 0).trans rfl
      have hr1 : wr.cell? ⟨w.heap.size, 1, none⟩ = some (.int .i64 0) := (hR.cell 1).trans rfl
      have hf0 := hR.frozen 0
      have hf1 := hR.frozen 1
      go_wp2
      have hR5 := blk_two (v0 := .slice D k dc) (v1 := .int .i64 0) hR
      have hS5 := ((Step.refl w.heap.size wr).set 0 (.slice D k dc)).set 1 (.int .i64 0)
      have hy0 := (hR5.cell 0).trans rfl
      have hy1 := (hR5.cell 1).trans rfl
      exact bodyPost_ret (v := .tuple #[.agg #[.slice D k dc, .int .i64 0], .int .i64 0]) (by simp [results, Try.results32, go_sem, hy0, hy1]) rfl
        ⟨⟨D, dc, rfl, (hown.step hS5 (by omega)).base (by omega)⟩, below_two hbr (Nat.le_refl _) _ _⟩

set_option maxHeartbeats 800000 in
set_option maxRecDepth 100000 in
/-- Number, of few and small limits, of numbers below them. -/
theorem number_ok (A B : Option Addr) (n c d : Nat) (l ds : List Int) (w : World) (h : Ints w w.heap.size A n l) (h2 : Ints w w.heap.size B n ds) (hs : smallL l) (hd : ∀ k, k < n → 0 ≤ ds.getD k 0 ∧ ds.getD k 0 < l.getD k 0) :
    Calls Try.prog 33 #[.slice A n c, .agg #[.slice B n d, .int .i64 0]] w fun e w' => e = .returned (.tuple #[.int .i64 (numL l ds), .int .i64 0]) ∧ Below w.heap.size w w' := by
  have HL := Lib.hid h.len
  have HM := Lib.hid h2.len
  have HS := Lib.hid hs
  have HD := Lib.hid hd
  have hn6 : n ≤ 6 := by have := hs.1; rw [HL.out] at this; exact this
  have HV : Hid (validT n 0 = true) := Lib.hid (validT_iff.2 (by omega))
  clear hs hd
  go_enter Try.func33, Try.ntmps33
  go_wp2_with (first
    | (go_at_call 31; refine (count_ok A n c l _ (h.alloc (Nat.le_refl _) _) HS.out).mono ?_; rintro e w' ⟨rfl, rfl⟩)
    | (go_at_call 55; refine (valid_any B n d 0 _).mono ?_; rintro e w1 ⟨rfl, hb1⟩; rw [HV.out]
       have hbb1 := bnext (bbox _) hb1
       have hO := (Blk.new w 24 #[.slice B n d, .int .i64 0]).below hb1 (by simp)
       have hx0 : w1.cell? ⟨w.heap.size, 0, none⟩ = some (.slice B n d) := (hO.cell 0).trans rfl
       have hx1 : w1.cell? ⟨w.heap.size, 1, none⟩ = some (.int .i64 0) := (hO.cell 1).trans rfl))
  go_loop [8, 9] (fun num i => ∃ j : Nat, j ≤ n ∧ i = .int .i64 ((j : Int) - 1) ∧ num = .int .i64 (numL (l.drop j) (ds.drop j))) (fun _ i => (intOf i + 1).toNat)
  case atStart => exact ⟨n, Nat.le_refl _, rfl, by rw [← HL.out, List.drop_length]; rfl⟩
  case round =>
    obtain ⟨j, hj, rfl, rfl⟩ := hrel
    by_cases hj0 : 0 < j
    · obtain ⟨k, rfl⟩ : ∃ k, j = k + 1 := ⟨j - 1, by omega⟩
      obtain ⟨b1, o1, rfl, hb1', hc1⟩ := h.2 (by omega)
      obtain ⟨b2, o2, rfl, hb2', hc2⟩ := h2.2 (by omega)
      have hr1 := (hbb1.cell (p := ⟨b1, o1 + k, none⟩) hb1').trans (hc1 k (by omega))
      have hr2 := (hbb1.cell (p := ⟨b2, o2 + k, none⟩) hb2').trans (hc2 k (by omega))
      clear hc1 hc2
      have hm := smallL_at HS.out (k := k) (by rw [HL.out]; omega)
      have hdk := HD.out k (by omega)
      have HN := Lib.hid (numL_drop l ds (by rw [HL.out, HM.out]) k (by rw [HL.out]; omega))
      have hbd := numL_bd (l.drop (k + 1)) (ds.drop (k + 1)) (fun x hx => HS.out.2 x (List.mem_of_mem_drop hx)) (by simp [HL.out, HM.out]) (fun i hi => by
        have := HD.out (k + 1 + i) (by rw [List.length_drop, HL.out] at hi; omega)
        simpa [List.getD_eq_getElem?_getD, List.getElem?_drop] using this)
      have hpp := smallL_prod (l := l.drop (k + 1)) ⟨by rw [List.length_drop]; have := HS.out.1; omega, fun x hx => HS.out.2 x (List.mem_of_mem_drop hx)⟩
      generalize numL (l.drop (k + 1)) (ds.drop (k + 1)) = num at *
      generalize l.getD k 0 = m at *
      generalize ds.getD k 0 = x at *
      have hmm : 0 ≤ num * m ∧ num * m ≤ 46656 * 6 := ⟨Int.mul_nonneg hbd.1 (by omega), Int.mul_le_mul (by omega) hm.2 (by omega) (by omega)⟩
      have hkk : ((k + 1 : Nat) : Int) - 1 = k := by omega
      rw [hkk]
      have hk0 : (0 : Int) ≤ (k : Int) := by omega
      have hk1 : (k : Int) < (n : Int) := by omega
      go_wp2
      go_round
      case rel => exact ⟨k, by omega, by go_num, by rw [HN.out]⟩
      case measure => simp [intOf]
    · obtain rfl : j = 0 := by omega
      have HF : Hid (numL (l.drop 0) (ds.drop 0) = numL l ds) := Lib.hid rfl
      rw [HF.out]
      go_wp2
      go_ret2
      exact ⟨rfl, hbb1⟩

theorem seedL_step {l ds : List Int} {x y : Int} {k : Nat} (h : seedL x l = ds ++ seedL y (l.drop k)) (hk : k < l.length) : seedL x l = (ds ++ [y * 48271 % 2147483647 % l.getD k 0]) ++ seedL (y * 48271 % 2147483647) (l.drop (k + 1)) := by
  rw [h, drop_cons l k hk]; simp [seedL]

set_option maxHeartbeats 800000 in
set_option maxRecDepth 100000 in
/-- Seeded, of few and small limits. -/
theorem seeded_ok (A : Option Addr) (n c : Nat) (l : List Int) (x : Int) (w : World) (h : Ints w w.heap.size A n l) (hs : smallL l) (hx : 1 ≤ x ∧ x < 2147483647) :
    Calls Try.prog 34 #[.int .i64 x, .slice A n c] w fun e w' => (∃ D dc, e = .returned (.tuple #[.agg #[.slice D n dc, .int .i64 0], .int .i64 0]) ∧ OwnI w' w.heap.size 3 D n dc (seedL x l)) ∧ Below w.heap.size w w' := by
  obtain ⟨i0, hi0, hz0, hz1, hz2⟩ := info_parts info_int
  have HL := Lib.hid h.len
  have HS := Lib.hid hs
  have hn6 : n ≤ 6 := by have := hs.1; rw [HL.out] at this; exact this
  have HB : Hid (boundL n l = true) := Lib.hid (by rw [← HL.out]; exact smallL_bound HS.out)
  clear hs
  go_enter Try.func34, Try.ntmps34
  go_wp2_with (go_at_call 61; refine (bounded_any A n c l _ (h.alloc (Nat.le_refl _) _) (by omega)).mono ?_; rintro e w' ⟨rfl, rfl⟩; rw [HB.out])
  go_loopw [0, 22] (fun num i wr => ∃ (k : Nat) (y : Int) (D : Option Addr) (dc : Nat) (ds : List Int), k ≤ n ∧ i = .int .i64 k ∧ num = .int .i64 y ∧ 0 ≤ y ∧ y < 2147483647 ∧ Hid (seedL x l = ds ++ seedL y (l.drop k)) ∧ OwnI wr (w.heap.size + 2) 3 D k dc ds ∧
    Blk wr (w.heap.size + 1) 24 #[.slice D k dc, .int .i64 0] ∧ Blk wr w.heap.size 24 #[.slice none 0 0, .int .i64 0] ∧ Below w.heap.size w wr) (fun _ i _ => n - (intOf i).toNat)
  case atStart => exact ⟨0, x, none, 0, [], Nat.zero_le _, rfl, rfl, by omega, hx.2, Lib.hid rfl, OwnI.nil_, by have := Blk.new (w.alloc (.cells #[.slice none 0 0, .int .i64 0] 24)) 24 #[.slice none 0 0, .int .i64 0]; rwa [World.size_alloc] at this, (Blk.new w _ _).alloc _, ballocs (bbox _) _⟩
  case round =>
    obtain ⟨k, y, D, dc, ds, hk, rfl, rfl, hy0, hy1, HD, hown, hT, hR, hbr⟩ := hrel
    have hlr : w.heap.size + 2 ≤ wr.heap.size := hT.lt
    by_cases hlt : k < n
    · obtain ⟨b', off, rfl, hb', hcell⟩ := h.2 (by omega)
      have hck := (hbr.cell (p := ⟨b', off + k, none⟩) hb').trans (hcell k hlt)
      clear hcell
      have hm := smallL_at HS.out (k := k) (by rw [HL.out]; exact hlt)
      have HD2 := Lib.hid (seedL_step HD.out (by rw [HL.out]; exact hlt))
      generalize l.getD k 0 = m at *
      have hc0 : wr.cell? ⟨w.heap.size + 1, 0, none⟩ = some (.slice D k dc) := (hT.cell 0).trans rfl
      have hf0 := hT.frozen 0
      obtain ⟨z, hz⟩ : ∃ z, y * 48271 % 2147483647 = z := ⟨_, rfl⟩
      have hzz : 0 ≤ z ∧ z < 2147483647 := by omega
      rw [hz] at HD2
      have hm0 : ¬ m = 0 := by omega
      have hc0' : (wr.alloc (.cells #[.int .i64 (z.tmod m)] 3)).cell? ⟨w.heap.size + 1, 0, none⟩ = some (.slice D k dc) := ((hT.alloc _).cell 0).trans rfl
      have HTM : Hid (z.tmod m = z % m) := Lib.hid (Int.tmod_eq_emod_of_nonneg hzz.1)
      go_wp2_with fail
      rw [hz]
      go_region_law (refine step_append_own (w := wr.drew.alloc (.cells #[.int .i64 (z.tmod m)] 3)) rfl (.tmp 30) (.tmp 34) 22 rfl (w.heap.size + 2) 3 i0 _ Try.underlying22 hi0 hz0 hz1 hz2 rfl D k dc ds (hown.drew.alloc _) (by simp [Act.eval]) wr.heap.size 1 (z.tmod m) (by simp [Act.eval]) (Ints.oneAt _ _ _ _ rfl) (by omega) (le_alloc hlr _) ?_; intro A2 c2 w2 hown2 hbw2; have hbx := ((Below.refl (w.heap.size + 2) wr).drew.alloc hlr (.cells #[.int .i64 (z.tmod m)] 3)).trans hbw2; have hT2 := hT.below hbx (by omega); have hR2 := hR.below hbx (by omega); have hg0 : w2.cell? ⟨w.heap.size + 1, 0, none⟩ = some (.slice D k dc) := (hT2.cell 0).trans rfl; have hgf := hT2.frozen 0)
      all_goals have hT3 := hT2.set_ 0 (.slice A2 (k + 1) c2)
      all_goals have hS3 := (Step.refl (w.heap.size + 1) w2).set 0 (.slice A2 (k + 1) c2)
      all_goals have hR3 := Step.block hS3 hR2 (by omega)
      all_goals have hown3 := hown2.step hS3 (by omega)
      all_goals have hb3 := Step.below (hbr.trans (hbx.mono (by omega))) hS3 (hbr.trans (hbx.mono (by omega))).size (by omega)
      all_goals rw [HTM.out] at hown3
      all_goals go_wp2
      all_goals go_roundw
      all_goals first
        | exact ⟨k + 1, z, A2, c2, ds ++ [z % m], by omega, by go_num, rfl, hzz.1, hzz.2, HD2, hown3, hT3, hR3, hb3⟩
        | (simp [intOf]; omega)
    · have hkn : k = n := by omega
      subst hkn
      have HF : Hid (seedL x l = ds) := Lib.hid (by have := HD.out; rwa [← HL.out, List.drop_length, seedL, List.append_nil] at this)
      rw [← HF.out] at hown
      clear HD HF
      have hc0 : wr.cell? ⟨w.heap.size + 1, 0, none⟩ = some (.slice D k dc) := (hT.cell 0).trans rfl
      have hc1 : wr.cell? ⟨w.heap.size + 1, 1, none⟩ = some (.int .i64 0) := (hT.cell 1).trans rfl
      have hr0 : wr.cell? ⟨w.heap.size, 0, none⟩ = some (.slice none 0 0) := (hR.cell 0).trans rfl
      have hr1 : wr.cell? ⟨w.heap.size, 1, none⟩ = some (.int .i64 0) := (hR.cell 1).trans rfl
      have hf0 := hR.frozen 0
      have hf1 := hR.frozen 1
      go_wp2
      have hR5 := blk_two (v0 := .slice D k dc) (v1 := .int .i64 0) hR
      have hS5 := ((Step.refl w.heap.size wr).set 0 (.slice D k dc)).set 1 (.int .i64 0)
      have hy0 := (hR5.cell 0).trans rfl
      have hy1 := (hR5.cell 1).trans rfl
      exact bodyPost_ret (v := .tuple #[.agg #[.slice D k dc, .int .i64 0], .int .i64 0]) (by simp [results, Try.results34, go_sem, hy0, hy1]) rfl
        ⟨⟨D, dc, rfl, (hown.step hS5 (by omega)).base (by omega)⟩, below_two hbr (Nat.le_refl _) _ _⟩

end Go.Proofs.Ytpkieikiakikmaa
