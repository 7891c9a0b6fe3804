/-
  What the functions of tape hand back: limit, valid, next, draw, Draws, Draw, Left, Same, and slices.Equal and slices.Clone. Conditions: the lists read as their numbers.
-/
import Derived.Test.YtdklcgpjdajkmaaBase
import Derived.Test.YtdklcgpjdajkmaaTapeA
import Derived.Test.YtdklcgpjdajkmaaDeck
import Derived.Deep.RegionHeld3
import Derived.BigQuiet
namespace Go.Proofs.Ytdklcgpjdajkmaa
open Go.RowKit
set_option linter.unusedVariables false

theorem limit_any (n : Int) (w : World) :
    Calls Try.prog 117 #[.int .i64 n] w fun e w' => e = .returned (.bool (limT n)) ∧ w = w' := by
  go_enter Try.func117, Try.ntmps117
  go_wp2
  all_goals go_ret
  all_goals exact ⟨ret_bool (by unfold limT; rw [Bool.eq_iff_iff]; simp; try omega), rfl⟩

theorem valid_any (A : Option Addr) (m c : Nat) (a : Int) (w : World) :
    Calls Try.prog 114 #[.agg #[.slice A m c, .int .i64 a]] w fun e w' => e = .returned (.bool (validT m a)) ∧ Below w.heap.size w w' := by
  go_enter Try.func114, Try.ntmps114
  go_wp2
  all_goals go_ret
  all_goals exact ⟨ret_bool (by unfold validT; rw [Bool.eq_iff_iff]; simp; try omega), bbox _⟩

set_option maxRecDepth 100000 in
/-- slices.Clone. -/
theorem clone_any (A : Option Addr) (n c : Nat) (xs : List Int) (w : World) (h : Ints w w.heap.size A n xs) (hn : n ≤ 17592186044416) :
    Calls Try.prog 119 #[.slice A n c] w fun e w' => (∃ A' c', e = .returned (.slice A' n c') ∧ OwnI w' w.heap.size 3 A' n c' xs) ∧ Below w.heap.size w w' := by
  obtain ⟨i0, hi0, hz0, hz1, hz2⟩ := info_parts info_int
  have q : ∀ (w : World) (a : Option Addr) (n c n' c' : Nat), (binOp .eql 22 (.slice a n c) (.slice none n' c')).run Try.prog w = .ok (.bool a.isNone) w := fun w a n c n' c' => Lib.run_eql_slice_nil w _ _ a n c n' c' Try.underlying22
  cases A with
  | none =>
    have hn0 : n = 0 := by
      rcases Nat.eq_zero_or_pos n with h0 | h0
      · exact h0
      · obtain ⟨b, off, e, _⟩ := h.2 h0
        cases e
    subst hn0
    go_enter Try.func119, Try.ntmps119
    go_wp2
    go_ret
    have hxs : xs = [] := List.eq_nil_of_length_eq_zero h.len
    exact ⟨⟨none, 0, rfl, by rw [hxs]; exact OwnI.nil_⟩, Below.refl _ _⟩
  | some ad =>
    go_enter Try.func119, Try.ntmps119
    go_wp2_with (
      at_builtin
      refine wpList_append_ints rfl _ _ _ rfl w.heap.size 3 i0 _ Try.underlying22 hi0 hz0 hz1 hz2 rfl (some ⟨w.heap.size, 0, none⟩) 0 0 [] rfl (World.ownsRow_made w #[] 0 (Nat.le_refl _) (by unfold maxLen; omega) rfl) _ _ n _ xs rfl (h.upto (bbox _)) n (by omega) xs rfl (by omega) (by simp) ?_
      intro A2 c2 w2 hown2 _ hbw2 _)
    go_ret
    exact ⟨⟨A2, c2, rfl, hown2⟩, (bbox _).trans hbw2⟩

/-- next: one number of a drawing. -/
theorem tnext_any (gd : Nat) (A : Option Addr) (m c a : Nat) (v : Value) (n : Int) (xs : List Int) (w : World) (hB : Blk w gd 126 #[.slice A m c, .int .i64 a, v]) (hI : Ints w gd A m xs) (ha : a ≤ m) (hm : m ≤ 16384) :
    Calls Try.prog 162 #[.pointer (some ⟨gd, 0, none⟩), .int .i64 n] w fun e w' =>
      e = .returned (.tuple #[.int .i64 (nextV xs n a), .int .i64 (nextE xs n a)]) ∧ Blk w' gd 126 #[.slice A m c, .int .i64 (if nextE xs n a = 0 then (a + 1 : Nat) else a), v] ∧ Step gd w w' ∧ w'.heap.size = w.heap.size := by
  have hc0 : w.cell? ⟨gd, 0, none⟩ = some (.slice A m c) := (hB.cell 0).trans rfl
  have hc1 : w.cell? ⟨gd, 1, none⟩ = some (.int .i64 a) := (hB.cell 1).trans rfl
  have hf1 := hB.frozen 1
  have HL := Lib.hid hI.len
  by_cases hal : a = m
  · subst hal
    have HE : Hid (nextE xs n a = 3) := Lib.hid (by unfold nextE; rw [if_pos (by rw [HL.out])])
    have HV : Hid (nextV xs n a = 0) := Lib.hid (by unfold nextV; rw [HE.out]; rfl)
    rw [HE.out, HV.out]
    go_enter Try.func162, Try.ntmps162
    go_wp2
    go_quiet (fail)
    go_wp2
    go_ret2
    exact ⟨rfl, Blk.drewN hB _, (Step.refl gd w).drewN _, rfl⟩
  obtain ⟨b, off, rfl, hb, hcell⟩ := hI.2 (by omega)
  have hcq := hcell a (by omega)
  clear hcell
  by_cases hbad : xs.getD a 0 < 0 ∨ n ≤ xs.getD a 0
  · have HE : Hid (nextE xs n a = 8) := Lib.hid (by unfold nextE; rw [if_neg (by rw [HL.out]; exact hal), if_pos hbad])
    have HV : Hid (nextV xs n a = 0) := Lib.hid (by unfold nextV; rw [HE.out]; rfl)
    rw [HE.out, HV.out]
    generalize xs.getD a 0 = x at *
    go_enter Try.func162, Try.ntmps162
    go_wp2
    go_quiet (fail)
    go_wp2
    go_quiet (fail)
    go_wp2
    all_goals go_ret2
    all_goals first
      | exact ⟨rfl, Blk.drewN hB _, ((Step.refl gd w).drewN _), rfl⟩
      | (exfalso; omega)
  · have HE : Hid (nextE xs n a = 0) := Lib.hid (by unfold nextE; rw [if_neg (by rw [HL.out]; exact hal), if_neg hbad])
    have HV : Hid (nextV xs n a = xs.getD a 0) := Lib.hid (by unfold nextV; rw [HE.out]; rfl)
    rw [HE.out, HV.out]
    generalize xs.getD a 0 = x at *
    go_enter Try.func162, Try.ntmps162
    go_wp2
    go_quiet (fail)
    go_wp2
    go_quiet (fail)
    go_wp2
    all_goals go_ret2
    all_goals first
      | exact ⟨rfl, Blk.drewN (hB.set_ 1 (.int .i64 ((a : Int) + 1))) _, ((Step.refl gd w).set 1 _).drewN _, by simp [World.setCell]⟩
      | (exfalso; omega)

theorem nextE_lt {xs : List Int} {n : Int} {a m : Nat} (hl : xs.length = m) (ha : a ≤ m) (h : nextE xs n a = 0) : a < m := by
  rcases Nat.lt_or_ge a m with h1 | h1
  · exact h1
  · exfalso
    unfold nextE at h
    rw [if_pos (by omega)] at h
    cases h

set_option maxHeartbeats 800000 in
set_option maxRecDepth 100000 in
/-- draw. -/
theorem draw_any (gd : Nat) (A : Option Addr) (m c a : Nat) (n : Int) (cnt : Nat) (xs : List Int) (w : World) (hB : Blk w gd 126 #[.slice A m c, .int .i64 a, .slice none 0 0]) (hI : Ints w gd A m xs) (ha : a ≤ m) (hm : m ≤ 16384) (hc : (cnt : Int) ≤ 9223372036854775807) :
    Calls Try.prog 118 #[.pointer (some ⟨gd, 0, none⟩), .int .i64 n, .int .i64 cnt] w fun e w' =>
      e = .returned (.int .i64 (drawE xs n a cnt)) ∧ (drawE xs n a cnt = 0 → ∃ D dc, Blk w' gd 126 #[.slice A m c, .int .i64 (a + cnt : Nat), .slice D cnt dc] ∧ OwnI w' (gd + 1) 3 D cnt dc ((xs.drop a).take cnt)) ∧ Step gd w w' := by
  obtain ⟨i0, hi0, hz0, hz1, hz2⟩ := info_parts info_int
  have HL := Lib.hid hI.len
  obtain ⟨er, HE⟩ : ∃ er, Hid (drawE xs n a cnt = er) := ⟨_, Lib.hid rfl⟩
  rw [HE.out]
  go_enter Try.func118, Try.ntmps118
  go_wp2
  go_loopw [7] (fun i wr => ∃ (k : Nat) (D : Option Addr) (dc : Nat), k ≤ cnt ∧ a + k ≤ m ∧ i = .int .i64 k ∧ Blk wr gd 126 #[.slice A m c, .int .i64 (a + k : Nat), .slice D k dc] ∧ OwnI wr w.heap.size 3 D k dc ((xs.drop a).take k) ∧
    Step gd w wr ∧ Hid (drawE xs n (a + k) (cnt - k) = er)) (fun i _ => cnt - (intOf i).toNat)
  case atStart => exact ⟨0, none, 0, Nat.zero_le _, ha, rfl, hB, OwnI.nil_, Step.refl _ _, HE⟩
  case round =>
    obtain ⟨k, D, dc, hk, hak, rfl, hBr, hown, hS, HD⟩ := hrel
    have hlr := hBr.lt
    have hlw := hB.lt
    by_cases hlt : k < cnt
    · have hIr : Ints wr gd A m xs := hI.keep fun p hp => World.cell?_of_block (World.grownBy.block hS p.block (by omega) (fun e => by injection e; omega))
      by_cases he : nextE xs n (a + k) = 0
      · have hlm := nextE_lt HL.out hak he
        have HV : Hid (nextV xs n (a + k) = xs.getD (a + k) 0) := Lib.hid (by unfold nextV; rw [if_pos he])
        have HT := Lib.hid (drop_take_succ xs a k (by rw [HL.out]; exact hlm))
        have HN : Hid (drawE xs n (a + (k + 1)) (cnt - (k + 1)) = er) := Lib.hid (by rw [← HD.out, drawE_step xs n a hlt, if_pos he])
        have HE0 := Lib.hid he
        clear he
        obtain ⟨x, HX⟩ : ∃ x, Hid (xs.getD (a + k) 0 = x) := ⟨_, Lib.hid rfl⟩
        go_wp2_with (first
          | (go_at_call 162; refine (tnext_any gd A m c (a + k) _ n xs _ hBr hIr hak hm).mono ?_; rintro e w1 ⟨rfl, hB1, hS1, hz1⟩
             rw [HE0.out, if_pos rfl] at hB1
             rw [HE0.out, HV.out, HX.out]
             have hl1 : w.heap.size ≤ w1.heap.size := World.grownBy.size (hS.trans hS1)
             have hc2 : w1.cell? ⟨gd, 2, none⟩ = some (.slice D k dc) := (hB1.cell 2).trans rfl
             have hown1 := hown.step hS1 (by omega)
             clear hz1)
          | (at_builtin
             refine wpList_append_ints rfl _ _ _ rfl w.heap.size 3 i0 _ Try.underlying22 hi0 hz0 hz1 hz2 rfl D k dc _ rfl (hown1.alloc _) _ _ 1 1 [x] rfl (Ints.one _ _ _) (k + 1) rfl _ rfl (by omega) (le_alloc hl1 _) ?_
             intro A2 c2 w2 hown2 _ hbw2 _
             have hb2 : Below w.heap.size w1 w2 := ((Below.refl _ w1).alloc hl1 _).trans hbw2
             have hB2 := hB1.below hb2 hlw
             have hf2 := hB2.frozen 2
             have hx2 : w2.cell? ⟨gd, 2, none⟩ = some (.slice D k dc) := (hB2.cell 2).trans rfl
             have hS2 : Step gd w w2 := (hS.trans hS1).thenBelow hb2))
        go_roundw
        case rel => exact ⟨k + 1, A2, c2, by omega, by omega, by go_num, hB2.set_ 2 _, by rw [HT.out, HX.out]; exact hown2.step ((Step.refl gd w2).set 2 _) hlw, hS2.set 2 _, HN⟩
        case measure => simp [intOf]; omega
      · have HN : Hid (nextE xs n (a + k) = er) := Lib.hid (by rw [← HD.out, drawE_step xs n a hlt, if_neg he])
        have hz := nextE_cases xs n (a + k)
        obtain ⟨vv, HV⟩ : ∃ vv, Hid (nextV xs n (a + k) = vv) := ⟨_, Lib.hid rfl⟩
        rw [HN.out] at hz he
        have hne : (er != 0) = true := by simpa using he
        go_wp2_with (go_at_call 162; refine (tnext_any gd A m c (a + k) _ n xs _ hBr hIr hak hm).mono ?_; rintro e w1 ⟨rfl, hB1, hS1, hz1⟩
                     rw [HN.out, HV.out]
                     clear hz1 hB1)
        go_ret
        exact ⟨rfl, fun h => absurd h he, hS.trans hS1⟩
    · have hkc : k = cnt := by omega
      subst hkc
      go_wp2
      go_ret
      refine ⟨ret_int ?_, fun _ => ⟨D, dc, hBr, hown.base hlw⟩, hS⟩
      have := HD.out
      rw [Nat.sub_self] at this
      exact this

theorem drawn_of {xs : List Int} {m : Nat} {a n count : Int} (h : drawsE xs m a n count = 0) : validT m a = true ∧ limT n = true ∧ 0 ≤ count ∧ drawE xs n a.toNat count.toNat = 0 := by
  unfold drawsE at h
  split at h
  · cases h
  · split at h
    · cases h
    · rename_i h1 h2
      refine ⟨by simpa using h1, ?_, by omega, h⟩
      cases hl : limT n
      · exact absurd (Or.inl hl) h2
      · rfl
theorem validT_iff {m : Nat} {a : Int} : validT m a = true ↔ m ≤ 16384 ∧ 0 ≤ a ∧ a ≤ m := by simp [validT]

theorem blk_pair {w w1 : World} {o : Obj} {t : TypeId} {cs : Array Value} (hb : Below ((w.alloc o).alloc (.cells cs t)).heap.size ((w.alloc o).alloc (.cells cs t)) w1) : Blk w1 (w.heap.size + 1) t cs := by
  have h := (Blk.new (w.alloc o) t cs).below hb (by simp)
  rwa [World.size_alloc] at h
theorem blk_one {w w1 : World} {o : Obj} {t : TypeId} {cs : Array Value} (hb : Below ((w.alloc (.cells cs t)).alloc o).heap.size ((w.alloc (.cells cs t)).alloc o) w1) : Blk w1 w.heap.size t cs :=
  ((Blk.new w t cs).alloc o).below hb (by simp; omega)
/-- Two cells written into a new block of two. -/
theorem blk_two {w1 : World} {g : Nat} {t : TypeId} {u0 u1 v0 v1 : Value} (h : Blk w1 g t #[u0, u1]) : Blk ((w1.setCell ⟨g, 0, none⟩ v0).setCell ⟨g, 1, none⟩ v1) g t #[v0, v1] := (h.set_ 0 v0).set_ 1 v1
theorem below_two {w0 w1 : World} {B g : Nat} (h : Below B w0 w1) (hg : B ≤ g) (v0 v1 : Value) : Below B w0 ((w1.setCell ⟨g, 0, none⟩ v0).setCell ⟨g, 1, none⟩ v1) := (h.setCell hg v0).setCell hg v1

/-- What Draws leaves. -/
def DrawsPost (m : Nat) (a n count : Int) (xs : List Int) (w : World) (e : Ending) (w' : World) : Prop :=
  (drawsE xs m a n count ≠ 0 → e = .returned (.tuple #[.agg #[.slice none 0 0, .int .i64 0], .slice none 0 0, .int .i64 (drawsE xs m a n count)])) ∧
  (drawsE xs m a n count = 0 → ∃ A' c' D dc, e = .returned (.tuple #[.agg #[.slice A' m c', .int .i64 (a + count)], .slice D count.toNat dc, .int .i64 0]) ∧ OwnI w' w.heap.size 3 A' m c' xs ∧ OwnI w' w.heap.size 3 D count.toNat dc ((xs.drop a.toNat).take count.toNat)) ∧
  Below w.heap.size w w'

set_option maxHeartbeats 800000 in
set_option maxRecDepth 100000 in
theorem draws_any (A : Option Addr) (m c : Nat) (a n count : Int) (xs : List Int) (w : World) (h : Ints w w.heap.size A m xs) (hc : count ≤ 9223372036854775807) :
    Calls Try.prog 24 #[.agg #[.slice A m c, .int .i64 a], .int .i64 n, .int .i64 count] w (DrawsPost m a n count xs w) := by
  by_cases hv : validT m a = true
  · have HV := Lib.hid hv
    by_cases hl : limT n = false ∨ count < 0
    · have HE : Hid (drawsE xs m a n count = 1) := Lib.hid (by unfold drawsE; rw [if_neg (by simp [hv]), if_pos hl])
      unfold DrawsPost
      rw [HE.out]
      cases hlb : limT n
      · have HLB := Lib.hid hlb
        clear hv hl hlb
        go_enter Try.func24, Try.ntmps24
        go_wp2_with (first
          | (go_at_call 114; refine (valid_any A m c a _).mono ?_; rintro e w1 ⟨rfl, hb1⟩; rw [HV.out]
             have hbb1 := bnext (ballocs (bbox (.cells #[.slice A m c, .int .i64 a] 24)) (.cells #[.slice none 0 0, .int .i64 0] 24)) hb1
             have hR := blk_pair hb1
             have hO := blk_one hb1
             have hx0 : w1.cell? ⟨w.heap.size + 1, 0, none⟩ = some (.slice none 0 0) := (hR.cell 0).trans rfl
             have hx1 : w1.cell? ⟨w.heap.size + 1, 1, none⟩ = some (.int .i64 0) := (hR.cell 1).trans rfl
             have hz0 := hR.frozen 0
             have hz1 := hR.frozen 1)
          | (go_at_call 117; refine (limit_any n _).mono ?_; rintro e w2 ⟨rfl, rfl⟩; rw [HLB.out]))
        have hB' := blk_two (v0 := .slice none 0 0) (v1 := .int .i64 0) hR
        have hy0 := (hB'.cell 0).trans rfl
        have hy1 := (hB'.cell 1).trans rfl
        exact bodyPost_ret (v := .tuple #[.agg #[.slice none 0 0, .int .i64 0], .slice none 0 0, .int .i64 1]) (by simp [results, Try.results24, go_sem, hy0, hy1]) rfl ⟨fun _ => rfl, fun h => (by cases h), below_two hbb1 (by omega) _ _⟩
      · have HLB := Lib.hid hlb
        have hcn : count < 0 := by rcases hl with h0 | h0; · rw [hlb] at h0; cases h0
                                   · exact h0
        clear hv hl hlb
        go_enter Try.func24, Try.ntmps24
        go_wp2_with (first
          | (go_at_call 114; refine (valid_any A m c a _).mono ?_; rintro e w1 ⟨rfl, hb1⟩; rw [HV.out]
             have hbb1 := bnext (ballocs (bbox (.cells #[.slice A m c, .int .i64 a] 24)) (.cells #[.slice none 0 0, .int .i64 0] 24)) hb1
             have hR := blk_pair hb1
             have hO := blk_one hb1
             have hx0 : w1.cell? ⟨w.heap.size + 1, 0, none⟩ = some (.slice none 0 0) := (hR.cell 0).trans rfl
             have hx1 : w1.cell? ⟨w.heap.size + 1, 1, none⟩ = some (.int .i64 0) := (hR.cell 1).trans rfl
             have hz0 := hR.frozen 0
             have hz1 := hR.frozen 1)
          | (go_at_call 117; refine (limit_any n _).mono ?_; rintro e w2 ⟨rfl, rfl⟩; rw [HLB.out]))
        have hB' := blk_two (v0 := .slice none 0 0) (v1 := .int .i64 0) hR
        have hy0 := (hB'.cell 0).trans rfl
        have hy1 := (hB'.cell 1).trans rfl
        exact bodyPost_ret (v := .tuple #[.agg #[.slice none 0 0, .int .i64 0], .slice none 0 0, .int .i64 1]) (by simp [results, Try.results24, go_sem, hy0, hy1]) rfl ⟨fun _ => rfl, fun h => (by cases h), below_two hbb1 (by omega) _ _⟩
    · have hlb : limT n = true := by
        cases hlb : limT n
        · exact absurd (Or.inl hlb) hl
        · rfl
      have hcn : 0 ≤ count := by omega
      have hvd := validT_iff.1 hv
      have hdr : drawsE xs m a n count = drawE xs n a.toNat count.toNat := by unfold drawsE; rw [if_neg (by simp [hv]), if_neg hl]
      have HLB := Lib.hid hlb
      clear hl hlb hv
      obtain ⟨cnt, rfl⟩ : ∃ k : Nat, count = k := ⟨count.toNat, by omega⟩
      obtain ⟨a, rfl⟩ : ∃ k : Nat, a = k := ⟨a.toNat, by omega⟩
      rw [Int.toNat_natCast, Int.toNat_natCast] at hdr
      unfold DrawsPost
      rw [hdr, Int.toNat_natCast, Int.toNat_natCast]
      obtain ⟨er, HE⟩ : ∃ er, Hid (drawE xs n a cnt = er) := ⟨_, Lib.hid rfl⟩
      rw [HE.out]
      clear hdr
      by_cases her : er = 0
      · subst her
        go_enter Try.func24, Try.ntmps24
        go_wp2_with (first
        | (go_at_call 114; refine (valid_any A m c a _).mono ?_; rintro e w1 ⟨rfl, hb1⟩; rw [HV.out]
           have hbb1 := bnext (ballocs (bbox (.cells #[.slice A m c, .int .i64 a] 24)) (.cells #[.slice none 0 0, .int .i64 0] 24)) hb1
           have hR := blk_pair hb1
           have hO := blk_one hb1
           have hx0 : w1.cell? ⟨w.heap.size, 0, none⟩ = some (.slice A m c) := (hO.cell 0).trans rfl
           have hx1 : w1.cell? ⟨w.heap.size, 1, none⟩ = some (.int .i64 a) := (hO.cell 1).trans rfl)
        | (go_at_call 117; refine (limit_any n _).mono ?_; rintro e w2 ⟨rfl, rfl⟩; rw [HLB.out])
        | (go_at_call 118; refine (draw_any w1.heap.size A m c a n cnt xs _ (Blk.new _ _ _) ((h.upto hbb1).alloc (Nat.le_refl _) _) (by omega) (by omega) (by omega)).mono ?_; rintro e w3 ⟨rfl, hok, hS3⟩
           rw [HE.out] at hok
           rw [HE.out]
           have hbb3 := Step.below (ballocs hbb1 (.cells #[.slice A m c, .int .i64 a, .slice none 0 0] 126)) hS3 (by simp; have := hbb1.size; omega) hbb1.size
           have hR3 := Step.block hS3 (hR.alloc _) (by have := hR.lt; omega)
           have hO3 := Step.block hS3 (hO.alloc _) (by have := hO.lt; omega)
           have hy0 : w3.cell? ⟨w.heap.size + 1, 0, none⟩ = some (.slice none 0 0) := (hR3.cell 0).trans rfl
           have hy1 : w3.cell? ⟨w.heap.size + 1, 1, none⟩ = some (.int .i64 0) := (hR3.cell 1).trans rfl
           have hu0 : w3.cell? ⟨w.heap.size, 0, none⟩ = some (.slice A m c) := (hO3.cell 0).trans rfl
           have hz0 := hR3.frozen 0
           have hz1 := hR3.frozen 1))
        obtain ⟨D, dc, hBd, hown⟩ := hok (by trivial)
        have hd1 : w3.cell? ⟨w1.heap.size, 1, none⟩ = some (.int .i64 ((a : Int) + (cnt : Int))) := (hBd.cell 1).trans rfl
        have hd2 : w3.cell? ⟨w1.heap.size, 2, none⟩ = some (.slice D cnt dc) := (hBd.cell 2).trans rfl
        have hI3 : Ints w3 w3.heap.size A m xs := (h.below hbb3).more hbb3.size
        have hm16 : m ≤ 17592186044416 := by omega
        clear hok
        go_region_held3 (fun w' => w'.cell? ⟨w1.heap.size, 1, none⟩ = some (.int .i64 ((a : Int) + (cnt : Int))) ∧ w'.cell? ⟨w1.heap.size, 2, none⟩ = some (.slice D cnt dc) ∧ w'.cell? ⟨w.heap.size, 0, none⟩ = some (.slice A m c))
          (first | (refine ⟨?_, ?_, ?_⟩ <;> first | exact hd1 | exact hd2 | exact hu0 | exact hd1' | exact hd2' | exact hu0' | exact (hBd5.cell 1).trans rfl | exact (hBd5.cell 2).trans rfl | exact (hO5.cell 0).trans rfl))
          (first
            | (go_at_call 119; refine (clone_any A m c xs _ (by exact hI3) hm16).mono ?_; rintro e w4 ⟨⟨A4, c4, rfl, hI4⟩, hb4⟩
               have hbb4 := bnext hbb3.drew hb4
               have hR4 := (Blk.drew hR3).below hb4 hR3.lt
               have hown4 := hown.drew.belowAll hb4
               have hd1' : w4.cell? ⟨w1.heap.size, 1, none⟩ = some (.int .i64 ((a : Int) + (cnt : Int))) := (hb4.cell (p := ⟨w1.heap.size, 1, none⟩) hBd.lt).trans hd1
               have hd2' : w4.cell? ⟨w1.heap.size, 2, none⟩ = some (.slice D cnt dc) := (hb4.cell (p := ⟨w1.heap.size, 2, none⟩) hBd.lt).trans hd2
               have hu0' : w4.cell? ⟨w.heap.size, 0, none⟩ = some (.slice A m c) := (hb4.cell (p := ⟨w.heap.size, 0, none⟩) hO3.lt).trans hu0
               have hy0' : w4.cell? ⟨w.heap.size + 1, 0, none⟩ = some (.slice none 0 0) := (hR4.cell 0).trans rfl
               have hy1' : w4.cell? ⟨w.heap.size + 1, 1, none⟩ = some (.int .i64 0) := (hR4.cell 1).trans rfl
               have hz0' := hR4.frozen 0
               have hz1' := hR4.frozen 1
               have hR5 := blk_two (v0 := .slice A4 m c4) (v1 := .int .i64 ((a : Int) + (cnt : Int))) hR4
               have hBd5 := (((Blk.drew hBd).below hb4 hBd.lt).far (p := ⟨w.heap.size + 1, 0, none⟩) (by simp; have := hR.lt; omega) (.slice A4 m c4)).far (p := ⟨w.heap.size + 1, 1, none⟩) (by simp; have := hR.lt; omega) (.int .i64 ((a : Int) + (cnt : Int)))
               have hO5 := (((Blk.drew hO3).below hb4 hO3.lt).far (p := ⟨w.heap.size + 1, 0, none⟩) (by simp) (.slice A4 m c4)).far (p := ⟨w.heap.size + 1, 1, none⟩) (by simp) (.int .i64 ((a : Int) + (cnt : Int)))))
        go_wp2
        have hS5 := ((Step.refl (w.heap.size + 1) w4).set 0 (.slice A4 m c4)).set 1 (.int .i64 ((a : Int) + (cnt : Int)))
        have hr1 := hR.lt
        have hsz := World.grownBy.size hS3
        have hsz' : w1.heap.size < w3.heap.size := by simp at hsz; omega
        have hI5 := (hI4.step hS5 (by show w.heap.size + 1 < w3.heap.size; omega)).base (by show w.heap.size ≤ w3.heap.size; omega)
        have hD5 := hown4.step hS5 (by omega)
        have hy0 := (hR5.cell 0).trans rfl
        have hy1 := (hR5.cell 1).trans rfl
        exact bodyPost_ret (v := .tuple #[.agg #[.slice A4 m c4, .int .i64 ((a : Int) + (cnt : Int))], .slice D cnt dc, .int .i64 0]) (by simp [results, Try.results24, go_sem, hy0, hy1]) rfl
          ⟨fun h => absurd rfl h, fun _ => ⟨A4, c4, D, dc, rfl, hI5, hD5.base (by omega)⟩, below_two hbb4 (by omega) _ _⟩
      · have hne : (er != 0) = true := by simpa using her
        go_enter Try.func24, Try.ntmps24
        go_wp2_with (first
        | (go_at_call 114; refine (valid_any A m c a _).mono ?_; rintro e w1 ⟨rfl, hb1⟩; rw [HV.out]
           have hbb1 := bnext (ballocs (bbox (.cells #[.slice A m c, .int .i64 a] 24)) (.cells #[.slice none 0 0, .int .i64 0] 24)) hb1
           have hR := blk_pair hb1
           have hO := blk_one hb1
           have hx0 : w1.cell? ⟨w.heap.size, 0, none⟩ = some (.slice A m c) := (hO.cell 0).trans rfl
           have hx1 : w1.cell? ⟨w.heap.size, 1, none⟩ = some (.int .i64 a) := (hO.cell 1).trans rfl)
        | (go_at_call 117; refine (limit_any n _).mono ?_; rintro e w2 ⟨rfl, rfl⟩; rw [HLB.out])
        | (go_at_call 118; refine (draw_any w1.heap.size A m c a n cnt xs _ (Blk.new _ _ _) ((h.upto hbb1).alloc (Nat.le_refl _) _) (by omega) (by omega) (by omega)).mono ?_; rintro e w3 ⟨rfl, hok, hS3⟩
           rw [HE.out] at hok
           rw [HE.out]
           have hbb3 := Step.below (ballocs hbb1 (.cells #[.slice A m c, .int .i64 a, .slice none 0 0] 126)) hS3 (by simp; have := hbb1.size; omega) hbb1.size
           have hR3 := Step.block hS3 (hR.alloc _) (by have := hR.lt; omega)
           have hO3 := Step.block hS3 (hO.alloc _) (by have := hO.lt; omega)
           have hy0 : w3.cell? ⟨w.heap.size + 1, 0, none⟩ = some (.slice none 0 0) := (hR3.cell 0).trans rfl
           have hy1 : w3.cell? ⟨w.heap.size + 1, 1, none⟩ = some (.int .i64 0) := (hR3.cell 1).trans rfl
           have hu0 : w3.cell? ⟨w.heap.size, 0, none⟩ = some (.slice A m c) := (hO3.cell 0).trans rfl
           have hz0 := hR3.frozen 0
           have hz1 := hR3.frozen 1))
        have hB' := blk_two (v0 := .slice none 0 0) (v1 := .int .i64 0) hR3
        have hy0 := (hB'.cell 0).trans rfl
        have hy1 := (hB'.cell 1).trans rfl
        exact bodyPost_ret (v := .tuple #[.agg #[.slice none 0 0, .int .i64 0], .slice none 0 0, .int .i64 er]) (by simp [results, Try.results24, go_sem, hy0, hy1]) rfl ⟨fun _ => rfl, fun h => absurd h her, below_two hbb3 (by omega) _ _⟩
  · have hv' : validT m a = false := by simpa using hv
    have HE : Hid (drawsE xs m a n count = 2) := Lib.hid (by unfold drawsE; rw [if_pos hv'])
    have HV := Lib.hid hv'
    unfold DrawsPost
    rw [HE.out]
    clear hv hv'
    go_enter Try.func24, Try.ntmps24
    go_wp2_with (first
      | (go_at_call 114; refine (valid_any A m c a _).mono ?_; rintro e w1 ⟨rfl, hb1⟩; rw [HV.out]
         have hbb1 := bnext (ballocs (bbox (.cells #[.slice A m c, .int .i64 a] 24)) (.cells #[.slice none 0 0, .int .i64 0] 24)) hb1
         have hR := blk_pair hb1
         have hO := blk_one hb1
         have hx0 : w1.cell? ⟨w.heap.size + 1, 0, none⟩ = some (.slice none 0 0) := (hR.cell 0).trans rfl
         have hx1 : w1.cell? ⟨w.heap.size + 1, 1, none⟩ = some (.int .i64 0) := (hR.cell 1).trans rfl
         have hz0 := hR.frozen 0
         have hz1 := hR.frozen 1))
    have hB' := blk_two (v0 := .slice none 0 0) (v1 := .int .i64 0) hR
    have hy0 := (hB'.cell 0).trans rfl
    have hy1 := (hB'.cell 1).trans rfl
    exact bodyPost_ret (v := .tuple #[.agg #[.slice none 0 0, .int .i64 0], .slice none 0 0, .int .i64 2]) (by simp [results, Try.results24, go_sem, hy0, hy1]) rfl ⟨fun _ => rfl, fun h => (by cases h), below_two hbb1 (by omega) _ _⟩
end Go.Proofs.Ytdklcgpjdajkmaa
