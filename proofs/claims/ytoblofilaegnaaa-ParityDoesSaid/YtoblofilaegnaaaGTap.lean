/-
  Words for memory and contracts of small functions of the second form. Conditions: those of each lemma.
-/
import Derived.Test.YtoblofilaegnaaaBase
import Derived.Test.YtoblofilaegnaaaDeck
import Derived.BigFrame
import Derived.WalkSpells
import Derived.Test.YtoblofilaegnaaaPlain
import Derived.Deep.RegionHeld3
import Derived.BigQuiet
import Derived.Test.YtoblofilaegnaaaOrder
/-! Clone -/
namespace Go.Proofs.Ytoblofilaegnaaa
open Go.RowKit
set_option linter.unusedVariables false

set_option maxRecDepth 100000 in
/-- slices.Clone. -/
theorem clone_any (A : Option Addr) (n c : Nat) (xs : List Int) (w : World) (h : Ints w w.heap.size A n xs) (hn : n ≤ 17592186044416) :
    Calls Try.prog 168 #[.slice A n c] w fun e w' => (∃ A' c', e = .returned (.slice A' n c') ∧ OwnI w' w.heap.size 3 A' n c' xs) ∧ Below w.heap.size w w' := by
  obtain ⟨i0, hi0, hz0, hz1, hz2⟩ := info_parts info_int
  have q : ∀ (w : World) (a : Option Addr) (n c n' c' : Nat), (binOp .eql 22 (.slice a n c) (.slice none n' c')).run Try.prog w = .ok (.bool a.isNone) w := fun w a n c n' c' => Lib.run_eql_slice_nil w _ _ a n c n' c' Try.underlying22
  cases A with
  | none =>
    have hn0 : n = 0 := by
      rcases Nat.eq_zero_or_pos n with h0 | h0
      · exact h0
      · obtain ⟨b, off, e, _⟩ := h.2 h0
        cases e
    subst hn0
    go_enter Try.func168, Try.ntmps168
    go_wp2
    go_ret
    have hxs : xs = [] := List.eq_nil_of_length_eq_zero h.len
    exact ⟨⟨none, 0, rfl, by rw [hxs]; exact OwnI.nil_⟩, Below.refl _ _⟩
  | some ad =>
    go_enter Try.func168, Try.ntmps168
    go_wp2_with (
      at_builtin
      refine wpList_append_ints rfl _ _ _ rfl w.heap.size 3 i0 _ Try.underlying22 hi0 hz0 hz1 hz2 rfl (some ⟨w.heap.size, 0, none⟩) 0 0 [] rfl (World.ownsRow_made w #[] 0 (Nat.le_refl _) (by unfold maxLen; omega) rfl) _ _ n _ xs rfl (h.upto (bbox _)) n (by omega) xs rfl (by omega) (by simp) ?_
      intro A2 c2 w2 hown2 _ hbw2 _)
    go_ret
    exact ⟨⟨A2, c2, rfl, hown2⟩, (bbox _).trans hbw2⟩

end Go.Proofs.Ytoblofilaegnaaa

/-! Tape -/
namespace Go.Proofs.Ytoblofilaegnaaa
open Go.RowKit
set_option linter.unusedVariables false

theorem limit_any (n : Int) (w : World) :
    Calls Try.prog 166 #[.int .i64 n] w fun e w' => e = .returned (.bool (limT n)) ∧ w = w' := by
  go_enter Try.func166, Try.ntmps166
  go_wp2
  all_goals go_ret
  all_goals exact ⟨ret_bool (by unfold limT; rw [Bool.eq_iff_iff]; simp; try omega), rfl⟩

theorem valid_any (A : Option Addr) (m c : Nat) (a : Int) (w : World) :
    Calls Try.prog 163 #[.agg #[.slice A m c, .int .i64 a]] w fun e w' => e = .returned (.bool (validT m a)) ∧ Below w.heap.size w w' := by
  go_enter Try.func163, Try.ntmps163
  go_wp2
  all_goals go_ret
  all_goals exact ⟨ret_bool (by unfold validT; rw [Bool.eq_iff_iff]; simp; try omega), bbox _⟩

/-- next: one number of a drawing. -/
theorem tnext_any (gd : Nat) (A : Option Addr) (m c a : Nat) (v : Value) (n : Int) (xs : List Int) (w : World) (hB : Blk w gd 182 #[.slice A m c, .int .i64 a, v]) (hI : Ints w gd A m xs) (ha : a ≤ m) (hm : m ≤ 16384) :
    Calls Try.prog 177 #[.pointer (some ⟨gd, 0, none⟩), .int .i64 n] w fun e w' =>
      e = .returned (.tuple #[.int .i64 (nextV xs n a), .int .i64 (nextE xs n a)]) ∧ Blk w' gd 182 #[.slice A m c, .int .i64 (if nextE xs n a = 0 then (a + 1 : Nat) else a), v] ∧ Step gd w w' ∧ w'.heap.size = w.heap.size := by
  have hc0 : w.cell? ⟨gd, 0, none⟩ = some (.slice A m c) := (hB.cell 0).trans rfl
  have hc1 : w.cell? ⟨gd, 1, none⟩ = some (.int .i64 a) := (hB.cell 1).trans rfl
  have hf1 := hB.frozen 1
  have HL := Lib.hid hI.len
  by_cases hal : a = m
  · subst hal
    have HE : Hid (nextE xs n a = 3) := Lib.hid (by unfold nextE; rw [if_pos (by rw [HL.out])])
    have HV : Hid (nextV xs n a = 0) := Lib.hid (by unfold nextV; rw [HE.out]; rfl)
    rw [HE.out, HV.out]
    go_enter Try.func177, Try.ntmps177
    go_wp2
    go_quiet (fail)
    go_wp2
    go_ret2
    exact ⟨rfl, Blk.drewN hB _, (Step.refl gd w).drewN _, rfl⟩
  obtain ⟨b, off, rfl, hb, hcell⟩ := hI.2 (by omega)
  have hcq := hcell a (by omega)
  clear hcell
  by_cases hbad : xs.getD a 0 < 0 ∨ n ≤ xs.getD a 0
  · have HE : Hid (nextE xs n a = 8) := Lib.hid (by unfold nextE; rw [if_neg (by rw [HL.out]; exact hal), if_pos hbad])
    have HV : Hid (nextV xs n a = 0) := Lib.hid (by unfold nextV; rw [HE.out]; rfl)
    rw [HE.out, HV.out]
    generalize xs.getD a 0 = x at *
    go_enter Try.func177, Try.ntmps177
    go_wp2
    go_quiet (fail)
    go_wp2
    go_quiet (fail)
    go_wp2
    all_goals go_ret2
    all_goals first
      | exact ⟨rfl, Blk.drewN hB _, ((Step.refl gd w).drewN _), rfl⟩
      | (exfalso; omega)
  · have HE : Hid (nextE xs n a = 0) := Lib.hid (by unfold nextE; rw [if_neg (by rw [HL.out]; exact hal), if_neg hbad])
    have HV : Hid (nextV xs n a = xs.getD a 0) := Lib.hid (by unfold nextV; rw [HE.out]; rfl)
    rw [HE.out, HV.out]
    generalize xs.getD a 0 = x at *
    go_enter Try.func177, Try.ntmps177
    go_wp2
    go_quiet (fail)
    go_wp2
    go_quiet (fail)
    go_wp2
    all_goals go_ret2
    all_goals first
      | exact ⟨rfl, Blk.drewN (hB.set_ 1 (.int .i64 ((a : Int) + 1))) _, ((Step.refl gd w).set 1 _).drewN _, by simp [World.setCell]⟩
      | (exfalso; omega)

theorem nextE_lt {xs : List Int} {n : Int} {a m : Nat} (hl : xs.length = m) (ha : a ≤ m) (h : nextE xs n a = 0) : a < m := by
  rcases Nat.lt_or_ge a m with h1 | h1
  · exact h1
  · exfalso
    unfold nextE at h
    rw [if_pos (by omega)] at h
    cases h

set_option maxHeartbeats 800000 in
set_option maxRecDepth 100000 in
/-- draw. -/
theorem draw_any (gd : Nat) (A : Option Addr) (m c a : Nat) (n : Int) (cnt : Nat) (xs : List Int) (w : World) (hB : Blk w gd 182 #[.slice A m c, .int .i64 a, .slice none 0 0]) (hI : Ints w gd A m xs) (ha : a ≤ m) (hm : m ≤ 16384) (hc : (cnt : Int) ≤ 9223372036854775807) :
    Calls Try.prog 167 #[.pointer (some ⟨gd, 0, none⟩), .int .i64 n, .int .i64 cnt] w fun e w' =>
      e = .returned (.int .i64 (drawE xs n a cnt)) ∧ (drawE xs n a cnt = 0 → ∃ D dc, Blk w' gd 182 #[.slice A m c, .int .i64 (a + cnt : Nat), .slice D cnt dc] ∧ OwnI w' (gd + 1) 3 D cnt dc ((xs.drop a).take cnt)) ∧ Step gd w w' := by
  obtain ⟨i0, hi0, hz0, hz1, hz2⟩ := info_parts info_int
  have HL := Lib.hid hI.len
  obtain ⟨er, HE⟩ : ∃ er, Hid (drawE xs n a cnt = er) := ⟨_, Lib.hid rfl⟩
  rw [HE.out]
  go_enter Try.func167, Try.ntmps167
  go_wp2
  go_loopw [7] (fun i wr => ∃ (k : Nat) (D : Option Addr) (dc : Nat), k ≤ cnt ∧ a + k ≤ m ∧ i = .int .i64 k ∧ Blk wr gd 182 #[.slice A m c, .int .i64 (a + k : Nat), .slice D k dc] ∧ OwnI wr w.heap.size 3 D k dc ((xs.drop a).take k) ∧
    Step gd w wr ∧ Hid (drawE xs n (a + k) (cnt - k) = er)) (fun i _ => cnt - (intOf i).toNat)
  case atStart => exact ⟨0, none, 0, Nat.zero_le _, ha, rfl, hB, OwnI.nil_, Step.refl _ _, HE⟩
  case round =>
    obtain ⟨k, D, dc, hk, hak, rfl, hBr, hown, hS, HD⟩ := hrel
    have hlr := hBr.lt
    have hlw := hB.lt
    by_cases hlt : k < cnt
    · have hIr : Ints wr gd A m xs := hI.keep fun p hp => World.cell?_of_block (World.grownBy.block hS p.block (by omega) (fun e => by injection e; omega))
      by_cases he : nextE xs n (a + k) = 0
      · have hlm := nextE_lt HL.out hak he
        have HV : Hid (nextV xs n (a + k) = xs.getD (a + k) 0) := Lib.hid (by unfold nextV; rw [if_pos he])
        have HT := Lib.hid (drop_take_succ xs a k (by rw [HL.out]; exact hlm))
        have HN : Hid (drawE xs n (a + (k + 1)) (cnt - (k + 1)) = er) := Lib.hid (by rw [← HD.out, drawE_step xs n a hlt, if_pos he])
        have HE0 := Lib.hid he
        clear he
        obtain ⟨x, HX⟩ : ∃ x, Hid (xs.getD (a + k) 0 = x) := ⟨_, Lib.hid rfl⟩
        go_wp2_with (first
          | (go_at_call 177; refine (tnext_any gd A m c (a + k) _ n xs _ hBr hIr hak hm).mono ?_; rintro e w1 ⟨rfl, hB1, hS1, hz1⟩
             rw [HE0.out, if_pos rfl] at hB1
             rw [HE0.out, HV.out, HX.out]
             have hl1 : w.heap.size ≤ w1.heap.size := World.grownBy.size (hS.trans hS1)
             have hc2 : w1.cell? ⟨gd, 2, none⟩ = some (.slice D k dc) := (hB1.cell 2).trans rfl
             have hown1 := hown.step hS1 (by omega)
             clear hz1)
          | (at_builtin
             refine wpList_append_ints rfl _ _ _ rfl w.heap.size 3 i0 _ Try.underlying22 hi0 hz0 hz1 hz2 rfl D k dc _ rfl (hown1.alloc _) _ _ 1 1 [x] rfl (Ints.one _ _ _) (k + 1) rfl _ rfl (by omega) (le_alloc hl1 _) ?_
             intro A2 c2 w2 hown2 _ hbw2 _
             have hb2 : Below w.heap.size w1 w2 := ((Below.refl _ w1).alloc hl1 _).trans hbw2
             have hB2 := hB1.below hb2 hlw
             have hf2 := hB2.frozen 2
             have hx2 : w2.cell? ⟨gd, 2, none⟩ = some (.slice D k dc) := (hB2.cell 2).trans rfl
             have hS2 : Step gd w w2 := (hS.trans hS1).thenBelow hb2))
        go_roundw
        case rel => exact ⟨k + 1, A2, c2, by omega, by omega, by go_num, hB2.set_ 2 _, by rw [HT.out, HX.out]; exact hown2.step ((Step.refl gd w2).set 2 _) hlw, hS2.set 2 _, HN⟩
        case measure => simp [intOf]; omega
      · have HN : Hid (nextE xs n (a + k) = er) := Lib.hid (by rw [← HD.out, drawE_step xs n a hlt, if_neg he])
        have hz := nextE_cases xs n (a + k)
        obtain ⟨vv, HV⟩ : ∃ vv, Hid (nextV xs n (a + k) = vv) := ⟨_, Lib.hid rfl⟩
        rw [HN.out] at hz he
        have hne : (er != 0) = true := by simpa using he
        go_wp2_with (go_at_call 177; refine (tnext_any gd A m c (a + k) _ n xs _ hBr hIr hak hm).mono ?_; rintro e w1 ⟨rfl, hB1, hS1, hz1⟩
                     rw [HN.out, HV.out]
                     clear hz1 hB1)
        go_ret
        exact ⟨rfl, fun h => absurd h he, hS.trans hS1⟩
    · have hkc : k = cnt := by omega
      subst hkc
      go_wp2
      go_ret
      refine ⟨ret_int ?_, fun _ => ⟨D, dc, hBr, hown.base hlw⟩, hS⟩
      have := HD.out
      rw [Nat.sub_self] at this
      exact this

theorem drawn_of {xs : List Int} {m : Nat} {a n count : Int} (h : drawsE xs m a n count = 0) : validT m a = true ∧ limT n = true ∧ 0 ≤ count ∧ drawE xs n a.toNat count.toNat = 0 := by
  unfold drawsE at h
  split at h
  · cases h
  · split at h
    · cases h
    · rename_i h1 h2
      refine ⟨by simpa using h1, ?_, by omega, h⟩
      cases hl : limT n
      · exact absurd (Or.inl hl) h2
      · rfl
theorem validT_iff {m : Nat} {a : Int} : validT m a = true ↔ m ≤ 16384 ∧ 0 ≤ a ∧ a ≤ m := by simp [validT]

theorem blk_pair {w w1 : World} {o : Obj} {t : TypeId} {cs : Array Value} (hb : Below ((w.alloc o).alloc (.cells cs t)).heap.size ((w.alloc o).alloc (.cells cs t)) w1) : Blk w1 (w.heap.size + 1) t cs := by
  have h := (Blk.new (w.alloc o) t cs).below hb (by simp)
  rwa [World.size_alloc] at h
theorem blk_one {w w1 : World} {o : Obj} {t : TypeId} {cs : Array Value} (hb : Below ((w.alloc (.cells cs t)).alloc o).heap.size ((w.alloc (.cells cs t)).alloc o) w1) : Blk w1 w.heap.size t cs :=
  ((Blk.new w t cs).alloc o).below hb (by simp; omega)
/-- Two cells written into a new block of two. -/
theorem blk_two {w1 : World} {g : Nat} {t : TypeId} {u0 u1 v0 v1 : Value} (h : Blk w1 g t #[u0, u1]) : Blk ((w1.setCell ⟨g, 0, none⟩ v0).setCell ⟨g, 1, none⟩ v1) g t #[v0, v1] := (h.set_ 0 v0).set_ 1 v1
theorem below_two {w0 w1 : World} {B g : Nat} (h : Below B w0 w1) (hg : B ≤ g) (v0 v1 : Value) : Below B w0 ((w1.setCell ⟨g, 0, none⟩ v0).setCell ⟨g, 1, none⟩ v1) := (h.setCell hg v0).setCell hg v1

/-- What Draws leaves. -/
def DrawsPost (m : Nat) (a n count : Int) (xs : List Int) (w : World) (e : Ending) (w' : World) : Prop :=
  (drawsE xs m a n count ≠ 0 → e = .returned (.tuple #[.agg #[.slice none 0 0, .int .i64 0], .slice none 0 0, .int .i64 (drawsE xs m a n count)])) ∧
  (drawsE xs m a n count = 0 → ∃ A' c' D dc, e = .returned (.tuple #[.agg #[.slice A' m c', .int .i64 (a + count)], .slice D count.toNat dc, .int .i64 0]) ∧ OwnI w' w.heap.size 3 A' m c' xs ∧ OwnI w' w.heap.size 3 D count.toNat dc ((xs.drop a.toNat).take count.toNat)) ∧
  Below w.heap.size w w'

set_option maxHeartbeats 800000 in
set_option maxRecDepth 100000 in
theorem draws_any (A : Option Addr) (m c : Nat) (a n count : Int) (xs : List Int) (w : World) (h : Ints w w.heap.size A m xs) (hc : count ≤ 9223372036854775807) :
    Calls Try.prog 115 #[.agg #[.slice A m c, .int .i64 a], .int .i64 n, .int .i64 count] w (DrawsPost m a n count xs w) := by
  by_cases hv : validT m a = true
  · have HV := Lib.hid hv
    by_cases hl : limT n = false ∨ count < 0
    · have HE : Hid (drawsE xs m a n count = 1) := Lib.hid (by unfold drawsE; rw [if_neg (by simp [hv]), if_pos hl])
      unfold DrawsPost
      rw [HE.out]
      cases hlb : limT n
      · have HLB := Lib.hid hlb
        clear hv hl hlb
        go_enter Try.func115, Try.ntmps115
        go_wp2_with (first
          | (go_at_call 163; refine (valid_any A m c a _).mono ?_; rintro e w1 ⟨rfl, hb1⟩; rw [HV.out]
             have hbb1 := bnext (ballocs (bbox (.cells #[.slice A m c, .int .i64 a] 62)) (.cells #[.slice none 0 0, .int .i64 0] 62)) hb1
             have hR := blk_pair hb1
             have hO := blk_one hb1
             have hx0 : w1.cell? ⟨w.heap.size + 1, 0, none⟩ = some (.slice none 0 0) := (hR.cell 0).trans rfl
             have hx1 : w1.cell? ⟨w.heap.size + 1, 1, none⟩ = some (.int .i64 0) := (hR.cell 1).trans rfl
             have hz0 := hR.frozen 0
             have hz1 := hR.frozen 1)
          | (go_at_call 166; refine (limit_any n _).mono ?_; rintro e w2 ⟨rfl, rfl⟩; rw [HLB.out]))
        have hB' := blk_two (v0 := .slice none 0 0) (v1 := .int .i64 0) hR
        have hy0 := (hB'.cell 0).trans rfl
        have hy1 := (hB'.cell 1).trans rfl
        exact bodyPost_ret (v := .tuple #[.agg #[.slice none 0 0, .int .i64 0], .slice none 0 0, .int .i64 1]) (by simp [results, Try.results115, go_sem, hy0, hy1]) rfl ⟨fun _ => rfl, fun h => (by cases h), below_two hbb1 (by omega) _ _⟩
      · have HLB := Lib.hid hlb
        have hcn : count < 0 := by rcases hl with h0 | h0; · rw [hlb] at h0; cases h0
                                   · exact h0
        clear hv hl hlb
        go_enter Try.func115, Try.ntmps115
        go_wp2_with (first
          | (go_at_call 163; refine (valid_any A m c a _).mono ?_; rintro e w1 ⟨rfl, hb1⟩; rw [HV.out]
             have hbb1 := bnext (ballocs (bbox (.cells #[.slice A m c, .int .i64 a] 62)) (.cells #[.slice none 0 0, .int .i64 0] 62)) hb1
             have hR := blk_pair hb1
             have hO := blk_one hb1
             have hx0 : w1.cell? ⟨w.heap.size + 1, 0, none⟩ = some (.slice none 0 0) := (hR.cell 0).trans rfl
             have hx1 : w1.cell? ⟨w.heap.size + 1, 1, none⟩ = some (.int .i64 0) := (hR.cell 1).trans rfl
             have hz0 := hR.frozen 0
             have hz1 := hR.frozen 1)
          | (go_at_call 166; refine (limit_any n _).mono ?_; rintro e w2 ⟨rfl, rfl⟩; rw [HLB.out]))
        have hB' := blk_two (v0 := .slice none 0 0) (v1 := .int .i64 0) hR
        have hy0 := (hB'.cell 0).trans rfl
        have hy1 := (hB'.cell 1).trans rfl
        exact bodyPost_ret (v := .tuple #[.agg #[.slice none 0 0, .int .i64 0], .slice none 0 0, .int .i64 1]) (by simp [results, Try.results115, go_sem, hy0, hy1]) rfl ⟨fun _ => rfl, fun h => (by cases h), below_two hbb1 (by omega) _ _⟩
    · have hlb : limT n = true := by
        cases hlb : limT n
        · exact absurd (Or.inl hlb) hl
        · rfl
      have hcn : 0 ≤ count := by omega
      have hvd := validT_iff.1 hv
      have hdr : drawsE xs m a n count = drawE xs n a.toNat count.toNat := by unfold drawsE; rw [if_neg (by simp [hv]), if_neg hl]
      have HLB := Lib.hid hlb
      clear hl hlb hv
      obtain ⟨cnt, rfl⟩ : ∃ k : Nat, count = k := ⟨count.toNat, by omega⟩
      obtain ⟨a, rfl⟩ : ∃ k : Nat, a = k := ⟨a.toNat, by omega⟩
      rw [Int.toNat_natCast, Int.toNat_natCast] at hdr
      unfold DrawsPost
      rw [hdr, Int.toNat_natCast, Int.toNat_natCast]
      obtain ⟨er, HE⟩ : ∃ er, Hid (drawE xs n a cnt = er) := ⟨_, Lib.hid rfl⟩
      rw [HE.out]
      clear hdr
      by_cases her : er = 0
      · subst her
        go_enter Try.func115, Try.ntmps115
        go_wp2_with (first
        | (go_at_call 163; refine (valid_any A m c a _).mono ?_; rintro e w1 ⟨rfl, hb1⟩; rw [HV.out]
           have hbb1 := bnext (ballocs (bbox (.cells #[.slice A m c, .int .i64 a] 62)) (.cells #[.slice none 0 0, .int .i64 0] 62)) hb1
           have hR := blk_pair hb1
           have hO := blk_one hb1
           have hx0 : w1.cell? ⟨w.heap.size, 0, none⟩ = some (.slice A m c) := (hO.cell 0).trans rfl
           have hx1 : w1.cell? ⟨w.heap.size, 1, none⟩ = some (.int .i64 a) := (hO.cell 1).trans rfl)
        | (go_at_call 166; refine (limit_any n _).mono ?_; rintro e w2 ⟨rfl, rfl⟩; rw [HLB.out])
        | (go_at_call 167; refine (draw_any w1.heap.size A m c a n cnt xs _ (Blk.new _ _ _) ((h.upto hbb1).alloc (Nat.le_refl _) _) (by omega) (by omega) (by omega)).mono ?_; rintro e w3 ⟨rfl, hok, hS3⟩
           rw [HE.out] at hok
           rw [HE.out]
           have hbb3 := Step.below (ballocs hbb1 (.cells #[.slice A m c, .int .i64 a, .slice none 0 0] 182)) hS3 (by simp; have := hbb1.size; omega) hbb1.size
           have hR3 := Step.block hS3 (hR.alloc _) (by have := hR.lt; omega)
           have hO3 := Step.block hS3 (hO.alloc _) (by have := hO.lt; omega)
           have hy0 : w3.cell? ⟨w.heap.size + 1, 0, none⟩ = some (.slice none 0 0) := (hR3.cell 0).trans rfl
           have hy1 : w3.cell? ⟨w.heap.size + 1, 1, none⟩ = some (.int .i64 0) := (hR3.cell 1).trans rfl
           have hu0 : w3.cell? ⟨w.heap.size, 0, none⟩ = some (.slice A m c) := (hO3.cell 0).trans rfl
           have hz0 := hR3.frozen 0
           have hz1 := hR3.frozen 1))
        obtain ⟨D, dc, hBd, hown⟩ := hok (by trivial)
        have hd1 : w3.cell? ⟨w1.heap.size, 1, none⟩ = some (.int .i64 ((a : Int) + (cnt : Int))) := (hBd.cell 1).trans rfl
        have hd2 : w3.cell? ⟨w1.heap.size, 2, none⟩ = some (.slice D cnt dc) := (hBd.cell 2).trans rfl
        have hI3 : Ints w3 w3.heap.size A m xs := (h.below hbb3).more hbb3.size
        have hm16 : m ≤ 17592186044416 := by omega
        clear hok
        go_region_held3 (fun w' => w'.cell? ⟨w1.heap.size, 1, none⟩ = some (.int .i64 ((a : Int) + (cnt : Int))) ∧ w'.cell? ⟨w1.heap.size, 2, none⟩ = some (.slice D cnt dc) ∧ w'.cell? ⟨w.heap.size, 0, none⟩ = some (.slice A m c))
          (first | (refine ⟨?_, ?_, ?_⟩ <;> first | exact hd1 | exact hd2 | exact hu0 | exact hd1' | exact hd2' | exact hu0' | exact (hBd5.cell 1).trans rfl | exact (hBd5.cell 2).trans rfl | exact (hO5.cell 0).trans rfl))
          (first
            | (go_at_call 168; refine (clone_any A m c xs _ (by exact hI3) hm16).mono ?_; rintro e w4 ⟨⟨A4, c4, rfl, hI4⟩, hb4⟩
               have hbb4 := bnext hbb3.drew hb4
               have hR4 := (Blk.drew hR3).below hb4 hR3.lt
               have hown4 := hown.drew.belowAll hb4
               have hd1' : w4.cell? ⟨w1.heap.size, 1, none⟩ = some (.int .i64 ((a : Int) + (cnt : Int))) := (hb4.cell (p := ⟨w1.heap.size, 1, none⟩) hBd.lt).trans hd1
               have hd2' : w4.cell? ⟨w1.heap.size, 2, none⟩ = some (.slice D cnt dc) := (hb4.cell (p := ⟨w1.heap.size, 2, none⟩) hBd.lt).trans hd2
               have hu0' : w4.cell? ⟨w.heap.size, 0, none⟩ = some (.slice A m c) := (hb4.cell (p := ⟨w.heap.size, 0, none⟩) hO3.lt).trans hu0
               have hy0' : w4.cell? ⟨w.heap.size + 1, 0, none⟩ = some (.slice none 0 0) := (hR4.cell 0).trans rfl
               have hy1' : w4.cell? ⟨w.heap.size + 1, 1, none⟩ = some (.int .i64 0) := (hR4.cell 1).trans rfl
               have hz0' := hR4.frozen 0
               have hz1' := hR4.frozen 1
               have hR5 := blk_two (v0 := .slice A4 m c4) (v1 := .int .i64 ((a : Int) + (cnt : Int))) hR4
               have hBd5 := (((Blk.drew hBd).below hb4 hBd.lt).far (p := ⟨w.heap.size + 1, 0, none⟩) (by simp; have := hR.lt; omega) (.slice A4 m c4)).far (p := ⟨w.heap.size + 1, 1, none⟩) (by simp; have := hR.lt; omega) (.int .i64 ((a : Int) + (cnt : Int)))
               have hO5 := (((Blk.drew hO3).below hb4 hO3.lt).far (p := ⟨w.heap.size + 1, 0, none⟩) (by simp) (.slice A4 m c4)).far (p := ⟨w.heap.size + 1, 1, none⟩) (by simp) (.int .i64 ((a : Int) + (cnt : Int)))))
        go_wp2
        have hS5 := ((Step.refl (w.heap.size + 1) w4).set 0 (.slice A4 m c4)).set 1 (.int .i64 ((a : Int) + (cnt : Int)))
        have hr1 := hR.lt
        have hsz := World.grownBy.size hS3
        have hsz' : w1.heap.size < w3.heap.size := by simp at hsz; omega
        have hI5 := (hI4.step hS5 (by show w.heap.size + 1 < w3.heap.size; omega)).base (by show w.heap.size ≤ w3.heap.size; omega)
        have hD5 := hown4.step hS5 (by omega)
        have hy0 := (hR5.cell 0).trans rfl
        have hy1 := (hR5.cell 1).trans rfl
        exact bodyPost_ret (v := .tuple #[.agg #[.slice A4 m c4, .int .i64 ((a : Int) + (cnt : Int))], .slice D cnt dc, .int .i64 0]) (by simp [results, Try.results115, go_sem, hy0, hy1]) rfl
          ⟨fun h => absurd rfl h, fun _ => ⟨A4, c4, D, dc, rfl, hI5, hD5.base (by omega)⟩, below_two hbb4 (by omega) _ _⟩
      · have hne : (er != 0) = true := by simpa using her
        go_enter Try.func115, Try.ntmps115
        go_wp2_with (first
        | (go_at_call 163; refine (valid_any A m c a _).mono ?_; rintro e w1 ⟨rfl, hb1⟩; rw [HV.out]
           have hbb1 := bnext (ballocs (bbox (.cells #[.slice A m c, .int .i64 a] 62)) (.cells #[.slice none 0 0, .int .i64 0] 62)) hb1
           have hR := blk_pair hb1
           have hO := blk_one hb1
           have hx0 : w1.cell? ⟨w.heap.size, 0, none⟩ = some (.slice A m c) := (hO.cell 0).trans rfl
           have hx1 : w1.cell? ⟨w.heap.size, 1, none⟩ = some (.int .i64 a) := (hO.cell 1).trans rfl)
        | (go_at_call 166; refine (limit_any n _).mono ?_; rintro e w2 ⟨rfl, rfl⟩; rw [HLB.out])
        | (go_at_call 167; refine (draw_any w1.heap.size A m c a n cnt xs _ (Blk.new _ _ _) ((h.upto hbb1).alloc (Nat.le_refl _) _) (by omega) (by omega) (by omega)).mono ?_; rintro e w3 ⟨rfl, hok, hS3⟩
           rw [HE.out] at hok
           rw [HE.out]
           have hbb3 := Step.below (ballocs hbb1 (.cells #[.slice A m c, .int .i64 a, .slice none 0 0] 182)) hS3 (by simp; have := hbb1.size; omega) hbb1.size
           have hR3 := Step.block hS3 (hR.alloc _) (by have := hR.lt; omega)
           have hO3 := Step.block hS3 (hO.alloc _) (by have := hO.lt; omega)
           have hy0 : w3.cell? ⟨w.heap.size + 1, 0, none⟩ = some (.slice none 0 0) := (hR3.cell 0).trans rfl
           have hy1 : w3.cell? ⟨w.heap.size + 1, 1, none⟩ = some (.int .i64 0) := (hR3.cell 1).trans rfl
           have hu0 : w3.cell? ⟨w.heap.size, 0, none⟩ = some (.slice A m c) := (hO3.cell 0).trans rfl
           have hz0 := hR3.frozen 0
           have hz1 := hR3.frozen 1))
        have hB' := blk_two (v0 := .slice none 0 0) (v1 := .int .i64 0) hR3
        have hy0 := (hB'.cell 0).trans rfl
        have hy1 := (hB'.cell 1).trans rfl
        exact bodyPost_ret (v := .tuple #[.agg #[.slice none 0 0, .int .i64 0], .slice none 0 0, .int .i64 er]) (by simp [results, Try.results115, go_sem, hy0, hy1]) rfl ⟨fun _ => rfl, fun h => absurd h her, below_two hbb3 (by omega) _ _⟩
  · have hv' : validT m a = false := by simpa using hv
    have HE : Hid (drawsE xs m a n count = 2) := Lib.hid (by unfold drawsE; rw [if_pos hv'])
    have HV := Lib.hid hv'
    unfold DrawsPost
    rw [HE.out]
    clear hv hv'
    go_enter Try.func115, Try.ntmps115
    go_wp2_with (first
      | (go_at_call 163; refine (valid_any A m c a _).mono ?_; rintro e w1 ⟨rfl, hb1⟩; rw [HV.out]
         have hbb1 := bnext (ballocs (bbox (.cells #[.slice A m c, .int .i64 a] 62)) (.cells #[.slice none 0 0, .int .i64 0] 62)) hb1
         have hR := blk_pair hb1
         have hO := blk_one hb1
         have hx0 : w1.cell? ⟨w.heap.size + 1, 0, none⟩ = some (.slice none 0 0) := (hR.cell 0).trans rfl
         have hx1 : w1.cell? ⟨w.heap.size + 1, 1, none⟩ = some (.int .i64 0) := (hR.cell 1).trans rfl
         have hz0 := hR.frozen 0
         have hz1 := hR.frozen 1))
    have hB' := blk_two (v0 := .slice none 0 0) (v1 := .int .i64 0) hR
    have hy0 := (hB'.cell 0).trans rfl
    have hy1 := (hB'.cell 1).trans rfl
    exact bodyPost_ret (v := .tuple #[.agg #[.slice none 0 0, .int .i64 0], .slice none 0 0, .int .i64 2]) (by simp [results, Try.results115, go_sem, hy0, hy1]) rfl ⟨fun _ => rfl, fun h => (by cases h), below_two hbb1 (by omega) _ _⟩
end Go.Proofs.Ytoblofilaegnaaa

/-! TapeD -/
namespace Go.Proofs.Ytoblofilaegnaaa
open Go.RowKit
set_option linter.unusedVariables false

/-- What Draw leaves. -/
def DrawPost (m : Nat) (a n : Int) (xs : List Int) (w : World) (e : Ending) (w' : World) : Prop :=
  (drawsE xs m a n 1 ≠ 0 → e = .returned (.tuple #[.agg #[.slice none 0 0, .int .i64 0], .int .i64 0, .int .i64 (drawsE xs m a n 1)])) ∧
  (drawsE xs m a n 1 = 0 → ∃ A' c', e = .returned (.tuple #[.agg #[.slice A' m c', .int .i64 (a + 1)], .int .i64 (xs.getD a.toNat 0), .int .i64 0]) ∧ OwnI w' w.heap.size 3 A' m c' xs) ∧
  Below w.heap.size w w'

set_option maxHeartbeats 800000 in
set_option maxRecDepth 100000 in
theorem draw1_any (A : Option Addr) (m c : Nat) (a n : Int) (xs : List Int) (w : World) (h : Ints w w.heap.size A m xs) :
    Calls Try.prog 113 #[.agg #[.slice A m c, .int .i64 a], .int .i64 n] w (DrawPost m a n xs w) := by
  unfold DrawPost
  obtain ⟨er, HE⟩ : ∃ er, Hid (drawsE xs m a n 1 = er) := ⟨_, Lib.hid rfl⟩
  rw [HE.out]
  by_cases her : er = 0
  · subst her
    have hlen := h.len
    have HX : Hid (((xs.drop a.toNat).take 1).getD 0 0 = xs.getD a.toNat 0) := Lib.hid (by
      have h1 := drawn_of HE.out
      have h2 := validT_iff.1 h1.1
      have h3 := (drawE_ok 1 a.toNat (by rw [hlen]; omega)).1 h1.2.2.2
      rw [List.getD_eq_getElem?_getD, List.getElem?_take_of_lt (by omega), List.getElem?_drop, Nat.add_zero, List.getD_eq_getElem?_getD])
    clear hlen
    go_enter Try.func113, Try.ntmps113
    go_wp2_with (go_at_call 115; refine (draws_any A m c a n 1 xs _ (h.upto (ballocs (bbox (.cells #[.slice A m c, .int .i64 a] 62)) (.cells #[.slice none 0 0, .int .i64 0] 62))) (by omega)).mono ?_; rintro e w1 ⟨_, hyes, hb1⟩
                 obtain ⟨A', c', D, dc, he, hI, hown⟩ := hyes HE.out
                 rw [show (1 : Int).toNat = 1 from rfl] at he hown
                 subst he
                 have hbb1 := bnext (ballocs (bbox (.cells #[.slice A m c, .int .i64 a] 62)) (.cells #[.slice none 0 0, .int .i64 0] 62)) hb1
                 have hR := blk_pair hb1
                 have hR1 := hR.alloc (.cells #[.slice A' m c', .int .i64 (a + 1)] 62)
                 have hbb2 := ballocs hbb1 (.cells #[.slice A' m c', .int .i64 (a + 1)] 62)
                 have hx0 : (w1.alloc (.cells #[.slice A' m c', .int .i64 (a + 1)] 62)).cell? ⟨w.heap.size + 1, 0, none⟩ = some (.slice none 0 0) := (hR1.cell 0).trans rfl
                 have hx1 : (w1.alloc (.cells #[.slice A' m c', .int .i64 (a + 1)] 62)).cell? ⟨w.heap.size + 1, 1, none⟩ = some (.int .i64 0) := (hR1.cell 1).trans rfl
                 have hz0 := hR1.frozen 0
                 have hz1 := hR1.frozen 1
                 obtain ⟨gD, rfl, hg1, hg2⟩ := hown.form (by simp)
                 have hd0 : w1.cell? ⟨gD, 0, none⟩ = some (.int .i64 (xs.getD a.toNat 0)) := by have := hown.cellAt (j := 0) (by simp); rwa [HX.out] at this
                 have hN := Blk.new w1 62 #[.slice A' m c', .int .i64 (a + 1)]
                 have hn0 : (w1.alloc (.cells #[.slice A' m c', .int .i64 (a + 1)] 62)).cell? ⟨w1.heap.size, 0, none⟩ = some (.slice A' m c') := (hN.cell 0).trans rfl
                 have hn1 : (w1.alloc (.cells #[.slice A' m c', .int .i64 (a + 1)] 62)).cell? ⟨w1.heap.size, 1, none⟩ = some (.int .i64 (a + 1)) := (hN.cell 1).trans rfl
                 have hlr := hR.lt
                 have hw0 : w1.cell? ⟨w.heap.size + 1, 0, none⟩ = some (.slice none 0 0) := (hR.cell 0).trans rfl
                 have hw1 : w1.cell? ⟨w.heap.size + 1, 1, none⟩ = some (.int .i64 0) := (hR.cell 1).trans rfl
                 have hf0 := hR.frozen 0
                 have hf1 := hR.frozen 1
                 have hgD : gD ≠ w.heap.size + 1 := by simp at hg1; omega
                 clear hyes)
    go_wp2_with fail
    go_region
    go_wp2
    have hS5 := (((Step.refl (w.heap.size + 1) w1).set 0 (.slice A' m c')).set 1 (.int .i64 (a + 1))).alloc (.cells #[.slice A' m c', .int .i64 (a + 1)] 62)
    have hI5 := hI.step hS5 (by simp)
    have hR5 := (blk_two (v0 := .slice A' m c') (v1 := .int .i64 (a + 1)) hR).alloc (.cells #[.slice A' m c', .int .i64 (a + 1)] 62)
    have hy0 := (Blk.drew hR5).cell 0
    have hy1 := (Blk.drew hR5).cell 1
    exact bodyPost_ret (v := .tuple #[.agg #[.slice A' m c', .int .i64 (a + 1)], .int .i64 (xs.getD a.toNat 0), .int .i64 0]) (by simp [results, Try.results113, go_sem, hy0, hy1]) rfl
      ⟨fun h => absurd rfl h, fun _ => ⟨A', c', rfl, (hI5.drew).base (by simp; omega)⟩, (ballocs (below_two hbb1 (by omega) _ _) _).drew⟩
  · have hne : (er != 0) = true := by simpa using her
    go_enter Try.func113, Try.ntmps113
    go_wp2_with (go_at_call 115; refine (draws_any A m c a n 1 xs _ (h.upto (ballocs (bbox (.cells #[.slice A m c, .int .i64 a] 62)) (.cells #[.slice none 0 0, .int .i64 0] 62))) (by omega)).mono ?_; rintro e w1 ⟨hno, _, hb1⟩
                 obtain rfl := hno (by rw [HE.out]; exact her)
                 rw [HE.out]
                 have hbb1 := bnext (ballocs (bbox (.cells #[.slice A m c, .int .i64 a] 62)) (.cells #[.slice none 0 0, .int .i64 0] 62)) hb1
                 have hR := blk_pair hb1
                 have hR1 := hR.alloc (.cells #[.slice none 0 0, .int .i64 0] 62)
                 have hbb2 := ballocs hbb1 (.cells #[.slice none 0 0, .int .i64 0] 62)
                 have hx0 : (w1.alloc (.cells #[.slice none 0 0, .int .i64 0] 62)).cell? ⟨w.heap.size + 1, 0, none⟩ = some (.slice none 0 0) := (hR1.cell 0).trans rfl
                 have hx1 : (w1.alloc (.cells #[.slice none 0 0, .int .i64 0] 62)).cell? ⟨w.heap.size + 1, 1, none⟩ = some (.int .i64 0) := (hR1.cell 1).trans rfl
                 have hz0 := hR1.frozen 0
                 have hz1 := hR1.frozen 1
                 clear hno)
    have hB' := blk_two (v0 := .slice none 0 0) (v1 := .int .i64 0) hR1
    have hy0 := (hB'.cell 0).trans rfl
    have hy1 := (hB'.cell 1).trans rfl
    exact bodyPost_ret (v := .tuple #[.agg #[.slice none 0 0, .int .i64 0], .int .i64 0, .int .i64 er]) (by simp [results, Try.results113, go_sem, hy0, hy1]) rfl ⟨fun _ => rfl, fun h => absurd h her, below_two hbb2 (by omega) _ _⟩
end Go.Proofs.Ytoblofilaegnaaa

/-! RTape -/
namespace Go.Proofs.Ytoblofilaegnaaa
open Go.RowKit
set_option linter.unusedVariables false

def leftV (m : Nat) (a : Int) : Int := if validT m a = true then (m : Int) - a else 0
def leftE (m : Nat) (a : Int) : Int := if validT m a = true then 0 else 2

theorem rvalid_any (A : Option Addr) (m c : Nat) (a : Int) (w : World) :
    Calls Try.prog 164 #[.agg #[.slice A m c, .int .i64 a]] w fun e w' => e = .returned (.bool (validT m a)) ∧ Below w.heap.size w w' := by
  go_enter Try.func164, Try.ntmps164
  go_wp2
  all_goals go_ret
  all_goals exact ⟨ret_bool (by unfold validT; rw [Bool.eq_iff_iff]; simp; try omega), bbox _⟩

/-- tape.Left. -/
theorem left_all (A : Option Addr) (m c : Nat) (a : Int) (w : World) :
    Calls Try.prog 110 #[.agg #[.slice A m c, .int .i64 a]] w fun e w' => e = .returned (.tuple #[.int .i64 (leftV m a), .int .i64 (leftE m a)]) ∧ Below w.heap.size w w' := by
  by_cases hv : validT m a = true
  · have HV := Lib.hid hv
    have HL : Hid (leftV m a = (m : Int) - a) := Lib.hid (by unfold leftV; rw [if_pos hv])
    have HE : Hid (leftE m a = 0) := Lib.hid (by unfold leftE; rw [if_pos hv])
    rw [HL.out, HE.out]
    have hvi := validT_iff.1 hv
    have hwr : IntKind.i64.wrap ((m : Int) - a) = (m : Int) - a := IntWalk.i64_in _ (by omega)
    clear hv
    go_enter Try.func110, Try.ntmps110
    go_wp2_with (go_at_call 163; refine (valid_any A m c a _).mono ?_; rintro e w1 ⟨rfl, hb1⟩; rw [HV.out]
                 have hO := (Blk.new w 62 #[.slice A m c, .int .i64 a]).below hb1 (by simp)
                 have hc0 : w1.cell? ⟨w.heap.size, 0, none⟩ = some (.slice A m c) := (hO.cell 0).trans rfl
                 have hc1 : w1.cell? ⟨w.heap.size, 1, none⟩ = some (.int .i64 a) := (hO.cell 1).trans rfl)
    go_ret2
    exact ⟨rfl, bnext (bbox _) hb1⟩
  · have hv' : validT m a = false := by simpa using hv
    have HV := Lib.hid hv'
    have HL : Hid (leftV m a = 0) := Lib.hid (by unfold leftV; rw [if_neg hv])
    have HE : Hid (leftE m a = 2) := Lib.hid (by unfold leftE; rw [if_neg hv])
    rw [HL.out, HE.out]
    clear hv hv'
    go_enter Try.func110, Try.ntmps110
    go_wp2_with (go_at_call 163; refine (valid_any A m c a _).mono ?_; rintro e w1 ⟨rfl, hb1⟩; rw [HV.out])
    go_ret2
    exact ⟨rfl, bnext (bbox _) hb1⟩

/-- ref02.Left. -/
theorem rleft_any (A : Option Addr) (m c : Nat) (a : Int) (w : World) :
    Calls Try.prog 111 #[.agg #[.slice A m c, .int .i64 a]] w fun e w' => e = .returned (.tuple #[.int .i64 (leftV m a), .int .i64 (leftE m a)]) ∧ Below w.heap.size w w' := by
  by_cases hv : validT m a = true
  · have HV := Lib.hid hv
    have HL : Hid (leftV m a = (m : Int) - a) := Lib.hid (by unfold leftV; rw [if_pos hv])
    have HE : Hid (leftE m a = 0) := Lib.hid (by unfold leftE; rw [if_pos hv])
    rw [HL.out, HE.out]
    have hvi := validT_iff.1 hv
    have hwr : IntKind.i64.wrap ((m : Int) - a) = (m : Int) - a := IntWalk.i64_in _ (by omega)
    clear hv
    go_enter Try.func111, Try.ntmps111
    go_wp2_with (go_at_call 164; refine (rvalid_any A m c a _).mono ?_; rintro e w1 ⟨rfl, hb1⟩; rw [HV.out]
                 have hO := (Blk.new w 62 #[.slice A m c, .int .i64 a]).below hb1 (by simp)
                 have hc0 : w1.cell? ⟨w.heap.size, 0, none⟩ = some (.slice A m c) := (hO.cell 0).trans rfl
                 have hc1 : w1.cell? ⟨w.heap.size, 1, none⟩ = some (.int .i64 a) := (hO.cell 1).trans rfl)
    go_ret2
    exact ⟨rfl, bnext (bbox _) hb1⟩
  · have hv' : validT m a = false := by simpa using hv
    have HV := Lib.hid hv'
    have HL : Hid (leftV m a = 0) := Lib.hid (by unfold leftV; rw [if_neg hv])
    have HE : Hid (leftE m a = 2) := Lib.hid (by unfold leftE; rw [if_neg hv])
    rw [HL.out, HE.out]
    clear hv hv'
    go_enter Try.func111, Try.ntmps111
    go_wp2_with (go_at_call 164; refine (rvalid_any A m c a _).mono ?_; rintro e w1 ⟨rfl, hb1⟩; rw [HV.out])
    go_ret2
    exact ⟨rfl, bnext (bbox _) hb1⟩

set_option maxRecDepth 100000 in
/-- ref02.Copy. -/
theorem rcopy_any (A : Option Addr) (m c : Nat) (a : Int) (xs : List Int) (w : World) (h : Ints w w.heap.size A m xs) (hm : m ≤ 17592186044416) :
    Calls Try.prog 109 #[.agg #[.slice A m c, .int .i64 a]] w fun e w' => (∃ A' c', e = .returned (.agg #[.slice A' m c', .int .i64 a]) ∧ OwnI w' w.heap.size 3 A' m c' xs) ∧ Below w.heap.size w w' := by
  obtain ⟨i0, hi0, hz0, hz1, hz2⟩ := info_parts info_int
  have hb0 : Below w.heap.size w ((w.alloc (.cells #[.slice A m c, .int .i64 a] 62)).alloc (.cells #[.slice none 0 0, .int .i64 0] 62)) := ballocs (bbox _) _
  have hX := (Blk.new w 62 #[.slice A m c, .int .i64 a]).alloc (.cells #[.slice none 0 0, .int .i64 0] 62)
  have hY := blk_pair (w := w) (o := .cells #[.slice A m c, .int .i64 a] 62) (t := 62) (cs := #[.slice none 0 0, .int .i64 0]) (Below.refl _ _)
  have hI := h.upto hb0
  obtain ⟨W, hW⟩ : ∃ W, (w.alloc (.cells #[.slice A m c, .int .i64 a] 62)).alloc (.cells #[.slice none 0 0, .int .i64 0] 62) = W := ⟨_, rfl⟩
  have hsz : W.heap.size = w.heap.size + 2 := by rw [← hW]; simp
  rw [hW] at hb0 hX hY hI
  have HSZ := Lib.hid hsz
  clear hsz
  have k0 : W.cell? ⟨w.heap.size, 0, none⟩ = some (.slice A m c) := (hX.cell 0).trans rfl
  have k1 : W.cell? ⟨w.heap.size, 1, none⟩ = some (.int .i64 a) := (hX.cell 1).trans rfl
  have f0 := hX.frozen 0
  go_enter Try.func109, Try.ntmps109
  go_wp2_with (
    at_builtin
    refine wpList_append_ints rfl _ _ _ rfl W.heap.size 3 i0 _ Try.underlying22 hi0 hz0 hz1 hz2 rfl none 0 0 [] rfl OwnI.nil_ _ _ m _ xs rfl hI m (by omega) xs rfl (by omega) (by simp) ?_
    intro A2 c2 w2 hown2 _ hbw2 _
    have hX2 := hX.below hbw2 (by have := HSZ.out; omega)
    have hY2 := hY.below hbw2 (by have := HSZ.out; omega)
    have j0 : w2.cell? ⟨w.heap.size, 0, none⟩ = some (.slice A m c) := (hX2.cell 0).trans rfl
    have j1 : w2.cell? ⟨w.heap.size, 1, none⟩ = some (.int .i64 a) := (hX2.cell 1).trans rfl
    have g0 := hX2.frozen 0
    have hY3 := hY2.far (p := ⟨w.heap.size, 0, none⟩) (by simp) (.slice A2 m c2)
    have hX3 := hX2.set_ 0 (.slice A2 m c2)
    have l0 : (w2.setCell ⟨w.heap.size, 0, none⟩ (.slice A2 m c2)).cell? ⟨w.heap.size, 0, none⟩ = some (.slice A2 m c2) := (hX3.cell 0).trans rfl
    have l1 : (w2.setCell ⟨w.heap.size, 0, none⟩ (.slice A2 m c2)).cell? ⟨w.heap.size, 1, none⟩ = some (.int .i64 a) := (hX3.cell 1).trans rfl
    have m0 : (w2.setCell ⟨w.heap.size, 0, none⟩ (.slice A2 m c2)).cell? ⟨w.heap.size + 1, 0, none⟩ = some (.slice none 0 0) := (hY3.cell 0).trans rfl
    have m1 : (w2.setCell ⟨w.heap.size, 0, none⟩ (.slice A2 m c2)).cell? ⟨w.heap.size + 1, 1, none⟩ = some (.int .i64 0) := (hY3.cell 1).trans rfl
    have q0 := hY3.frozen 0
    have q1 := hY3.frozen 1)
  have hR5 := blk_two (v0 := .slice A2 m c2) (v1 := .int .i64 a) hY3
  have hy0 := (hR5.cell 0).trans rfl
  have hy1 := (hR5.cell 1).trans rfl
  have hS5 := ((Step.refl w.heap.size w2).set 0 (.slice A2 m c2))
  have hown5 := hown2.step hS5 (by have := HSZ.out; omega)
  have hown6 := hown5.step (((Step.refl (w.heap.size + 1) _).set 0 (.slice A2 m c2)).set 1 (.int .i64 a)) (by have := HSZ.out; omega)
  exact bodyPost_ret (v := .agg #[.slice A2 m c2, .int .i64 a]) (by simp [results, Try.results109, go_sem, hy0, hy1]) rfl
    ⟨⟨A2, c2, rfl, hown6.base (by have := HSZ.out; omega)⟩, below_two ((hb0.trans (hbw2.mono (by have := HSZ.out; omega))).setCell (p := ⟨w.heap.size, 0, none⟩) (Nat.le_refl _) _) (by omega) _ _⟩
end Go.Proofs.Ytoblofilaegnaaa

/-! RDraws -/
namespace Go.Proofs.Ytoblofilaegnaaa
open Go.RowKit
set_option linter.unusedVariables false

set_option maxHeartbeats 1600000 in
set_option maxRecDepth 100000 in
theorem rdraws_any (A : Option Addr) (m c : Nat) (a n count : Int) (xs : List Int) (w : World) (h : Ints w w.heap.size A m xs) (hc : count ≤ 9223372036854775807) :
    Calls Try.prog 116 #[.agg #[.slice A m c, .int .i64 a], .int .i64 n, .int .i64 count] w (DrawsPost m a n count xs w) := by
  obtain ⟨i0, hi0, hz0, hz1, hz2⟩ := info_parts info_int
  have hb0 : Below w.heap.size w ((w.alloc (.cells #[.slice A m c, .int .i64 a] 62)).alloc (.cells #[.slice none 0 0, .int .i64 0] 62)) := ballocs (bbox _) _
  have hX0 := (Blk.new w 62 #[.slice A m c, .int .i64 a]).alloc (.cells #[.slice none 0 0, .int .i64 0] 62)
  have hY0 := blk_pair (w := w) (o := .cells #[.slice A m c, .int .i64 a] 62) (t := 62) (cs := #[.slice none 0 0, .int .i64 0]) (Below.refl _ _)
  have hI0 := h.upto hb0
  obtain ⟨W, hW⟩ : ∃ W, (w.alloc (.cells #[.slice A m c, .int .i64 a] 62)).alloc (.cells #[.slice none 0 0, .int .i64 0] 62) = W := ⟨_, rfl⟩
  have hsz : W.heap.size = w.heap.size + 2 := by rw [← hW]; simp
  rw [hW] at hb0 hX0 hY0 hI0
  have HSZ := Lib.hid hsz
  clear hsz
  have k0 : W.cell? ⟨w.heap.size, 0, none⟩ = some (.slice A m c) := (hX0.cell 0).trans rfl
  have k1 : W.cell? ⟨w.heap.size, 1, none⟩ = some (.int .i64 a) := (hX0.cell 1).trans rfl
  have hlen := h.len
  have HL := Lib.hid hlen
  clear hlen
  by_cases hv : validT m a = true
  · have hvd := validT_iff.1 hv
    have HV := Lib.hid hv
    by_cases hl : limT n = false ∨ count < 0
    · have HE : Hid (drawsE xs m a n count = 1) := Lib.hid (by unfold drawsE; rw [if_neg (by simp [hv]), if_pos hl])
      unfold DrawsPost
      rw [HE.out]
      have hbad : n < 1 ∨ 2147483647 < n ∨ count < 0 := by
        rcases hl with h0 | h0
        · unfold limT at h0; simp at h0; omega
        · omega
      clear hv hl
      go_enter Try.func116, Try.ntmps116
      go_wp2_with (go_at_call 164; refine (rvalid_any A m c a _).mono ?_; rintro e w1 ⟨rfl, hb1⟩; rw [HV.out]
                   have hY := hY0.below hb1 (by have := HSZ.out; omega)
                   have hx0 : w1.cell? ⟨w.heap.size + 1, 0, none⟩ = some (.slice none 0 0) := (hY.cell 0).trans rfl
                   have hx1 : w1.cell? ⟨w.heap.size + 1, 1, none⟩ = some (.int .i64 0) := (hY.cell 1).trans rfl
                   have hz0 := hY.frozen 0
                   have hz1 := hY.frozen 1)
      all_goals first
        | (exfalso; omega)
        | (have hB' := blk_two (v0 := .slice none 0 0) (v1 := .int .i64 0) hY
           have hy0 := (hB'.cell 0).trans rfl
           have hy1 := (hB'.cell 1).trans rfl
           exact bodyPost_ret (v := .tuple #[.agg #[.slice none 0 0, .int .i64 0], .slice none 0 0, .int .i64 1]) (by simp [results, Try.results116, go_sem, hy0, hy1]) rfl (by first | exact ⟨fun _ => rfl, fun h => (by cases h), below_two (bnext hb0 hb1) (by omega) _ _⟩ | exact ⟨rfl, below_two (bnext hb0 hb1) (by omega) _ _⟩))
    · have hlb : limT n = true := by
        cases hlb : limT n
        · exact absurd (Or.inl hlb) hl
        · rfl
      have hcn : 0 ≤ count := by omega
      have hn1 : 1 ≤ n ∧ n ≤ 2147483647 := by unfold limT at hlb; simpa using hlb
      have hdr : drawsE xs m a n count = drawE xs n a.toNat count.toNat := by unfold drawsE; rw [if_neg (by simp [hv]), if_neg hl]
      clear hl hlb hv
      obtain ⟨cnt, rfl⟩ : ∃ k : Nat, count = k := ⟨count.toNat, by omega⟩
      obtain ⟨a, rfl⟩ : ∃ k : Nat, a = k := ⟨a.toNat, by omega⟩
      rw [Int.toNat_natCast, Int.toNat_natCast] at hdr
      unfold DrawsPost
      rw [hdr, Int.toNat_natCast, Int.toNat_natCast]
      obtain ⟨er, HE⟩ : ∃ er, Hid (drawE xs n a cnt = er) := ⟨_, Lib.hid rfl⟩
      rw [HE.out]
      clear hdr
      have ham : a ≤ m := by omega
      have hm : m ≤ 16384 := hvd.1
      clear hvd
      go_enter Try.func116, Try.ntmps116
      go_wp2_with (first
        | (go_at_call 164; refine (rvalid_any A m c a _).mono ?_; rintro e w1 ⟨rfl, hb1⟩; rw [HV.out]
           have hX1 := hX0.below hb1 (by have := HSZ.out; omega)
           have hY1 := hY0.below hb1 (by have := HSZ.out; omega)
           have hx0 : w1.cell? ⟨w.heap.size, 0, none⟩ = some (.slice A m c) := (hX1.cell 0).trans rfl
           have hx1 : w1.cell? ⟨w.heap.size, 1, none⟩ = some (.int .i64 a) := (hX1.cell 1).trans rfl
           have hI1 := hI0.upto hb1)
        | (go_at_call 109; refine (rcopy_any A m c a xs _ hI1 (by omega)).mono ?_; rintro e w2 ⟨⟨A2, c2, rfl, hown2⟩, hb2⟩
           have hX2 := hX1.below hb2 hX1.lt
           have hY2 := hY1.below hb2 hY1.lt
           have hy0 : w2.cell? ⟨w.heap.size, 0, none⟩ = some (.slice A m c) := (hX2.cell 0).trans rfl
           have hy1 : w2.cell? ⟨w.heap.size, 1, none⟩ = some (.int .i64 a) := (hX2.cell 1).trans rfl
           have hz0 := hX2.frozen 0
           have hz1 := hX2.frozen 1))
      have hX3 := blk_two (v0 := .slice A2 m c2) (v1 := .int .i64 a) hX2
      have hS3 := ((Step.refl w.heap.size w2).set 0 (.slice A2 m c2)).set 1 (.int .i64 a)
      have hY3 := Step.block hS3 hY2 (by omega)
      have hown3 := (hown2.step hS3 (by have := hX1.lt; omega)).base (base' := w.heap.size + 2) (by have := hY1.lt; omega)
      have hb3 := below_two (bnext (bnext hb0 hb1) hb2) (Nat.le_refl _) (.slice A2 m c2) (.int .i64 a)
      have HAB := Lib.hid (show ∀ k, (Value.slice A2 m c2).ownBlock = some k → k < w2.heap.size from fun k hk => (World.ownsRow.lt hown2 k hk).2)
      have hl2 : w.heap.size + 2 ≤ w2.heap.size := hY2.lt
      clear hX2 hY2 hy0 hy1 hz0 hz1 hS3 hown2 hb2 hx0 hx1 hI1 hX1 hY1 hb1 hI0 hX0 hY0 hb0 k0 k1
      go_loopw [9, 10] (fun s i wr => ∃ (k ak : Nat) (D : Option Addr) (dc : Nat), k ≤ cnt ∧ Hid (a + k = ak) ∧ ak ≤ m ∧ i = .int .i64 k ∧ s = .slice D k dc ∧ Blk wr w.heap.size 62 #[.slice A2 m c2, .int .i64 ak] ∧
        Blk wr (w.heap.size + 1) 62 #[.slice none 0 0, .int .i64 0] ∧ OwnI wr (w.heap.size + 2) 3 A2 m c2 xs ∧ OwnI wr w2.heap.size 3 D k dc ((xs.drop a).take k) ∧ Below w.heap.size w wr ∧ w2.heap.size ≤ wr.heap.size ∧ Hid (drawE xs n ak (cnt - k) = er)) (fun _ i _ => cnt - (intOf i).toNat)
      case atStart => exact ⟨0, a, none, 0, Nat.zero_le _, Lib.hid rfl, ham, rfl, rfl, hX3, hY3, hown3, OwnI.nil_, hb3, by simp [World.setCell], HE⟩
      case round =>
        clear hX3 hY3 hown3 hb3
        obtain ⟨k, ak, D, dc, hk, HAK, hak, rfl, rfl, hX, hY, hA, hD, hB, hl, HDE⟩ := hrel
        have hc0 : wr.cell? ⟨w.heap.size, 0, none⟩ = some (.slice A2 m c2) := (hX.cell 0).trans rfl
        have hc1 : wr.cell? ⟨w.heap.size, 1, none⟩ = some (.int .i64 ak) := (hX.cell 1).trans rfl
        have hf0 := hX.frozen 0
        have hf1 := hX.frozen 1
        have hd0 : wr.cell? ⟨w.heap.size + 1, 0, none⟩ = some (.slice none 0 0) := (hY.cell 0).trans rfl
        have hd1 : wr.cell? ⟨w.heap.size + 1, 1, none⟩ = some (.int .i64 0) := (hY.cell 1).trans rfl
        have hg0 := hY.frozen 0
        have hg1 := hY.frozen 1
        by_cases hlt : k < cnt
        · have HST := Lib.hid (drawE_step xs n a hlt)
          by_cases hal : ak = m
          · subst hal
            have h3 : er = 3 := by
              have h1 := HST.out
              have : nextE xs n ak = 3 := by unfold nextE; rw [if_pos HL.out.symm]
              rw [HAK.out, this, HDE.out] at h1
              simpa using h1
            subst h3
            go_wp2
            have hB' := blk_two (v0 := .slice none 0 0) (v1 := .int .i64 0) hY
            have hy0 := (hB'.cell 0).trans rfl
            have hy1 := (hB'.cell 1).trans rfl
            exact bodyPost_ret (v := .tuple #[.agg #[.slice none 0 0, .int .i64 0], .slice none 0 0, .int .i64 3]) (by simp [results, Try.results116, go_sem, hy0, hy1]) rfl ⟨fun _ => rfl, fun h => (by cases h), below_two hB (by omega) _ _⟩
          · obtain ⟨gA, rfl, hgA, _⟩ := hA.form (by omega)
            have hcx := hA.cellAt (j := ak) (by omega)
            have hak0 : (0 : Int) ≤ (ak : Int) := by omega
            have hakm : (ak : Int) < (m : Int) := by omega
            have hne : ((ak : Int) == (m : Int)) = false := by simp; omega
            by_cases hbad : xs.getD ak 0 < 0 ∨ n ≤ xs.getD ak 0
            · have h8 : er = 8 := by
                have h1 := HST.out
                have : nextE xs n ak = 8 := by unfold nextE; rw [if_neg (by rw [HL.out]; exact hal), if_pos hbad]
                rw [HAK.out, this, HDE.out] at h1
                simpa using h1
              subst h8
              obtain ⟨x, HX⟩ : ∃ x, Hid (xs.getD ak 0 = x) := ⟨_, Lib.hid rfl⟩
              rw [HX.out] at hcx hbad
              go_wp2
              all_goals first
                | (exfalso; omega)
                | (have hB' := blk_two (v0 := .slice none 0 0) (v1 := .int .i64 0) hY
                   have hy0 := (hB'.cell 0).trans rfl
                   have hy1 := (hB'.cell 1).trans rfl
                   exact bodyPost_ret (v := .tuple #[.agg #[.slice none 0 0, .int .i64 0], .slice none 0 0, .int .i64 8]) (by simp [results, Try.results116, go_sem, hy0, hy1]) rfl (by first | exact ⟨fun _ => rfl, fun h => (by cases h), below_two hB (by omega) _ _⟩ | exact ⟨rfl, below_two hB (by omega) _ _⟩))
            · have HN : Hid (drawE xs n (ak + 1) (cnt - (k + 1)) = er) := Lib.hid (by
                have h1 := HST.out
                have : nextE xs n ak = 0 := by unfold nextE; rw [if_neg (by rw [HL.out]; exact hal), if_neg hbad]
                rw [HAK.out, this, HDE.out, if_pos rfl, ← Nat.add_assoc, HAK.out] at h1
                exact h1.symm)
              have HT := Lib.hid (drop_take_succ xs a k (by rw [HL.out, HAK.out]; omega))
              obtain ⟨x, HX⟩ : ∃ x, Hid (xs.getD ak 0 = x) := ⟨_, Lib.hid rfl⟩
              rw [HX.out] at hcx hbad
              rw [not_or] at hbad
              obtain ⟨hx1, hx2⟩ := hbad
              have hS1 := (Step.refl w.heap.size wr).set 1 (.int .i64 ((ak : Int) + 1))
              have hD1 := hD.step hS1 (by omega)
              have hA1 := hA.step hS1 (by omega)
              have hX1 := hX.set_ 1 (.int .i64 ((ak : Int) + 1))
              have hY1 := Step.block hS1 hY (by omega)
              have hB1 := hB.setCell (p := ⟨w.heap.size, 1, none⟩) (Nat.le_refl _) (.int .i64 ((ak : Int) + 1))
              have hk16 : k < 16384 := by have := HAK.out; omega
              have hl1 : w2.heap.size ≤ (wr.setCell ⟨w.heap.size, 1, none⟩ (.int .i64 ((ak : Int) + 1))).heap.size := by simp [World.setCell]; exact hl
              go_wp2_with (at_builtin
                           refine wpList_append_ints rfl _ _ _ rfl w2.heap.size 3 i0 _ Try.underlying22 hi0 hz0 hz1 hz2 rfl D k dc _ rfl (hD1.alloc _) _ _ 1 1 [x] rfl (Ints.oneAt _ _ _ _ (by simp [World.setCell])) (k + 1) rfl _ rfl (by omega) (le_alloc hl1 _) ?_
                           intro A3 c3 w4 hown4 _ hbw4 _
                           have hb4 : Below w2.heap.size (wr.setCell ⟨w.heap.size, 1, none⟩ (.int .i64 ((ak : Int) + 1))) w4 := ((Below.refl _ _).alloc hl1 _).trans hbw4)
              go_roundw
              case rel => exact ⟨k + 1, ak + 1, A3, c3, by omega, Lib.hid (by have := HAK.out; omega), by omega, by go_num, rfl, hX1.below hb4 (by omega), hY1.below hb4 (by omega), hA1.below hb4 HAB.out, by rw [HT.out, HAK.out, HX.out]; exact hown4, hB1.trans (hb4.mono (by omega)), Nat.le_trans hl1 hb4.size, HN⟩
              case measure => simp [intOf]; omega
        · obtain rfl : k = cnt := by omega
          have h0 : er = 0 := by have := HDE.out; rw [Nat.sub_self] at this; exact this.symm
          subst h0
          go_wp2
          have hR5 := blk_two (v0 := .slice A2 m c2) (v1 := .int .i64 ak) hY
          have hy0 := (hR5.cell 0).trans rfl
          have hy1 := (hR5.cell 1).trans rfl
          have hS5 := ((Step.refl (w.heap.size + 1) wr).set 0 (.slice A2 m c2)).set 1 (.int .i64 ak)
          have hA5 := (hA.step hS5 (by omega)).base (base' := w.heap.size) (by omega)
          have hD5 := (hD.step hS5 (by omega)).base (base' := w.heap.size) (by omega)
          have hsum : (a : Int) + (k : Int) = (ak : Int) := by have := HAK.out; omega
          exact bodyPost_ret (v := .tuple #[.agg #[.slice A2 m c2, .int .i64 ak], .slice D k dc, .int .i64 0]) (by simp [results, Try.results116, go_sem, hy0, hy1]) rfl
            (by first | exact ⟨fun h => absurd rfl h, fun _ => ⟨A2, c2, D, dc, by rw [hsum], hA5, hD5⟩, below_two hB (by omega) _ _⟩ | exact ⟨⟨A2, c2, D, dc, by rw [hsum], hA5, hD5⟩, below_two hB (by omega) _ _⟩)
  · have hv' : validT m a = false := by simpa using hv
    have HE : Hid (drawsE xs m a n count = 2) := Lib.hid (by unfold drawsE; rw [if_pos hv'])
    have HV := Lib.hid hv'
    unfold DrawsPost
    rw [HE.out]
    clear hv hv'
    go_enter Try.func116, Try.ntmps116
    go_wp2_with (go_at_call 164; refine (rvalid_any A m c a _).mono ?_; rintro e w1 ⟨rfl, hb1⟩; rw [HV.out]
                 have hY := hY0.below hb1 (by have := HSZ.out; omega)
                 have hx0 : w1.cell? ⟨w.heap.size + 1, 0, none⟩ = some (.slice none 0 0) := (hY.cell 0).trans rfl
                 have hx1 : w1.cell? ⟨w.heap.size + 1, 1, none⟩ = some (.int .i64 0) := (hY.cell 1).trans rfl
                 have hz0 := hY.frozen 0
                 have hz1 := hY.frozen 1)
    have hB' := blk_two (v0 := .slice none 0 0) (v1 := .int .i64 0) hY
    have hy0 := (hB'.cell 0).trans rfl
    have hy1 := (hB'.cell 1).trans rfl
    exact bodyPost_ret (v := .tuple #[.agg #[.slice none 0 0, .int .i64 0], .slice none 0 0, .int .i64 2]) (by simp [results, Try.results116, go_sem, hy0, hy1]) rfl ⟨fun _ => rfl, fun h => (by cases h), below_two (bnext hb0 hb1) (by omega) _ _⟩
end Go.Proofs.Ytoblofilaegnaaa

/-! RDraw1 -/
namespace Go.Proofs.Ytoblofilaegnaaa
open Go.RowKit
set_option linter.unusedVariables false

set_option maxHeartbeats 1600000 in
set_option maxRecDepth 100000 in
theorem rdraw_any (A : Option Addr) (m c : Nat) (a n : Int) (xs : List Int) (w : World) (h : Ints w w.heap.size A m xs) :
    Calls Try.prog 114 #[.agg #[.slice A m c, .int .i64 a], .int .i64 n] w (DrawPost m a n xs w) := by
  unfold DrawPost
  obtain ⟨er, HE⟩ : ∃ er, Hid (drawsE xs m a n 1 = er) := ⟨_, Lib.hid rfl⟩
  rw [HE.out]
  have hb0 : Below w.heap.size w ((w.alloc (.cells #[.slice A m c, .int .i64 a] 62)).alloc (.cells #[.slice none 0 0, .int .i64 0] 62)) := ballocs (bbox _) _
  have hX0 := (Blk.new w 62 #[.slice A m c, .int .i64 a]).alloc (.cells #[.slice none 0 0, .int .i64 0] 62)
  have hY0 := blk_pair (w := w) (o := .cells #[.slice A m c, .int .i64 a] 62) (t := 62) (cs := #[.slice none 0 0, .int .i64 0]) (Below.refl _ _)
  have hI0 := h.upto hb0
  obtain ⟨W, hW⟩ : ∃ W, (w.alloc (.cells #[.slice A m c, .int .i64 a] 62)).alloc (.cells #[.slice none 0 0, .int .i64 0] 62) = W := ⟨_, rfl⟩
  have hsz : W.heap.size = w.heap.size + 2 := by rw [← hW]; simp
  rw [hW] at hb0 hX0 hY0 hI0
  have HSZ := Lib.hid hsz
  clear hsz
  have k0 : W.cell? ⟨w.heap.size, 0, none⟩ = some (.slice A m c) := (hX0.cell 0).trans rfl
  have k1 : W.cell? ⟨w.heap.size, 1, none⟩ = some (.int .i64 a) := (hX0.cell 1).trans rfl
  by_cases her : er = 0
  · subst her
    have hlen := h.len
    have HX : Hid (((xs.drop a.toNat).take 1).getD 0 0 = xs.getD a.toNat 0) := Lib.hid (by
      have h1 := drawn_of HE.out
      have h2 := validT_iff.1 h1.1
      have h3 := (drawE_ok 1 a.toNat (by rw [hlen]; omega)).1 h1.2.2.2
      rw [List.getD_eq_getElem?_getD, List.getElem?_take_of_lt (by omega), List.getElem?_drop, Nat.add_zero, List.getD_eq_getElem?_getD])
    clear hlen
    go_enter Try.func114, Try.ntmps114
    go_wp2_with (go_at_call 116; refine (rdraws_any A m c a n 1 xs _ hI0 (by omega)).mono ?_; rintro e w1 ⟨_, hyes, hb1⟩
                 obtain ⟨A', c', D, dc, he, hI, hown⟩ := hyes HE.out
                 rw [show (1 : Int).toNat = 1 from rfl] at he hown
                 subst he
                 have hX1 := hX0.below hb1 (by have := HSZ.out; omega)
                 have hY1 := hY0.below hb1 (by have := HSZ.out; omega)
                 have hbb1 := bnext hb0 hb1
                 obtain ⟨gD, rfl, hg1, hg2⟩ := hown.form (by simp)
                 have hgD : gD ≠ w.heap.size + 1 := by have := HSZ.out; omega
                 have hd0 : w1.cell? ⟨gD, 0, none⟩ = some (.int .i64 (xs.getD a.toNat 0)) := by have := hown.cellAt (j := 0) (by simp); rwa [HX.out] at this
                 have hx0 : w1.cell? ⟨w.heap.size, 0, none⟩ = some (.slice A m c) := (hX1.cell 0).trans rfl
                 have hx1 : w1.cell? ⟨w.heap.size, 1, none⟩ = some (.int .i64 a) := (hX1.cell 1).trans rfl
                 have hz0 := hX1.frozen 0
                 have hz1 := hX1.frozen 1
                 have hX2 := blk_two (v0 := .slice A' m c') (v1 := .int .i64 (a + 1)) hX1
                 have hS2 := ((Step.refl w.heap.size w1).set 0 (.slice A' m c')).set 1 (.int .i64 (a + 1))
                 have hY2 := Step.block hS2 hY1 (by omega)
                 have hI2 := hI.step hS2 (by have := HSZ.out; omega)
                 have hbb2 := below_two hbb1 (Nat.le_refl _) (.slice A' m c') (.int .i64 (a + 1))
                 have hd2 : ((w1.setCell ⟨w.heap.size, 0, none⟩ (.slice A' m c')).setCell ⟨w.heap.size, 1, none⟩ (.int .i64 (a + 1))).cell? ⟨gD, 0, none⟩ = some (.int .i64 (xs.getD a.toNat 0)) := by
                   have := (hown.step hS2 (by have := HSZ.out; omega)).cellAt (j := 0) (by simp); rwa [HX.out] at this
                 have hx2 : ((w1.setCell ⟨w.heap.size, 0, none⟩ (.slice A' m c')).setCell ⟨w.heap.size, 1, none⟩ (.int .i64 (a + 1))).cell? ⟨w.heap.size, 0, none⟩ = some (.slice A' m c') := (hX2.cell 0).trans rfl
                 have hx3 : ((w1.setCell ⟨w.heap.size, 0, none⟩ (.slice A' m c')).setCell ⟨w.heap.size, 1, none⟩ (.int .i64 (a + 1))).cell? ⟨w.heap.size, 1, none⟩ = some (.int .i64 (a + 1)) := (hX2.cell 1).trans rfl
                 have hy0 : ((w1.setCell ⟨w.heap.size, 0, none⟩ (.slice A' m c')).setCell ⟨w.heap.size, 1, none⟩ (.int .i64 (a + 1))).cell? ⟨w.heap.size + 1, 0, none⟩ = some (.slice none 0 0) := (hY2.cell 0).trans rfl
                 have hy1 : ((w1.setCell ⟨w.heap.size, 0, none⟩ (.slice A' m c')).setCell ⟨w.heap.size, 1, none⟩ (.int .i64 (a + 1))).cell? ⟨w.heap.size + 1, 1, none⟩ = some (.int .i64 0) := (hY2.cell 1).trans rfl
                 have hq0 := hY2.frozen 0
                 have hq1 := hY2.frozen 1
                 obtain ⟨W2, hW2⟩ : ∃ W2, (w1.setCell ⟨w.heap.size, 0, none⟩ (.slice A' m c')).setCell ⟨w.heap.size, 1, none⟩ (.int .i64 (a + 1)) = W2 := ⟨_, rfl⟩
                 rw [hW2] at hX2 hY2 hI2 hbb2 hd2 hx2 hx3 hy0 hy1 hq0 hq1
                 clear hyes)
    go_wp2_with fail
    go_region
    go_wp2
    have hS5 := ((Step.refl (w.heap.size + 1) W2).set 0 (.slice A' m c')).set 1 (.int .i64 (a + 1))
    have hI5 := hI2.step hS5 (by have := HSZ.out; omega)
    have hR5 := (blk_two (v0 := .slice A' m c') (v1 := .int .i64 (a + 1)) hY2)
    have hy0 := (Blk.drew hR5).cell 0
    have hy1 := (Blk.drew hR5).cell 1
    exact bodyPost_ret (v := .tuple #[.agg #[.slice A' m c', .int .i64 (a + 1)], .int .i64 (xs.getD a.toNat 0), .int .i64 0]) (by simp [results, Try.results114, go_sem, hy0, hy1]) rfl
      ⟨fun h => absurd rfl h, fun _ => ⟨A', c', rfl, (hI5.drew).base (by have := HSZ.out; omega)⟩, (below_two hbb2 (by omega) _ _).drew⟩
  · have hne : (er != 0) = true := by simpa using her
    go_enter Try.func114, Try.ntmps114
    go_wp2_with (go_at_call 116; refine (rdraws_any A m c a n 1 xs _ hI0 (by omega)).mono ?_; rintro e w1 ⟨hno, _, hb1⟩
                 obtain rfl := hno (by rw [HE.out]; exact her)
                 rw [HE.out]
                 have hX1 := hX0.below hb1 (by have := HSZ.out; omega)
                 have hY1 := hY0.below hb1 (by have := HSZ.out; omega)
                 have hbb1 := bnext hb0 hb1
                 have hx0 : w1.cell? ⟨w.heap.size, 0, none⟩ = some (.slice A m c) := (hX1.cell 0).trans rfl
                 have hx1 : w1.cell? ⟨w.heap.size, 1, none⟩ = some (.int .i64 a) := (hX1.cell 1).trans rfl
                 have hz0 := hX1.frozen 0
                 have hz1 := hX1.frozen 1
                 have hS2 := ((Step.refl w.heap.size w1).set 0 (.slice none 0 0)).set 1 (.int .i64 0)
                 have hY2 := Step.block hS2 hY1 (by omega)
                 have hbb2 := below_two hbb1 (Nat.le_refl _) (.slice none 0 0) (.int .i64 0)
                 have hy0 : ((w1.setCell ⟨w.heap.size, 0, none⟩ (.slice none 0 0)).setCell ⟨w.heap.size, 1, none⟩ (.int .i64 0)).cell? ⟨w.heap.size + 1, 0, none⟩ = some (.slice none 0 0) := (hY2.cell 0).trans rfl
                 have hy1 : ((w1.setCell ⟨w.heap.size, 0, none⟩ (.slice none 0 0)).setCell ⟨w.heap.size, 1, none⟩ (.int .i64 0)).cell? ⟨w.heap.size + 1, 1, none⟩ = some (.int .i64 0) := (hY2.cell 1).trans rfl
                 have hq0 := hY2.frozen 0
                 have hq1 := hY2.frozen 1
                 obtain ⟨W2, hW2⟩ : ∃ W2, (w1.setCell ⟨w.heap.size, 0, none⟩ (.slice none 0 0)).setCell ⟨w.heap.size, 1, none⟩ (.int .i64 0) = W2 := ⟨_, rfl⟩
                 rw [hW2] at hY2 hbb2 hy0 hy1 hq0 hq1
                 clear hno)
    have hB' := blk_two (v0 := .slice none 0 0) (v1 := .int .i64 0) hY2
    have hy0 := (hB'.cell 0).trans rfl
    have hy1 := (hB'.cell 1).trans rfl
    exact bodyPost_ret (v := .tuple #[.agg #[.slice none 0 0, .int .i64 0], .int .i64 0, .int .i64 er]) (by simp [results, Try.results114, go_sem, hy0, hy1]) rfl ⟨fun _ => rfl, fun h => absurd h her, below_two hbb2 (by omega) _ _⟩

/-- The reference's Same of tapes, of whatever numbers and places. -/
theorem rsame_any (A B : Option Addr) (n m c d : Nat) (a b : Int) (xs ys : List Int) (w : World) (h : Ints w w.heap.size A n xs) (h2 : Ints w w.heap.size B m ys) (hn : n ≤ 17592186044416) (hm : m ≤ 17592186044416) :
    Calls Try.prog 58 #[.agg #[.slice A n c, .int .i64 a], .agg #[.slice B m d, .int .i64 b]] w fun e w' => e = .returned (.bool (a == b && xs == ys)) ∧ Below w.heap.size w w' := by
  have HL := Lib.hid h.len
  have HM := Lib.hid h2.len
  have hb0 : Below w.heap.size w ((w.alloc (.cells #[.slice A n c, .int .i64 a] 62)).alloc (.cells #[.slice B m d, .int .i64 b] 62)) := ballocs (bbox _) _
  have x0 := (Blk.new w 62 #[.slice A n c, .int .i64 a]).alloc (.cells #[.slice B m d, .int .i64 b] 62)
  have x1 := blk_pair (w := w) (o := .cells #[.slice A n c, .int .i64 a] 62) (t := 62) (cs := #[.slice B m d, .int .i64 b]) (Below.refl _ _)
  have hI1 := h.upto hb0
  have hI2 := h2.upto hb0
  obtain ⟨W, hW⟩ : ∃ W, (w.alloc (.cells #[.slice A n c, .int .i64 a] 62)).alloc (.cells #[.slice B m d, .int .i64 b] 62) = W := ⟨_, rfl⟩
  rw [hW] at hb0 x0 x1 hI1 hI2
  have k00 : W.cell? ⟨w.heap.size, 0, none⟩ = some (.slice A n c) := (x0.cell 0).trans rfl
  have k01 : W.cell? ⟨w.heap.size, 1, none⟩ = some (.int .i64 a) := (x0.cell 1).trans rfl
  have k10 : W.cell? ⟨w.heap.size + 1, 0, none⟩ = some (.slice B m d) := (x1.cell 0).trans rfl
  have k11 : W.cell? ⟨w.heap.size + 1, 1, none⟩ = some (.int .i64 b) := (x1.cell 1).trans rfl
  by_cases hab : a = b
  · subst hab
    rw [beq_self_eq_true, Bool.true_and]
    by_cases hl : n = m
    · subst hl
      go_enter Try.func58, Try.ntmps58
      go_wp2
      go_loopw [23] (fun i wr => ∃ k q : Nat, k ≤ n ∧ i = .int .i64 k ∧ Hid (xs.take k = ys.take k) ∧ wr = W.drewN q) (fun i _ => n - (intOf i).toNat)
      case atStart => exact ⟨0, 0, Nat.zero_le _, rfl, Lib.hid rfl, rfl⟩
      case round =>
        obtain ⟨k, q, hk, rfl, HE, rfl⟩ := hrel
        by_cases hlt : k < n
        · obtain ⟨b1, o1, rfl, hb1, hc1⟩ := hI1.2 (by omega)
          obtain ⟨b2, o2, rfl, hb2, hc2⟩ := hI2.2 (by omega)
          have hr1 := hc1 k hlt
          have hr2 := hc2 k hlt
          clear hc1 hc2
          have HT1 := Lib.hid (take_snoc_int xs k (by rw [HL.out]; exact hlt))
          have HT2 := Lib.hid (take_snoc_int ys k (by rw [HM.out]; exact hlt))
          have HX := Lib.hid (show ∀ j, xs = ys → xs.getD j 0 = ys.getD j 0 from fun j e => by rw [e])
          have HXk := Lib.hid (HX.out k)
          clear HX
          have hk0 : (0 : Int) ≤ (k : Int) := by omega
          have hk1 : (k : Int) < (n : Int) := by omega
          generalize xs.getD k 0 = x at *
          generalize ys.getD k 0 = y at *
          by_cases hxy : x = y
          · subst hxy
            go_wp2
            go_quiet (fail)
            go_wp2
            go_roundw
            case rel => exact ⟨k + 1, _, by omega, by go_num, Lib.hid (by rw [HT1.out, HT2.out, HE.out]), rfl⟩
            case measure => simp [intOf]; omega
          · have hxb : (x != y) = true := by simpa using hxy
            have hf : (xs == ys) = false := by
              rw [← Bool.not_eq_true, beq_iff_eq]; intro e; exact hxy (HXk.out e)
            have HF := Lib.hid hf
            clear hf hxy
            go_wp2
            go_quiet (fail)
            go_wp2
            go_ret
            exact ⟨ret_bool HF.out.symm, by rw [World.drewN_drewN]; exact below_drewN hb0 _⟩
        · go_wp2
          go_ret
          refine ⟨ret_bool ?_, below_drewN hb0 _⟩
          have := HE.out
          rw [List.take_of_length_le (by rw [HL.out]; omega), List.take_of_length_le (by rw [HM.out]; omega)] at this
          exact (beq_iff_eq.2 this).symm
    · have hf : (xs == ys) = false := by
        rw [← Bool.not_eq_true, beq_iff_eq]; intro e; apply hl; rw [← HL.out, ← HM.out, e]
      have HF := Lib.hid hf
      have hne : ((n : Int) != (m : Int)) = true := by simp; omega
      clear hf
      go_enter Try.func58, Try.ntmps58
      go_wp2
      all_goals go_ret
      all_goals exact ⟨ret_bool HF.out.symm, hb0⟩
  · have hf : (a == b) = false := by simpa using hab
    have hne : (a != b) = true := by simpa using hab
    rw [hf, Bool.false_and]
    go_enter Try.func58, Try.ntmps58
    go_wp2
    all_goals go_ret
    all_goals exact ⟨rfl, hb0⟩
end Go.Proofs.Ytoblofilaegnaaa

/-! TBoth -/
namespace Go.Proofs.Ytoblofilaegnaaa
open Go.RowKit
set_option linter.unusedVariables false

/-- What some drawing leaves: a tape, the numbers, the error. -/
def DP (um : Nat) (us : List Int) (uat : Int) (dn : Nat) (ds : List Int) (er : Int) (w : World) (e : Ending) (w' : World) : Prop :=
  ∃ (U : Option Addr) (uc : Nat) (D : Option Addr) (dc : Nat), e = .returned (.tuple #[.agg #[.slice U um uc, .int .i64 uat], .slice D dn dc, .int .i64 er]) ∧ Ints w' w'.heap.size U um us ∧ Ints w' w'.heap.size D dn ds ∧ Below w.heap.size w w'
/-- And of one number. -/
def D1 (um : Nat) (us : List Int) (uat x er : Int) (w : World) (e : Ending) (w' : World) : Prop :=
  ∃ (U : Option Addr) (uc : Nat), e = .returned (.tuple #[.agg #[.slice U um uc, .int .i64 uat], .int .i64 x, .int .i64 er]) ∧ Ints w' w'.heap.size U um us ∧ Below w.heap.size w w'

theorem DrawsPost.dp {m : Nat} {a n count : Int} {xs : List Int} {w : World} {e : Ending} {w' : World} (h : DrawsPost m a n count xs w e w') (he : drawsE xs m a n count = 0) :
    DP m xs (a + count) count.toNat ((xs.drop a.toNat).take count.toNat) 0 w e w' := by
  obtain ⟨_, hy, hb⟩ := h
  obtain ⟨A', c', D, dc, e1, h1, h2⟩ := hy he
  exact ⟨A', c', D, dc, e1, h1.ints, h2.ints, hb⟩
theorem DrawsPost.dpE {m : Nat} {a n count : Int} {xs : List Int} {w : World} {e : Ending} {w' : World} (h : DrawsPost m a n count xs w e w') (he : ¬ drawsE xs m a n count = 0) :
    DP 0 [] 0 0 [] (drawsE xs m a n count) w e w' := by
  obtain ⟨hn, _, hb⟩ := h
  exact ⟨none, 0, none, 0, hn he, Ints.nil_, Ints.nil_, hb⟩

theorem draws_both (m : Nat) (a n count : Int) (xs : List Int) (hl : xs.length = m) (hm : m ≤ 1000000) (hc : count ≤ 9223372036854775807) :
    ∃ (um : Nat) (us : List Int) (uat : Int) (dn : Nat) (ds : List Int) (er : Int), um ≤ 1000000 ∧ dn ≤ 1000000 ∧ ∀ (A : Option Addr) (c : Nat) (w : World), Ints w w.heap.size A m xs →
      Calls Try.prog 115 #[.agg #[.slice A m c, .int .i64 a], .int .i64 n, .int .i64 count] w (DP um us uat dn ds er w) ∧
      Calls Try.prog 116 #[.agg #[.slice A m c, .int .i64 a], .int .i64 n, .int .i64 count] w (DP um us uat dn ds er w) := by
  by_cases he : drawsE xs m a n count = 0
  · refine ⟨m, xs, a + count, count.toNat, (xs.drop a.toNat).take count.toNat, 0, hm, ?_, fun A c w h => ⟨(draws_any A m c a n count xs w h hc).mono fun e w' h => h.dp he, (rdraws_any A m c a n count xs w h hc).mono fun e w' h => h.dp he⟩⟩
    have h1 := drawn_of he
    have h2 := validT_iff.1 h1.1
    have h3 := (drawE_ok count.toNat a.toNat (by omega)).1 h1.2.2.2
    omega
  · exact ⟨0, [], 0, 0, [], _, by omega, by omega, fun A c w h => ⟨(draws_any A m c a n count xs w h hc).mono fun e w' h => h.dpE he, (rdraws_any A m c a n count xs w h hc).mono fun e w' h => h.dpE he⟩⟩

theorem DrawPost.d1 {m : Nat} {a n : Int} {xs : List Int} {w : World} {e : Ending} {w' : World} (h : DrawPost m a n xs w e w') (he : drawsE xs m a n 1 = 0) :
    D1 m xs (a + 1) (xs.getD a.toNat 0) 0 w e w' := by
  obtain ⟨_, hy, hb⟩ := h
  obtain ⟨A', c', e1, h1⟩ := hy he
  exact ⟨A', c', e1, h1.ints, hb⟩
theorem DrawPost.d1E {m : Nat} {a n : Int} {xs : List Int} {w : World} {e : Ending} {w' : World} (h : DrawPost m a n xs w e w') (he : ¬ drawsE xs m a n 1 = 0) :
    D1 0 [] 0 0 (drawsE xs m a n 1) w e w' := by
  obtain ⟨hn, _, hb⟩ := h
  exact ⟨none, 0, hn he, Ints.nil_, hb⟩

theorem draw_both (m : Nat) (a n : Int) (xs : List Int) (hm : m ≤ 1000000) :
    ∃ (um : Nat) (us : List Int) (uat x er : Int), um ≤ 1000000 ∧ ∀ (A : Option Addr) (c : Nat) (w : World), Ints w w.heap.size A m xs →
      Calls Try.prog 113 #[.agg #[.slice A m c, .int .i64 a], .int .i64 n] w (D1 um us uat x er w) ∧
      Calls Try.prog 114 #[.agg #[.slice A m c, .int .i64 a], .int .i64 n] w (D1 um us uat x er w) := by
  by_cases he : drawsE xs m a n 1 = 0
  · exact ⟨m, xs, a + 1, xs.getD a.toNat 0, 0, hm, fun A c w h => ⟨(draw1_any A m c a n xs w h).mono fun e w' h => h.d1 he, (rdraw_any A m c a n xs w h).mono fun e w' h => h.d1 he⟩⟩
  · exact ⟨0, [], 0, 0, _, by omega, fun A c w h => ⟨(draw1_any A m c a n xs w h).mono fun e w' h => h.d1E he, (rdraw_any A m c a n xs w h).mono fun e w' h => h.d1E he⟩⟩
end Go.Proofs.Ytoblofilaegnaaa
