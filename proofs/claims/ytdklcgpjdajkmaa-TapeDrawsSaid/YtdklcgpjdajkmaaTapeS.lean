/-
  What the statements' own helpers on tapes hand back: limits, ints, sane. Conditions: the lists read as their numbers.
-/
import Derived.Test.YtdklcgpjdajkmaaTapeN
import Derived.Test.YtdklcgpjdajkmaaTapeD
namespace Go.Proofs.Ytdklcgpjdajkmaa
open Go.RowKit
set_option linter.unusedVariables false

def LimPost (g : Nat) (A : Option Addr) (n c : Nat) (xs : List Int) (w : World) (e : Ending) (w' : World) : Prop :=
  ∃ (A' : Option Addr) (m c' : Nat) (l : List Int) (q' : Nat), e = .returned (.slice A' m c') ∧ OwnI w' w.heap.size 3 A' m c' l ∧ smallL l ∧ Deck w' g A n c xs q' ∧ Step g w w'

set_option maxHeartbeats 400000 in
set_option maxRecDepth 100000 in
theorem limits_any (g : Nat) (A : Option Addr) (n c : Nat) (xs : List Int) (q : Nat) (w : World) (h : Deck w g A n c xs q) :
    Calls Try.prog 14 #[.pointer (some ⟨g, 0, none⟩)] w (LimPost g A n c xs w) := by
  obtain ⟨i0, hi0, hz0, hz1, hz2⟩ := info_parts info_int
  have hg := h.1.lt
  go_enter Try.func14, Try.ntmps14
  go_wp2_with (go_at_call 16; refine (next_any g A n c xs q 7 _ h (by omega)).mono ?_; rintro e w1 ⟨r', q1, rfl, hr, hr0, hD1, hS1, hz1'⟩
               obtain ⟨r, rfl⟩ : ∃ r : Nat, r' = r := ⟨r'.toNat, by have := hr (by omega); omega⟩
               have hr7 : r < 7 := by have := hr (by omega); omega
               clear hr hr0 hz1')
  go_loopw [3, 4] (fun v i wr => ∃ (k m : Nat) (A' : Option Addr) (c' : Nat) (l : List Int) (q' : Nat), m + k ≤ 6 ∧ i = .int .i64 k ∧ v = .slice A' m c' ∧ OwnI wr w.heap.size 3 A' m c' l ∧ Hid (∀ x ∈ l, 1 ≤ x ∧ x ≤ 6) ∧ Deck wr g A n c xs q' ∧ Step g w wr) (fun _ i _ => (intOf i).toNat)
  case atStart => exact ⟨r, 0, none, 0, [], q1, by omega, rfl, rfl, OwnI.nil_, Lib.hid (by simp), hD1, hS1⟩
  case round =>
    obtain ⟨k, m, A', c', l, q', hkm, rfl, rfl, hown, HB, hD, hS⟩ := hrel
    have hlw : w.heap.size ≤ wr.heap.size := World.grownBy.size hS
    by_cases hk0 : 0 < k
    · go_wp2_with (first
        | (go_at_call 16; refine (next_any g A n c xs q' 6 _ hD (by omega)).mono ?_; rintro e w2 ⟨y, q2, rfl, hy, hy0, hD2, hS2, hz2'⟩
           have hyb := hy (by omega)
           have hown2 := hown.step hS2 hg
           have hS22 := (hS.trans hS2).alloc (.cells #[.int .i64 (1 + y)] 3)
           have hD22 := hD2.alloc (.cells #[.int .i64 (1 + y)] 3)
           have hl2 : w.heap.size ≤ w2.heap.size := by rw [hz2']; exact hlw
           have hw1 : IntKind.i64.wrap (1 + y) = 1 + y := IntWalk.i64_in _ (by omega)
           clear hy hy0 hz2')
        | (at_builtin
           refine wpList_append_ints rfl _ _ _ rfl w.heap.size 3 i0 _ Try.underlying22 hi0 hz0 hz1 hz2 rfl A' m c' l rfl (hown2.alloc _) _ _ 1 1 [1 + y] rfl (Ints.one _ _ _) (m + 1) rfl (l ++ [1 + y]) rfl (by omega) (le_alloc hl2 _) ?_
           intro A2 c2 w3 hown3 hgr hbw3 hab
           have hD3 := hD22.below hbw3 hg
           have hS3 : Step g w w3 := hS22.thenBelow hbw3))
      go_roundw
      case rel => exact ⟨k - 1, m + 1, A2, c2, l ++ [1 + y], q2, by omega, by rw [show ((k - 1 : Nat) : Int) = (k : Int) - 1 by omega], rfl, hown3, Lib.hid (by
        intro x hx
        rcases List.mem_append.1 hx with h1 | h1
        · exact HB.out x h1
        · rw [List.mem_singleton] at h1; subst h1; omega), hD3, hS3⟩
      case measure => simp [intOf]; omega
    · have hlen := hown.len
      go_wp2
      go_ret
      exact ⟨A', m, c', l, q', rfl, hown, ⟨by omega, HB.out⟩, hD, hS⟩

set_option maxRecDepth 100000 in
theorem ints_any (A B : Option Addr) (n m c d : Nat) (xs ys : List Int) (w : World) {B1 B2 : Nat} (h : Ints w B1 A n xs) (h2 : Ints w B2 B m ys) (hn : n ≤ 17592186044416) (hm : m ≤ 17592186044416) :
    Calls Try.prog 26 #[.slice A n c, .slice B m d] w fun e w' => e = .returned (.bool (xs == ys)) ∧ ∃ q, w' = w.drewN q := by
  by_cases hl : n = m
  · subst hl
    have HL := Lib.hid h.len
    have HM := Lib.hid h2.len
    go_enter Try.func26, Try.ntmps26
    go_wp2
    go_loopw [13] (fun i wr => ∃ k q : Nat, k ≤ n ∧ i = .int .i64 k ∧ Hid (xs.take k = ys.take k) ∧ wr = w.drewN q) (fun i _ => n - (intOf i).toNat)
    case atStart => exact ⟨0, 0, Nat.zero_le _, rfl, Lib.hid rfl, rfl⟩
    case round =>
      obtain ⟨k, q, hk, rfl, HE, rfl⟩ := hrel
      by_cases hlt : k < n
      · obtain ⟨b1, o1, rfl, hb1, hc1⟩ := h.2 (by omega)
        obtain ⟨b2, o2, rfl, hb2, hc2⟩ := h2.2 (by omega)
        have hr1 := hc1 k hlt
        have hr2 := hc2 k hlt
        clear hc1 hc2
        have HT1 := Lib.hid (take_snoc_int xs k (by rw [HL.out]; exact hlt))
        have HT2 := Lib.hid (take_snoc_int ys k (by rw [HM.out]; exact hlt))
        have HX := Lib.hid (show ∀ j, xs = ys → xs.getD j 0 = ys.getD j 0 from fun j e => by rw [e])
        have HXk := Lib.hid (HX.out k)
        clear HX
        generalize xs.getD k 0 = x at *
        generalize ys.getD k 0 = y at *
        by_cases hxy : x = y
        · subst hxy
          go_wp2
          go_quiet (fail)
          go_wp2
          go_roundw
          case rel => exact ⟨k + 1, _, by omega, by go_num, Lib.hid (by rw [HT1.out, HT2.out, HE.out]), rfl⟩
          case measure => simp [intOf]; omega
        · have hxb : (x != y) = true := by simpa using hxy
          have hf : (xs == ys) = false := by
            rw [← Bool.not_eq_true, beq_iff_eq]; intro e; exact hxy (HXk.out e)
          have HF := Lib.hid hf
          clear hf hxy
          go_wp2
          go_quiet (fail)
          go_wp2
          go_ret
          exact ⟨ret_bool HF.out.symm, _, World.drewN_drewN _ _ _⟩
      · go_wp2
        go_ret
        refine ⟨ret_bool ?_, q, rfl⟩
        have := HE.out
        rw [List.take_of_length_le (by rw [HL.out]; omega), List.take_of_length_le (by rw [HM.out]; omega)] at this
        exact (beq_iff_eq.2 this).symm
  · have hf : (xs == ys) = false := by
      rw [← Bool.not_eq_true, beq_iff_eq]; intro e; apply hl; rw [← h.len, ← h2.len, e]
    have HF := Lib.hid hf
    have hne : ((n : Int) != (m : Int)) = true := by simp; omega
    clear hf
    go_enter Try.func26, Try.ntmps26
    go_wp2
    go_ret
    exact ⟨ret_bool HF.out.symm, 0, rfl⟩

set_option maxHeartbeats 800000 in
set_option maxRecDepth 100000 in
/-- The sanity check of chapter 2. -/
theorem sane02_any (w : World) : Calls Try.prog 10 #[] w fun e w' => e = .returned (.bool true) ∧ Below w.heap.size w w' := by
  have HS : Hid (smallL [2, 3, 5]) := Lib.hid ⟨by decide, by decide⟩
  have HP : Hid (prodL [2, 3, 5] = 30) := Lib.hid (by decide)
  have HG : Hid (digL [2, 3, 5] 7 = [1, 0, 1]) := Lib.hid (by decide)
  have HE1 : Hid (drawsE [1, 0, 1] 3 0 2 1 = 0) := Lib.hid (by decide)
  have HE2 : Hid (drawsE [1, 0, 1] 3 1 5 2 = 0) := Lib.hid (by decide)
  go_enter Try.func10, Try.ntmps10
  go_wp2_with (first
    | (go_at_call 112; refine (count_ok _ 3 3 [2, 3, 5] _ (by exact Ints.lit _ _ [2, 3, 5] 3 3 _ (by simp) rfl rfl) HS.out).mono ?_; rintro e w' ⟨rfl, rfl⟩; rw [HP.out]
       have hbb0 : Below w.heap.size w (w.alloc (.cells #[.int .i64 2, .int .i64 3, .int .i64 5] 3)) := bbox _)
    | (go_at_call 113; refine (at_ok _ 3 3 [2, 3, 5] 7 _ (by exact Ints.lit _ _ [2, 3, 5] 3 3 _ (by simp) rfl rfl) HS.out (by rw [HP.out]; omega)).mono ?_; rintro e w1 ⟨⟨D, dc, rfl, hown1⟩, hb1⟩
       rw [HG.out] at hown1
       have hbb1 := bnext (ballocs hbb0 _) hb1
       have hN := Blk.new w1 24 #[.slice D 3 dc, .int .i64 0]
       have hn0 : (w1.alloc (.cells #[.slice D 3 dc, .int .i64 0] 24)).cell? ⟨w1.heap.size, 0, none⟩ = some (.slice D 3 dc) := (hN.cell 0).trans rfl
       have hn1 : (w1.alloc (.cells #[.slice D 3 dc, .int .i64 0] 24)).cell? ⟨w1.heap.size, 1, none⟩ = some (.int .i64 0) := (hN.cell 1).trans rfl
       clear hb1)
    | (go_at_call 22; refine (draw1_any D 3 dc 0 2 [1, 0, 1] _ (hown1.ints.upto (bbox _))).mono ?_; rintro e w2 ⟨_, hyes, hb2⟩
       obtain ⟨D2, dc2, rfl, hown2⟩ := hyes HE1.out
       have hbb2 := bnext (ballocs hbb1 _) hb2
       have hN2 := hN.below hb2 (by simp)
       have hm0 : w2.cell? ⟨w1.heap.size, 0, none⟩ = some (.slice D 3 dc) := (hN2.cell 0).trans rfl
       have hm1 : w2.cell? ⟨w1.heap.size, 1, none⟩ = some (.int .i64 0) := (hN2.cell 1).trans rfl
       have hf0 := hN2.frozen 0
       have hf1 := hN2.frozen 1
       have hown3 := hown2.step (((Step.refl w1.heap.size w2).set 0 (.slice D2 3 dc2)).set 1 (.int .i64 1)) (by simp)
       have hbb3 := below_two hbb2 (by have := hbb1.size; omega) (g := w1.heap.size) (.slice D2 3 dc2) (.int .i64 1)
       clear hb2 hyes)
    | (go_at_call 24; refine (draws_any D2 3 dc2 1 5 2 [1, 0, 1] _ hown3.ints (by omega)).mono ?_; rintro e w4 ⟨_, hyes, hb4⟩
       obtain ⟨D4, dc4, E4, ec4, rfl, _, hown4⟩ := hyes HE2.out
       have hbb4 := bnext hbb3 hb4
       obtain ⟨gE, rfl, hE1, hE2⟩ := hown4.form (by decide)
       have hq0 : w4.cell? ⟨gE, 0, none⟩ = some (.int .i64 0) := hown4.cellAt (j := 0) (by decide)
       have hq1 : w4.cell? ⟨gE, 1, none⟩ = some (.int .i64 1) := hown4.cellAt (j := 1) (by decide)
       clear hb4 hyes))
  go_ret
  exact ⟨rfl, ballocs hbb4 _⟩
end Go.Proofs.Ytdklcgpjdajkmaa
