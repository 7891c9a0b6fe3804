/-
  What the second form's Draws hands back. Conditions: the list reads as its numbers.
-/
import Derived.Test.YtdklcgpjdajkmaaRTape
import Derived.Test.YtdklcgpjdajkmaaOrder
namespace Go.Proofs.Ytdklcgpjdajkmaa
open Go.RowKit
set_option linter.unusedVariables false

set_option maxHeartbeats 1600000 in
set_option maxRecDepth 100000 in
theorem rdraws_any (A : Option Addr) (m c : Nat) (a n count : Int) (xs : List Int) (w : World) (h : Ints w w.heap.size A m xs) (hc : count ≤ 9223372036854775807) :
    Calls Try.prog 25 #[.agg #[.slice A m c, .int .i64 a], .int .i64 n, .int .i64 count] w (DrawsPost m a n count xs w) := by
  obtain ⟨i0, hi0, hz0, hz1, hz2⟩ := info_parts info_int
  have hb0 : Below w.heap.size w ((w.alloc (.cells #[.slice A m c, .int .i64 a] 24)).alloc (.cells #[.slice none 0 0, .int .i64 0] 24)) := ballocs (bbox _) _
  have hX0 := (Blk.new w 24 #[.slice A m c, .int .i64 a]).alloc (.cells #[.slice none 0 0, .int .i64 0] 24)
  have hY0 := blk_pair (w := w) (o := .cells #[.slice A m c, .int .i64 a] 24) (t := 24) (cs := #[.slice none 0 0, .int .i64 0]) (Below.refl _ _)
  have hI0 := h.upto hb0
  obtain ⟨W, hW⟩ : ∃ W, (w.alloc (.cells #[.slice A m c, .int .i64 a] 24)).alloc (.cells #[.slice none 0 0, .int .i64 0] 24) = W := ⟨_, rfl⟩
  have hsz : W.heap.size = w.heap.size + 2 := by rw [← hW]; simp
  rw [hW] at hb0 hX0 hY0 hI0
  have HSZ := Lib.hid hsz
  clear hsz
  have k0 : W.cell? ⟨w.heap.size, 0, none⟩ = some (.slice A m c) := (hX0.cell 0).trans rfl
  have k1 : W.cell? ⟨w.heap.size, 1, none⟩ = some (.int .i64 a) := (hX0.cell 1).trans rfl
  have hlen := h.len
  have HL := Lib.hid hlen
  clear hlen
  by_cases hv : validT m a = true
  · have hvd := validT_iff.1 hv
    have HV := Lib.hid hv
    by_cases hl : limT n = false ∨ count < 0
    · have HE : Hid (drawsE xs m a n count = 1) := Lib.hid (by unfold drawsE; rw [if_neg (by simp [hv]), if_pos hl])
      unfold DrawsPost
      rw [HE.out]
      have hbad : n < 1 ∨ 2147483647 < n ∨ count < 0 := by
        rcases hl with h0 | h0
        · unfold limT at h0; simp at h0; omega
        · omega
      clear hv hl
      go_enter Try.func25, Try.ntmps25
      go_wp2_with (go_at_call 115; refine (rvalid_any A m c a _).mono ?_; rintro e w1 ⟨rfl, hb1⟩; rw [HV.out]
                   have hY := hY0.below hb1 (by have := HSZ.out; omega)
                   have hx0 : w1.cell? ⟨w.heap.size + 1, 0, none⟩ = some (.slice none 0 0) := (hY.cell 0).trans rfl
                   have hx1 : w1.cell? ⟨w.heap.size + 1, 1, none⟩ = some (.int .i64 0) := (hY.cell 1).trans rfl
                   have hz0 := hY.frozen 0
                   have hz1 := hY.frozen 1)
      all_goals first
        | (exfalso; omega)
        | (have hB' := blk_two (v0 := .slice none 0 0) (v1 := .int .i64 0) hY
           have hy0 := (hB'.cell 0).trans rfl
           have hy1 := (hB'.cell 1).trans rfl
           exact bodyPost_ret (v := .tuple #[.agg #[.slice none 0 0, .int .i64 0], .slice none 0 0, .int .i64 1]) (by simp [results, Try.results25, go_sem, hy0, hy1]) rfl (by first | exact ⟨fun _ => rfl, fun h => (by cases h), below_two (bnext hb0 hb1) (by omega) _ _⟩ | exact ⟨rfl, below_two (bnext hb0 hb1) (by omega) _ _⟩))
    · have hlb : limT n = true := by
        cases hlb : limT n
        · exact absurd (Or.inl hlb) hl
        · rfl
      have hcn : 0 ≤ count := by omega
      have hn1 : 1 ≤ n ∧ n ≤ 2147483647 := by unfold limT at hlb; simpa using hlb
      have hdr : drawsE xs m a n count = drawE xs n a.toNat count.toNat := by unfold drawsE; rw [if_neg (by simp [hv]), if_neg hl]
      clear hl hlb hv
      obtain ⟨cnt, rfl⟩ : ∃ k : Nat, count = k := ⟨count.toNat, by omega⟩
      obtain ⟨a, rfl⟩ : ∃ k : Nat, a = k := ⟨a.toNat, by omega⟩
      rw [Int.toNat_natCast, Int.toNat_natCast] at hdr
      unfold DrawsPost
      rw [hdr, Int.toNat_natCast, Int.toNat_natCast]
      obtain ⟨er, HE⟩ : ∃ er, Hid (drawE xs n a cnt = er) := ⟨_, Lib.hid rfl⟩
      rw [HE.out]
      clear hdr
      have ham : a ≤ m := by omega
      have hm : m ≤ 16384 := hvd.1
      clear hvd
      go_enter Try.func25, Try.ntmps25
      go_wp2_with (first
        | (go_at_call 115; refine (rvalid_any A m c a _).mono ?_; rintro e w1 ⟨rfl, hb1⟩; rw [HV.out]
           have hX1 := hX0.below hb1 (by have := HSZ.out; omega)
           have hY1 := hY0.below hb1 (by have := HSZ.out; omega)
           have hx0 : w1.cell? ⟨w.heap.size, 0, none⟩ = some (.slice A m c) := (hX1.cell 0).trans rfl
           have hx1 : w1.cell? ⟨w.heap.size, 1, none⟩ = some (.int .i64 a) := (hX1.cell 1).trans rfl
           have hI1 := hI0.upto hb1)
        | (go_at_call 15; refine (rcopy_any A m c a xs _ hI1 (by omega)).mono ?_; rintro e w2 ⟨⟨A2, c2, rfl, hown2⟩, hb2⟩
           have hX2 := hX1.below hb2 hX1.lt
           have hY2 := hY1.below hb2 hY1.lt
           have hy0 : w2.cell? ⟨w.heap.size, 0, none⟩ = some (.slice A m c) := (hX2.cell 0).trans rfl
           have hy1 : w2.cell? ⟨w.heap.size, 1, none⟩ = some (.int .i64 a) := (hX2.cell 1).trans rfl
           have hz0 := hX2.frozen 0
           have hz1 := hX2.frozen 1))
      have hX3 := blk_two (v0 := .slice A2 m c2) (v1 := .int .i64 a) hX2
      have hS3 := ((Step.refl w.heap.size w2).set 0 (.slice A2 m c2)).set 1 (.int .i64 a)
      have hY3 := Step.block hS3 hY2 (by omega)
      have hown3 := (hown2.step hS3 (by have := hX1.lt; omega)).base (base' := w.heap.size + 2) (by have := hY1.lt; omega)
      have hb3 := below_two (bnext (bnext hb0 hb1) hb2) (Nat.le_refl _) (.slice A2 m c2) (.int .i64 a)
      have HAB := Lib.hid (show ∀ k, (Value.slice A2 m c2).ownBlock = some k → k < w2.heap.size from fun k hk => (World.ownsRow.lt hown2 k hk).2)
      have hl2 : w.heap.size + 2 ≤ w2.heap.size := hY2.lt
      clear hX2 hY2 hy0 hy1 hz0 hz1 hS3 hown2 hb2 hx0 hx1 hI1 hX1 hY1 hb1 hI0 hX0 hY0 hb0 k0 k1
      go_loopw [9, 10] (fun s i wr => ∃ (k ak : Nat) (D : Option Addr) (dc : Nat), k ≤ cnt ∧ Hid (a + k = ak) ∧ ak ≤ m ∧ i = .int .i64 k ∧ s = .slice D k dc ∧ Blk wr w.heap.size 24 #[.slice A2 m c2, .int .i64 ak] ∧
        Blk wr (w.heap.size + 1) 24 #[.slice none 0 0, .int .i64 0] ∧ OwnI wr (w.heap.size + 2) 3 A2 m c2 xs ∧ OwnI wr w2.heap.size 3 D k dc ((xs.drop a).take k) ∧ Below w.heap.size w wr ∧ w2.heap.size ≤ wr.heap.size ∧ Hid (drawE xs n ak (cnt - k) = er)) (fun _ i _ => cnt - (intOf i).toNat)
      case atStart => exact ⟨0, a, none, 0, Nat.zero_le _, Lib.hid rfl, ham, rfl, rfl, hX3, hY3, hown3, OwnI.nil_, hb3, by simp [World.setCell], HE⟩
      case round =>
        clear hX3 hY3 hown3 hb3
        obtain ⟨k, ak, D, dc, hk, HAK, hak, rfl, rfl, hX, hY, hA, hD, hB, hl, HDE⟩ := hrel
        have hc0 : wr.cell? ⟨w.heap.size, 0, none⟩ = some (.slice A2 m c2) := (hX.cell 0).trans rfl
        have hc1 : wr.cell? ⟨w.heap.size, 1, none⟩ = some (.int .i64 ak) := (hX.cell 1).trans rfl
        have hf0 := hX.frozen 0
        have hf1 := hX.frozen 1
        have hd0 : wr.cell? ⟨w.heap.size + 1, 0, none⟩ = some (.slice none 0 0) := (hY.cell 0).trans rfl
        have hd1 : wr.cell? ⟨w.heap.size + 1, 1, none⟩ = some (.int .i64 0) := (hY.cell 1).trans rfl
        have hg0 := hY.frozen 0
        have hg1 := hY.frozen 1
        by_cases hlt : k < cnt
        · have HST := Lib.hid (drawE_step xs n a hlt)
          by_cases hal : ak = m
          · subst hal
            have h3 : er = 3 := by
              have h1 := HST.out
              have : nextE xs n ak = 3 := by unfold nextE; rw [if_pos HL.out.symm]
              rw [HAK.out, this, HDE.out] at h1
              simpa using h1
            subst h3
            go_wp2
            have hB' := blk_two (v0 := .slice none 0 0) (v1 := .int .i64 0) hY
            have hy0 := (hB'.cell 0).trans rfl
            have hy1 := (hB'.cell 1).trans rfl
            exact bodyPost_ret (v := .tuple #[.agg #[.slice none 0 0, .int .i64 0], .slice none 0 0, .int .i64 3]) (by simp [results, Try.results25, go_sem, hy0, hy1]) rfl ⟨fun _ => rfl, fun h => (by cases h), below_two hB (by omega) _ _⟩
          · obtain ⟨gA, rfl, hgA, _⟩ := hA.form (by omega)
            have hcx := hA.cellAt (j := ak) (by omega)
            have hak0 : (0 : Int) ≤ (ak : Int) := by omega
            have hakm : (ak : Int) < (m : Int) := by omega
            have hne : ((ak : Int) == (m : Int)) = false := by simp; omega
            by_cases hbad : xs.getD ak 0 < 0 ∨ n ≤ xs.getD ak 0
            · have h8 : er = 8 := by
                have h1 := HST.out
                have : nextE xs n ak = 8 := by unfold nextE; rw [if_neg (by rw [HL.out]; exact hal), if_pos hbad]
                rw [HAK.out, this, HDE.out] at h1
                simpa using h1
              subst h8
              obtain ⟨x, HX⟩ : ∃ x, Hid (xs.getD ak 0 = x) := ⟨_, Lib.hid rfl⟩
              rw [HX.out] at hcx hbad
              go_wp2
              all_goals first
                | (exfalso; omega)
                | (have hB' := blk_two (v0 := .slice none 0 0) (v1 := .int .i64 0) hY
                   have hy0 := (hB'.cell 0).trans rfl
                   have hy1 := (hB'.cell 1).trans rfl
                   exact bodyPost_ret (v := .tuple #[.agg #[.slice none 0 0, .int .i64 0], .slice none 0 0, .int .i64 8]) (by simp [results, Try.results25, go_sem, hy0, hy1]) rfl (by first | exact ⟨fun _ => rfl, fun h => (by cases h), below_two hB (by omega) _ _⟩ | exact ⟨rfl, below_two hB (by omega) _ _⟩))
            · have HN : Hid (drawE xs n (ak + 1) (cnt - (k + 1)) = er) := Lib.hid (by
                have h1 := HST.out
                have : nextE xs n ak = 0 := by unfold nextE; rw [if_neg (by rw [HL.out]; exact hal), if_neg hbad]
                rw [HAK.out, this, HDE.out, if_pos rfl, ← Nat.add_assoc, HAK.out] at h1
                exact h1.symm)
              have HT := Lib.hid (drop_take_succ xs a k (by rw [HL.out, HAK.out]; omega))
              obtain ⟨x, HX⟩ : ∃ x, Hid (xs.getD ak 0 = x) := ⟨_, Lib.hid rfl⟩
              rw [HX.out] at hcx hbad
              rw [not_or] at hbad
              obtain ⟨hx1, hx2⟩ := hbad
              have hS1 := (Step.refl w.heap.size wr).set 1 (.int .i64 ((ak : Int) + 1))
              have hD1 := hD.step hS1 (by omega)
              have hA1 := hA.step hS1 (by omega)
              have hX1 := hX.set_ 1 (.int .i64 ((ak : Int) + 1))
              have hY1 := Step.block hS1 hY (by omega)
              have hB1 := hB.setCell (p := ⟨w.heap.size, 1, none⟩) (Nat.le_refl _) (.int .i64 ((ak : Int) + 1))
              have hk16 : k < 16384 := by have := HAK.out; omega
              have hl1 : w2.heap.size ≤ (wr.setCell ⟨w.heap.size, 1, none⟩ (.int .i64 ((ak : Int) + 1))).heap.size := by simp [World.setCell]; exact hl
              go_wp2_with (at_builtin
                           refine wpList_append_ints rfl _ _ _ rfl w2.heap.size 3 i0 _ Try.underlying22 hi0 hz0 hz1 hz2 rfl D k dc _ rfl (hD1.alloc _) _ _ 1 1 [x] rfl (Ints.oneAt _ _ _ _ (by simp [World.setCell])) (k + 1) rfl _ rfl (by omega) (le_alloc hl1 _) ?_
                           intro A3 c3 w4 hown4 _ hbw4 _
                           have hb4 : Below w2.heap.size (wr.setCell ⟨w.heap.size, 1, none⟩ (.int .i64 ((ak : Int) + 1))) w4 := ((Below.refl _ _).alloc hl1 _).trans hbw4)
              go_roundw
              case rel => exact ⟨k + 1, ak + 1, A3, c3, by omega, Lib.hid (by have := HAK.out; omega), by omega, by go_num, rfl, hX1.below hb4 (by omega), hY1.below hb4 (by omega), hA1.below hb4 HAB.out, by rw [HT.out, HAK.out, HX.out]; exact hown4, hB1.trans (hb4.mono (by omega)), Nat.le_trans hl1 hb4.size, HN⟩
              case measure => simp [intOf]; omega
        · obtain rfl : k = cnt := by omega
          have h0 : er = 0 := by have := HDE.out; rw [Nat.sub_self] at this; exact this.symm
          subst h0
          go_wp2
          have hR5 := blk_two (v0 := .slice A2 m c2) (v1 := .int .i64 ak) hY
          have hy0 := (hR5.cell 0).trans rfl
          have hy1 := (hR5.cell 1).trans rfl
          have hS5 := ((Step.refl (w.heap.size + 1) wr).set 0 (.slice A2 m c2)).set 1 (.int .i64 ak)
          have hA5 := (hA.step hS5 (by omega)).base (base' := w.heap.size) (by omega)
          have hD5 := (hD.step hS5 (by omega)).base (base' := w.heap.size) (by omega)
          have hsum : (a : Int) + (k : Int) = (ak : Int) := by have := HAK.out; omega
          exact bodyPost_ret (v := .tuple #[.agg #[.slice A2 m c2, .int .i64 ak], .slice D k dc, .int .i64 0]) (by simp [results, Try.results25, go_sem, hy0, hy1]) rfl
            (by first | exact ⟨fun h => absurd rfl h, fun _ => ⟨A2, c2, D, dc, by rw [hsum], hA5, hD5⟩, below_two hB (by omega) _ _⟩ | exact ⟨⟨A2, c2, D, dc, by rw [hsum], hA5, hD5⟩, below_two hB (by omega) _ _⟩)
  · have hv' : validT m a = false := by simpa using hv
    have HE : Hid (drawsE xs m a n count = 2) := Lib.hid (by unfold drawsE; rw [if_pos hv'])
    have HV := Lib.hid hv'
    unfold DrawsPost
    rw [HE.out]
    clear hv hv'
    go_enter Try.func25, Try.ntmps25
    go_wp2_with (go_at_call 115; refine (rvalid_any A m c a _).mono ?_; rintro e w1 ⟨rfl, hb1⟩; rw [HV.out]
                 have hY := hY0.below hb1 (by have := HSZ.out; omega)
                 have hx0 : w1.cell? ⟨w.heap.size + 1, 0, none⟩ = some (.slice none 0 0) := (hY.cell 0).trans rfl
                 have hx1 : w1.cell? ⟨w.heap.size + 1, 1, none⟩ = some (.int .i64 0) := (hY.cell 1).trans rfl
                 have hz0 := hY.frozen 0
                 have hz1 := hY.frozen 1)
    have hB' := blk_two (v0 := .slice none 0 0) (v1 := .int .i64 0) hY
    have hy0 := (hB'.cell 0).trans rfl
    have hy1 := (hB'.cell 1).trans rfl
    exact bodyPost_ret (v := .tuple #[.agg #[.slice none 0 0, .int .i64 0], .slice none 0 0, .int .i64 2]) (by simp [results, Try.results25, go_sem, hy0, hy1]) rfl ⟨fun _ => rfl, fun h => (by cases h), below_two (bnext hb0 hb1) (by omega) _ _⟩
end Go.Proofs.Ytdklcgpjdajkmaa
