/-
  What the second form's Draw and Same hand back. Conditions: the lists read as their numbers.
-/
import Derived.Test.YtdklcgpjdajkmaaRDraws
namespace Go.Proofs.Ytdklcgpjdajkmaa
open Go.RowKit
set_option linter.unusedVariables false

set_option maxHeartbeats 1600000 in
set_option maxRecDepth 100000 in
theorem rdraw_any (A : Option Addr) (m c : Nat) (a n : Int) (xs : List Int) (w : World) (h : Ints w w.heap.size A m xs) :
    Calls Try.prog 23 #[.agg #[.slice A m c, .int .i64 a], .int .i64 n] w (DrawPost m a n xs w) := by
  unfold DrawPost
  obtain ⟨er, HE⟩ : ∃ er, Hid (drawsE xs m a n 1 = er) := ⟨_, Lib.hid rfl⟩
  rw [HE.out]
  have hb0 : Below w.heap.size w ((w.alloc (.cells #[.slice A m c, .int .i64 a] 24)).alloc (.cells #[.slice none 0 0, .int .i64 0] 24)) := ballocs (bbox _) _
  have hX0 := (Blk.new w 24 #[.slice A m c, .int .i64 a]).alloc (.cells #[.slice none 0 0, .int .i64 0] 24)
  have hY0 := blk_pair (w := w) (o := .cells #[.slice A m c, .int .i64 a] 24) (t := 24) (cs := #[.slice none 0 0, .int .i64 0]) (Below.refl _ _)
  have hI0 := h.upto hb0
  obtain ⟨W, hW⟩ : ∃ W, (w.alloc (.cells #[.slice A m c, .int .i64 a] 24)).alloc (.cells #[.slice none 0 0, .int .i64 0] 24) = W := ⟨_, rfl⟩
  have hsz : W.heap.size = w.heap.size + 2 := by rw [← hW]; simp
  rw [hW] at hb0 hX0 hY0 hI0
  have HSZ := Lib.hid hsz
  clear hsz
  have k0 : W.cell? ⟨w.heap.size, 0, none⟩ = some (.slice A m c) := (hX0.cell 0).trans rfl
  have k1 : W.cell? ⟨w.heap.size, 1, none⟩ = some (.int .i64 a) := (hX0.cell 1).trans rfl
  by_cases her : er = 0
  · subst her
    have hlen := h.len
    have HX : Hid (((xs.drop a.toNat).take 1).getD 0 0 = xs.getD a.toNat 0) := Lib.hid (by
      have h1 := drawn_of HE.out
      have h2 := validT_iff.1 h1.1
      have h3 := (drawE_ok 1 a.toNat (by rw [hlen]; omega)).1 h1.2.2.2
      rw [List.getD_eq_getElem?_getD, List.getElem?_take_of_lt (by omega), List.getElem?_drop, Nat.add_zero, List.getD_eq_getElem?_getD])
    clear hlen
    go_enter Try.func23, Try.ntmps23
    go_wp2_with (go_at_call 25; refine (rdraws_any A m c a n 1 xs _ hI0 (by omega)).mono ?_; rintro e w1 ⟨_, hyes, hb1⟩
                 obtain ⟨A', c', D, dc, he, hI, hown⟩ := hyes HE.out
                 rw [show (1 : Int).toNat = 1 from rfl] at he hown
                 subst he
                 have hX1 := hX0.below hb1 (by have := HSZ.out; omega)
                 have hY1 := hY0.below hb1 (by have := HSZ.out; omega)
                 have hbb1 := bnext hb0 hb1
                 obtain ⟨gD, rfl, hg1, hg2⟩ := hown.form (by simp)
                 have hgD : gD ≠ w.heap.size + 1 := by have := HSZ.out; omega
                 have hd0 : w1.cell? ⟨gD, 0, none⟩ = some (.int .i64 (xs.getD a.toNat 0)) := by have := hown.cellAt (j := 0) (by simp); rwa [HX.out] at this
                 have hx0 : w1.cell? ⟨w.heap.size, 0, none⟩ = some (.slice A m c) := (hX1.cell 0).trans rfl
                 have hx1 : w1.cell? ⟨w.heap.size, 1, none⟩ = some (.int .i64 a) := (hX1.cell 1).trans rfl
                 have hz0 := hX1.frozen 0
                 have hz1 := hX1.frozen 1
                 have hX2 := blk_two (v0 := .slice A' m c') (v1 := .int .i64 (a + 1)) hX1
                 have hS2 := ((Step.refl w.heap.size w1).set 0 (.slice A' m c')).set 1 (.int .i64 (a + 1))
                 have hY2 := Step.block hS2 hY1 (by omega)
                 have hI2 := hI.step hS2 (by have := HSZ.out; omega)
                 have hbb2 := below_two hbb1 (Nat.le_refl _) (.slice A' m c') (.int .i64 (a + 1))
                 have hd2 : ((w1.setCell ⟨w.heap.size, 0, none⟩ (.slice A' m c')).setCell ⟨w.heap.size, 1, none⟩ (.int .i64 (a + 1))).cell? ⟨gD, 0, none⟩ = some (.int .i64 (xs.getD a.toNat 0)) := by
                   have := (hown.step hS2 (by have := HSZ.out; omega)).cellAt (j := 0) (by simp); rwa [HX.out] at this
                 have hx2 : ((w1.setCell ⟨w.heap.size, 0, none⟩ (.slice A' m c')).setCell ⟨w.heap.size, 1, none⟩ (.int .i64 (a + 1))).cell? ⟨w.heap.size, 0, none⟩ = some (.slice A' m c') := (hX2.cell 0).trans rfl
                 have hx3 : ((w1.setCell ⟨w.heap.size, 0, none⟩ (.slice A' m c')).setCell ⟨w.heap.size, 1, none⟩ (.int .i64 (a + 1))).cell? ⟨w.heap.size, 1, none⟩ = some (.int .i64 (a + 1)) := (hX2.cell 1).trans rfl
                 have hy0 : ((w1.setCell ⟨w.heap.size, 0, none⟩ (.slice A' m c')).setCell ⟨w.heap.size, 1, none⟩ (.int .i64 (a + 1))).cell? ⟨w.heap.size + 1, 0, none⟩ = some (.slice none 0 0) := (hY2.cell 0).trans rfl
                 have hy1 : ((w1.setCell ⟨w.heap.size, 0, none⟩ (.slice A' m c')).setCell ⟨w.heap.size, 1, none⟩ (.int .i64 (a + 1))).cell? ⟨w.heap.size + 1, 1, none⟩ = some (.int .i64 0) := (hY2.cell 1).trans rfl
                 have hq0 := hY2.frozen 0
                 have hq1 := hY2.frozen 1
                 obtain ⟨W2, hW2⟩ : ∃ W2, (w1.setCell ⟨w.heap.size, 0, none⟩ (.slice A' m c')).setCell ⟨w.heap.size, 1, none⟩ (.int .i64 (a + 1)) = W2 := ⟨_, rfl⟩
                 rw [hW2] at hX2 hY2 hI2 hbb2 hd2 hx2 hx3 hy0 hy1 hq0 hq1
                 clear hyes)
    go_wp2_with fail
    go_region
    go_wp2
    have hS5 := ((Step.refl (w.heap.size + 1) W2).set 0 (.slice A' m c')).set 1 (.int .i64 (a + 1))
    have hI5 := hI2.step hS5 (by have := HSZ.out; omega)
    have hR5 := (blk_two (v0 := .slice A' m c') (v1 := .int .i64 (a + 1)) hY2)
    have hy0 := (Blk.drew hR5).cell 0
    have hy1 := (Blk.drew hR5).cell 1
    exact bodyPost_ret (v := .tuple #[.agg #[.slice A' m c', .int .i64 (a + 1)], .int .i64 (xs.getD a.toNat 0), .int .i64 0]) (by simp [results, Try.results23, go_sem, hy0, hy1]) rfl
      ⟨fun h => absurd rfl h, fun _ => ⟨A', c', rfl, (hI5.drew).base (by have := HSZ.out; omega)⟩, (below_two hbb2 (by omega) _ _).drew⟩
  · have hne : (er != 0) = true := by simpa using her
    go_enter Try.func23, Try.ntmps23
    go_wp2_with (go_at_call 25; refine (rdraws_any A m c a n 1 xs _ hI0 (by omega)).mono ?_; rintro e w1 ⟨hno, _, hb1⟩
                 obtain rfl := hno (by rw [HE.out]; exact her)
                 rw [HE.out]
                 have hX1 := hX0.below hb1 (by have := HSZ.out; omega)
                 have hY1 := hY0.below hb1 (by have := HSZ.out; omega)
                 have hbb1 := bnext hb0 hb1
                 have hx0 : w1.cell? ⟨w.heap.size, 0, none⟩ = some (.slice A m c) := (hX1.cell 0).trans rfl
                 have hx1 : w1.cell? ⟨w.heap.size, 1, none⟩ = some (.int .i64 a) := (hX1.cell 1).trans rfl
                 have hz0 := hX1.frozen 0
                 have hz1 := hX1.frozen 1
                 have hS2 := ((Step.refl w.heap.size w1).set 0 (.slice none 0 0)).set 1 (.int .i64 0)
                 have hY2 := Step.block hS2 hY1 (by omega)
                 have hbb2 := below_two hbb1 (Nat.le_refl _) (.slice none 0 0) (.int .i64 0)
                 have hy0 : ((w1.setCell ⟨w.heap.size, 0, none⟩ (.slice none 0 0)).setCell ⟨w.heap.size, 1, none⟩ (.int .i64 0)).cell? ⟨w.heap.size + 1, 0, none⟩ = some (.slice none 0 0) := (hY2.cell 0).trans rfl
                 have hy1 : ((w1.setCell ⟨w.heap.size, 0, none⟩ (.slice none 0 0)).setCell ⟨w.heap.size, 1, none⟩ (.int .i64 0)).cell? ⟨w.heap.size + 1, 1, none⟩ = some (.int .i64 0) := (hY2.cell 1).trans rfl
                 have hq0 := hY2.frozen 0
                 have hq1 := hY2.frozen 1
                 obtain ⟨W2, hW2⟩ : ∃ W2, (w1.setCell ⟨w.heap.size, 0, none⟩ (.slice none 0 0)).setCell ⟨w.heap.size, 1, none⟩ (.int .i64 0) = W2 := ⟨_, rfl⟩
                 rw [hW2] at hY2 hbb2 hy0 hy1 hq0 hq1
                 clear hno)
    have hB' := blk_two (v0 := .slice none 0 0) (v1 := .int .i64 0) hY2
    have hy0 := (hB'.cell 0).trans rfl
    have hy1 := (hB'.cell 1).trans rfl
    exact bodyPost_ret (v := .tuple #[.agg #[.slice none 0 0, .int .i64 0], .int .i64 0, .int .i64 er]) (by simp [results, Try.results23, go_sem, hy0, hy1]) rfl ⟨fun _ => rfl, fun h => absurd h her, below_two hbb2 (by omega) _ _⟩

/-- The reference's Same of tapes, of whatever numbers and places. -/
theorem rsame_any (A B : Option Addr) (n m c d : Nat) (a b : Int) (xs ys : List Int) (w : World) (h : Ints w w.heap.size A n xs) (h2 : Ints w w.heap.size B m ys) (hn : n ≤ 17592186044416) (hm : m ≤ 17592186044416) :
    Calls Try.prog 20 #[.agg #[.slice A n c, .int .i64 a], .agg #[.slice B m d, .int .i64 b]] w fun e w' => e = .returned (.bool (a == b && xs == ys)) ∧ Below w.heap.size w w' := by
  have HL := Lib.hid h.len
  have HM := Lib.hid h2.len
  have hb0 : Below w.heap.size w ((w.alloc (.cells #[.slice A n c, .int .i64 a] 24)).alloc (.cells #[.slice B m d, .int .i64 b] 24)) := ballocs (bbox _) _
  have x0 := (Blk.new w 24 #[.slice A n c, .int .i64 a]).alloc (.cells #[.slice B m d, .int .i64 b] 24)
  have x1 := blk_pair (w := w) (o := .cells #[.slice A n c, .int .i64 a] 24) (t := 24) (cs := #[.slice B m d, .int .i64 b]) (Below.refl _ _)
  have hI1 := h.upto hb0
  have hI2 := h2.upto hb0
  obtain ⟨W, hW⟩ : ∃ W, (w.alloc (.cells #[.slice A n c, .int .i64 a] 24)).alloc (.cells #[.slice B m d, .int .i64 b] 24) = W := ⟨_, rfl⟩
  rw [hW] at hb0 x0 x1 hI1 hI2
  have k00 : W.cell? ⟨w.heap.size, 0, none⟩ = some (.slice A n c) := (x0.cell 0).trans rfl
  have k01 : W.cell? ⟨w.heap.size, 1, none⟩ = some (.int .i64 a) := (x0.cell 1).trans rfl
  have k10 : W.cell? ⟨w.heap.size + 1, 0, none⟩ = some (.slice B m d) := (x1.cell 0).trans rfl
  have k11 : W.cell? ⟨w.heap.size + 1, 1, none⟩ = some (.int .i64 b) := (x1.cell 1).trans rfl
  by_cases hab : a = b
  · subst hab
    rw [beq_self_eq_true, Bool.true_and]
    by_cases hl : n = m
    · subst hl
      go_enter Try.func20, Try.ntmps20
      go_wp2
      go_loopw [23] (fun i wr => ∃ k q : Nat, k ≤ n ∧ i = .int .i64 k ∧ Hid (xs.take k = ys.take k) ∧ wr = W.drewN q) (fun i _ => n - (intOf i).toNat)
      case atStart => exact ⟨0, 0, Nat.zero_le _, rfl, Lib.hid rfl, rfl⟩
      case round =>
        obtain ⟨k, q, hk, rfl, HE, rfl⟩ := hrel
        by_cases hlt : k < n
        · obtain ⟨b1, o1, rfl, hb1, hc1⟩ := hI1.2 (by omega)
          obtain ⟨b2, o2, rfl, hb2, hc2⟩ := hI2.2 (by omega)
          have hr1 := hc1 k hlt
          have hr2 := hc2 k hlt
          clear hc1 hc2
          have HT1 := Lib.hid (take_snoc_int xs k (by rw [HL.out]; exact hlt))
          have HT2 := Lib.hid (take_snoc_int ys k (by rw [HM.out]; exact hlt))
          have HX := Lib.hid (show ∀ j, xs = ys → xs.getD j 0 = ys.getD j 0 from fun j e => by rw [e])
          have HXk := Lib.hid (HX.out k)
          clear HX
          have hk0 : (0 : Int) ≤ (k : Int) := by omega
          have hk1 : (k : Int) < (n : Int) := by omega
          generalize xs.getD k 0 = x at *
          generalize ys.getD k 0 = y at *
          by_cases hxy : x = y
          · subst hxy
            go_wp2
            go_quiet (fail)
            go_wp2
            go_roundw
            case rel => exact ⟨k + 1, _, by omega, by go_num, Lib.hid (by rw [HT1.out, HT2.out, HE.out]), rfl⟩
            case measure => simp [intOf]; omega
          · have hxb : (x != y) = true := by simpa using hxy
            have hf : (xs == ys) = false := by
              rw [← Bool.not_eq_true, beq_iff_eq]; intro e; exact hxy (HXk.out e)
            have HF := Lib.hid hf
            clear hf hxy
            go_wp2
            go_quiet (fail)
            go_wp2
            go_ret
            exact ⟨ret_bool HF.out.symm, by rw [World.drewN_drewN]; exact below_drewN hb0 _⟩
        · go_wp2
          go_ret
          refine ⟨ret_bool ?_, below_drewN hb0 _⟩
          have := HE.out
          rw [List.take_of_length_le (by rw [HL.out]; omega), List.take_of_length_le (by rw [HM.out]; omega)] at this
          exact (beq_iff_eq.2 this).symm
    · have hf : (xs == ys) = false := by
        rw [← Bool.not_eq_true, beq_iff_eq]; intro e; apply hl; rw [← HL.out, ← HM.out, e]
      have HF := Lib.hid hf
      have hne : ((n : Int) != (m : Int)) = true := by simp; omega
      clear hf
      go_enter Try.func20, Try.ntmps20
      go_wp2
      all_goals go_ret
      all_goals exact ⟨ret_bool HF.out.symm, hb0⟩
  · have hf : (a == b) = false := by simpa using hab
    have hne : (a != b) = true := by simpa using hab
    rw [hf, Bool.false_and]
    go_enter Try.func20, Try.ntmps20
    go_wp2
    all_goals go_ret
    all_goals exact ⟨rfl, hb0⟩
end Go.Proofs.Ytdklcgpjdajkmaa
