/-
  ParityTapes returns true: the walk of the law. Conditions: none beyond the reading of its arguments.
-/
import Derived.Test.YtefgjkkgddeemaaSPWrong
import Derived.Test.YtefgjkkgddeemaaSeed
import Derived.Test.YtefgjkkgddeemaaQueAt
import Derived.Lib.QuietBelow
namespace Go.Proofs.Ytefgjkkgddeemaa
open Go.RowKit
set_option linter.unusedVariables false

set_option maxHeartbeats 6400000 in
set_option maxRecDepth 100000 in
theorem parityTapes_walk (A : Option Addr) (n c : Nat) (zs : List Int) (a_ b_ : Int) (w : World) (w0 : IsRow .i64 w A n c zs) (w1 : (Lit.int .u8 a_).wf = true) (w2 : (Lit.int .u8 b_).wf = true) :
    Calls Try.prog 4 #[.slice A n c, .int .u8 a_, .int .u8 b_] w fun e w' => e = .returned (.bool true) ∧ Below w.heap.size w w' := by
  have hat : 0 ≤ a_ ∧ a_ ≤ 255 := by simpa [Lit.wf, IntKind.min, IntKind.max, IntKind.signed, IntKind.bits] using w1
  have hbt : 0 ≤ b_ ∧ b_ ≤ 255 := by simpa [Lit.wf, IntKind.min, IntKind.max, IntKind.signed, IntKind.bits] using w2
  obtain ⟨h, hw⟩ := w0.ints
  generalize zs.take n = xs at h hw
  clear w0 w1 w2
  by_cases hn : n ≤ 500
  · have hd : decide (n ≤ 500) = true := by simpa using hn
    have hatw : IntKind.i64.wrap a_ = a_ := IntWalk.i64_in _ (by omega)
    have hbtw : IntKind.i64.wrap b_ = b_ := IntWalk.i64_in _ (by omega)
    go_enter Try.func4, Try.ntmps4
    go_upto_region 8 with (first
      | (go_at_call 14; refine (sane16_any _).mono ?_; rintro e w1 ⟨rfl, hb1⟩)
      | (go_at_call 15; refine (few_any A n c _).mono ?_; rintro e w' ⟨rfl, rfl⟩)
      | (go_at_call 16; refine (new_any A n c xs _ (h.upto hb1) hn).mono ?_; rintro e w2 ⟨⟨g, rfl, hge, hD2⟩, hb2⟩
         have hbb2 := bnext hb1 hb2
         have hg : w.heap.size ≤ g := by rw [hge]; exact hb1.size
         clear hge)
      | (go_at_call 22; refine (field_any g A n c xs _ _ hD2).mono ?_; rintro e w3 ⟨p, q3, rfl, hkn, hD3, hS3⟩
         have hok := okP_known hkn
         have hp := okP_pos hok
         have HO := Lib.hid hok
         have hbb3 := ballocs (Step.below hbb2 hS3 hbb2.size hg) (.cells #[.int .i64 p] 28)
         have hF_3 := Blk.new w3 28 #[.int .i64 p]
         have hD3' := hD3.alloc (.cells #[.int .i64 p] 28)
         have hgf : w3.heap.size ≠ g := by have := hD3.1.lt; omega
         clear hok hkn hD2 hD3 hS3 hbb2 hb1 hb2)
      | (go_at_call 17; (with_reducible refine (next_any g A n c xs q3 5 _ hD3' (by omega)).mono ?_); rintro e w4 ⟨r1, q4, rfl, hr1, _, hD4, hS4, hz4⟩
         obtain ⟨N, hN⟩ : ∃ s : Nat, 2 + r1 = s := ⟨(2 + r1).toNat, by have := hr1 (by omega); omega⟩
         have hN8 : 2 ≤ N ∧ N ≤ 6 := by have := hr1 (by omega); omega
         have hNw : IntKind.i64.wrap (2 + r1) = N := by rw [hN]; exact IntWalk.i64_in _ (by omega)
         have hF_4 := Step.block hS4 hF_3 hgf
         have hbb4 := Step.below hbb3 hS4 hbb3.size hg
         clear hr1 hz4 hS4)
      | (go_at_call 17; (with_reducible refine (next_any g A n c xs q4 4 _ hD4 (by omega)).mono ?_); rintro e w5 ⟨r2, q5, rfl, hr2, _, hD5, hS5, hz5⟩
         obtain ⟨m, hm⟩ : ∃ s : Nat, 2 + r2 = s := ⟨(2 + r2).toNat, by have := hr2 (by omega); omega⟩
         have hm6 : 2 ≤ m ∧ m ≤ 5 := by have := hr2 (by omega); omega
         have hmw : IntKind.i64.wrap (2 + r2) = m := by rw [hm]; exact IntWalk.i64_in _ (by omega)
         have hF_5 := Step.block hS5 hF_4 hgf
         have hbb5 := Step.below hbb4 hS5 hbb4.size hg
         have hcf5 : w5.cell? ⟨w3.heap.size, 0, none⟩ = some (.int .i64 p) := (hF_5.cell 0).trans rfl
         have hg5 := hD5.1.lt
         clear hr2 hz5 hS5))
    obtain ⟨s1, hs1⟩ : ∃ s1, s1 + 1 = m := ⟨m - 1, by omega⟩
    obtain ⟨NN, hNN⟩ : ∃ k : Nat, (N : Int) * (s1 : Int) = k := ⟨N * s1, by rw [Int.natCast_mul]⟩
    have HNN : Hid (s1 * N = NN) := Lib.hid (by rw [← Int.natCast_mul] at hNN; rw [Nat.mul_comm]; exact Int.ofNat.inj hNN)
    have hNNb : NN ≤ 48 := by
      have h1 := HNN.out
      have h2 : s1 * N ≤ 5 * 8 := Nat.mul_le_mul (by omega) (by omega)
      omega
    obtain ⟨i, hi⟩ : ∃ kk : Nat, a_ % (N : Int) = kk := ⟨(a_ % (N : Int)).toNat, by rw [Int.toNat_of_nonneg (Int.emod_nonneg _ (by omega))]⟩
    have hiN : i < N := by have := Int.emod_lt_of_pos a_ (b := (N : Int)) (by omega); omega
    have hit : a_.tmod (N : Int) = (i : Int) := by rw [Int.tmod_eq_emod_of_nonneg hat.1]; exact hi
    obtain ⟨j, hj⟩ : ∃ kk : Nat, b_ % (N : Int) = kk := ⟨(b_ % (N : Int)).toNat, by rw [Int.toNat_of_nonneg (Int.emod_nonneg _ (by omega))]⟩
    have hjN : j < N := by have := Int.emod_lt_of_pos b_ (b := (N : Int)) (by omega); omega
    have hjt : b_.tmod (N : Int) = (j : Int) := by rw [Int.tmod_eq_emod_of_nonneg hbt.1]; exact hj
    have hN0 : ¬ (N : Int) = 0 := by omega
    have hN0' : ¬ N = 0 := by omega
    have HS1 := Lib.hid hs1
    have HNI := Lib.hid hNN
    have hmS : (m : Int) - 1 = s1 := by omega
    clear hF_3 hF_4 hD3' hD4 hbb3 hbb4 hi hj hs1 hNN
    go_upto_region 10 with (first
      | (go_at_call 18; refine (plimits_ok p N s1 NN m _ HO.out (by omega) (by omega) hmS HNI.out (by omega)).mono ?_; rintro e w8 ⟨⟨A8, c8, rfl, hown8⟩, hb8⟩
         have hF_8 := hF_5.below hb8 hF_5.lt
         have hbb8 := bnext hbb5 hb8
         have hD8 := hD5.belowAll hb8
         have hle8 := hb8.size
         clear hb8)
      | (go_at_call 23; refine (seed_any g A n c xs q5 p NN A8 c8 _ hD8 hp hown8 (by omega) (by omega)).mono ?_; rintro e w9 ⟨T9, tc9, ys, q9, rfl, hownT, hY, hD9, hS9⟩))
    have hle9 := World.grownBy.size hS9
    obtain ⟨W, hW⟩ : ∃ W, w9.alloc (.cells #[.slice T9 NN tc9, .int .i64 0] 36) = W := ⟨_, rfl⟩
    have hba9 : Below w9.heap.size w9 W := by rw [← hW]; exact bbox _
    have hT9 : Blk W w9.heap.size 36 #[.slice T9 NN tc9, .int .i64 0] := by rw [← hW]; exact Blk.new _ _ _
    rw [hW]
    clear hW
    have hF_9 := (Step.block hS9 hF_8 hgf).below hba9 (by have := (Step.block hS9 hF_8 hgf).lt; omega)
    have hbb9 := bnext (Step.below hbb8 hS9 hbb8.size hg) hba9
    have hD9a := hD9.belowAll hba9
    have hownL := (hown8.step hS9 hg5).belowAll hba9
    have hownTW := hownT.belowAll hba9
    have HYL := Lib.hid hownT.len
    have HYA := Lib.hid hY
    have HX : Hid (∀ j, j < s1 * N → 0 ≤ ys.getD j 0 ∧ ys.getD j 0 < p) := Lib.hid fun j hj => allP_getD hY (by rw [hownT.len]; have := HNN.out; omega)
    have hgW := hD9a.1.lt
    clear hS9 hY hown8 hownT hD8 hD9 hbb8 hF_8 hba9 hcf5 hF_5
    have hcC : Hid (∀ wx, Below W.heap.size W.drew wx → wx.cell? ⟨w3.heap.size, 0, none⟩ = some (.int .i64 p) ∧ wx.cell? ⟨w9.heap.size, 0, none⟩ = some (.slice T9 NN tc9) ∧ wx.cell? ⟨w9.heap.size, 1, none⟩ = some (.int .i64 0)) := Lib.hid fun wx hx =>
      ⟨(((Blk.drew hF_9).below hx hF_9.lt).cell 0).trans rfl, (((Blk.drew hT9).below hx hT9.lt).cell 0).trans rfl, (((Blk.drew hT9).below hx hT9.lt).cell 1).trans rfl⟩
    have hBr : Below W.heap.size W.drew W.drew := Below.refl _ _
    have hBa : Below W.heap.size W.drew (W.drew.alloc (.cells #[.slice none 0 0, .int .i64 0] 36)) := bbox (w0 := W.drew) _
    have hIT : Hid (∀ wx, Below W.heap.size W.drew wx → Ints wx wx.heap.size T9 NN ys) := Lib.hid fun wx hx => (show Ints W.drew W.drew.heap.size T9 NN ys from hownTW.ints).upto hx
    have HSN : Hid (s1 * N ≤ NN) := Lib.hid (by rw [HNN.out]; omega)
    go_cut [14, 15, 16] (fun s14 s15 s16 wx => QueAt p N s1 m i ys W s14 s16 wx)
    case first =>
      as_aux_lemma =>
        go_region_held3 (fun w' => w'.cell? ⟨w3.heap.size, 0, none⟩ = some (.int .i64 p) ∧ w'.cell? ⟨w9.heap.size, 0, none⟩ = some (.slice T9 NN tc9) ∧ w'.cell? ⟨w9.heap.size, 1, none⟩ = some (.int .i64 0)) (first | exact hcC.out _ hBr | exact hcC.out _ hBa | exact hcC.out _ hB10 | exact hcC.out _ (hB10.alloc hle10 _) | exact hcC.out _ ((hB10.setCell (p := ⟨_, 0, none⟩) hle _).setCell (p := ⟨_, 1, none⟩) hle _))
          (first
            | (go_at_call 21; (refine (queries_ok p N s1 i NN tc9 m T9 ys _ HO.out (by omega) (by omega) hmS hiN (hIT.out _ (by first | exact hBr | exact hBa)) (by omega) HSN.out HX.out).mono ?_); rintro e w10 ⟨⟨A10, c10, T10, tc10, av, he, hav, hown10⟩, hb10⟩
               rw [HS1.out] at he hown10
               subst he
               have hB10 : Below W.heap.size W.drew w10 := by first | exact hb10 | exact hBa.trans (hb10.mono hBa.size)
               have hle10 : W.heap.size ≤ w10.heap.size := hB10.size
               first
                 | (have hBx : Blk w10 W.heap.size 36 #[.slice none 0 0, .int .i64 0] := (Blk.new W.drew 36 #[.slice none 0 0, .int .i64 0]).below hb10 (Blk.new W.drew 36 #[.slice none 0 0, .int .i64 0]).lt
                    have hle : W.heap.size ≤ W.heap.size := Nat.le_refl _
                    have hx0 : w10.cell? ⟨W.heap.size, 0, none⟩ = some (.slice none 0 0) := (hBx.cell 0).trans rfl
                    have hx1 : w10.cell? ⟨W.heap.size, 1, none⟩ = some (.int .i64 0) := (hBx.cell 1).trans rfl
                    have hxf0 := hBx.frozen 0
                    have hxf1 := hBx.frozen 1)
                 | (have hle : W.heap.size ≤ w10.heap.size := hle10)))
        all_goals go_wp2_with fail
        all_goals go_meet
        case rel => exact QueAt.new hown10 hB10 (Nat.le_refl _) _
        case rel => exact QueAt.box hown10 hB10 (Nat.le_refl _) (by show W.heap.size < (W.drew.alloc _).heap.size; simp) _ _
    case rest =>
      obtain ⟨A10, c10, rfl, rfl, hownA, hBA⟩ := hcut
      obtain ⟨W2, hW2⟩ : ∃ W2, W2 = wc := ⟨_, rfl⟩
      subst hW2
      have hleW2 : W.heap.size ≤ W2.heap.size := hBA.size
      have hbb2 : Below w.heap.size w W2 := hbb9.drew.trans (hBA.mono hbb9.size)
      have hF2 := (Blk.drew hF_9).below hBA hF_9.lt
      have hT2 := (Blk.drew hT9).below hBA hT9.lt
      have hD2 : Deck W2 g A n c xs q9 := (show Deck W.drew g A n c xs q9 from hD9a).below hBA hgW
      have hownL2 : OwnI W2 w5.heap.size 3 A8 NN c8 (List.replicate NN p) := (show OwnI W.drew _ _ _ _ _ _ from hownL).below hBA (fun k hk => (World.ownsRow.lt hownL k hk).2)
      have hownT2 : OwnI W2 _ 3 T9 NN tc9 ys := (show OwnI W.drew _ _ _ _ _ _ from hownTW).below hBA (fun k hk => (World.ownsRow.lt hownTW k hk).2)
      clear hcC hBr hBa hIT hBA hF_9 hT9 hD9a hownL hownTW hbb9
      have hcC : Hid (∀ wx, Below W2.heap.size W2.drew wx → wx.cell? ⟨w3.heap.size, 0, none⟩ = some (.int .i64 p) ∧ wx.cell? ⟨w9.heap.size, 0, none⟩ = some (.slice T9 NN tc9) ∧ wx.cell? ⟨w9.heap.size, 1, none⟩ = some (.int .i64 0)) := Lib.hid fun wx hx =>
        ⟨(((Blk.drew hF2).below hx hF2.lt).cell 0).trans rfl, (((Blk.drew hT2).below hx hT2.lt).cell 0).trans rfl, (((Blk.drew hT2).below hx hT2.lt).cell 1).trans rfl⟩
      have hBr : Below W2.heap.size W2.drew W2.drew := Below.refl _ _
      have hBa : Below W2.heap.size W2.drew (W2.drew.alloc (.cells #[.slice none 0 0, .int .i64 0] 36)) := bbox (w0 := W2.drew) _
      have hIT : Hid (∀ wx, Below W2.heap.size W2.drew wx → Ints wx wx.heap.size T9 NN ys) := Lib.hid fun wx hx => (show Ints W2.drew W2.drew.heap.size T9 NN ys from hownT2.ints).upto hx
      go_upto_region 11 with fail
      go_cut [17, 18, 19] (fun s17 s18 s19 wx => QueAt p N s1 m j ys W2 s17 s19 wx)
      case first =>
        as_aux_lemma =>
          go_region_held3 (fun w' => w'.cell? ⟨w3.heap.size, 0, none⟩ = some (.int .i64 p) ∧ w'.cell? ⟨w9.heap.size, 0, none⟩ = some (.slice T9 NN tc9) ∧ w'.cell? ⟨w9.heap.size, 1, none⟩ = some (.int .i64 0)) (first | exact hcC.out _ hBr | exact hcC.out _ hBa | exact hcC.out _ hB10 | exact hcC.out _ (hB10.alloc hle10 _) | exact hcC.out _ ((hB10.setCell (p := ⟨_, 0, none⟩) hle _).setCell (p := ⟨_, 1, none⟩) hle _))
            (first
              | (go_at_call 21; (refine (queries_ok p N s1 j NN tc9 m T9 ys _ HO.out (by omega) (by omega) hmS hjN (hIT.out _ (by first | exact hBr | exact hBa)) (by omega) HSN.out HX.out).mono ?_); rintro e w10 ⟨⟨A11, c11, T10, tc10, av, he, hav, hown11⟩, hb10⟩
                 rw [HS1.out] at he hown11
                 subst he
                 have hB10 : Below W2.heap.size W2.drew w10 := by first | exact hb10 | exact hBa.trans (hb10.mono hBa.size)
                 have hle10 : W2.heap.size ≤ w10.heap.size := hB10.size
                 first
                   | (have hBx : Blk w10 W2.heap.size 36 #[.slice none 0 0, .int .i64 0] := (Blk.new W2.drew 36 #[.slice none 0 0, .int .i64 0]).below hb10 (Blk.new W2.drew 36 #[.slice none 0 0, .int .i64 0]).lt
                      have hle : W2.heap.size ≤ W2.heap.size := Nat.le_refl _
                      have hx0 : w10.cell? ⟨W2.heap.size, 0, none⟩ = some (.slice none 0 0) := (hBx.cell 0).trans rfl
                      have hx1 : w10.cell? ⟨W2.heap.size, 1, none⟩ = some (.int .i64 0) := (hBx.cell 1).trans rfl
                      have hxf0 := hBx.frozen 0
                      have hxf1 := hBx.frozen 1)
                   | (have hle : W2.heap.size ≤ w10.heap.size := hle10)))
          all_goals go_wp2_with fail
          all_goals go_meet
          case rel => exact QueAt.new hown11 hB10 (Nat.le_refl _) _
          case rel => exact QueAt.box hown11 hB10 (Nat.le_refl _) (by show W2.heap.size < (W2.drew.alloc _).heap.size; simp) _ _
      case rest =>
        obtain ⟨A11, c11, rfl, rfl, hownB, hBB⟩ := hcut
        obtain ⟨W3, hW3⟩ : ∃ W3, W3 = wc := ⟨_, rfl⟩
        subst hW3
        have hleW3 : W2.heap.size ≤ W3.heap.size := hBB.size
        have hbb3 : Below w.heap.size w W3 := hbb2.drew.trans (hBB.mono hbb2.size)
        have hF3 := (Blk.drew hF2).below hBB hF2.lt
        have hT3 := (Blk.drew hT2).below hBB hT2.lt
        have hgW2 : g < W2.heap.size := hD2.1.lt
        have hD3 : Deck W3 g A n c xs q9 := (show Deck W2.drew g A n c xs q9 from hD2).below hBB hgW2
        have hownL3 : OwnI W3 w5.heap.size 3 A8 NN c8 (List.replicate NN p) := (show OwnI W2.drew _ _ _ _ _ _ from hownL2).below hBB (fun k hk => (World.ownsRow.lt hownL2 k hk).2)
        have hownT3 := (show OwnI W2.drew _ _ _ _ _ _ from hownT2).below hBB (fun k hk => (World.ownsRow.lt hownT2 k hk).2)
        have hownA3 := (show OwnM W2.drew _ _ _ _ _ _ _ from hownA).belowAll hBB
        clear hcC hBr hBa hIT hBB hF2 hT2 hD2 hownL2 hownT2 hownA hbb2
        have hMA := hownA3.mat (Nat.le_refl _)
        have hMB := hownB.mat (Nat.le_refl _)
        have hcapA := hownA3.cap
        have hcapB := hownB.cap
        have HCK : Hid (∀ q ∈ chunkL ys N s1, allP p q = true ∧ q.length = N) := Lib.hid (chunkL_ok (by rw [HYL.out]; exact HSN.out) HX.out)
        have HLA : Hid ((chunkL ys N s1 ++ [lastQ p N i (chunkL ys N s1)]).getD s1 [] = lastQ p N i (chunkL ys N s1)) := Lib.hid (by rw [List.getD_eq_getElem?_getD, List.getElem?_append_right (by rw [chunkL_len]; omega), chunkL_len, Nat.sub_self]; rfl)
        have HLB : Hid ((chunkL ys N s1 ++ [lastQ p N j (chunkL ys N s1)]).getD s1 [] = lastQ p N j (chunkL ys N s1)) := Lib.hid (by rw [List.getD_eq_getElem?_getD, List.getElem?_append_right (by rw [chunkL_len]; omega), chunkL_len, Nat.sub_self]; rfl)
        have HTA : Hid ((chunkL ys N s1 ++ [lastQ p N i (chunkL ys N s1)]).take s1 = chunkL ys N s1) := Lib.hid (List.take_left' (chunkL_len _ _ _))
        have HTB : Hid ((chunkL ys N s1 ++ [lastQ p N j (chunkL ys N s1)]).take s1 = chunkL ys N s1) := Lib.hid (List.take_left' (chunkL_len _ _ _))
        have hs1m : s1 + 1 = m := HS1.out
        obtain ⟨b1, o1, Aq, nq, cq, rfl, _, _, hcq, hnq, hIq, _⟩ := hMA.at_ (j := s1) (by omega)
        obtain ⟨b2, o2, Bq, mq, dq, rfl, _, _, hdq, hmq, hJq, _⟩ := hMB.at_ (j := s1) (by omega)
        rw [HLA.out] at hIq
        rw [HLB.out] at hJq
        obtain rfl : nq = N := by rw [← hIq.len]; exact lastQ_len fun q hq => (HCK.out q hq).2
        obtain rfl : mq = nq := by rw [← hJq.len]; exact lastQ_len fun q hq => (HCK.out q hq).2
        have hmw1 : IntKind.i64.wrap ((m : Int) - 1) = s1 := by rw [hmS]; exact IntWalk.i64_in _ (by omega)
        have hq : ∀ jj, Calls Try.prog 24 #[.slice (some ⟨b1, o1, none⟩) s1 c10, .slice (some ⟨b2, o2, none⟩) s1 c11] (W3.drewN jj) fun e w' => e = .returned (.bool true) ∧ ∃ m, w' = W3.drewN m := fun jj => by
          have h1 := hMA.take_ (k := s1) (by omega)
          have h2 := hMB.take_ (k := s1) (by omega)
          rw [HTA.out] at h1
          rw [HTB.out] at h2
          have := sameRows_any _ _ s1 s1 c10 c11 _ _ (W3.drewN jj) (show Mat (W3.drewN jj) _ _ _ _ _ from h1) (show Mat (W3.drewN jj) _ _ _ _ _ from h2) (by omega)
          rw [beq_self_eq_true] at this
          exact this.mono fun e w' ⟨he, m, hm⟩ => ⟨he, jj + m, by rw [hm, World.drewN_drewN]⟩
        have HQ := Lib.hid hq
        have hk0 : (0 : Int) ≤ (s1 : Int) := by omega
        have hk1 : (s1 : Int) < (m : Int) := by omega
        have hk2 : (s1 : Int) ≤ (c10 : Int) := by omega
        have hk3 : (s1 : Int) ≤ (c11 : Int) := by omega
        have hk4 : s1 ≤ c10 := by omega
        have hk5 : s1 ≤ c11 := by omega
        have hk6 : s1 < m := by omega
        clear hq hs1m hmS
        go_upto_region 12 with fail
        go_quiet ((go_at_call 24; exact HQ.out _))
        generalize hLA : lastQ p mq i (chunkL ys mq s1) = LA at *
        generalize hLB : lastQ p mq j (chunkL ys mq s1) = LB at *
        have HDF : Hid (dfN LA LB mq = if i = j then 0 else 2) := Lib.hid (by
          rw [← hLA, ← hLB, dfN_last hp.1 (fun q hq => (HCK.out q hq).2) mq (Nat.le_refl _), if_pos hiN, if_pos hjN]; rfl)
        have HLAE := Lib.hid hLA
        have HLBE := Lib.hid hLB
        clear hLA hLB HLA HLB
        go_wp2
        go_loopw [20, 140] (fun v20 v140 wr => ∃ k q : Nat, k ≤ mq ∧ v140 = .int .i64 k ∧ v20 = .int .i64 (dfN LA LB k) ∧ wr = W3.drewN q) (fun _ v140 _ => mq - (intOf v140).toNat)
        case atStart => exact ⟨0, _, Nat.zero_le _, rfl, rfl, rfl⟩
        case round =>
          obtain ⟨k, q, hk, rfl, rfl, rfl⟩ := hrel
          by_cases hlt : k < mq
          · as_aux_lemma =>
              obtain ⟨ba, oa, rfl, hba, hca⟩ := hIq.2 (by omega)
              obtain ⟨bb, ob, rfl, hbb, hcb⟩ := hJq.2 (by omega)
              have hra := hca k hlt
              have hrb := hcb k hlt
              have hdb := dfN_in LA LB k
              have HDS : Hid (dfN LA LB (k + 1) = dfN LA LB k + (if LA.getD k 0 = LB.getD k 0 then 0 else 1)) := Lib.hid rfl
              clear hca hcb
              generalize LA.getD k 0 = x at *
              generalize LB.getD k 0 = y at *
              generalize dfN LA LB k = dk at *
              have hk0' : (0 : Int) ≤ (k : Int) := by omega
              have hk1' : (k : Int) < (mq : Int) := by omega
              by_cases hxy : x = y
              · subst hxy
                rw [if_pos rfl] at HDS
                go_wp2
                go_quiet (fail)
                go_wp2
                go_roundw
                case rel => exact ⟨k + 1, _, by omega, by go_num, by rw [HDS.out, Int.add_zero], rfl⟩
                case measure => simp [intOf]; omega
              · have hxb : (x != y) = true := by simpa using hxy
                rw [if_neg hxy] at HDS
                have hdw : IntKind.i64.wrap (dk + 1) = dk + 1 := IntWalk.i64_in _ (by omega)
                clear hxy
                go_wp2
                go_quiet (fail)
                go_wp2
                go_roundw
                case rel => exact ⟨k + 1, _, by omega, by go_num, by rw [HDS.out], rfl⟩
                case measure => simp [intOf]; omega
          · obtain rfl : k = mq := by omega
            rw [HDF.out]
            obtain ⟨D, HD⟩ : ∃ D : Int, Hid ((if i = j then (0 : Int) else 2) = D) := ⟨_, Lib.hid rfl⟩
            rw [HD.out]
            have hD4 : Deck (W3.drewN q) g A n c xs q9 := hD3
            have hownL4 : OwnI (W3.drewN q) w5.heap.size 3 A8 NN c8 (List.replicate NN p) := hownL3
            have hgW3 : g < W3.heap.size := hD3.1.lt
            go_upto_region 22 with (go_at_call 23; refine (seed_any g A n c xs q9 p NN A8 c8 _ hD4 hp hownL4 (by omega) (by omega)).mono ?_; rintro e w13 ⟨T13, tc13, us, q13, rfl, hownU, hU, hD13, hS13⟩)
            have hle13 := World.grownBy.size hS13
            have hle13' : W3.heap.size ≤ w13.heap.size := hle13
            obtain ⟨W4, hW4⟩ : ∃ W4, w13.alloc (.cells #[.slice T13 NN tc13, .int .i64 0] 36) = W4 := ⟨_, rfl⟩
            have hba13 : Below w13.heap.size w13 W4 := by rw [← hW4]; exact bbox _
            have hT13 : Blk W4 w13.heap.size 36 #[.slice T13 NN tc13, .int .i64 0] := by rw [← hW4]; exact Blk.new _ _ _
            rw [hW4]
            clear hW4
            have hF4 := (Step.block hS13 (show Blk (W3.drewN q) _ _ _ from hF3) hgf).below hba13 (by have := hF3.lt; omega)
            have hT4 := (Step.block hS13 (show Blk (W3.drewN q) _ _ _ from hT3) (by omega)).below hba13 (by have := hT3.lt; omega)
            have hbb4 := bnext (Step.below (below_drewN hbb3 q) hS13 (by have := hbb3.size; exact this) hg) hba13
            have hownT4 := ((show OwnI (W3.drewN q) _ _ _ _ _ _ from hownT3).step hS13 (by omega)).belowAll hba13
            have hownA4 := ((show OwnM (W3.drewN q) _ _ _ _ _ _ _ from hownA3).step hS13 hgW hgW).belowAll hba13
            have hownU4 := hownU.belowAll hba13
            have HUL := Lib.hid hownU.len
            have HXU : Hid (∀ j, j < s1 * k → 0 ≤ us.getD j 0 ∧ us.getD j 0 < p) := Lib.hid fun j hj => allP_getD hU (by rw [hownU.len]; have := HNN.out; omega)
            have hleW4 : w13.heap.size ≤ W4.heap.size := hba13.size
            clear hD4 hownL4 hownL3 hD3 hF3 hT3 hownT3 hownA3 hownB hMA hMB hIq hJq hcq hdq HQ hS13 hba13 hownU hU hD13
            have hmS : (m : Int) - 1 = s1 := by have := HS1.out; omega
            have hcC : Hid (∀ wx, Below W4.heap.size W4.drew wx → wx.cell? ⟨w3.heap.size, 0, none⟩ = some (.int .i64 p) ∧ wx.cell? ⟨w13.heap.size, 0, none⟩ = some (.slice T13 NN tc13) ∧ wx.cell? ⟨w13.heap.size, 1, none⟩ = some (.int .i64 0)) := Lib.hid fun wx hx =>
              ⟨(((Blk.drew hF4).below hx hF4.lt).cell 0).trans rfl, (((Blk.drew hT13).below hx hT13.lt).cell 0).trans rfl, (((Blk.drew hT13).below hx hT13.lt).cell 1).trans rfl⟩
            have hBr : Below W4.heap.size W4.drew W4.drew := Below.refl _ _
            have hBa : Below W4.heap.size W4.drew (W4.drew.alloc (.cells #[.slice none 0 0, .int .i64 0] 36)) := bbox (w0 := W4.drew) _
            have hIT : Hid (∀ wx, Below W4.heap.size W4.drew wx → Ints wx wx.heap.size T13 NN us) := Lib.hid fun wx hx => (show Ints W4.drew W4.drew.heap.size T13 NN us from hownU4.ints).upto hx
            go_cut [23, 24, 25] (fun s23 s24 s25 wx => QueAt p k s1 m i us W4 s23 s25 wx)
            case first =>
              as_aux_lemma =>
                go_region_held3 (fun w' => w'.cell? ⟨w3.heap.size, 0, none⟩ = some (.int .i64 p) ∧ w'.cell? ⟨w13.heap.size, 0, none⟩ = some (.slice T13 NN tc13) ∧ w'.cell? ⟨w13.heap.size, 1, none⟩ = some (.int .i64 0)) (first | exact hcC.out _ hBr | exact hcC.out _ hBa | exact hcC.out _ hB10 | exact hcC.out _ (hB10.alloc hle10 _) | exact hcC.out _ ((hB10.setCell (p := ⟨_, 0, none⟩) hle _).setCell (p := ⟨_, 1, none⟩) hle _))
                  (first
                    | (go_at_call 21; (refine (queries_ok p k s1 i NN tc13 m T13 us _ HO.out (by omega) (by omega) hmS hiN (hIT.out _ (by first | exact hBr | exact hBa)) (by omega) HSN.out HXU.out).mono ?_); rintro e w10 ⟨⟨A12, c12, T10, tc10, av, he, hav, hown12⟩, hb10⟩
                       rw [HS1.out] at he hown12
                       subst he
                       have hB10 : Below W4.heap.size W4.drew w10 := by first | exact hb10 | exact hBa.trans (hb10.mono hBa.size)
                       have hle10 : W4.heap.size ≤ w10.heap.size := hB10.size
                       first
                         | (have hBx : Blk w10 W4.heap.size 36 #[.slice none 0 0, .int .i64 0] := (Blk.new W4.drew 36 #[.slice none 0 0, .int .i64 0]).below hb10 (Blk.new W4.drew 36 #[.slice none 0 0, .int .i64 0]).lt
                            have hle : W4.heap.size ≤ W4.heap.size := Nat.le_refl _
                            have hx0 : w10.cell? ⟨W4.heap.size, 0, none⟩ = some (.slice none 0 0) := (hBx.cell 0).trans rfl
                            have hx1 : w10.cell? ⟨W4.heap.size, 1, none⟩ = some (.int .i64 0) := (hBx.cell 1).trans rfl
                            have hxf0 := hBx.frozen 0
                            have hxf1 := hBx.frozen 1)
                         | (have hle : W4.heap.size ≤ w10.heap.size := hle10)))
                all_goals go_wp2_with fail
                all_goals go_meet
                case rel => exact QueAt.new hown12 hB10 (Nat.le_refl _) _
                case rel => exact QueAt.box hown12 hB10 (Nat.le_refl _) (by show W4.heap.size < (W4.drew.alloc _).heap.size; simp) _ _
            case rest =>
              obtain ⟨A12, c12, rfl, rfl, hownC, hBC⟩ := hcut
              obtain ⟨W5, hW5⟩ : ∃ W5, W5 = wc := ⟨_, rfl⟩
              subst hW5
              have hbb5' : Below w.heap.size w W5 := hbb4.drew.trans (hBC.mono hbb4.size)
              have hF5 := (Blk.drew hF4).below hBC hF4.lt
              have hT5 := (Blk.drew hT4).below hBC hT4.lt
              have hT15 := (Blk.drew hT13).below hBC hT13.lt
              have hownT5 := (show OwnI W4.drew _ _ _ _ _ _ from hownT4).belowAll hBC
              have hownU5 := (show OwnI W4.drew _ _ _ _ _ _ from hownU4).belowAll hBC
              have hownA5 := (show OwnM W4.drew _ _ _ _ _ _ _ from hownA4).belowAll hBC
              have hMC := hownC.mat (Nat.le_refl _)
              have hcf5 : W5.cell? ⟨w3.heap.size, 0, none⟩ = some (.int .i64 p) := (hF5.cell 0).trans rfl
              have HCU : Hid (∀ q ∈ chunkL us k s1, allP p q = true ∧ q.length = k) := Lib.hid (chunkL_ok (by rw [HUL.out]; exact HSN.out) HXU.out)
              have HQU : Hid (∀ q ∈ chunkL us k s1 ++ [lastQ p k i (chunkL us k s1)], allP p q = true ∧ q.length = k) := Lib.hid fun q hq => by
                rcases List.mem_append.1 hq with h1 | h1
                · exact HCU.out q h1
                · rw [List.mem_singleton.1 h1]; exact ⟨lastQ_all hp.1 _ _ _, lastQ_len fun r hr => (HCU.out r hr).2⟩
              have HSP : Hid (plusL p k (chunkL us k s1 ++ [lastQ p k i (chunkL us k s1)]) = spikeL k i 1) := Lib.hid (plusL_queries hp.1 (fun q hq => (HCU.out q hq).2) hiN)
              have HSA : Hid (((chunkL us k s1 ++ [lastQ p k i (chunkL us k s1)]) == (chunkL ys k s1 ++ [LA])) = (ys == us)) := Lib.hid (by rw [← HLAE.out]; exact queries_same (by rw [HUL.out, HNN.out]) (by rw [HYL.out, HNN.out]))
              clear hcC hBr hBa hIT hBC hF4 hT4 hT13 hownT4 hownU4 hownA4 hbb4
              go_upto_region 24 with (go_at_call 25; refine (wanted_ok p A12 m c12 k i _ _ _ HO.out hMC (by omega) HQU.out (by omega) hiN HSP.out).mono ?_; rintro e W6 ⟨rfl, hb6⟩)
              have hT6 := hT5.below hb6 hT5.lt
              have hT16 := hT15.below hb6 hT15.lt
              have hI6 := (hownT5.belowAll hb6).ints
              have hU6 := (hownU5.belowAll hb6).ints
              have hMA6 := (hownA5.belowAll hb6).mat (Nat.le_refl _)
              have hMC6 := hMC.upto hb6
              have hbb6 := hbb5'.trans (hb6.mono hbb5'.size)
              have hT9l := hT6.lt
              have hT13l := hT16.lt
              obtain ⟨e, HE⟩ : ∃ e, Hid ((ys == us) = e) := ⟨_, Lib.hid rfl⟩
              have HSE : Hid (((chunkL us k s1 ++ [lastQ p k i (chunkL us k s1)]) == (chunkL ys k s1 ++ [LA])) = e) := Lib.hid (by rw [HSA.out, HE.out])
              have hs60 : W6.cell? ⟨w9.heap.size, 0, none⟩ = some (.slice T9 NN tc9) := (hT6.cell 0).trans rfl
              have hs61 : W6.cell? ⟨w9.heap.size, 1, none⟩ = some (.int .i64 0) := (hT6.cell 1).trans rfl
              have hs62 : W6.cell? ⟨w13.heap.size, 0, none⟩ = some (.slice T13 NN tc13) := (hT16.cell 0).trans rfl
              have hs63 : W6.cell? ⟨w13.heap.size, 1, none⟩ = some (.int .i64 0) := (hT16.cell 1).trans rfl
              have k0 := cell_regrown hs60
              have k1 := cell_regrown hs61
              have k2 := cell_regrown hs62
              have k3 := cell_regrown hs63
              have cS : ∀ d os, Calls Try.prog 24 #[.slice A12 m c12, .slice (some ⟨b1, o1, none⟩) m c10] (Go.Sort.grow (redrawn W6 d) os) fun e' w'' => e' = .returned (.bool e) ∧ ∃ p : Regrown, w'' = Go.Sort.grow (redrawn W6 p.d) p.os := fun d os => by
                have hb := below_regrown W6 d os
                have := sameRows_any A12 (some ⟨b1, o1, none⟩) m m c12 c10 _ _ _ (hMC6.upto hb) (hMA6.upto hb) (by omega)
                rw [HSE.out] at this
                exact Calls.regrown_of (this.mono fun e w' ⟨he, q, hq⟩ => ⟨he, by rw [hq]; exact below_drewN (Below.refl _ _) _⟩)
              have cT : ∀ d os, Calls Try.prog 26 #[.agg #[.slice T9 NN tc9, .int .i64 0], .agg #[.slice T13 NN tc13, .int .i64 0]] (Go.Sort.grow (redrawn W6 d) os) fun e' w'' => e' = .returned (.bool e) ∧ ∃ p : Regrown, w'' = Go.Sort.grow (redrawn W6 p.d) p.os := fun d os => by
                have hb := below_regrown W6 d os
                have := rtsame_any T9 T13 NN NN tc9 tc13 0 ys us _ (hI6.upto hb) (hU6.upto hb) (by omega) rfl
                rw [HE.out] at this
                exact Calls.regrown_of this
              have hcase : (D = 0 ∧ i = j) ∨ (D = 2 ∧ ¬ i = j) := by
                have h1 := HD.out
                by_cases hij : i = j
                · rw [if_pos hij] at h1; exact .inl ⟨h1.symm, hij⟩
                · rw [if_neg hij] at h1; exact .inr ⟨h1.symm, hij⟩
              have CS := Lib.hid cS
              have CT := Lib.hid cT
              clear cS cT HD HDF hMC6 hMA6 hI6 hU6 hT6 hT16 hownT5 hownU5 hownA5 hMC hF5 hcf5 hT5 hT15 hownC hs60 hs61 hs62 hs63
              rcases hcase with ⟨rfl, rfl⟩ | ⟨rfl, hij⟩
              · as_aux_lemma =>
                  refine wp_region_quiet_below (by kernel_rfl) (by kernel_rfl) ?_
                  repeat (go_big_quiet_step (first | exact CS.out _ _ | exact CT.out _ _))
                  refine wpQuiet_nil ?_
                  intro _ hw'
                  obtain ⟨⟨dq, osq⟩, hw''⟩ := hw'
                  subst hw''
                  go_wp2
                  go_ret
                  exact ⟨ret_bool (by simp), hbb6.trans ((below_regrown W6 dq osq).mono hbb6.size)⟩
              · as_aux_lemma =>
                  have hijI : ¬ (i : Int) = (j : Int) := by omega
                  have hijb : ((i : Int) == (j : Int)) = false := beq_eq_false_iff_ne.2 hijI
                  have hijd : decide (i = j) = false := decide_eq_false hij
                  have hijn : (i == j) = false := beq_eq_false_iff_ne.2 hij
                  refine wp_region_quiet_below (by kernel_rfl) (by kernel_rfl) ?_
                  repeat (go_big_quiet_step (first | exact CS.out _ _ | exact CT.out _ _))
                  refine wpQuiet_nil ?_
                  intro _ hw'
                  obtain ⟨⟨dq, osq⟩, hw''⟩ := hw'
                  subst hw''
                  go_wp2
                  go_ret
                  exact ⟨ret_bool (by simp), hbb6.trans ((below_regrown W6 dq osq).mono hbb6.size)⟩
  · have hd : decide (n ≤ 500) = false := by simpa using hn
    go_enter Try.func4, Try.ntmps4
    go_wp2_with (first
      | (go_at_call 14; refine (sane16_any _).mono ?_; rintro e w1 ⟨rfl, hb1⟩)
      | (go_at_call 15; refine (few_any A n c _).mono ?_; rintro e w' ⟨rfl, rfl⟩))
    go_ret
    exact ⟨rfl, hb1⟩
end Go.Proofs.Ytefgjkkgddeemaa
