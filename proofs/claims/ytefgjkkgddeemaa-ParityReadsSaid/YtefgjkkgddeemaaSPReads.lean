/-
  ParityReads returns true: the walk of the law. Conditions: none beyond the reading of its arguments.
-/
import Derived.Test.YtefgjkkgddeemaaSPWrong
import Derived.Test.YtefgjkkgddeemaaSeed
import Derived.Test.YtefgjkkgddeemaaComb
import Derived.Test.YtefgjkkgddeemaaMkRows
namespace Go.Proofs.Ytefgjkkgddeemaa
open Go.RowKit
set_option linter.unusedVariables false

theorem panswer_ok (p : Int) (A C : Option Addr) (n wd c d : Nat) (cs : List Int) (rows : List (List Int)) (w : World) {lo : Nat} (hok : okP p = true) (h : Ints w w.heap.size A n cs) (hM : Mat w lo w.heap.size C n rows) (hc : allP p cs = true)
    (hr : ∀ r ∈ rows, allP p r = true ∧ r.length = wd) (hn : n ≤ 17592186044416) (hw : wd ≤ 64) :
    Calls Try.prog 39 #[.agg #[.int .i64 p], .int .i64 wd, .slice C n d, .slice A n c] w fun e w' =>
      (∃ A' c', e = .returned (.tuple #[.slice A' wd c', .int .i64 0]) ∧ OwnI w' w.heap.size 3 A' wd c' (combP p cs rows wd)) ∧ Below w.heap.size w w' := by
  have HO := Lib.hid hok
  have HC := Lib.hid hc
  have HR := Lib.hid hr
  have hb0 : Below w.heap.size w (w.alloc (.cells #[.int .i64 p] 28)) := bbox _
  clear hok hc hr
  go_enter Try.func39, Try.ntmps39
  go_wp2_with (go_at_call 74; refine (combine_ok p A C n wd c d cs rows _ HO.out (h.upto hb0) (hM.upto hb0) HC.out HR.out hn hw).mono ?_; rintro e w1 ⟨⟨A', c', rfl, hown⟩, hb1⟩)
  go_ret2
  exact ⟨⟨A', c', rfl, hown.base (by simp)⟩, bnext hb0 hb1⟩

theorem take_map_snoc {f : List Int → List Int} (qs : List (List Int)) (k : Nat) (h : k < qs.length) : (qs.take (k + 1)).map f = (qs.take k).map f ++ [f (qs.getD k [])] := by
  rw [take_snoc_row qs k h, List.map_append]; rfl

set_option maxHeartbeats 6400000 in
set_option maxRecDepth 100000 in
theorem parityReads_walk (A : Option Addr) (n c : Nat) (zs : List Int) (at_ : Int) (w : World) (w0 : IsRow .i64 w A n c zs) (w1 : (Lit.int .u8 at_).wf = true) :
    Calls Try.prog 7 #[.slice A n c, .int .u8 at_] w fun e w' => e = .returned (.bool true) ∧ Below w.heap.size w w' := by
  have hat : 0 ≤ at_ ∧ at_ ≤ 255 := by simpa [Lit.wf, IntKind.min, IntKind.max, IntKind.signed, IntKind.bits] using w1
  obtain ⟨h, hw⟩ := w0.ints
  generalize zs.take n = xs at h hw
  clear w0 w1
  by_cases hn : n ≤ 500
  · have hd : decide (n ≤ 500) = true := by simpa using hn
    have hatw : IntKind.i64.wrap at_ = at_ := IntWalk.i64_in _ (by omega)
    go_enter Try.func7, Try.ntmps7
    go_upto_region 8 with (first
      | (go_at_call 14; refine (sane16_any _).mono ?_; rintro e w1 ⟨rfl, hb1⟩)
      | (go_at_call 15; refine (few_any A n c _).mono ?_; rintro e w' ⟨rfl, rfl⟩)
      | (go_at_call 16; refine (new_any A n c xs _ (h.upto hb1) hn).mono ?_; rintro e w2 ⟨⟨g, rfl, hge, hD2⟩, hb2⟩
         have hbb2 := bnext hb1 hb2
         have hg : w.heap.size ≤ g := by rw [hge]; exact hb1.size
         clear hge)
      | (go_at_call 22; refine (field_any g A n c xs _ _ hD2).mono ?_; rintro e w3 ⟨p, q3, rfl, hkn, hD3, hS3⟩
         have hok := okP_known hkn
         have hp := okP_pos hok
         have HO := Lib.hid hok
         have hbb3 := ballocs (Step.below hbb2 hS3 hbb2.size hg) (.cells #[.int .i64 p] 28)
         have hF_3 := Blk.new w3 28 #[.int .i64 p]
         have hD3' := hD3.alloc (.cells #[.int .i64 p] 28)
         have hgf : w3.heap.size ≠ g := by have := hD3.1.lt; omega
         clear hok hkn hD2 hD3 hS3 hbb2 hb1 hb2)
      | (go_at_call 17; (with_reducible refine (next_any g A n c xs q3 8 _ hD3' (by omega)).mono ?_); rintro e w4 ⟨r1, q4, rfl, hr1, _, hD4, hS4, hz4⟩
         obtain ⟨N, hN⟩ : ∃ s : Nat, 1 + r1 = s := ⟨(1 + r1).toNat, by have := hr1 (by omega); omega⟩
         have hN8 : 1 ≤ N ∧ N ≤ 8 := by have := hr1 (by omega); omega
         have hNw : IntKind.i64.wrap (1 + r1) = N := by rw [hN]; exact IntWalk.i64_in _ (by omega)
         have hF_4 := Step.block hS4 hF_3 hgf
         have hbb4 := Step.below hbb3 hS4 hbb3.size hg
         clear hr1 hz4 hS4)
      | (go_at_call 17; (with_reducible refine (next_any g A n c xs q4 5 _ hD4 (by omega)).mono ?_); rintro e w5 ⟨r2, q5, rfl, hr2, _, hD5, hS5, hz5⟩
         obtain ⟨m, hm⟩ : ∃ s : Nat, 2 + r2 = s := ⟨(2 + r2).toNat, by have := hr2 (by omega); omega⟩
         have hm6 : 2 ≤ m ∧ m ≤ 6 := by have := hr2 (by omega); omega
         have hmw : IntKind.i64.wrap (2 + r2) = m := by rw [hm]; exact IntWalk.i64_in _ (by omega)
         have hF_5 := Step.block hS5 hF_4 hgf
         have hbb5 := Step.below hbb4 hS5 hbb4.size hg
         clear hr2 hz5 hS5)
      | (go_at_call 17; (with_reducible refine (next_any g A n c xs q5 5 _ hD5 (by omega)).mono ?_); rintro e w6 ⟨r3, q6, rfl, hr3, _, hD6, hS6, hz6⟩
         obtain ⟨wd, rfl⟩ : ∃ s : Nat, r3 = s := ⟨r3.toNat, by have := hr3 (by omega); omega⟩
         have hwd : wd ≤ 4 := by have := hr3 (by omega); omega
         have hF_6 := Step.block hS6 hF_5 hgf
         have hbb6 := Step.below hbb5 hS6 hbb5.size hg
         have hg6 := hD6.1.lt
         have hcf6 : w6.cell? ⟨w3.heap.size, 0, none⟩ = some (.int .i64 p) := (hF_6.cell 0).trans rfl
         clear hr3 hz6 hS6))
    obtain ⟨s1, hs1⟩ : ∃ s1, s1 + 1 = m := ⟨m - 1, by omega⟩
    obtain ⟨NN, hNN⟩ : ∃ k : Nat, (N : Int) * (s1 : Int) = k := ⟨N * s1, by rw [Int.natCast_mul]⟩
    have HNN : Hid (s1 * N = NN) := Lib.hid (by rw [← Int.natCast_mul] at hNN; rw [Nat.mul_comm]; exact Int.ofNat.inj hNN)
    have hNNb : NN ≤ 48 := by
      have h1 := HNN.out
      have h2 : s1 * N ≤ 5 * 8 := Nat.mul_le_mul (by omega) (by omega)
      omega
    obtain ⟨i, hi⟩ : ∃ kk : Nat, at_ % (N : Int) = kk := ⟨(at_ % (N : Int)).toNat, by rw [Int.toNat_of_nonneg (Int.emod_nonneg _ (by omega))]⟩
    have hiN : i < N := by have := Int.emod_lt_of_pos at_ (b := (N : Int)) (by omega); omega
    have hit : at_.tmod (N : Int) = (i : Int) := by rw [Int.tmod_eq_emod_of_nonneg hat.1]; exact hi
    have hN0 : ¬ (N : Int) = 0 := by omega
    have HS1 := Lib.hid hs1
    have HNI := Lib.hid hNN
    have hmS : (m : Int) - 1 = s1 := by omega
    clear hF_3 hF_4 hF_5 hD3' hD4 hD5 hbb3 hbb4 hbb5 hi hs1 hNN
    go_upto_region 15 with (first
      | (go_at_call 34; refine (rows_any g A n c xs q6 p N wd _ hD6 hp (by omega) (by omega)).mono ?_; rintro e w7 ⟨A7, c7, rows, q7, rfl, hown7, hR7, hD7, hS7⟩
         have hF_7 := Step.block hS7 hF_6 hgf
         have hbb7 := Step.below hbb6 hS7 hbb6.size hg
         have hcf7 : w7.cell? ⟨w3.heap.size, 0, none⟩ = some (.int .i64 p) := (hF_7.cell 0).trans rfl
         have HR7 := Lib.hid hR7
         have hle7 := hS7.size
         clear hR7 hS7)
      | (go_at_call 18; refine (plimits_ok p N s1 NN m _ HO.out (by omega) (by omega) hmS HNI.out (by omega)).mono ?_; rintro e w8 ⟨⟨A8, c8, rfl, hown8⟩, hb8⟩
         have hF_8 := hF_7.below hb8 hF_7.lt
         have hbb8 := bnext hbb7 hb8
         have hD8 := hD7.belowAll hb8
         have hownR8 := hown7.belowAll hb8
         have hle8 := hb8.size
         clear hb8)
      | (go_at_call 23; refine (seed_any g A n c xs q7 p NN A8 c8 _ hD8 hp hown8 (by omega) (by omega)).mono ?_; rintro e w9 ⟨T9, tc9, ys, q9, rfl, hownT, hY, hD9, hS9⟩
         have hle9 := hS9.size
         have hba9 : Below w9.heap.size w9 (w9.alloc (.cells #[.slice T9 NN tc9, .int .i64 0] 36)) := bbox _
         have hT9 := Blk.new w9 36 #[.slice T9 NN tc9, .int .i64 0]
         have hF_9 := (Step.block hS9 hF_8 hgf).alloc (.cells #[.slice T9 NN tc9, .int .i64 0] 36)
         have hbb9 := ballocs (Step.below hbb8 hS9 hbb8.size hg) (.cells #[.slice T9 NN tc9, .int .i64 0] 36)
         have hD9a := hD9.belowAll hba9
         have hownR9 := (hownR8.step hS9 (by omega) (by omega)).belowAll hba9
         have hcf9 : (w9.alloc (.cells #[.slice T9 NN tc9, .int .i64 0] 36)).cell? ⟨w3.heap.size, 0, none⟩ = some (.int .i64 p) := (hF_9.cell 0).trans rfl
         have hct0 : (w9.alloc (.cells #[.slice T9 NN tc9, .int .i64 0] 36)).cell? ⟨w9.heap.size, 0, none⟩ = some (.slice T9 NN tc9) := (hT9.cell 0).trans rfl
         have hct1 : (w9.alloc (.cells #[.slice T9 NN tc9, .int .i64 0] 36)).cell? ⟨w9.heap.size, 1, none⟩ = some (.int .i64 0) := (hT9.cell 1).trans rfl
         have hIT := (hownT.belowAll hba9).ints
         have HX : Hid (∀ j, j < s1 * N → 0 ≤ ys.getD j 0 ∧ ys.getD j 0 < p) := Lib.hid fun j hj => allP_getD hY (by rw [hownT.len]; have := HNN.out; omega)
         clear hS9 hY)
      | (go_at_call 21; refine (queries_ok p N s1 i NN tc9 m T9 ys _ HO.out (by omega) (by omega) hmS hiN hIT (by omega) (by have := HNN.out; omega) HX.out).mono ?_; rintro e w10 ⟨⟨A10, c10, T10, tc10, av, he, hav, hown10⟩, hb10⟩
         rw [HS1.out] at he hown10
         obtain rfl : av = (NN : Int) := by rw [hav, HNN.out]
         subst he
         have hba10 : Below w10.heap.size w10 (w10.alloc (.cells #[.slice T10 NN tc10, .int .i64 (NN : Int)] 36)) := bbox _
         have hT10 := Blk.new w10 36 #[.slice T10 NN tc10, .int .i64 (NN : Int)]
         have hb10a := bnext hb10 hba10
         have hF_10 := hF_9.below hb10a hF_9.lt
         have hbb10 := bnext hbb9 hb10a
         have hD10 := hD9a.belowAll hb10a
         have hownR10 := hownR9.belowAll hb10a
         have hownQ10 := hown10.belowAll hba10
         have hct2 : (w10.alloc (.cells #[.slice T10 NN tc10, .int .i64 (NN : Int)] 36)).cell? ⟨w10.heap.size, 1, none⟩ = some (.int .i64 (NN : Int)) := (hT10.cell 1).trans rfl
         clear hav hb10))
    have HQA : Hid (∀ q ∈ chunkL ys N s1 ++ [lastQ p N i (chunkL ys N s1)], allP p q = true ∧ q.length = N) := Lib.hid fun q hq => by
      have hck := chunkL_ok (p := p) (xs := ys) (r := N) (k := s1) (by rw [hownT.len]; have := HNN.out; omega) HX.out
      rcases List.mem_append.1 hq with h1 | h1
      · exact hck q h1
      · rw [List.mem_singleton.1 h1]
        exact ⟨lastQ_all hp.1 _ _ _, lastQ_len fun r hr => (hck r hr).2⟩
    have HSP : Hid (plusL p N (chunkL ys N s1 ++ [lastQ p N i (chunkL ys N s1)]) = spikeL N i 1) := Lib.hid (plusL_queries hp.1 (fun q hq => (HQA.out q (List.mem_append.2 (.inl hq))).2) hiN)
    generalize chunkL ys N s1 ++ [lastQ p N i (chunkL ys N s1)] = QS at *
    obtain ⟨W, hW⟩ : ∃ W, w10.alloc (.cells #[.slice T10 NN tc10, .int .i64 (NN : Int)] 36) = W := ⟨_, rfl⟩
    rw [hW] at hF_10 hbb10 hD10 hownR10 hownQ10
    rw [hW]
    have hMQ := hownQ10.mat (Nat.le_refl _)
    have hMR := hownR10.mat (Nat.le_refl _)
    have HQL := Lib.hid hMQ.len
    have HRL := Lib.hid hMR.len
    have HLW : Hid (plusL p wd (QS.map fun q => combP p q rows wd) = rows.getD i []) := Lib.hid (by
      rw [plusL_comb p hp.1 N wd rows QS (fun r hr => (HR7.out r hr).2) (fun q hq => (HQA.out q hq).2), HSP.out]
      exact comb_pick p hp.1 rows N wd i HRL.out hiN HR7.out)
    have hgW := hD10.1.lt
    have hFl : w3.heap.size < W.heap.size := hF_10.lt
    clear hownQ10 hown10 hownR10 hownR9 hownR8 hown7 hownT hIT hct0 hct1 hct2 hT9 hT10 hcf9 hcf7 hcf6 hF_9 hF_8 hF_7 hF_6 hba9 hba10 hb10a hD9 hD9a hD8 hD7 hbb9 hbb8 hbb7 hbb6 hW hown8 hle7 hle8 hle9
    have HTR := Lib.hid (fun k : Nat => (List.replicate_succ' (n := k) (a := true)).symm)
    go_wp2_with fail
    go_loopw [18, 97] (fun v18 v97 wr => ∃ (k : Nat) (L : Option Addr) (lc : Nat), k ≤ m ∧ v97 = .int .i64 k ∧ v18 = .slice L k lc ∧ OwnA wr W.heap.size W.heap.size L k lc (List.replicate k true) ((QS.take k).map fun q => combP p q rows wd) ∧ Below W.heap.size W wr) (fun _ v97 _ => m - (intOf v97).toNat)
    case atStart => exact ⟨0, none, 0, Nat.zero_le _, rfl, rfl, OwnA.nil_, Below.refl _ _⟩
    case round =>
      obtain ⟨k, L, lc, hk, rfl, rfl, hown, hbr⟩ := hrel
      have hFr := hF_10.below hbr hF_10.lt
      have hcf : wr.cell? ⟨w3.heap.size, 0, none⟩ = some (.int .i64 p) := (hFr.cell 0).trans rfl
      have hsr := hbr.size
      by_cases hlt : k < m
      · obtain ⟨b, off, Aq, nq, cq, rfl, _, hbl, hcq, hnq, hIq, _⟩ := (hMQ.upto hbr).at_ hlt
        have hqq := HQA.out _ (getD_mem2 (d := []) (k := k) (by rw [HQL.out]; exact hlt))
        have HTK := Lib.hid (take_map_snoc (f := fun q => combP p q rows wd) QS k (by rw [HQL.out]; exact hlt))
        generalize QS.getD k [] = qv at *
        obtain rfl : nq = N := by rw [← hqq.2, hIq.len]
        have HQV := Lib.hid hqq.1
        have HCL : Hid ((combP p qv rows wd).length = wd) := Lib.hid (combP_len p qv rows wd fun r hr => (HR7.out r hr).2)
        have hMRr := hMR.upto hbr
        have hk0 : (0 : Int) ≤ (k : Int) := by omega
        have hk1 : (k : Int) < (m : Int) := by omega
        clear hqq
        go_wp2_with (first
          | (go_at_call 39; refine (panswer_ok p Aq A7 nq wd cq c7 qv rows _ HO.out hIq hMRr HQV.out HR7.out (by omega) (by omega)).mono ?_; rintro e w12 ⟨⟨A12, c12, rfl, hown12⟩, hb12⟩
             have hba : Below w12.heap.size w12 (w12.alloc (.cells #[.bool true, .slice A12 wd c12] 53)) := bbox _
             have hBk := Blk.new w12 53 #[.bool true, .slice A12 wd c12]
             have ha0 : (w12.alloc (.cells #[.bool true, .slice A12 wd c12] 53)).cell? ⟨w12.heap.size, 0, none⟩ = some (.bool true) := (hBk.cell 0).trans rfl
             have ha1 : (w12.alloc (.cells #[.bool true, .slice A12 wd c12] 53)).cell? ⟨w12.heap.size, 1, none⟩ = some (.slice A12 wd c12) := (hBk.cell 1).trans rfl
             have hIa := hown12.ints.upto hba
             have hb12a := bnext hb12 hba
             have howna := hown.belowAll hb12a
             have hbra := hbr.trans (hb12a.mono hsr)
             have HLO : Hid (Lo W.heap.size A12 wd) := Lib.hid fun h0 b off s e => by have := hown12.row b (by rw [e]; rfl); omega
             have HAP : Hid (0 < wd → ∀ b off s, A12 = some ⟨b, off, s⟩ → (Value.slice L k lc).ownBlock ≠ some b) := Lib.hid fun h0 b off s e e2 => by
               have h1 := hown12.row b (by rw [e]; rfl)
               have h2 := (hown.row b e2).2
               omega)
          | (at_builtin
             refine wpList_append_ans rfl _ _ 50 rfl Try.underlying50 W.heap.size W.heap.size L k lc (List.replicate k true) _ rfl howna w12.heap.size 1 true A12 wd c12 (combP p qv rows wd) rfl ha0 ha1 (by omega) hIa HLO.out HAP.out (by omega) hbra.size ?_
             intro L2 lc2 w14 hown14 hb14
             rw [HTR.out k, ← HTK.out] at hown14
             have hb14a := hbra.trans hb14))
        go_roundw
        case rel => exact ⟨k + 1, L2, lc2, by omega, by go_num, rfl, hown14, hb14a⟩
        case measure => simp [intOf]; omega
      · obtain rfl : k = m := by omega
        rw [List.take_of_length_le (by rw [HQL.out]; omega)] at hown
        have HAL := Lib.hid hown.2.1
        obtain ⟨ga, rfl, hga1, hga2⟩ := hown.form (by omega)
        have HAR : Hid (∀ r ∈ QS.map (fun q => combP p q rows wd), allP p r = true ∧ r.length = wd) := Lib.hid fun r hr => by
          obtain ⟨q, hq, rfl⟩ := List.mem_map.1 hr
          exact ⟨combP_all hp.1 _ _ _, combP_len p q rows wd fun r hr => (HR7.out r hr).2⟩
        generalize QS.map (fun q => combP p q rows wd) = ans at *
        have HRW : Hid (∀ j, j < k → (List.replicate k true).getD j false = true → allP p (ans.getD j []) = true ∧ (ans.getD j []).length = wd) := Lib.hid fun j hj _ => rows_at HAR.out (by rw [HAL.out]; exact hj)
        have HTT : Hid (∀ j, j < k → (List.replicate k true).getD j false = true) := Lib.hid fun j hj => trues_at hj
        have hbb15 := hbb10.trans (hbr.mono hbb10.size)
        go_upto_region 26 with (first
          | (go_at_call 28; refine (decode_any p _ k lc wd _ ans _ HO.out hown.ans HRW.out (by omega) (by omega)).mono ?_; rintro e w16 ⟨hyes, _, hb16⟩
             obtain ⟨A16, c16, rfl, hown16⟩ := hyes HTT.out
             rw [HLW.out] at hown16
             have hba : Below w16.heap.size w16 (w16.alloc (.cells #[.slice A16 wd c16, .slice none 0 0] 55)) := bbox _
             have bT16 := Blk.new w16 55 #[.slice A16 wd c16, .slice none 0 0]
             have hb16a := bnext hb16 hba
             have hbr16 := hbr.trans (hb16a.mono hsr)
             have hown16a := hown16.belowAll hba
             have howna := hown.belowAll hb16a
             have hF16 := hFr.below hb16a hFr.lt
             have hcf16 : (w16.alloc (.cells #[.slice A16 wd c16, .slice none 0 0] 55)).cell? ⟨w3.heap.size, 0, none⟩ = some (.int .i64 p) := (hF16.cell 0).trans rfl
             have hM16 := hMQ.upto hbr16
             clear hyes)
          | (go_at_call 25; refine (wanted_ok p A10 k c10 N i _ QS _ HO.out hM16 (by omega) HQA.out (by omega) hiN HSP.out).mono ?_; rintro e w17 ⟨rfl, hb17⟩
             have hbr17 := hbr16.trans (hb17.mono hbr16.size)
             have bT17 := bT16.below hb17 bT16.lt
             have hown17 := hown16a.belowAll hb17
             have hownA17 := howna.belowAll hb17
             have hF17 := hF16.below hb17 hF16.lt
             have hD17 := hD10.belowAll hbr17))
        have hgr : g < wr.heap.size := by omega
        have hle16 := hb16a.size
        have hle16' := hb16.size
        have hle17 := hb17.size
        go_upto_region 28 with (first
          | (go_at_call 17; (refine (next_any g A n c xs q9 k _ hD17 (by omega)).mono ?_); rintro e w18 ⟨r5, q18, rfl, hr5, _, hD18, hS18, hz18⟩
             obtain ⟨j, rfl⟩ : ∃ r : Nat, r5 = r := ⟨r5.toNat, by have := hr5 (by omega); omega⟩
             have hjk : j < k := by have := hr5 (by omega); omega
             have hj0 : (0 : Int) ≤ (j : Int) := by omega
             have hj1 : (j : Int) < (k : Int) := by omega
             have hownA18 := hownA17.step hS18 hgW hgW
             have hown18 := hown17.step hS18 hgr
             have bT18 := Step.block hS18 bT17 (by omega)
             have hF18 := Step.block hS18 hF17 hgf
             have hk0 : w18.cell? ⟨ga, j * 2, none⟩ = some (.bool ((List.replicate k true).getD j false)) := by
               obtain ⟨b, A', n', c', e, _, h0, _⟩ := hownA18.ans.at_ hjk
               injection e with e
               injection e with e
               subst e
               exact h0
             obtain ⟨Aj, nj, cj, hk1⟩ : ∃ Aj nj cj, w18.cell? ⟨ga, j * 2 + 1, none⟩ = some (.slice Aj nj cj) := by
               obtain ⟨b, A', n', c', e, _, _, h1, _⟩ := hownA18.ans.at_ hjk
               injection e with e
               injection e with e
               subst e
               exact ⟨A', n', c', h1⟩
             have hz0 := hownA18.frozenAt (j * 2)
             have hz1 := hownA18.frozenAt (j * 2 + 1)
             have hS19 : Step ga w18 ((w18.setCell ⟨ga, j * 2, none⟩ (.bool false)).setCell ⟨ga, j * 2 + 1, none⟩ (.slice none 0 0)) := ((Step.refl ga w18).set _ _).set _ _
             have hownA19 := hownA18.put (b := false) (A' := none) (n' := 0) (c' := 0) (row := []) hjk (by omega) Ints.nil_ (fun h => absurd h (by omega)) (fun h => absurd h (by omega))
             have hown19 := hown18.step hS19 hga2
             have bT19 := Step.block hS19 bT18 (by omega)
             have hF19 := Step.block hS19 hF18 (by omega)
             have hcf19 : ((w18.setCell ⟨ga, j * 2, none⟩ (.bool false)).setCell ⟨ga, j * 2 + 1, none⟩ (.slice none 0 0)).cell? ⟨w3.heap.size, 0, none⟩ = some (.int .i64 p) := (hF19.cell 0).trans rfl
             have hbb19 : Below w.heap.size w ((w18.setCell ⟨ga, j * 2, none⟩ (.bool false)).setCell ⟨ga, j * 2 + 1, none⟩ (.slice none 0 0)) :=
               ((Step.below (hbb10.trans (hbr17.mono hbb10.size)) hS18 (by have := hbb10.size; have := hbr17.size; omega) hg).setCell (p := ⟨ga, j * 2, none⟩) (by have h1 := hbb10.size; show w.heap.size ≤ ga; omega) _).setCell (p := ⟨ga, j * 2 + 1, none⟩) (by have h1 := hbb10.size; show w.heap.size ≤ ga; omega) _
             have hMR19 : Mat ((w18.setCell ⟨ga, j * 2, none⟩ (.bool false)).setCell ⟨ga, j * 2 + 1, none⟩ (.slice none 0 0)) w6.heap.size W.heap.size A7 N rows := (hMR.below hbr17).keep fun q h1 h2 =>
               World.cell?_of_block ((World.grownBy.block hS19 q.block (by have h3 := World.grownBy.size hS18; have h4 := hbr17.size; omega) (fun e => by injection e with e; omega)).trans (World.grownBy.block hS18 q.block (by have h4 := hbr17.size; omega) (fun e => by injection e with e; omega)))
             have HNO : Hid (∃ jj, jj < k ∧ ((List.replicate k true).set j false).getD jj false = false) := Lib.hid ⟨j, hjk, by rw [List.getD_eq_getElem?_getD, List.getElem?_set, if_pos rfl, List.length_replicate, if_pos hjk]; rfl⟩
             have HRW2 : Hid (∀ jj, jj < k → ((List.replicate k true).set j false).getD jj false = true → allP p ((ans.set j []).getD jj []) = true ∧ ((ans.set j []).getD jj []).length = wd) := Lib.hid fun jj hj he => by
               have hne : ¬ j = jj := fun e => by
                 rw [List.getD_eq_getElem?_getD, List.getElem?_set, if_pos e, List.length_replicate, if_pos (by omega)] at he; cases he
               have := HRW.out jj hj (trues_at hj)
               rwa [List.getD_eq_getElem?_getD, List.getElem?_set, if_neg hne, ← List.getD_eq_getElem?_getD]
             clear hr5 hz18)
          | (go_at_call 28; refine (decode_any p _ k lc wd _ (ans.set j []) _ HO.out hownA19.ans HRW2.out (by omega) (by omega)).mono ?_; rintro e w20 ⟨_, hno, hb20⟩
             obtain rfl := hno HNO.out
             have hba20 : Below w20.heap.size w20 (w20.alloc (.cells #[.slice none 0 0, .slice none 0 0] 55)) := bbox _
             have hb20a := bnext hb20 hba20
             have hown20 := (hown19.belowAll hb20a).ints
             have bT20 := bT19.below hb20a bT19.lt
             have hMR20 := hMR19.below (hb20a.mono (by have h3 := World.grownBy.size hS18; have h4 := hbr17.size; have h5 := World.grownBy.size hS19; omega))
             have hbbE := hbb19.trans (hb20a.mono hbb19.size)
             clear hno))
        obtain ⟨b7, off7, Ai, ni, ci, rfl, _, hb7, hci, hni, hIi, _⟩ := hMR20.at_ hiN
        have hri := rows_at HR7.out (j := i) (by rw [HRL.out]; exact hiN)
        obtain rfl : ni = wd := by rw [← hIi.len]; exact hri.2
        have hct0 : (w20.alloc (.cells #[.slice none 0 0, .slice none 0 0] 55)).cell? ⟨w16.heap.size, 0, none⟩ = some (.slice A16 ni c16) := (bT20.cell 0).trans rfl
        have hct1 : (w20.alloc (.cells #[.slice none 0 0, .slice none 0 0] 55)).cell? ⟨w16.heap.size, 1, none⟩ = some (.slice none 0 0) := (bT20.cell 1).trans rfl
        have hi0 : (0 : Int) ≤ (i : Int) := by omega
        have hi1 : (i : Int) < (N : Int) := by omega
        have HSM : Hid (sameL (rows.getD i []) (rows.getD i []) = true) := Lib.hid (sameL_iff.2 rfl)
        have hq : ∀ jj, Calls Try.prog 30 #[.slice A16 ni c16, .slice Ai ni ci] ((w20.alloc (.cells #[.slice none 0 0, .slice none 0 0] 55)).drewN jj) fun e w' => e = .returned (.bool true) ∧ ∃ m, w' = (w20.alloc (.cells #[.slice none 0 0, .slice none 0 0] 55)).drewN m := fun jj => by
          have := same_any A16 Ai ni ni c16 ci _ _ _ (hown20.drewN jj) (hIi.drewN jj) (by omega) (by omega)
          rw [HSM.out] at this
          exact this.mono fun e w' ⟨he, m, hm⟩ => ⟨he, jj + m, by rw [hm, World.drewN_drewN]⟩
        have HQ := Lib.hid hq
        clear hq hri hIi hown20 bT20 hMR20
        go_quiet ((go_at_call 30; exact HQ.out _))
        go_wp2
        go_ret
        exact ⟨rfl, below_drewN hbbE _⟩
  · have hd : decide (n ≤ 500) = false := by simpa using hn
    go_enter Try.func7, Try.ntmps7
    go_wp2_with (first
      | (go_at_call 14; refine (sane16_any _).mono ?_; rintro e w1 ⟨rfl, hb1⟩)
      | (go_at_call 15; refine (few_any A n c _).mono ?_; rintro e w' ⟨rfl, rfl⟩))
    go_ret
    exact ⟨rfl, hb1⟩
end Go.Proofs.Ytefgjkkgddeemaa
