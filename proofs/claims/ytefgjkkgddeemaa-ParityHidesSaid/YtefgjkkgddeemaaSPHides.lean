/-
  ParityHides returns true: the walk of the law. Conditions: none beyond the reading of its arguments.
-/
import Derived.Test.YtefgjkkgddeemaaSPWrong
import Derived.Test.YtefgjkkgddeemaaHidP
import Derived.Deep.OwnRows
namespace Go.Proofs.Ytefgjkkgddeemaa
open Go.RowKit
set_option linter.unusedVariables false

theorem OwnI.made {w : World} {base g n : Nat} {e : TypeId} {xs : List Int} (hb : base ≤ g) (hh : w.heap[g]? = some (.cells (vals xs).toArray e (0, 0))) (hl : xs.length = n) (hm : n ≤ maxLen) : OwnI w base e (some ⟨g, 0, none⟩) n n xs := by
  refine ⟨by simp [vals, hl], .inr ⟨g, n, _, rfl, hb, hh, Nat.le_refl _, hm, by simp [vals, hl], ?_⟩⟩
  rw [List.take_of_length_le (by simp [vals, hl])]
theorem cL_in (p : Int) (n s1 gone a T : Nat) : ∀ (k i : Nat), 0 ≤ (cL p n s1 gone a T k).getD i 0 ∧ (cL p n s1 gone a T k).getD i 0 ≤ (k : Int)
  | 0, i => by
    show 0 ≤ (List.replicate T (0 : Int)).getD i 0 ∧ (List.replicate T (0 : Int)).getD i 0 ≤ 0
    rw [List.getD_eq_getElem?_getD, List.getElem?_replicate]
    split <;> simp
  | k + 1, i => by
    have ih := cL_in p n s1 gone a T k
    show 0 ≤ ((cL p n s1 gone a T k).set (cF p n s1 gone a k).toNat ((cL p n s1 gone a T k).getD (cF p n s1 gone a k).toNat 0 + 1)).getD i 0 ∧ ((cL p n s1 gone a T k).set (cF p n s1 gone a k).toNat ((cL p n s1 gone a T k).getD (cF p n s1 gone a k).toNat 0 + 1)).getD i 0 ≤ ((k + 1 : Nat) : Int)
    have h1 := ih i
    have h2 := ih (cF p n s1 gone a k).toNat
    rw [List.getD_eq_getElem?_getD (l := (cL p n s1 gone a T k).set _ _), List.getElem?_set]
    split
    · split
      · simp only [Option.getD_some]; omega
      · simp only [Option.getD_none]; omega
    · rw [← List.getD_eq_getElem?_getD]; omega
/-- A store into another block. -/
theorem OwnI.other {w : World} {base n c g1 g2 o : Nat} {e : TypeId} {xs : List Int} (h : OwnI w base e (some ⟨g2, 0, none⟩) n c xs) (hne : g1 ≠ g2) (v : Value) : OwnI (w.setCell ⟨g1, o, none⟩ v) base e (some ⟨g2, 0, none⟩) n c xs := by
  refine h.kept (row := some g1) ⟨rfl, rfl, rfl, by simp [World.setCell], fun k hk hh => Below.heap_setCell w ⟨g1, o, none⟩ v k (fun e => hh (by rw [e]))⟩ (.inr ?_)
  intro e
  injection e with e
  exact hne e.symm
theorem qs_ok {p : Int} (hp : 2 ≤ p) {N s1 a NN nn : Nat} (h : s1 * N = NN) : ∀ q ∈ chunkL (digN p nn NN) N s1 ++ [lastQ p N a (chunkL (digN p nn NN) N s1)], allP p q = true ∧ q.length = N := by
  have hck := chunkL_ok (p := p) (xs := digN p nn NN) (r := N) (k := s1) (by rw [digN_len, h]; omega) (fun i hi => by
    have hl := digN_len p nn NN
    rw [List.getD_eq_getElem?_getD, List.getElem?_eq_getElem (by omega)]
    exact digN_in hp NN _ (List.getElem_mem _))
  intro q hq
  rcases List.mem_append.1 hq with h1 | h1
  · exact hck q h1
  · rw [List.mem_singleton.1 h1]; exact ⟨lastQ_all hp _ _ _, lastQ_len fun r hr => (hck r hr).2⟩

set_option maxHeartbeats 12800000 in
set_option maxRecDepth 100000 in
theorem parityHides_walk (A : Option Addr) (n c : Nat) (zs : List Int) (p_ r_ o_ : Int) (w : World) (w0 : IsRow .i64 w A n c zs) (w1 : (Lit.int .u8 p_).wf = true) (w2 : (Lit.int .u8 r_).wf = true) (w3 : (Lit.int .u8 o_).wf = true) :
    Calls Try.prog 3 #[.slice A n c, .int .u8 p_, .int .u8 r_, .int .u8 o_] w fun e w' => e = .returned (.bool true) ∧ Below w.heap.size w w' := by
  have hpt : 0 ≤ p_ ∧ p_ ≤ 255 := by simpa [Lit.wf, IntKind.min, IntKind.max, IntKind.signed, IntKind.bits] using w1
  have hrt : 0 ≤ r_ ∧ r_ ≤ 255 := by simpa [Lit.wf, IntKind.min, IntKind.max, IntKind.signed, IntKind.bits] using w2
  have hot : 0 ≤ o_ ∧ o_ ≤ 255 := by simpa [Lit.wf, IntKind.min, IntKind.max, IntKind.signed, IntKind.bits] using w3
  obtain ⟨h, hw⟩ := w0.ints
  generalize zs.take n = xs at h hw
  clear w0 w1 w2 w3
  by_cases hn : n ≤ 500
  · have hd : decide (n ≤ 500) = true := by simpa using hn
    have hrtw : IntKind.i64.wrap r_ = r_ := IntWalk.i64_in _ (by omega)
    have hotw : IntKind.i64.wrap o_ = o_ := IntWalk.i64_in _ (by omega)
    obtain ⟨jj, hjj⟩ : ∃ jj : Nat, p_ % 3 = jj := ⟨(p_ % 3).toNat, by omega⟩
    have hjt : p_.tmod 3 = (jj : Int) := by rw [Int.tmod_eq_emod_of_nonneg hpt.1]; exact hjj
    have hj3 : jj < 3 := by omega
    have hjw : IntKind.u8.wrap (jj : Int) = jj := by
      rcases (by omega : jj = 0 ∨ jj = 1 ∨ jj = 2) with rfl | rfl | rfl <;> rfl
    have hj0 : (0 : Int) ≤ (jj : Int) := by omega
    have hj1 : (jj : Int) < 3 := by omega
    obtain ⟨p, hp23, hpc⟩ : ∃ p : Int, (p = 2 ∨ p = 3) ∧ (#[Value.int .i64 2, .int .i64 3, .int .i64 2] : Array Value)[jj]? = some (.int .i64 p) := by
      rcases (by omega : jj = 0 ∨ jj = 1 ∨ jj = 2) with rfl | rfl | rfl
      · exact ⟨2, .inl rfl, rfl⟩
      · exact ⟨3, .inr rfl, rfl⟩
      · exact ⟨2, .inl rfl, rfl⟩
    have HPC := Lib.hid hpc
    clear hpc hjj
    go_enter Try.func3, Try.ntmps3
    go_upto_region 8 with (first
      | (go_at_call 14; refine (sane16_any _).mono ?_; rintro e w1 ⟨rfl, hb1⟩)
      | (go_at_call 15; refine (few_any A n c _).mono ?_; rintro e w' ⟨rfl, rfl⟩)
      | (go_at_call 16; refine (new_any A n c xs _ (h.upto hb1) hn).mono ?_; rintro e w2 ⟨⟨g, rfl, hge, hD2⟩, hb2⟩
         have hbb2 := bnext hb1 hb2
         have hg : w.heap.size ≤ g := by rw [hge]; exact hb1.size
         have hL := Blk.new w2 3 #[.int .i64 2, .int .i64 3, .int .i64 2]
         have hcl : (w2.alloc (.cells #[.int .i64 2, .int .i64 3, .int .i64 2] 3)).cell? ⟨w2.heap.size, jj, none⟩ = some (.int .i64 p) := (hL.cell jj).trans HPC.out
         have hF3 := Blk.new1 w2 (.cells #[.int .i64 2, .int .i64 3, .int .i64 2] 3) 28 #[.int .i64 p]
         have hbb3 := ballocs (ballocs hbb2 (.cells #[.int .i64 2, .int .i64 3, .int .i64 2] 3)) (.cells #[.int .i64 p] 28)
         have hD3 := (hD2.alloc (.cells #[.int .i64 2, .int .i64 3, .int .i64 2] 3)).alloc (.cells #[.int .i64 p] 28)
         have hg2 : g < w2.heap.size := hD2.1.lt
         clear hge hL hD2 hb2)
      | (go_at_call 17; (with_reducible refine (next_any g A n c xs 0 2 _ hD3 (by omega)).mono ?_); rintro e w4 ⟨r1, q4, rfl, hr1, _, hD4, hS4, hz4⟩
         obtain ⟨m, hm⟩ : ∃ s : Nat, 2 + r1 = s := ⟨(2 + r1).toNat, by have := hr1 (by omega); omega⟩
         have hm23 : 2 ≤ m ∧ m ≤ 3 := by have := hr1 (by omega); omega
         have hmw : IntKind.i64.wrap (2 + r1) = m := by rw [hm]; exact IntWalk.i64_in _ (by omega)
         have hF4 := Step.block hS4 hF3 (by omega)
         have hbb4 := Step.below hbb3 hS4 hbb3.size hg
         have hcf4 : w4.cell? ⟨w2.heap.size + 1, 0, none⟩ = some (.int .i64 p) := (hF4.cell 0).trans rfl
         clear hr1 hz4 hS4))
    obtain ⟨s1, hs1⟩ : ∃ s1, s1 + 1 = m := ⟨m - 1, by omega⟩
    have HS1 := Lib.hid hs1
    have hs12 : s1 = 1 ∨ s1 = 2 := by omega
    have HD4 := Lib.hid hD4
    obtain ⟨d, hd4⟩ : ∃ d : Nat, (4 : Int) - m = d := ⟨4 - m, by omega⟩
    have hdw : IntKind.i64.wrap ((4 : Int) - m) = d := by rw [hd4]; exact IntWalk.i64_in _ (by omega)
    obtain ⟨q3, hq3⟩ : ∃ q3 : Nat, (d : Int) + 1 = q3 := ⟨d + 1, by omega⟩
    have hqw : IntKind.i64.wrap ((d : Int) + 1) = q3 := by rw [hq3]; exact IntWalk.i64_in _ (by omega)
    have hq0 : ¬ (q3 : Int) = 0 := by omega
    have hq0' : ¬ q3 = 0 := by omega
    obtain ⟨e1, he1⟩ : ∃ e1 : Nat, r_ % (q3 : Int) = e1 := ⟨(r_ % (q3 : Int)).toNat, by rw [Int.toNat_of_nonneg (Int.emod_nonneg _ (by omega))]⟩
    have he1b : e1 < q3 := by have := Int.emod_lt_of_pos r_ (b := (q3 : Int)) (by omega); omega
    have he1t : r_.tmod (q3 : Int) = (e1 : Int) := by rw [Int.tmod_eq_emod_of_nonneg hrt.1]; exact he1
    obtain ⟨N1, hN1⟩ : ∃ N1 : Nat, 1 + (e1 : Int) = N1 := ⟨1 + e1, by omega⟩
    have hN1w : IntKind.i64.wrap (1 + (e1 : Int)) = N1 := by rw [hN1]; exact IntWalk.i64_in _ (by omega)
    obtain ⟨e2, he2⟩ : ∃ e2 : Nat, r_ % 3 = e2 := ⟨(r_ % 3).toNat, by omega⟩
    have he2t : r_.tmod 3 = (e2 : Int) := by rw [Int.tmod_eq_emod_of_nonneg hrt.1]; exact he2
    obtain ⟨N2, hN2⟩ : ∃ N2 : Nat, 1 + (e2 : Int) = N2 := ⟨1 + e2, by omega⟩
    have hN2w : IntKind.i64.wrap (1 + (e2 : Int)) = N2 := by rw [hN2]; exact IntWalk.i64_in _ (by omega)
    have hN1v : IntKind.i64.wrap (N1 : Int) = N1 := IntWalk.i64_in _ (by omega)
    have hN2v : IntKind.i64.wrap (N2 : Int) = N2 := IntWalk.i64_in _ (by omega)
    have HF2 : Hid (Few16 2 N2 s1) := Lib.hid ⟨hs12, by omega, .inl ⟨rfl, by omega⟩⟩
    have HF1 : Hid (Few16 3 N1 s1) := Lib.hid ⟨hs12, by omega, .inr ⟨rfl, by omega⟩⟩
    clear he1 he2 hs1 hcl hF3 hD3 hbb3
    go_upto_region 9 with fail
    go_cut [61] (fun s wx => s = .bool (p == 2) ∧ wx = w4)
    case first =>
      as_aux_lemma =>
        go_wp2
        go_meet
        case rel => exact ⟨rfl, rfl⟩
    case rest =>
      obtain ⟨rfl, rfl⟩ := hcut
      rename_i K2 hk2
      refine hk2 _ _ ?_
      clear hk2
      go_cut [12] (fun s wx => ∃ N : Nat, s = .int .i64 N ∧ Few16 p N s1 ∧ wx = wc)
      case first =>
        as_aux_lemma =>
          rcases hp23 with rfl | rfl
          · go_wp2
            go_meet
            case rel => exact ⟨N2, rfl, HF2.out, rfl⟩
          · go_wp2
            go_meet
            case rel => exact ⟨N1, rfl, HF1.out, rfl⟩
      case rest =>
        obtain ⟨N, rfl, hfew, hwq⟩ := hcut
        obtain rfl := hwq
        clear hN1 hN1w hN2 hN2w he1t he2t hN1v hN2v HF1 HF2 he1b hd4 hdw hq3 hqw hq0 hq0' hjt hjw
        obtain ⟨W4, hW4⟩ : ∃ W4, W4 = wc := ⟨_, rfl⟩
        subst hW4
        have HFEW := Lib.hid hfew
        have hN13 : 1 ≤ N ∧ N ≤ 3 := by
          obtain ⟨h1, h2, h3⟩ := hfew
          omega
        have hpb : 2 ≤ p ∧ p ≤ 65521 := by omega
        have hok : okP p = true := by rcases hp23 with rfl | rfl <;> exact okP_known (by simp [isKnown])
        have HO := Lib.hid hok
        obtain ⟨NN, hNN⟩ : ∃ k : Nat, (N : Int) * (s1 : Int) = k := ⟨N * s1, by rw [Int.natCast_mul]⟩
        have HNN : Hid (s1 * N = NN) := Lib.hid (by rw [← Int.natCast_mul] at hNN; rw [Nat.mul_comm]; exact Int.ofNat.inj hNN)
        have HNI := Lib.hid hNN
        have hNN6 : NN ≤ 6 := by have h1 := (few_pow hfew).1; rw [HNN.out] at h1; exact h1
        have HPW : Hid (∀ k, k ≤ NN → 1 ≤ powN p k ∧ powN p k ≤ 100) := Lib.hid (by have h1 := (few_pow hfew).2; rw [HNN.out] at h1; exact h1)
        have hmS : (m : Int) - 1 = s1 := by have := HS1.out; omega
        clear hok hfew hNN
        go_upto_region 15 with (first
          | (go_at_call 18; refine (plimits_ok p N s1 NN m _ HO.out (by omega) (by omega) hmS HNI.out (by omega)).mono ?_; rintro e w6 ⟨⟨A6, c6, rfl, hown6⟩, hb6⟩
             have hF6 := hF4.below hb6 hF4.lt
             have hbb6 := bnext hbb4 hb6
             have hD6 := HD4.out.belowAll hb6
             have hIl := hown6.ints
             clear hb6)
          | (go_at_call 19; (with_reducible refine (rcount_ok p NN A6 c6 _ hp23 HPW.out hIl (by omega)).mono ?_); rintro e w' ⟨rfl, rfl⟩
             have hpw := HPW.out NN (Nat.le_refl _)
             obtain ⟨T, hT⟩ : ∃ T : Nat, powN p NN = T := ⟨(powN p NN).toNat, by omega⟩
             rw [hT]
             have HT := Lib.hid hT
             have hTb : 1 ≤ T ∧ T ≤ 100 := by omega
             clear hT hpw))
        have hm0 : ¬ (m : Int) = 0 := by omega
        have hm0' : ¬ m = 0 := by omega
        obtain ⟨gi, hgi⟩ : ∃ gi : Nat, o_ % (m : Int) = gi := ⟨(o_ % (m : Int)).toNat, by rw [Int.toNat_of_nonneg (Int.emod_nonneg _ (by omega))]⟩
        have hgim : gi < m := by have := Int.emod_lt_of_pos o_ (b := (m : Int)) (by omega); omega
        have hgit : o_.tmod (m : Int) = (gi : Int) := by rw [Int.tmod_eq_emod_of_nonneg hot.1]; exact hgi
        have hgw6 : g < w6.heap.size := hD6.1.lt
        have hD6d : Deck w6.drew g A n c xs q4 := hD6
        clear hgi
        go_region_held3 (fun _ => True) (exact trivial)
          (first
            | (go_at_call 17; (with_reducible refine (next_any g A n c xs q4 N _ hD6d (by omega)).mono ?_); rintro e w7 ⟨r7, q7, rfl, hr7, _, hD7, hS7, hz7⟩
               obtain ⟨ai, rfl⟩ : ∃ r : Nat, r7 = r := ⟨r7.toNat, by have := hr7 (by omega); omega⟩
               have haN : ai < N := by have := hr7 (by omega); omega
               clear hr7 hz7)
            | (go_at_call 17; (with_reducible refine (next_any g A n c xs q7 N _ hD7 (by omega)).mono ?_); rintro e w8 ⟨r8, q8, rfl, hr8, _, hD8, hS8, hz8⟩
               obtain ⟨bi, rfl⟩ : ∃ r : Nat, r8 = r := ⟨r8.toNat, by have := hr8 (by omega); omega⟩
               have hbN : bi < N := by have := hr8 (by omega); omega
               clear hr8 hz8))
        have hF8 := Step.block hS8 (Step.block hS7 hF6.drew (by omega)) (by omega)
        have hQ8 : Step g w6 w8 := ((Step.refl g w6).drew.trans hS7).trans hS8
        have hbb8 := Step.below hbb6 hQ8 hbb6.size hg
        have hownL8 := hown6.step hQ8 (by have := hF4.lt; omega)
        have hgw8 : g < w8.heap.size := hD8.1.lt
        clear hS7 hS8 hQ8 hD6d hD6 hD7 hF6 hF4 hbb6 hbb4 hown6 hIl HD4 hcf4
        go_upto_region 16 with fail
        go_cut [20, 21] (fun s20 s21 wx => ∃ g1 g2, g1 ≠ g2 ∧ s20 = .slice (some ⟨g1, 0, none⟩) T T ∧ s21 = .slice (some ⟨g2, 0, none⟩) T T ∧ Hid (OwnI wx w8.heap.size 3 (some ⟨g1, 0, none⟩) T T (List.replicate T 0)) ∧ Hid (OwnI wx w8.heap.size 3 (some ⟨g2, 0, none⟩) T T (List.replicate T 0)) ∧ Below w8.heap.size w8 wx)
        case first =>
          as_aux_lemma =>
            have hmk : ∀ w : World, (Instr.makeSlice 22 (.int .i64 (T : Int)) (.int .i64 (T : Int))).run Try.prog w = .ok (.slice (some ⟨w.heap.size, 0, none⟩) T T) (w.alloc (.cells (madeCells #[.int .i64 0] T) 3)) := fun w => run_make_row' 22 3 (.int .i64 0) 8 Try.underlying22 info_int rfl .i64 .i64 T (by omega) (by omega) w
            have HZC : Hid (madeCells #[.int .i64 0] T = (vals (List.replicate T 0)).toArray) := Lib.hid (by
              have := made_zeros T
              rw [Nat.mul_one] at this
              rw [← this]; rfl)
            obtain ⟨ZC, hZC⟩ : ∃ ZC, madeCells #[Value.int .i64 0] T = ZC := ⟨_, rfl⟩
            rw [hZC] at HZC hmk
            clear hZC
            go_region
            all_goals go_wp2
            all_goals go_meet
            all_goals
              have hO1 : OwnI ((w8.alloc (.cells ZC 3)).alloc (.cells ZC 3)).drew w8.heap.size 3 (some ⟨w8.heap.size, 0, none⟩) T T (List.replicate T 0) := OwnI.made (Nat.le_refl _) (by rw [← HZC.out]; exact Blk.drew ((Blk.new w8 3 ZC).alloc _)) (by simp) (by unfold maxLen; omega)
              have hO2 : OwnI ((w8.alloc (.cells ZC 3)).alloc (.cells ZC 3)).drew w8.heap.size 3 (some ⟨w8.heap.size + 1, 0, none⟩) T T (List.replicate T 0) := OwnI.made (Nat.le_succ _) (by rw [← HZC.out]; exact Blk.drew (Blk.new1 w8 _ 3 ZC)) (by simp) (by unfold maxLen; omega)
              have hBB : Below w8.heap.size w8 ((w8.alloc (.cells ZC 3)).alloc (.cells ZC 3)).drew := (ballocs (bbox _) _).drew
              first
                | exact ⟨_, _, (by omega : w8.heap.size ≠ w8.heap.size + 1), rfl, rfl, Lib.hid hO1, Lib.hid hO2, hBB⟩
                | exact ⟨_, _, (by omega : w8.heap.size + 1 ≠ w8.heap.size), rfl, rfl, Lib.hid hO2, Lib.hid hO1, hBB⟩
        case rest =>
          obtain ⟨g1, g2, hne, rfl, rfl, HO1, HO2, hbc⟩ := hcut
          have HC1 := Lib.hid (counted (a := ai) (T := T) (gone := gi) HFEW.out (by rw [HNN.out, HT.out]) (by have := HS1.out; omega) haN)
          have HC2 := Lib.hid (counted (a := bi) (T := T) (gone := gi) HFEW.out (by rw [HNN.out, HT.out]) (by have := HS1.out; omega) hbN)
          go_wp2_with fail
          go_loopw [22] (fun v22 wz => ∃ nn : Nat, nn ≤ T ∧ v22 = .int .i64 nn ∧ Hid (OwnI wz w8.heap.size 3 (some ⟨g1, 0, none⟩) T T (cL p N s1 gi ai T nn)) ∧ Hid (OwnI wz w8.heap.size 3 (some ⟨g2, 0, none⟩) T T (cL p N s1 gi bi T nn)) ∧ Below w8.heap.size w8 wz) (fun v22 _ => T - (intOf v22).toNat)
          case atStart => exact ⟨0, Nat.zero_le _, rfl, HO1, HO2, hbc⟩
          case round =>
            obtain ⟨nn, hnn, rfl, HR1, HR2, hbz⟩ := hrel
            have hszz := hbz.size
            by_cases hlt : nn < T
            · have hnT : (nn : Int) < (T : Int) := by omega
              have hIlz := (hownL8.belowAll hbz).ints
              have hPN : 0 ≤ (nn : Int) ∧ (nn : Int) < powN p NN := by rw [HT.out]; omega
              have hFz := hF8.below hbz hF8.lt
              have HDI : Hid (∀ i, i < s1 * N → 0 ≤ (digN p nn NN).getD i 0 ∧ (digN p nn NN).getD i 0 < p) := Lib.hid fun i hi => by
                have hl := digN_len p nn NN
                have := HNN.out
                rw [List.getD_eq_getElem?_getD, List.getElem?_eq_getElem (by omega)]
                exact digN_in (by omega) NN _ (List.getElem_mem _)
              have HSN : Hid (s1 * N ≤ NN) := Lib.hid (by rw [HNN.out]; omega)
              go_upto_region 23 with (first
                | (go_at_call 20; (with_reducible refine (tapeat_ok p NN A6 c6 (nn : Int) _ hp23 HPW.out hIlz hNN6 hPN).mono ?_); rintro e w9 ⟨⟨D, dc, rfl, hown9⟩, hb9⟩
                   have hba9 : Below w9.heap.size w9 (w9.alloc (.cells #[.slice D NN dc, .int .i64 0] 36)) := bbox _
                   have hT9 := Blk.new w9 36 #[.slice D NN dc, .int .i64 0]
                   have hb9a := bnext hb9 hba9
                   have hF9 := hFz.below hb9a hFz.lt
                   have hI9 := (hown9.belowAll hba9).ints
                   have hcf9 : (w9.alloc (.cells #[.slice D NN dc, .int .i64 0] 36)).cell? ⟨w2.heap.size + 1, 0, none⟩ = some (.int .i64 p) := (hF9.cell 0).trans rfl
                   have hct0 : (w9.alloc (.cells #[.slice D NN dc, .int .i64 0] 36)).cell? ⟨w9.heap.size, 0, none⟩ = some (.slice D NN dc) := (hT9.cell 0).trans rfl
                   have hct1 : (w9.alloc (.cells #[.slice D NN dc, .int .i64 0] 36)).cell? ⟨w9.heap.size, 1, none⟩ = some (.int .i64 0) := (hT9.cell 1).trans rfl)
                | (go_at_call 21; (with_reducible refine (queries_ok p N s1 ai NN dc m D (digN p nn NN) _ HO.out (by omega) (by omega) hmS haN hI9 (by omega) HSN.out HDI.out).mono ?_); rintro e w10 ⟨⟨A10, c10, T10, tc10, av, he, hav, hown10⟩, hb10⟩
                   rw [HS1.out] at he hown10
                   subst he
                   have hba10 : Below w10.heap.size w10 (w10.alloc (.cells #[.slice T10 NN tc10, .int .i64 av] 36)) := bbox _
                   have hb10a := bnext hb10 hba10
                   have hF10 := hF9.below hb10a hF9.lt
                   have hT10 := hT9.below hb10a hT9.lt
                   have hI10 := hI9.upto hb10a
                   have hM10 := (hown10.belowAll hba10).mat (Nat.le_refl _)
                   have hcf10 : (w10.alloc (.cells #[.slice T10 NN tc10, .int .i64 av] 36)).cell? ⟨w2.heap.size + 1, 0, none⟩ = some (.int .i64 p) := (hF10.cell 0).trans rfl
                   have hdt0 : (w10.alloc (.cells #[.slice T10 NN tc10, .int .i64 av] 36)).cell? ⟨w9.heap.size, 0, none⟩ = some (.slice D NN dc) := (hT10.cell 0).trans rfl
                   have hdt1 : (w10.alloc (.cells #[.slice T10 NN tc10, .int .i64 av] 36)).cell? ⟨w9.heap.size, 1, none⟩ = some (.int .i64 0) := (hT10.cell 1).trans rfl
                   clear hav hcf9 hct0 hct1)
                | (go_at_call 21; (with_reducible refine (queries_ok p N s1 bi NN dc m D (digN p nn NN) _ HO.out (by omega) (by omega) hmS hbN hI10 (by omega) HSN.out HDI.out).mono ?_); rintro e w11 ⟨⟨A11, c11, T11, tc11, av', he, hav, hown11⟩, hb11⟩
                   rw [HS1.out] at he hown11
                   subst he
                   clear hav))
              obtain ⟨W12, hW12⟩ : ∃ W12, w11.alloc (.cells #[.slice T11 NN tc11, .int .i64 av'] 36) = W12 := ⟨_, rfl⟩
              have hba12 : Below w11.heap.size w11 W12 := by rw [← hW12]; exact bbox _
              rw [hW12]
              clear hW12
              have hb12 := bnext hb11 hba12
              have hM12 := hM10.upto hb12
              have hM11 := (hown11.belowAll hba12).mat (Nat.le_refl _)
              have hbz12 : Below w8.heap.size w8 W12 := hbz.trans ((bnext (bnext hb9a hb10a) hb12).mono hszz)
              have hR1x := HR1.out.belowAll (bnext (bnext hb9a hb10a) hb12)
              have hR2x := HR2.out.belowAll (bnext (bnext hb9a hb10a) hb12)
              have hF12 := hF10.below hb12 hF10.lt
              have hcf12 : W12.cell? ⟨w2.heap.size + 1, 0, none⟩ = some (.int .i64 p) := (hF12.cell 0).trans rfl
              have HQA : Hid (chunkL (digN p nn NN) N s1 ++ [lastQ p N ai (chunkL (digN p nn NN) N s1)] = qsOf p N s1 ai nn) := Lib.hid (by unfold qsOf; rw [HNN.out])
              have HQB : Hid (chunkL (digN p nn NN) N s1 ++ [lastQ p N bi (chunkL (digN p nn NN) N s1)] = qsOf p N s1 bi nn) := Lib.hid (by unfold qsOf; rw [HNN.out])
              have HOA : Hid (∀ q ∈ qsOf p N s1 ai nn, allP p q = true ∧ q.length = N) := Lib.hid (by rw [← HQA.out]; exact qs_ok hpb.1 HNN.out)
              have HOB : Hid (∀ q ∈ qsOf p N s1 bi nn, allP p q = true ∧ q.length = N) := Lib.hid (by rw [← HQB.out]; exact qs_ok hpb.1 HNN.out)
              rw [HQA.out] at hM12
              rw [HQB.out] at hM11
              have HLA := Lib.hid hM12.len
              have HLB := Lib.hid hM11.len
              have HP1 := Lib.hid (HC1.out.2.1 nn hlt)
              have HP2 := Lib.hid (HC2.out.2.1 nn hlt)
              have hb1u := HC1.out.1 nn hlt
              have hb2u := HC2.out.1 nn hlt
              have HU1 : Hid (uAll p N (qsOf p N s1 ai nn) gi m = cF p N s1 gi ai nn) := Lib.hid (by unfold cF; rw [HS1.out])
              have HU2 : Hid (uAll p N (qsOf p N s1 bi nn) gi m = cF p N s1 gi bi nn) := Lib.hid (by unfold cF; rw [HS1.out])
              generalize qsOf p N s1 ai nn = QA at *
              generalize qsOf p N s1 bi nn = QB at *
              clear hdt0 hdt1 hcf10 hT10 hI10 hM10 hF10 hT9 hF9 hI9 hown9 hown10 hown11 hba9 hba10 hba12 hb9 hb9a hb10 hb10a hb11 hb12 hIlz hFz
              as_aux_lemma =>
                go_wp2_with fail
                go_loopw [31, 32, 33] (fun v31 v32 v33 wz => ∃ (j q : Nat) (u v : Int), j ≤ m ∧ v33 = .int .i64 j ∧ v31 = .int .i64 u ∧ v32 = .int .i64 v ∧ Hid (uAll p N QA gi j = u) ∧ Hid (uAll p N QB gi j = v) ∧ wz = W12.drewN q) (fun _ _ v33 _ => m - (intOf v33).toNat)
                case atStart => exact ⟨0, 0, 0, 0, Nat.zero_le _, rfl, rfl, rfl, Lib.hid rfl, Lib.hid rfl, rfl⟩
                case round =>
                  obtain ⟨j, q, u, v, hj, rfl, rfl, rfl, HUu, HUv, rfl⟩ := hrel
                  by_cases hjm : j < m
                  · have hji : (j : Int) < (m : Int) := by omega
                    by_cases hjg : j = gi
                    · have hjgI : (j : Int) = (gi : Int) := by omega
                      have HN1 : Hid (uAll p N QA gi (j + 1) = u) := Lib.hid (by show (if j = gi then _ else _) = u; rw [if_pos hjg]; exact HUu.out)
                      have HN2 : Hid (uAll p N QB gi (j + 1) = v) := Lib.hid (by show (if j = gi then _ else _) = v; rw [if_pos hjg]; exact HUv.out)
                      go_wp2
                      go_roundw
                      case rel => exact ⟨j + 1, q, u, v, by omega, by go_num, rfl, rfl, HN1, HN2, rfl⟩
                      case measure => simp [intOf]; omega
                    · have hjgI : ¬ (j : Int) = (gi : Int) := by omega
                      have HN1 : Hid (uAll p N QA gi (j + 1) = uRow p (QA.getD j []) u N) := Lib.hid (by show (if j = gi then _ else _) = _; rw [if_neg hjg, HUu.out])
                      have HN2 : Hid (uAll p N QB gi (j + 1) = uRow p (QB.getD j []) v N) := Lib.hid (by show (if j = gi then _ else _) = _; rw [if_neg hjg, HUv.out])
                      obtain ⟨ba, oa, Aq, nq, cq, rfl, _, _, hca, hnq, hIa, _⟩ := hM12.at_ hjm
                      obtain ⟨bb, ob, Bq, mq, dq, rfl, _, _, hcb, hmq, hIb, _⟩ := hM11.at_ hjm
                      have hra := HOA.out _ (getD_mem2 (d := []) (k := j) (by rw [HLA.out]; exact hjm))
                      have hrb := HOB.out _ (getD_mem2 (d := []) (k := j) (by rw [HLB.out]; exact hjm))
                      have HB1 : Hid (∀ mm, mm ≤ N → 0 ≤ uRow p (QA.getD j []) u mm ∧ uRow p (QA.getD j []) u mm ≤ 1000) := Lib.hid (by rw [← HUu.out]; exact HP1.out j (by have := HS1.out; omega))
                      have HB2 : Hid (∀ mm, mm ≤ N → 0 ≤ uRow p (QB.getD j []) v mm ∧ uRow p (QB.getD j []) v mm ≤ 1000) := Lib.hid (by rw [← HUv.out]; exact HP2.out j (by have := HS1.out; omega))
                      generalize QA.getD j [] = qa at *
                      generalize QB.getD j [] = qb at *
                      obtain ⟨L, hLN⟩ : ∃ L, L = N := ⟨_, rfl⟩
                      have hnL : nq = N := by rw [← hIa.len]; exact hra.2
                      have hmL : mq = N := by rw [← hIb.len]; exact hrb.2
                      subst hnL
                      subst hmL
                      have HQa := Lib.hid hra.1
                      have HQb := Lib.hid hrb.1
                      have HLa := Lib.hid hra.2
                      have HLb := Lib.hid hrb.2
                      have hj0 : (0 : Int) ≤ (j : Int) := by omega
                      clear hra hrb hLN
                      as_aux_lemma =>
                        go_wp2_with fail
                        go_loopw [31, 32, 180] (fun v31 v32 v180 wz => ∃ (mm q2 : Nat), mm ≤ mq ∧ v180 = .int .i64 mm ∧ v31 = .int .i64 (uRow p qa u mm) ∧ v32 = .int .i64 (uRow p qb v mm) ∧ wz = W12.drewN q2) (fun _ _ v180 _ => mq - (intOf v180).toNat)
                        case atStart => exact ⟨0, q, Nat.zero_le _, rfl, rfl, rfl, rfl⟩
                        case round =>
                          obtain ⟨mm, q2, hmm, rfl, rfl, rfl, rfl⟩ := hrel
                          by_cases hmlt : mm < mq
                          · obtain ⟨b3, o3, rfl, hb3, hc3⟩ := hIa.2 (by omega)
                            obtain ⟨b4, o4, rfl, hb4, hc4⟩ := hIb.2 (by omega)
                            have hx := hc3 mm hmlt
                            have hy := hc4 mm hmlt
                            have hxb := allP_getD HQa.out (k := mm) (by rw [HLa.out]; exact hmlt)
                            have hyb := allP_getD HQb.out (k := mm) (by rw [HLb.out]; exact hmlt)
                            have HR1' : Hid (uRow p qa u (mm + 1) = uRow p qa u mm * p + qa.getD mm 0) := Lib.hid rfl
                            have HR2' : Hid (uRow p qb v (mm + 1) = uRow p qb v mm * p + qb.getD mm 0) := Lib.hid rfl
                            have hu1 := HB1.out mm (by omega)
                            have hv1 := HB2.out mm (by omega)
                            have hu2 := HB1.out (mm + 1) (by omega)
                            have hv2 := HB2.out (mm + 1) (by omega)
                            rw [HR1'.out] at hu2
                            rw [HR2'.out] at hv2
                            clear hc3 hc4
                            generalize uRow p qa u mm = u1 at *
                            generalize uRow p qb v mm = v1 at *
                            generalize qa.getD mm 0 = x at *
                            generalize qb.getD mm 0 = y at *
                            have hup : 0 ≤ u1 * p := Int.mul_nonneg hu1.1 (by omega)
                            have hvp : 0 ≤ v1 * p := Int.mul_nonneg hv1.1 (by omega)
                            have hq1 : IntKind.i64.wrap (u1 * p) = u1 * p := IntWalk.i64_in _ (by omega)
                            have hq2 : IntKind.i64.wrap (u1 * p + x) = u1 * p + x := IntWalk.i64_in _ (by omega)
                            have hq3 : IntKind.i64.wrap (v1 * p) = v1 * p := IntWalk.i64_in _ (by omega)
                            have hq4 : IntKind.i64.wrap (v1 * p + y) = v1 * p + y := IntWalk.i64_in _ (by omega)
                            have hk0 : (0 : Int) ≤ (mm : Int) := by omega
                            have hk1 : (mm : Int) < (mq : Int) := by omega
                            go_wp2_with fail
                            go_quiet (fail)
                            go_wp2
                            go_roundw
                            case rel => exact ⟨mm + 1, _, by omega, by go_num, by rw [HR1'.out], by rw [HR2'.out], rfl⟩
                            case measure => simp [intOf]; omega
                          · obtain rfl : mm = mq := by omega
                            go_wp2
                            go_roundw
                            case rel => exact ⟨j + 1, q2, _, _, by omega, by go_num, rfl, rfl, HN1, HN2, rfl⟩
                            case measure => simp [intOf]; omega
                  · obtain rfl : j = m := by omega
                    have HUa : Hid (cF p N s1 gi ai nn = u) := Lib.hid (by rw [← HU1.out]; exact HUu.out)
                    have HUb : Hid (cF p N s1 gi bi nn = v) := Lib.hid (by rw [← HU2.out]; exact HUv.out)
                    rw [HUa.out] at hb1u
                    rw [HUb.out] at hb2u
                    obtain ⟨U, rfl⟩ : ∃ U : Nat, u = U := ⟨u.toNat, by omega⟩
                    obtain ⟨V, rfl⟩ : ∃ V : Nat, v = V := ⟨v.toNat, by omega⟩
                    have hUT : U < T := by omega
                    have hVT : V < T := by omega
                    have hUTi : (U : Int) < (T : Int) := by omega
                    have hVTi : (V : Int) < (T : Int) := by omega
                    have hU0 : (0 : Int) ≤ (U : Int) := by omega
                    have hV0 : (0 : Int) ≤ (V : Int) := by omega
                    have hU0n : ¬ ((U : Int) < 0) := by omega
                    have hV0n : ¬ ((V : Int) < 0) := by omega
                    have hUTn : ¬ ((T : Int) ≤ (U : Int)) := by omega
                    have hVTn : ¬ ((T : Int) ≤ (V : Int)) := by omega
                    have hUTm : ¬ T ≤ U := by omega
                    have hVTm : ¬ T ≤ V := by omega
                    obtain ⟨w13, hw13⟩ : ∃ w13, w13 = W12.drewN q := ⟨_, rfl⟩
                    rw [← hw13]
                    have hR1a : OwnI w13 w8.heap.size 3 (some ⟨g1, 0, none⟩) T T (cL p N s1 gi ai T nn) := by rw [hw13]; exact hR1x.drewN q
                    have hR2a : OwnI w13 w8.heap.size 3 (some ⟨g2, 0, none⟩) T T (cL p N s1 gi bi T nn) := by rw [hw13]; exact hR2x.drewN q
                    have hbY : Below w8.heap.size w8 w13 := by rw [hw13]; exact below_drewN hbz12 q
                    have hg1 := hR1a.row g1 rfl
                    have hg2' := hR2a.row g2 rfl
                    obtain ⟨x1, HX1⟩ : ∃ x1, Hid ((cL p N s1 gi ai T nn).getD U 0 = x1) := ⟨_, Lib.hid rfl⟩
                    obtain ⟨x2, HX2⟩ : ∃ x2, Hid ((cL p N s1 gi bi T nn).getD V 0 = x2) := ⟨_, Lib.hid rfl⟩
                    have hx1 := cL_in p N s1 gi ai T nn U
                    have hx2 := cL_in p N s1 gi bi T nn V
                    rw [HX1.out] at hx1
                    rw [HX2.out] at hx2
                    have hcx1 := hR1a.cellAt hUT
                    rw [HX1.out] at hcx1
                    have hfx1 := hR1a.frozenAt U
                    have hx1w : IntKind.i64.wrap (x1 + 1) = x1 + 1 := IntWalk.i64_in _ (by omega)
                    have hx2w : IntKind.i64.wrap (x2 + 1) = x2 + 1 := IntWalk.i64_in _ (by omega)
                    have hR1b := hR1a.stored U (x1 + 1)
                    have hR2b := hR2a.other (o := U) hne (.int .i64 (x1 + 1))
                    have hcx2 := hR2b.cellAt hVT
                    rw [HX2.out] at hcx2
                    have hfx2 := hR2b.frozenAt V
                    have hR2c := hR2b.stored V (x2 + 1)
                    have hR1c := hR1b.other (o := V) hne.symm (.int .i64 (x2 + 1))
                    have hbZ := (hbY.setCell (p := ⟨g1, U, none⟩) hg1 (.int .i64 (x1 + 1))).setCell (p := ⟨g2, V, none⟩) hg2' (.int .i64 (x2 + 1))
                    have HE1 : Hid ((cL p N s1 gi ai T nn).set U (x1 + 1) = cL p N s1 gi ai T (nn + 1)) := Lib.hid (by
                      show _ = (cL p N s1 gi ai T nn).set _ _
                      rw [HUa.out, Int.toNat_natCast, HX1.out])
                    have HE2 : Hid ((cL p N s1 gi bi T nn).set V (x2 + 1) = cL p N s1 gi bi T (nn + 1)) := Lib.hid (by
                      show _ = (cL p N s1 gi bi T nn).set _ _
                      rw [HUb.out, Int.toNat_natCast, HX2.out])
                    have HRZ1 := Lib.hid (show OwnI _ w8.heap.size 3 (some ⟨g1, 0, none⟩) T T (cL p N s1 gi ai T (nn + 1)) from HE1.out ▸ hR1c)
                    have HRZ2 := Lib.hid (show OwnI _ w8.heap.size 3 (some ⟨g2, 0, none⟩) T T (cL p N s1 gi bi T (nn + 1)) from HE2.out ▸ hR2c)
                    clear hw13 hR1a hR2a hR1b hR2b hR1c hR2c hb1u hb2u hR1x hR2x hM11 hM12
                    go_wp2
                    go_roundw
                    case rel => exact ⟨nn + 1, by omega, by go_num, HRZ1, HRZ2, hbZ⟩
                    case measure => simp [intOf]; omega
            · obtain rfl : nn = T := by omega
              as_aux_lemma =>
                have hA1 := HR1.out
                have hA2 := HR2.out
                rw [HC1.out.2.2] at hA1
                rw [HC2.out.2.2] at hA2
                have hone : ∀ j, j < nn → (List.replicate nn (1 : Int)).getD j 0 = 1 := fun j hj => by rw [List.getD_eq_getElem?_getD, List.getElem?_replicate, if_pos hj]; rfl
                have HD1 : Hid (∀ j, j < nn → wr.cell? ⟨g1, j, none⟩ = some (.int .i64 1)) := Lib.hid fun j hj => by rw [hA1.cellAt hj, hone j hj]
                have HD2 : Hid (∀ j, j < nn → wr.cell? ⟨g2, j, none⟩ = some (.int .i64 1)) := Lib.hid fun j hj => by rw [hA2.cellAt hj, hone j hj]
                have hbE := bnext hbb8 hbz
                clear hone hA1 hA2 HR1 HR2
                go_wp2
                go_loopw [238] (fun i wz => ∃ j : Nat, j ≤ nn ∧ i = .int .i64 j ∧ wz = wr) (fun i _ => nn - (intOf i).toNat)
                case atStart => exact ⟨0, Nat.zero_le _, rfl, rfl⟩
                case round =>
                  rename_i wy
                  obtain ⟨j, hj, rfl, rfl⟩ := hrel
                  by_cases hltj : j < nn
                  · have hcj1 := HD1.out j hltj
                    have hcj2 := HD2.out j hltj
                    have hj0 : (0 : Int) ≤ (j : Int) := by omega
                    have hjn : (j : Int) < (nn : Int) := by omega
                    go_wp2
                    go_roundw
                    case rel => exact ⟨j + 1, by omega, by go_num, trivial⟩
                    case measure => simp [intOf]; omega
                  · obtain rfl : j = nn := by omega
                    go_wp2
                    go_ret
                    exact ⟨rfl, hbE⟩
  · have hd : decide (n ≤ 500) = false := by simpa using hn
    go_enter Try.func3, Try.ntmps3
    go_wp2_with (first
      | (go_at_call 14; refine (sane16_any _).mono ?_; rintro e w1 ⟨rfl, hb1⟩)
      | (go_at_call 15; refine (few_any A n c _).mono ?_; rintro e w' ⟨rfl, rfl⟩))
    go_ret
    exact ⟨rfl, hb1⟩
end Go.Proofs.Ytefgjkkgddeemaa
