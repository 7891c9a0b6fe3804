/-
  What the reference's Decode of chapter 9 hands back for any arguments: the polynomial and the numbers of the wrong values, or the error. Conditions: the cells read as their values and marks.
-/
import Derived.Test.YtnjdjcgandfnfaaDoorRKey9
import Derived.Test.YtnjdjcgandfnfaaDoorGNine
import Derived.Test.YtnjdjcgandfnfaaDoorGSol
namespace Go.Proofs.YtnjdjcgandfnfaaDoor
open Go.RowKit
set_option linter.unusedVariables false

theorem errL_both9 {p : Int} {xs ys : List Int} (hok : okP p = true) (hx : allP p xs = true) (hy : allP p ys = true) (hn : xs.length ≤ 512) (hm : ys.length ≤ 512) : errL p [xs, ys] = 0 := by
  unfold errL
  rw [if_pos ⟨hok, by simp [allR, hx, hy]⟩, if_neg (by simp; omega)]
set_option maxRecDepth 100000 in
theorem rdec9_fail (p k : Int) (A : Option Addr) (m c : Nat) (vs : List Int) (bs : List Bool) (w : World) (hp64 : -9223372036854775808 ≤ p ∧ p ≤ 9223372036854775807) (h : Cel w w.heap.size A m vs bs) (hm : m ≤ 1000) (hk64 : -9223372036854775808 ≤ k ∧ k ≤ 9223372036854775807) (hd : decE p vs bs k ≠ 0) :
    Calls Tryd.prog 16 #[.agg #[.int .i64 p], .slice A m c, .int .i64 k] w fun e w' => e = .returned (.tuple #[.agg #[.slice none 0 0, .slice none 0 0], .int .i64 (decE p vs bs k)]) ∧ Below w.heap.size w w' := by
  have hb0 : Below w.heap.size w ((w.alloc (.cells #[.int .i64 p] 24)).alloc (.cells #[.slice none 0 0, .slice none 0 0] 27)) := ballocs (bbox _) _
  have hF0 := (Blk.new w 24 #[.int .i64 p]).alloc (.cells #[.slice none 0 0, .slice none 0 0] 27)
  have hR0 := Blk.new1 w (.cells #[.int .i64 p] 24) 27 #[.slice none 0 0, .slice none 0 0]
  have hS0 := (h.below hb0).more hb0.size
  obtain ⟨v, hv⟩ : ∃ v, decE p vs bs k = v := ⟨_, rfl⟩
  rw [hv] at hd ⊢
  have HD0 := Lib.hid hv
  have hvb : (v != 0) = true := by simpa using hd
  clear hv
  go_enter Tryd.func16, Tryd.ntmps16
  go_upto_region 3 with (go_at_call 35; (refine (rfill_thr (er := v) hp64 hS0 hm hk64 HD0.out).mono ?_); rintro e w1 ⟨⟨A', n', c', rfl⟩, hb1⟩
                         have hbb1 := bnext hb0 hb1
                         have hF1 := hF0.below hb1 hF0.lt
                         have hR1 := hR0.below hb1 hR0.lt
                         have hS1 := hS0.upto hb1
                         have hcF1 : w1.cell? ⟨w.heap.size, 0, none⟩ = some (.int .i64 p) := (hF1.cell 0).trans rfl
                         clear hb1)
  have hz0 : w1.cell? ⟨w.heap.size + 1, 0, none⟩ = some (.slice none 0 0) := (hR1.cell 0).trans rfl
  have hf0 := hR1.frozen 0
  have hz1 : w1.cell? ⟨w.heap.size + 1, 1, none⟩ = some (.slice none 0 0) := (hR1.cell 1).trans rfl
  have hf1 := hR1.frozen 1
  have hFB := (hR1.set_ 0 (.slice none 0 0)).set_ 1 (.slice none 0 0)
  have hfin0 : ((w1.setCell ⟨w.heap.size + 1, 0, none⟩ (.slice none 0 0)).setCell ⟨w.heap.size + 1, 1, none⟩ (.slice none 0 0)).cell? ⟨w.heap.size + 1, 0, none⟩ = some (.slice none 0 0) := (hFB.cell 0).trans rfl
  have hfin1 : ((w1.setCell ⟨w.heap.size + 1, 0, none⟩ (.slice none 0 0)).setCell ⟨w.heap.size + 1, 1, none⟩ (.slice none 0 0)).cell? ⟨w.heap.size + 1, 1, none⟩ = some (.slice none 0 0) := (hFB.cell 1).trans rfl
  have hbF : Below w.heap.size w ((w1.setCell ⟨w.heap.size + 1, 0, none⟩ (.slice none 0 0)).setCell ⟨w.heap.size + 1, 1, none⟩ (.slice none 0 0)) := (hbb1.setCell (p := ⟨w.heap.size + 1, 0, none⟩) (by show w.heap.size ≤ w.heap.size + 1; omega) _).setCell (p := ⟨w.heap.size + 1, 1, none⟩) (by show w.heap.size ≤ w.heap.size + 1; omega) _
  clear hFB
  go_wp2
  exact bodyPost_ret (v := .tuple #[.agg #[.slice none 0 0, .slice none 0 0], .int .i64 v]) (by simp [results, Tryd.results16, go_sem, hfin0, hfin1]) rfl ⟨rfl, hbF⟩

set_option maxRecDepth 100000 in
set_option maxHeartbeats 8000000 in
theorem rdec9_ok (p : Int) (A : Option Addr) (m c k : Nat) (vs : List Int) (bs : List Bool) (w : World) (h : Cel w w.heap.size A m vs bs) (hm : m ≤ 1000) (hd0 : decE p vs bs k = 0) :
    Calls Tryd.prog 16 #[.agg #[.int .i64 p], .slice A m c, .int .i64 k] w (UDPost (.int .i64 0) (.int .i64 12) p k (((knL vs bs).length - k) / 2) (knL vs bs) w) := by
  obtain ⟨i0, hi0, hz0, hz1, hz2⟩ := info_parts info_int
  have hde := decE_zero hd0
  have hbe := beginE_ok hde.1
  have hce := cellsE_ok hbe.1
  have hp := okP_pos hce.1
  have HO := Lib.hid hce.1
  have HKN := Lib.hid hce.2.2.2
  have HD0 := Lib.hid hd0
  have HBE := Lib.hid hde.1
  have hm32 : m ≤ 32 := by have := hce.2.1; have := h.1; omega
  have hmp : (m : Int) < p := by have := hce.2.2.1; have := h.1; omega
  have hp64 : -9223372036854775808 ≤ p ∧ p ≤ 9223372036854775807 := by omega
  have hkm : 1 ≤ k ∧ k ≤ m := by have := hbe.2; have := h.1; omega
  have hk64 : -9223372036854775808 ≤ (k : Int) ∧ (k : Int) ≤ 9223372036854775807 := by omega
  have hln : (knL vs bs).length ≤ m := by have := knL_len vs bs; rw [h.1] at this; exact this
  have HAP : Hid ((ptK (knL vs bs)).Pairwise (fun x y => ¬ Cong p (y - x) 0)) := Lib.hid (knL_apart hce.2.2.1)
  obtain ⟨l, hl⟩ : ∃ l, knL vs bs = l := ⟨_, rfl⟩
  obtain ⟨N, hN⟩ : ∃ N, l.length = N := ⟨_, rfl⟩
  obtain ⟨v, hv⟩ : ∃ v, (N - k) / 2 = v := ⟨_, rfl⟩
  have hkN : k ≤ N := by have := hde.2; rw [hl, hN] at this; omega
  rw [hl, hN] at hln
  rw [hl] at HAP
  have HL := Lib.hid hl
  have HN := Lib.hid hN
  rw [hl, hN, hv]
  have hvN : k + 2 * v ≤ N := by omega
  have hkv : k + 2 * v ≤ 32 := by omega
  obtain ⟨cl, hcl⟩ : ∃ cl, k + 2 * v = cl := ⟨_, rfl⟩
  obtain ⟨kv, hkvE⟩ : ∃ kv, k + v = kv := ⟨_, rfl⟩
  have e2 : (k : Int) + (v : Int) = (kv : Int) := by omega
  have HCL := Lib.hid hcl
  have HKV := Lib.hid hkvE
  have HRD : Hid (radR N k = ((v : Int), 0)) := Lib.hid (by
    unfold radR
    rw [if_neg (by omega), if_neg (by omega)]
    have : ((N : Int) - (k : Int)) / 2 = (v : Int) := by omega
    rw [this])
  have hb0 : Below w.heap.size w ((w.alloc (.cells #[.int .i64 p] 24)).alloc (.cells #[.slice none 0 0, .slice none 0 0] 27)) := ballocs (bbox _) _
  have hF0 := (Blk.new w 24 #[.int .i64 p]).alloc (.cells #[.slice none 0 0, .slice none 0 0] 27)
  have hR0 := Blk.new1 w (.cells #[.int .i64 p] 24) 27 #[.slice none 0 0, .slice none 0 0]
  have hS0 := (h.below hb0).more hb0.size
  clear hde hbe hce hd0 hl hN hv hcl hkvE h
  go_enter Tryd.func16, Tryd.ntmps16
  go_upto_region 6 with (first
    | (go_at_call 35; (refine (rfill_thr (er := 0) hp64 hS0 hm hk64 HD0.out).mono ?_); rintro e w1 ⟨⟨A', n', c', rfl⟩, hb1⟩
       have hbb1 := bnext hb0 hb1
       have hF1 := hF0.below hb1 hF0.lt
       have hR1 := hR0.below hb1 hR0.lt
       have hS1 := hS0.upto hb1
       have hcF1 : w1.cell? ⟨w.heap.size, 0, none⟩ = some (.int .i64 p) := (hF1.cell 0).trans rfl
       clear hb1)
    | (go_at_call 36; (refine (rknown_ok A m c vs bs _ hS1 hm32).mono ?_); rw [HL.out, HN.out]; rintro e w2 ⟨⟨A5, c5, rfl, hO2⟩, hb2⟩
       have hbb2 := bnext hbb1 hb2
       have hF2 := hF1.below hb2 hF1.lt
       have hR2 := hR1.below hb2 hR1.lt
       have hS2 := hS1.upto hb2
       have hcF2 : w2.cell? ⟨w.heap.size, 0, none⟩ = some (.int .i64 p) := (hF2.cell 0).trans rfl
       clear hb2 hO2)
    | (go_at_call 26; (refine (rradius_all N k _ (by omega) hk64).mono ?_); rw [HRD.out]; rintro e w' ⟨rfl, rfl⟩)
    | (go_at_call 23; (refine (rkey9_ok p A m c k v vs bs _ hp64 hS2 hm32 HBE.out hkv).mono ?_); rintro e w3 ⟨C, nc, cc, D, cd, rfl, hEQ, hb3⟩
       rw [HL.out, HN.out, HCL.out] at hEQ
       rw [HL.out, HN.out, HCL.out]
       have HE3 := Lib.hid (hEQ.upto (bbox (.cells (eqC p N cl C nc cc D N cd) 46)))
       have hbb3 := ballocs (bnext hbb2 hb3) (.cells (eqC p N cl C nc cc D N cd) 46)
       have hF3 := (hF2.below hb3 hF2.lt).alloc (.cells (eqC p N cl C nc cc D N cd) 46)
       have hR3 := (hR2.below hb3 hR2.lt).alloc (.cells (eqC p N cl C nc cc D N cd) 46)
       have hS3 := (hS2.upto hb3).upto (bbox (.cells (eqC p N cl C nc cc D N cd) 46))
       clear hb3 hEQ))
  go_wp2_with fail
  go_at_call 32
  refine (rsolve06_ok HE3.out).mono ?_
  rintro e w4 ⟨⟨hS, rfl⟩ | ⟨g, x, hS, rfl, hown4⟩, hb4⟩
  · have hbb4 := bnext hbb3 hb4
    have hR4 := hR3.below hb4 hR3.lt
    have HD : Hid (DecOf p k v l none) := Lib.hid (decOf_unsolved HO.out hkm.1 (fun x hx => by
      have h1 := solveOf_noneU hp.1 hS (x := x)
      rw [HCL.out, HN.out] at hx
      exact h1 hx))
    clear hS hb4
    go_upto_region 8 with fail
    have hz0 : w4.cell? ⟨w.heap.size + 1, 0, none⟩ = some (.slice none 0 0) := (hR4.cell 0).trans rfl
    have hf0 := hR4.frozen 0
    have hz1 : w4.cell? ⟨w.heap.size + 1, 1, none⟩ = some (.slice none 0 0) := (hR4.cell 1).trans rfl
    have hf1 := hR4.frozen 1
    have hFB := (hR4.set_ 0 (.slice none 0 0)).set_ 1 (.slice none 0 0)
    have hfin0 : ((w4.setCell ⟨w.heap.size + 1, 0, none⟩ (.slice none 0 0)).setCell ⟨w.heap.size + 1, 1, none⟩ (.slice none 0 0)).cell? ⟨w.heap.size + 1, 0, none⟩ = some (.slice none 0 0) := (hFB.cell 0).trans rfl
    have hfin1 : ((w4.setCell ⟨w.heap.size + 1, 0, none⟩ (.slice none 0 0)).setCell ⟨w.heap.size + 1, 1, none⟩ (.slice none 0 0)).cell? ⟨w.heap.size + 1, 1, none⟩ = some (.slice none 0 0) := (hFB.cell 1).trans rfl
    have hbF : Below w.heap.size w ((w4.setCell ⟨w.heap.size + 1, 0, none⟩ (.slice none 0 0)).setCell ⟨w.heap.size + 1, 1, none⟩ (.slice none 0 0)) := (hbb4.setCell (p := ⟨w.heap.size + 1, 0, none⟩) (by show w.heap.size ≤ w.heap.size + 1; omega) _).setCell (p := ⟨w.heap.size + 1, 1, none⟩) (by show w.heap.size ≤ w.heap.size + 1; omega) _
    clear hFB
    go_wp2
    exact bodyPost_ret (v := .tuple #[.agg #[.slice none 0 0, .slice none 0 0], .int .i64 12]) (by simp [results, Tryd.results16, go_sem, hfin0, hfin1]) rfl ⟨.inl ⟨HD.out, rfl⟩, hbF⟩
  · have hSol := solveOf_someU hp.1 hS
    have hXL := hSol.2.1
    have hXA := Lib.hid hSol.2.2
    have HSV := Lib.hid hSol.1
    have hbb4 := bnext hbb3 hb4
    have hR4 := hR3.below hb4 hR3.lt
    have hF4 := hF3.below hb4 hF3.lt
    have hS4 := hS3.upto hb4
    have hkvc : kv ≤ cl ∧ cl ≤ 32 := by have := HCL.out; have := HKV.out; omega
    have hI4 := hown4.ints
    have hem : cl - kv = v := by have := HCL.out; have := HKV.out; omega
    obtain ⟨X, hX⟩ : ∃ X, (some ⟨g, 0, none⟩ : Option Addr) = X := ⟨_, rfl⟩
    rw [hX] at hI4 ⊢
    have HI := Lib.hid (hI4.sub_ (Nat.le_refl _) kv v (by omega))
    have HTD : Hid ((x.drop kv).take v = x.drop kv) := Lib.hid (List.take_of_length_le (by rw [List.length_drop, hXL]; omega))
    rw [HTD.out] at HI
    obtain ⟨A4, hA4, HI4⟩ : ∃ A4 : Option Addr, (if cl = kv then X else Option.map (fun x => x.add kv) X) = A4 ∧ Hid (Ints w4 w4.heap.size A4 v (x.drop kv)) := by
      refine ⟨_, rfl, ?_⟩
      have := HI
      rwa [Nat.mul_one] at this
    have hIk : Ints w4 w4.heap.size X kv (x.take kv) := ⟨by rw [List.length_take, hXL]; omega, fun h0 => by
      obtain ⟨b, o, e, hb, hc⟩ := hI4.2 (by omega)
      exact ⟨b, o, e, hb, fun j hj => (hc j (by omega)).trans (by rw [List.getD_eq_getElem?_getD, List.getD_eq_getElem?_getD, List.getElem?_take, if_pos hj])⟩⟩
    have HIK := Lib.hid hIk
    have HXL := Lib.hid hXL
    clear hS hSol hXL hX HI hown4 hI4 hIk hb4 HE3
    have s1 : (0 : Int) ≤ (kv : Int) := by omega
    have s2 : (kv : Int) ≤ (cl : Int) := by omega
    have s3 : IntKind.i64.wrap (kv : Int) = (kv : Int) := IntWalk.i64_in _ (by omega)
    go_upto_region 9 with fail
    go_cut [14, 16] (fun sa sb wx => ∃ (A6 : Option Addr) (c6 : Nat), sa = .slice X cl cl ∧ sb = .slice A6 (v + 1) c6 ∧ Hid (OwnI wx w4.heap.size 3 A6 (v + 1) c6 (x.drop kv ++ [1])) ∧ Below w4.heap.size w4 wx)
    case first =>
      have hId := HI4.out
      go_wp2_with (first
        | (at_builtin
           refine wpList_append_ints rfl (.const (.slice none 0 0)) _ _ rfl w4.heap.size 3 i0 _ Tryd.underlying22 hi0 hz0 hz1 hz2 rfl none 0 0 [] rfl OwnI.nil_ _ A4 v _ (x.drop kv) (by first | rfl | simp [Act.eval] | simp [Act.eval, hem]) hId v (Nat.zero_add _) (x.drop kv) rfl (by omega) (Nat.le_refl _) ?_
           intro A5 c5 w5 hown5 hgr5 hbw5 hab5
           have hO5 := hown5.alloc (.cells #[.int .i64 1] 3)
           have hb5 := ballocs hbw5 (.cells #[.int .i64 1] 3)
           clear hgr5 hab5)
        | (at_builtin
           refine wpList_append_ints rfl _ _ _ rfl w4.heap.size 3 i0 _ Tryd.underlying22 hi0 hz0 hz1 hz2 rfl A5 v c5 (x.drop kv) rfl hO5 _ _ 1 1 [1] rfl (Ints.one _ _ _) (v + 1) rfl _ rfl (by omega) hb5.size ?_
           intro A6 c6 w9 hown9 hgr9 hbw9 hab9
           have HO9 := Lib.hid hown9
           have hb9 := hb5.trans hbw9
           clear hown9 hgr9 hbw9 hab9))
      all_goals go_meet
      all_goals exact ⟨A6, c6, rfl, rfl, HO9, hb9⟩
    case rest =>
    obtain ⟨A6, c6, rfl, rfl, HO6, hb6⟩ := hcut
    have hbb6 := bnext hbb4 hb6
    have hR6 := hR4.below hb6 hR4.lt
    have hF6 := hF4.below hb6 hF4.lt
    have hcF6 : wc.cell? ⟨w.heap.size, 0, none⟩ = some (.int .i64 p) := (hF6.cell 0).trans rfl
    have hS6 := hS4.upto hb6
    have hIX := HIK.out.upto hb6
    have hIE := HO6.out.ints
    have hcap6 := HO6.out.cap
    have HXK : Hid (allP p (x.take kv) = true) := Lib.hid (take_allP hXA.out kv)
    have HXE : Hid (allP p (x.drop kv ++ [1]) = true) := Lib.hid (allP_append.2 ⟨allP_iff.2 fun y hy => allP_iff.1 hXA.out y (List.mem_of_mem_drop hy), allP_iff.2 fun y hy => by rw [List.mem_singleton.1 hy]; omega⟩)
    have HER : Hid (errL p [x.take kv, x.drop kv ++ [1]] = 0) := Lib.hid (errL_both9 HO.out HXK.out HXE.out (by rw [List.length_take]; omega) (by rw [List.length_append, List.length_drop, HXL.out]; simp; omega))
    have HTN : 0 < tn (x.drop kv ++ [1]) (v + 1) := by
      rcases Nat.eq_zero_or_pos (tn (x.drop kv ++ [1]) (v + 1)) with h0 | h0
      · exfalso
        have h1 := tn_zero (l := x.drop kv ++ [1]) (n := v + 1) (k := v) (by omega) (by omega)
        rw [cf_append, if_neg (by rw [List.length_drop, HXL.out]; omega), List.length_drop, HXL.out, hem, Nat.sub_self] at h1
        exact absurd h1 (by show (1 : Int) ≠ 0; decide)
      · exact h0
    have HTN := Lib.hid HTN
    clear HI4 HIK HO6 hb6 hF4 hR4 hS4 hbb4 hA4
    obtain ⟨W6, hW6⟩ : ∃ W, W = wc := ⟨_, rfl⟩
    subst hW6
    go_upto_region 10 with fail
    go_cut [17, 18, 19] (fun sa sb sc wx => ∃ (Q R : List Int) (A7 : Option Addr) (c7 : Nat) (A8 : Option Addr) (c8 : Nat), sa = .slice A7 Q.length c7 ∧ sb = .slice A8 R.length c8 ∧ sc = .int .i64 0 ∧ Hid (DivOf p (x.take kv) (x.drop kv ++ [1]) Q R) ∧ Hid (OwnI wx W6.heap.size 3 A7 Q.length c7 Q) ∧ Below W6.heap.size W6 wx)
    case first =>
      have hFl := hF6.lt
      have hS0' : W6.cell? ⟨w.heap.size, 0, none⟩ = some (.int .i64 p) := hcF6
      have hS0d : W6.drew.cell? ⟨w.heap.size, 0, none⟩ = some (.int .i64 p) := hcF6
      have hIXd : Ints W6.drew W6.drew.heap.size X kv (x.take kv) := hIX
      have hIEd : Ints W6.drew W6.drew.heap.size A6 (v + 1) (x.drop kv ++ [1]) := hIE
      go_region_held_law (fun w' => w'.cell? ⟨w.heap.size, 0, none⟩ = some (.int .i64 p)) (first | with_reducible exact hS0' | with_reducible exact hS0d | with_reducible exact hS4 | go_keep) (first
        | ((try go_simp); go_at_call 33; (with_reducible refine (rdivide_yes p X A6 kv (v + 1) cl c6 (x.take kv) (x.drop kv ++ [1]) _ HER.out hIXd hIEd hkvc.1 hcap6 (by omega) (by omega) HTN.out).mono ?_); rintro e w10 ⟨⟨Q, Rq, A7, c7, A8, c8, rfl, hQ, hRq, hDV⟩, hb10⟩
           have HQ := Lib.hid hQ
           have HDV := Lib.hid hDV
           have hb10' : Below W6.heap.size W6 w10 := ⟨hb10.os, hb10.tape, hb10.output, hb10.size, hb10.block⟩
           have hS4 : w10.cell? ⟨w.heap.size, 0, none⟩ = some (.int .i64 p) := (hb10'.cell (p := ⟨w.heap.size, 0, none⟩) hFl).trans hS0'
           clear hQ hRq hDV hb10))
      all_goals go_wp2
      all_goals go_meet
      all_goals exact ⟨Q, Rq, A7, c7, A8, c8, rfl, rfl, rfl, HDV, HQ, hb10'⟩
    case rest =>
    obtain ⟨Q, R7, A7, c7, A8, c8, rfl, rfl, rfl, HDV, HQ, hb7⟩ := hcut
    have HDC : Hid (DecOf p k v l (if R7 = [] ∧ Q.length ≤ k ∧ (wrL p Q l).length ≤ v then some Q else none)) := Lib.hid (decOf_div (x := x) HO.out hkm.1 HAP.out (by rw [HN.out]; exact hvN) (by rw [HXL.out, HCL.out]) hXA.out (by rw [HCL.out, HN.out]; exact HSV.out) (by rw [HKV.out]; exact HDV.out))
    have hQall := Lib.hid HDV.out.aq
    have hQi := HQ.out.ints
    have hcap7 := HQ.out.cap
    have hQne : Hid (∀ b o s, A7 = some ⟨b, o, s⟩ → 0 < Q.length → w.heap.size + 2 ≤ b) := Lib.hid fun b o s e h0 => by
      obtain ⟨g2, e2, hl, _⟩ := HQ.out.form h0
      rw [e2] at e
      injection e with e
      injection e with e
      have := hR6.lt
      omega
    have hbb7 := bnext hbb6 hb7
    have hR7 := hR6.below hb7 hR6.lt
    have hF7 := hF6.below hb7 hF6.lt
    have hcF7 : wc.cell? ⟨w.heap.size, 0, none⟩ = some (.int .i64 p) := (hF7.cell 0).trans rfl
    have hS7 := hS6.upto hb7
    obtain ⟨rn, hrn⟩ : ∃ rn, R7.length = rn := ⟨_, rfl⟩
    obtain ⟨qn, hqn⟩ : ∃ qn, Q.length = qn := ⟨_, rfl⟩
    rw [hrn, hqn]
    rw [hqn] at hQi hcap7 hQne
    have HRN := Lib.hid hrn
    have HQN := Lib.hid hqn
    obtain ⟨w7, hw7⟩ : ∃ W, W = wc := ⟨_, rfl⟩
    subst hw7
    clear HQ HDV hrn hqn hb7 hcF6 hF6 hR6 hS6 hbb6 hIX hIE hcap6 HXK HXE HTN
    by_cases hr0 : 0 < rn
    · have hr1 : (0 : Int) < (rn : Int) := by omega
      have HD : Hid (DecOf p k v l none) := Lib.hid (by
        have h1 := HDC.out
        rwa [if_neg (fun hh => by rw [hh.1] at HRN; have := HRN.out; simp at this; omega)] at h1)
      clear HDC
      go_upto_region 12 with fail
      have hz0 : w7.cell? ⟨w.heap.size + 1, 0, none⟩ = some (.slice none 0 0) := (hR7.cell 0).trans rfl
      have hf0 := hR7.frozen 0
      have hz1 : w7.cell? ⟨w.heap.size + 1, 1, none⟩ = some (.slice none 0 0) := (hR7.cell 1).trans rfl
      have hf1 := hR7.frozen 1
      have hFB := (hR7.set_ 0 (.slice none 0 0)).set_ 1 (.slice none 0 0)
      have hfin0 : ((w7.setCell ⟨w.heap.size + 1, 0, none⟩ (.slice none 0 0)).setCell ⟨w.heap.size + 1, 1, none⟩ (.slice none 0 0)).cell? ⟨w.heap.size + 1, 0, none⟩ = some (.slice none 0 0) := (hFB.cell 0).trans rfl
      have hfin1 : ((w7.setCell ⟨w.heap.size + 1, 0, none⟩ (.slice none 0 0)).setCell ⟨w.heap.size + 1, 1, none⟩ (.slice none 0 0)).cell? ⟨w.heap.size + 1, 1, none⟩ = some (.slice none 0 0) := (hFB.cell 1).trans rfl
      have hbF : Below w.heap.size w ((w7.setCell ⟨w.heap.size + 1, 0, none⟩ (.slice none 0 0)).setCell ⟨w.heap.size + 1, 1, none⟩ (.slice none 0 0)) := (hbb7.setCell (p := ⟨w.heap.size + 1, 0, none⟩) (by show w.heap.size ≤ w.heap.size + 1; omega) _).setCell (p := ⟨w.heap.size + 1, 1, none⟩) (by show w.heap.size ≤ w.heap.size + 1; omega) _
      clear hFB
      go_wp2
      exact bodyPost_ret (v := .tuple #[.agg #[.slice none 0 0, .slice none 0 0], .int .i64 12]) (by simp [results, Tryd.results16, go_sem, hfin0, hfin1]) rfl ⟨.inl ⟨HD.out, rfl⟩, hbF⟩
    · have hr00 : rn = 0 := by omega
      subst hr00
      have HR0 : Hid (R7 = []) := Lib.hid (List.eq_nil_of_length_eq_zero HRN.out)
      clear hr0
      by_cases hqk : k < qn
      · have hq1 : (k : Int) < (qn : Int) := by omega
        have HD : Hid (DecOf p k v l none) := Lib.hid (by
          have h1 := HDC.out
          rwa [if_neg (fun hh => by have := hh.2.1; have := HQN.out; omega)] at h1)
        clear HDC
        go_upto_region 12 with fail
        have hz0 : w7.cell? ⟨w.heap.size + 1, 0, none⟩ = some (.slice none 0 0) := (hR7.cell 0).trans rfl
        have hf0 := hR7.frozen 0
        have hz1 : w7.cell? ⟨w.heap.size + 1, 1, none⟩ = some (.slice none 0 0) := (hR7.cell 1).trans rfl
        have hf1 := hR7.frozen 1
        have hFB := (hR7.set_ 0 (.slice none 0 0)).set_ 1 (.slice none 0 0)
        have hfin0 : ((w7.setCell ⟨w.heap.size + 1, 0, none⟩ (.slice none 0 0)).setCell ⟨w.heap.size + 1, 1, none⟩ (.slice none 0 0)).cell? ⟨w.heap.size + 1, 0, none⟩ = some (.slice none 0 0) := (hFB.cell 0).trans rfl
        have hfin1 : ((w7.setCell ⟨w.heap.size + 1, 0, none⟩ (.slice none 0 0)).setCell ⟨w.heap.size + 1, 1, none⟩ (.slice none 0 0)).cell? ⟨w.heap.size + 1, 1, none⟩ = some (.slice none 0 0) := (hFB.cell 1).trans rfl
        have hbF : Below w.heap.size w ((w7.setCell ⟨w.heap.size + 1, 0, none⟩ (.slice none 0 0)).setCell ⟨w.heap.size + 1, 1, none⟩ (.slice none 0 0)) := (hbb7.setCell (p := ⟨w.heap.size + 1, 0, none⟩) (by show w.heap.size ≤ w.heap.size + 1; omega) _).setCell (p := ⟨w.heap.size + 1, 1, none⟩) (by show w.heap.size ≤ w.heap.size + 1; omega) _
        clear hFB
        go_wp2
        exact bodyPost_ret (v := .tuple #[.agg #[.slice none 0 0, .slice none 0 0], .int .i64 12]) (by simp [results, Tryd.results16, go_sem, hfin0, hfin1]) rfl ⟨.inl ⟨HD.out, rfl⟩, hbF⟩
      · have hq1 : ¬ (k : Int) < (qn : Int) := by omega
        obtain ⟨wl, hwl⟩ : ∃ wl, wrL p Q l = wl := ⟨_, rfl⟩
        obtain ⟨wn, hwn⟩ : ∃ wn, wl.length = wn := ⟨_, rfl⟩
        have HWL := Lib.hid hwl
        have HWN := Lib.hid hwn
        clear hwl hwn
        by_cases hwv : v < wn
        · have hw1 : (v : Int) < (wn : Int) := by omega
          have HD : Hid (DecOf p k v l none) := Lib.hid (by
            have h1 := HDC.out
            rwa [if_neg (fun hh => by have := hh.2.2; rw [HWL.out, HWN.out] at this; omega)] at h1)
          clear HDC
          go_upto_region 15 with (go_at_call 37; (refine (rwrong9_ok p A m c vs bs A7 qn c7 Q _ HO.out hS7 hm32 hmp HKN.out hQi hQall.out (by omega)).mono ?_); rw [HL.out, HWL.out, HWN.out]; rintro e w8 ⟨⟨A9, c9, rfl, hown9⟩, hb8⟩
                                  have hbb8 := bnext hbb7 hb8
                                  have hR8 := hR7.below hb8 hR7.lt
                                  clear hown9)
          have hz0 : w8.cell? ⟨w.heap.size + 1, 0, none⟩ = some (.slice none 0 0) := (hR8.cell 0).trans rfl
          have hf0 := hR8.frozen 0
          have hz1 : w8.cell? ⟨w.heap.size + 1, 1, none⟩ = some (.slice none 0 0) := (hR8.cell 1).trans rfl
          have hf1 := hR8.frozen 1
          have hFB := (hR8.set_ 0 (.slice none 0 0)).set_ 1 (.slice none 0 0)
          have hfin0 : ((w8.setCell ⟨w.heap.size + 1, 0, none⟩ (.slice none 0 0)).setCell ⟨w.heap.size + 1, 1, none⟩ (.slice none 0 0)).cell? ⟨w.heap.size + 1, 0, none⟩ = some (.slice none 0 0) := (hFB.cell 0).trans rfl
          have hfin1 : ((w8.setCell ⟨w.heap.size + 1, 0, none⟩ (.slice none 0 0)).setCell ⟨w.heap.size + 1, 1, none⟩ (.slice none 0 0)).cell? ⟨w.heap.size + 1, 1, none⟩ = some (.slice none 0 0) := (hFB.cell 1).trans rfl
          have hbF : Below w.heap.size w ((w8.setCell ⟨w.heap.size + 1, 0, none⟩ (.slice none 0 0)).setCell ⟨w.heap.size + 1, 1, none⟩ (.slice none 0 0)) := (hbb8.setCell (p := ⟨w.heap.size + 1, 0, none⟩) (by show w.heap.size ≤ w.heap.size + 1; omega) _).setCell (p := ⟨w.heap.size + 1, 1, none⟩) (by show w.heap.size ≤ w.heap.size + 1; omega) _
          clear hFB
          go_wp2
          exact bodyPost_ret (v := .tuple #[.agg #[.slice none 0 0, .slice none 0 0], .int .i64 12]) (by simp [results, Tryd.results16, go_sem, hfin0, hfin1]) rfl ⟨.inl ⟨HD.out, rfl⟩, hbF⟩
        · have hw1 : ¬ (v : Int) < (wn : Int) := by omega
          have HD : Hid (DecOf p k v l (some Q)) := Lib.hid (by
            have h1 := HDC.out
            rwa [if_pos ⟨HR0.out, by rw [HQN.out]; omega, by rw [HWL.out, HWN.out]; omega⟩] at h1)
          clear HDC
          go_upto_region 16 with (go_at_call 37; (refine (rwrong9_ok p A m c vs bs A7 qn c7 Q _ HO.out hS7 hm32 hmp HKN.out hQi hQall.out (by omega)).mono ?_); rw [HL.out, HWL.out, HWN.out]; rintro e w8 ⟨⟨A9, c9, rfl, hown9⟩, hb8⟩
                                  have hbb8 := bnext hbb7 hb8
                                  have hR8 := hR7.below hb8 hR7.lt
                                  have hW9 := hown9.ints
                                  have hQ9 := hQi.upto hb8
                                  have hcap9 := hown9.cap
                                  have hWne : Hid (∀ b o s, A9 = some ⟨b, o, s⟩ → 0 < wn → w.heap.size + 2 ≤ b) := Lib.hid fun b o s e h0 => by
                                    obtain ⟨g2, e2, hl, _⟩ := hown9.form h0
                                    rw [e2] at e
                                    injection e with e
                                    injection e with e
                                    have := hR7.lt
                                    omega
                                  clear hown9)
          have hz0 : w8.cell? ⟨w.heap.size + 1, 0, none⟩ = some (.slice none 0 0) := (hR8.cell 0).trans rfl
          have hf0 := hR8.frozen 0
          have hz1 : w8.cell? ⟨w.heap.size + 1, 1, none⟩ = some (.slice none 0 0) := (hR8.cell 1).trans rfl
          have hf1 := hR8.frozen 1
          have hFB := (hR8.set_ 0 (.slice A7 qn c7)).set_ 1 (.slice A9 wn c9)
          have hfin0 : ((w8.setCell ⟨w.heap.size + 1, 0, none⟩ (.slice A7 qn c7)).setCell ⟨w.heap.size + 1, 1, none⟩ (.slice A9 wn c9)).cell? ⟨w.heap.size + 1, 0, none⟩ = some (.slice A7 qn c7) := (hFB.cell 0).trans rfl
          have hfin1 : ((w8.setCell ⟨w.heap.size + 1, 0, none⟩ (.slice A7 qn c7)).setCell ⟨w.heap.size + 1, 1, none⟩ (.slice A9 wn c9)).cell? ⟨w.heap.size + 1, 1, none⟩ = some (.slice A9 wn c9) := (hFB.cell 1).trans rfl
          have hbF : Below w.heap.size w ((w8.setCell ⟨w.heap.size + 1, 0, none⟩ (.slice A7 qn c7)).setCell ⟨w.heap.size + 1, 1, none⟩ (.slice A9 wn c9)) := (hbb8.setCell (p := ⟨w.heap.size + 1, 0, none⟩) (by show w.heap.size ≤ w.heap.size + 1; omega) _).setCell (p := ⟨w.heap.size + 1, 1, none⟩) (by show w.heap.size ≤ w.heap.size + 1; omega) _
          clear hFB
          have hszF : ((w8.setCell ⟨w.heap.size + 1, 0, none⟩ (.slice A7 qn c7)).setCell ⟨w.heap.size + 1, 1, none⟩ (.slice A9 wn c9)).heap.size = w8.heap.size := by simp [World.setCell]
          have HPO : UDPost (.int .i64 0) (.int .i64 12) p k v l w (.returned (.tuple #[.agg #[.slice A7 qn c7, .slice A9 wn c9], .int .i64 0])) ((w8.setCell ⟨w.heap.size + 1, 0, none⟩ (.slice A7 qn c7)).setCell ⟨w.heap.size + 1, 1, none⟩ (.slice A9 wn c9)) := by
            refine ⟨.inr ⟨Q, A7, c7, A9, c9, HD.out, by rw [HQN.out, HWL.out, HWN.out], ?_, ?_, by rw [HQN.out]; exact hcap7, by rw [HWL.out, HWN.out]; exact hcap9, by rw [HQN.out]; exact fun b o s e h0 => (by have := hQne.out b o s e h0; omega), by rw [HWL.out, HWN.out]; exact fun b o s e h0 => (by have := hWne.out b o s e h0; omega)⟩, hbF⟩
            · rw [HQN.out, hszF]; exact (hQ9.setFar _ 0 _ (fun b o s e h0 => (by have := hQne.out b o s e h0; omega))).setFar _ 1 _ (fun b o s e h0 => (by have := hQne.out b o s e h0; omega))
            · rw [HWL.out, HWN.out, hszF]; exact (hW9.setFar _ 0 _ (fun b o s e h0 => (by have := hWne.out b o s e h0; omega))).setFar _ 1 _ (fun b o s e h0 => (by have := hWne.out b o s e h0; omega))
          clear hszF hQ9 hW9
          go_wp2
          exact bodyPost_ret (v := .tuple #[.agg #[.slice A7 qn c7, .slice A9 wn c9], .int .i64 0]) (by simp [results, Tryd.results16, go_sem, hfin0, hfin1]) rfl HPO

theorem rDecode9_all (p : Int) (A : Option Addr) (m c : Nat) (k : Int) (vs : List Int) (bs : List Bool) (w : World) (hp64 : -9223372036854775808 ≤ p ∧ p ≤ 9223372036854775807) (h : Cel w w.heap.size A m vs bs) (hm : m ≤ 1000) (hk64 : -9223372036854775808 ≤ k ∧ k ≤ 9223372036854775807) :
    Calls Tryd.prog 16 #[.agg #[.int .i64 p], .slice A m c, .int .i64 k] w (DecPost p vs bs k w) := by
  by_cases hd0 : decE p vs bs k = 0
  · have hd := decE_zero hd0
    have hb := beginE_ok hd.1
    have hc := cellsE_ok hb.1
    have hv := h.1
    have hlen := knL_len vs bs
    obtain ⟨q, rfl⟩ : ∃ q : Nat, k = q := ⟨k.toNat, by omega⟩
    refine (rdec9_ok p A m c q vs bs w h hm hd0).mono ?_
    intro e w' hP
    exact DecPost.of hd0 rfl (by omega) (by omega) hP
  · refine (rdec9_fail p k A m c vs bs w hp64 h hm hk64 hd0).mono ?_
    rintro e w' ⟨rfl, hbw⟩
    exact DecPost.no rfl hd0 hbw
end Go.Proofs.YtnjdjcgandfnfaaDoor
