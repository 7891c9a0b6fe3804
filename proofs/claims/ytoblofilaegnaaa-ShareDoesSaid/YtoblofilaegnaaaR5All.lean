/-
  What the second form's Trim, Degree, Value, Add, Mul hand back for any arguments: the result or the error. Conditions: the lists read as their numbers.
-/
import Derived.Test.YtoblofilaegnaaaPAll
import Derived.Test.YtoblofilaegnaaaMul5
import Derived.Deep.QuietTactic
import Derived.BigQuiet
namespace Go.Proofs.Ytoblofilaegnaaa
open Go.RowKit
set_option linter.unusedVariables false

theorem vstep5 {p : Int} (x : Int) (zs : List Int) {j : Nat} (hj : j < zs.length) : (valueP p x (zs.drop (j + 1)) * x + zs.getD j 0) % p = valueP p x (zs.drop j) := by
  rw [List.drop_eq_getElem_cons hj]
  show _ = addP p (mulP p (valueP p x (zs.drop (j + 1))) x) _
  unfold addP mulP
  rw [List.getD_eq_getElem?_getD, List.getElem?_eq_getElem hj, Option.getD_some]
  exact (Int.emod_add_emod _ _ _).symm

set_option maxRecDepth 100000 in
theorem rTrim_all (p : Int) (A : Option Addr) (n c : Nat) (xs : List Int) (w : World) (h : Ints w w.heap.size A n xs) (hc : n ≤ c) (hn : n ≤ 17592186044416) :
    Calls Try.prog 43 #[.agg #[.int .i64 p], .slice A n c] w (VecPost (polyR (errL p [xs]) (trimL xs)) w) := by
  obtain ⟨er, HER⟩ : ∃ er, Hid (errL p [xs] = er) := ⟨_, Lib.hid rfl⟩
  rw [HER.out]
  obtain ⟨t, HT⟩ : ∃ t, Hid (tn xs n = t) := ⟨_, Lib.hid rfl⟩
  have htn : t ≤ 17592186044416 := by rw [← HT.out]; have := tn_le xs n; omega

  by_cases h0 : er = 0
  · subst h0
    go_enter Try.func43, Try.ntmps43
    go_wp2_with (first
      | (go_at_call 131; refine (rlists_any p _ 1 1 [xs] _ (by exact Mat.one _ A n c xs 22 _ (by simp) (h.upto (bbox _)) hn) (by omega)).mono ?_; rw [HER.out]; rintro e w1 ⟨rfl, hb1⟩
         have hbb1 := bnext (ballocs (bbox _) _) hb1)
      | (go_at_call 132; (refine (rtrim_any A n c xs _ (h.upto hbb1) hc hn).mono ?_); rintro e w2 ⟨⟨A2, c2, rfl, hown2⟩, hb2⟩
         rw [HT.out] at hown2
         rw [HT.out]
         have hbb2 := bnext hbb1 hb2))
    go_ret2
    exact ⟨⟨A2, t, c2, rfl, hown2.base hbb1.size⟩, hbb2⟩
  · have hne : (er != 0) = true := by simpa using h0
    have H0 := Lib.hid h0
    clear h0
    go_enter Try.func43, Try.ntmps43
    go_wp2_with (go_at_call 131; refine (rlists_any p _ 1 1 [xs] _ (by exact Mat.one _ A n c xs 22 _ (by simp) (h.upto (bbox _)) hn) (by omega)).mono ?_; rw [HER.out]; rintro e w1 ⟨rfl, hb1⟩
                 have hbb1 := bnext (ballocs (bbox _) _) hb1)
    go_ret2
    exact ⟨⟨none, 0, 0, by (rw [polyR_no _ H0.out]; try rfl), by rw [polyR_no _ H0.out]; exact OwnI.nil_⟩, hbb1⟩

set_option maxRecDepth 100000 in
theorem rDegree_all (p : Int) (A : Option Addr) (n c : Nat) (xs : List Int) (w : World) (h : Ints w w.heap.size A n xs) (hc : n ≤ c) (hn : n ≤ 17592186044416) :
    Calls Try.prog 45 #[.agg #[.int .i64 p], .slice A n c] w (ValPost (numR (errL p [xs]) ((tn xs n : Int) - 1)) w) := by
  obtain ⟨er, HER⟩ : ∃ er, Hid (errL p [xs] = er) := ⟨_, Lib.hid rfl⟩
  rw [HER.out]
  obtain ⟨t, HT⟩ : ∃ t, Hid (tn xs n = t) := ⟨_, Lib.hid rfl⟩
  have htn : t ≤ 17592186044416 := by rw [← HT.out]; have := tn_le xs n; omega
  rw [HT.out]
  have hti : IntKind.i64.wrap ((t : Int) - 1) = (t : Int) - 1 := IntWalk.i64_in _ (by omega)
  by_cases h0 : er = 0
  · subst h0
    go_enter Try.func45, Try.ntmps45
    go_wp2_with (first
      | (go_at_call 131; refine (rlists_any p _ 1 1 [xs] _ (by exact Mat.one _ A n c xs 22 _ (by simp) (h.upto (bbox _)) hn) (by omega)).mono ?_; rw [HER.out]; rintro e w1 ⟨rfl, hb1⟩
         have hbb1 := bnext (ballocs (bbox _) _) hb1)
      | (go_at_call 132; (refine (rtrim_any A n c xs _ (h.upto hbb1) hc hn).mono ?_); rintro e w2 ⟨⟨A2, c2, rfl, hown2⟩, hb2⟩
         rw [HT.out] at hown2
         rw [HT.out]
         have hbb2 := bnext hbb1 hb2))
    go_ret2
    exact ⟨rfl, hbb2⟩
  · have hne : (er != 0) = true := by simpa using h0
    have H0 := Lib.hid h0
    clear h0
    go_enter Try.func45, Try.ntmps45
    go_wp2_with (go_at_call 131; refine (rlists_any p _ 1 1 [xs] _ (by exact Mat.one _ A n c xs 22 _ (by simp) (h.upto (bbox _)) hn) (by omega)).mono ?_; rw [HER.out]; rintro e w1 ⟨rfl, hb1⟩
                 have hbb1 := bnext (ballocs (bbox _) _) hb1)
    go_ret2
    exact ⟨by (rw [numR_no _ H0.out]; try rfl), hbb1⟩

set_option maxRecDepth 100000 in
set_option maxHeartbeats 800000 in
theorem rvalue_all (p x : Int) (A : Option Addr) (n c : Nat) (zs : List Int) (w : World) (hp : 2 ≤ p ∧ p ≤ 65521) (hx : 0 ≤ x ∧ x < p) (h : Ints w w.heap.size A n zs) (hz : allP p zs = true) (hn : n ≤ 1000) :
    Calls Try.prog 139 #[.agg #[.int .i64 p], .slice A n c, .int .i64 x] w fun e w' => e = .returned (.int .i64 (valueP p x zs)) ∧ Below w.heap.size w w' := by
  have HL := Lib.hid h.len
  have HZ := Lib.hid hz
  have hB0 : Below w.heap.size w (w.alloc (.cells #[.int .i64 p] 24)) := bbox _
  have hF0 := Blk.new w 24 #[.int .i64 p]
  have hcF0 : (w.alloc (.cells #[.int .i64 p] 24)).cell? ⟨w.heap.size, 0, none⟩ = some (.int .i64 p) := (hF0.cell 0).trans rfl
  have hI := h.upto hB0
  have hn1 : IntKind.i64.wrap ((n : Int) - 1) = (n : Int) - 1 := IntWalk.i64_in _ (by omega)
  clear hz
  go_enter Try.func139, Try.ntmps139
  go_wp2
  obtain ⟨w1, hw1⟩ : ∃ w1, w1 = w.alloc (.cells #[.int .i64 p] 24) := ⟨_, rfl⟩
  rw [← hw1] at hB0 hcF0 hI ⊢
  clear hw1 hF0
  go_loopw [7, 8] (fun s i wz => ∃ (k q : Nat) (iv sv : Int), k ≤ n ∧ i = .int .i64 iv ∧ Hid (iv = (k : Int) - 1) ∧ s = .int .i64 sv ∧ Hid (valueP p x (zs.drop k) = sv) ∧ wz = w1.drewN q) (fun _ i _ => (intOf i + 1).toNat)
  case atStart => exact ⟨n, 0, _, 0, Nat.le_refl _, rfl, Lib.hid rfl, rfl, Lib.hid (by rw [List.drop_of_length_le (by rw [HL.out]; exact Nat.le_refl _)]; rfl), rfl⟩
  case round =>
    obtain ⟨k, q, iv, sv, hk, rfl, HI, rfl, HS, rfl⟩ := hrel
    by_cases hk0 : 0 < k
    · obtain ⟨j, rfl⟩ : ∃ j, k = j + 1 := ⟨k - 1, by omega⟩
      obtain rfl : iv = (j : Int) := by have := HI.out; omega
      obtain ⟨b, off, rfl, hb, hcell⟩ := hI.2 (by omega)
      have hcj := hcell j (by omega)
      clear hcell
      have hye := allP_getD HZ.out (k := j) (by rw [HL.out]; omega)
      have hsv := valueP_in hp.1 x (zs.drop (j + 1))
      have hst := vstep5 (p := p) x zs (j := j) (by rw [HL.out]; omega)
      rw [HS.out] at hsv hst
      obtain ⟨y, HY⟩ : ∃ y, Hid (zs.getD j 0 = y) := ⟨_, Lib.hid rfl⟩
      rw [HY.out] at hcj hye hst
      obtain ⟨v, hv⟩ : ∃ v, (sv * x + y) % p = v := ⟨_, rfl⟩
      have HN : Hid (valueP p x (zs.drop j) = v) := Lib.hid (hst.symm.trans hv)
      have hsx : 0 ≤ sv * x ∧ sv * x ≤ 65521 * 65521 := ⟨Int.mul_nonneg hsv.1 hx.1, by have := Int.mul_le_mul (show sv ≤ 65521 by omega) (show x ≤ 65521 by omega) hx.1 (by omega); omega⟩
      have hw1 : IntKind.i64.wrap (sv * x) = sv * x := IntWalk.i64_in _ (by omega)
      have hw2 : IntKind.i64.wrap (sv * x + y) = sv * x + y := IntWalk.i64_in _ (by omega)
      have hvt : (sv * x + y).tmod p = v := by rw [Int.tmod_eq_emod_of_nonneg (by omega)]; exact hv
      have hjm : IntKind.i64.wrap ((j : Int) - 1) = (j : Int) - 1 := IntWalk.i64_in _ (by omega)
      have hj0 : (0 : Int) ≤ (j : Int) := by omega
      have hjn : (j : Int) < (n : Int) := by omega
      have hp0 : ¬ p = 0 := by omega
      clear hst hv hsx HI
      go_wp2
      go_quiet (fail)
      go_wp2
      go_roundw
      case rel => exact ⟨j, _, _, v, by omega, rfl, Lib.hid rfl, rfl, HN, rfl⟩
      case measure => simp [intOf]
    · obtain rfl : k = 0 := by omega
      have hiv : iv < 0 := by have := HI.out; omega
      have hiv2 : ¬ (0 ≤ iv) := by omega
      have HS2 : Hid (valueP p x zs = sv) := HS
      go_wp2
      go_ret
      exact ⟨ret_int HS2.out.symm, below_drewN hB0 _⟩

theorem inF_one5 (p x : Int) : inF p [x] = (okP p && inP p x) := by simp [inF, allP]
theorem errL_pt (p x : Int) (xs : List Int) : errL p [xs, [x]] = if inF p [x] = true then errL p [xs] else 9 := by
  rw [inF_one5]
  unfold errL allR
  simp only [List.all_cons, List.all_nil, Bool.and_true, List.any_cons, List.any_nil, Bool.or_false, List.length_cons, List.length_nil, allP]
  cases okP p <;> cases inP p x <;> simp

set_option maxRecDepth 100000 in
theorem rValue_all (p x : Int) (A : Option Addr) (n c : Nat) (xs : List Int) (w : World) (h : Ints w w.heap.size A n xs) (hn : n ≤ 17592186044416) :
    Calls Try.prog 47 #[.agg #[.int .i64 p], .slice A n c, .int .i64 x] w (ValPost (numR (errL p [xs, [x]]) (valueP p x xs)) w) := by
  have hl := h.len
  have hF0 := (Blk.new w 24 #[.int .i64 p]).alloc (.cells #[.int .i64 x] 3)
  have hb0 : Below w.heap.size w ((w.alloc (.cells #[.int .i64 p] 24)).alloc (.cells #[.int .i64 x] 3)) := ballocs (bbox _) _
  by_cases hx : inF p [x] = true
  · have hE : errL p [xs, [x]] = errL p [xs] := by rw [errL_pt, if_pos hx]
    rw [hE]
    have hxp : 0 ≤ x ∧ x < p := by have := allP_iff.1 (inF_iff.1 hx).2 x List.mem_cons_self; exact this
    have hp := okP_pos (inF_iff.1 hx).1
    have HXI := Lib.hid hx
    by_cases h0 : errL p [xs] = 0
    · have h1 := errL_one h0
      rw [numR_yes _ h0]
      have HZ := Lib.hid h1.2.1
      have hn5 : n ≤ 512 := by omega
      have HER := Lib.hid h0
      obtain ⟨v, HV⟩ : ∃ v, Hid (valueP p x xs = v) := ⟨_, Lib.hid rfl⟩
      rw [HV.out]
      clear h0 h1 hx hE hl
      go_enter Try.func47, Try.ntmps47
      go_wp2_with (first
        | (go_at_call 126; (refine (in_any p _ 1 1 [x] _ (by exact Ints.oneAt _ x 3 _ (by simp)) (by omega)).mono ?_); rintro e w1 ⟨rfl, hb1⟩
           rw [HXI.out]
           have hbb1 := bnext hb0 hb1
           have hF1 := hF0.below hb1 hF0.lt
           have hcF1 : w1.cell? ⟨w.heap.size, 0, none⟩ = some (.int .i64 p) := (hF1.cell 0).trans rfl
           have hI1 := h.upto hbb1)
        | (go_at_call 131; (refine (rlists_any p _ 1 1 [xs] _ (by exact Mat.one _ A n c xs 22 _ rfl hI1 (by omega)) (by omega)).mono ?_); rw [HER.out]; rintro e w2 ⟨rfl, hb2⟩
           have hbb2 := bnext (ballocs hbb1 _) hb2
           have hF2 := (hF1.alloc _).below hb2 (hF1.alloc _).lt
           have hcF2 : w2.cell? ⟨w.heap.size, 0, none⟩ = some (.int .i64 p) := (hF2.cell 0).trans rfl
           have hI2 := h.upto hbb2)
        | (go_at_call 139; (with_reducible refine (rvalue_all p x A n c xs _ hp hxp hI2 HZ.out (by omega)).mono ?_); rintro e w3 ⟨rfl, hb3⟩
           rw [HV.out]
           have hbb3 := bnext hbb2 hb3))
      go_ret2
      exact ⟨rfl, hbb3⟩
    · obtain ⟨er, HER⟩ : ∃ er, Hid (errL p [xs] = er) := ⟨_, Lib.hid rfl⟩
      rw [HER.out] at h0 ⊢
      have hne : (er != 0) = true := by simpa using h0
      have H0 := Lib.hid h0
      clear h0 hx hE hl
      go_enter Try.func47, Try.ntmps47
      go_wp2_with (first
        | (go_at_call 126; (refine (in_any p _ 1 1 [x] _ (by exact Ints.oneAt _ x 3 _ (by simp)) (by omega)).mono ?_); rintro e w1 ⟨rfl, hb1⟩
           rw [HXI.out]
           have hbb1 := bnext hb0 hb1
           have hF1 := hF0.below hb1 hF0.lt
           have hcF1 : w1.cell? ⟨w.heap.size, 0, none⟩ = some (.int .i64 p) := (hF1.cell 0).trans rfl
           have hI1 := h.upto hbb1)
        | (go_at_call 131; (refine (rlists_any p _ 1 1 [xs] _ (by exact Mat.one _ A n c xs 22 _ rfl hI1 (by omega)) (by omega)).mono ?_); rw [HER.out]; rintro e w2 ⟨rfl, hb2⟩
           have hbb2 := bnext (ballocs hbb1 _) hb2))
      go_ret2
      exact ⟨by (rw [numR_no _ H0.out]; try rfl), hbb2⟩
  · have hE : errL p [xs, [x]] = 9 := by rw [errL_pt, if_neg hx]
    have hx' : inF p [x] = false := by simpa using hx
    have HXI := Lib.hid hx'
    have HE := Lib.hid hE
    clear hx hx' hE hl
    go_enter Try.func47, Try.ntmps47
    go_wp2_with (go_at_call 126; (refine (in_any p _ 1 1 [x] _ (by exact Ints.oneAt _ x 3 _ (by simp)) (by omega)).mono ?_); rintro e w1 ⟨rfl, hb1⟩
                 rw [HXI.out]
                 have hbb1 := bnext hb0 hb1)
    go_ret2
    exact ⟨by (rw [HE.out]; try rfl), hbb1⟩

set_option maxRecDepth 100000 in
theorem rAdd_all (p : Int) (A B : Option Addr) (n m c d : Nat) (xs ys : List Int) (w : World) (h : Ints w w.heap.size A n xs) (h2 : Ints w w.heap.size B m ys) (hc : n ≤ c) (hd : m ≤ d) (hn : n ≤ 17592186044416) (hm : m ≤ 17592186044416) :
    Calls Try.prog 37 #[.agg #[.int .i64 p], .slice A n c, .slice B m d] w (VecPost (polyR (errL p [xs, ys]) (addL p xs ys)) w) := by
  have hl := h.len
  have hl2 := h2.len
  by_cases h0 : errL p [xs, ys] = 0
  · have h1 := errL_two h0
    rw [polyR_yes _ h0]
    refine (radd5_ok p A B n m c d xs ys w h1.1 h h2 h1.2.1.1 h1.2.2.1 (by omega) (by omega)).mono ?_
    rintro e w' ⟨⟨A', c', rfl, hown⟩, hb⟩
    exact ⟨⟨A', _, c', rfl, hown⟩, hb⟩
  · obtain ⟨er, HER⟩ : ∃ er, Hid (errL p [xs, ys] = er) := ⟨_, Lib.hid rfl⟩
    have HE := Lib.hid (polyR_no (addL p xs ys) h0)
    rw [HER.out] at h0 HE
    have hne : (er != 0) = true := by simpa using h0
    have H0 := Lib.hid h0
    clear h0 hl hl2
    go_enter Try.func37, Try.ntmps37
    go_wp2_with (go_at_call 131; refine (rlists_any p _ 2 2 [xs, ys] _ (by exact Mat.two _ A B n m c d xs ys 22 _ (by simp) (h.upto (bbox _)) (h2.upto (bbox _)) hn hm) (by omega)).mono ?_; rw [HER.out]; rintro e w1 ⟨rfl, hb1⟩
                 have hbb1 := bnext (ballocs (bbox _) _) hb1)
    go_ret2
    exact ⟨⟨none, 0, 0, by (rw [HER.out, HE.out]; try rfl), by rw [HER.out, HE.out]; exact OwnI.nil_⟩, hbb1⟩

set_option maxRecDepth 100000 in
theorem rMul_all (p : Int) (A B : Option Addr) (n m c d : Nat) (xs ys : List Int) (w : World) (h : Ints w w.heap.size A n xs) (h2 : Ints w w.heap.size B m ys) (hc : n ≤ c) (hd : m ≤ d) (hn : n ≤ 17592186044416) (hm : m ≤ 17592186044416) :
    Calls Try.prog 39 #[.agg #[.int .i64 p], .slice A n c, .slice B m d] w (VecPost (mulR p xs ys) w) := by
  have hl := h.len
  have hl2 := h2.len
  by_cases h0 : errL p [xs, ys] = 0
  · have h1 := errL_two h0
    have HS : Hid (tn xs n = (trimL xs).length) := Lib.hid (by rw [trimL_len, hl])
    have HT : Hid (tn ys m = (trimL ys).length) := Lib.hid (by rw [trimL_len, hl2])
    have hs0 : (trimL xs).length ≤ 512 := by rw [← HS.out]; have := tn_le xs n; omega
    have ht0 : (trimL ys).length ≤ 512 := by rw [← HT.out]; have := tn_le ys m; omega
    by_cases hz1 : (trimL xs).length = 0
    · have HE : Hid (mulR p xs ys = ([], 0)) := Lib.hid (by unfold mulR; rw [if_pos h0, if_neg (by omega)]; unfold mulL; rw [if_pos (.inl hz1)])
      have H0 := Lib.hid h0
      rw [hz1] at HS
      obtain ⟨t, ht⟩ : ∃ t, (trimL ys).length = t := ⟨_, rfl⟩
      rw [ht] at HT ht0
      clear h0 hl hl2 ht h1 hs0 hz1
      go_enter Try.func39, Try.ntmps39
      go_wp2_with (first
        | (go_at_call 131; (refine (rlists_any p _ 2 2 [xs, ys] _ (by exact Mat.two _ A B n m c d xs ys 22 _ (by simp) (h.upto (bbox _)) (h2.upto (bbox _)) hn hm) (by omega)).mono ?_); rw [H0.out]; rintro e w1 ⟨rfl, hb1⟩
           have hw01 : Below w.heap.size w w1 := bnext (ballocs (bbox _) _) hb1
           have hX1 := h.upto hw01
           have hY1 := h2.upto hw01)
        | (go_at_call 132; (with_reducible refine (rtrim_any A n c xs _ hX1 hc hn).mono ?_); rintro e w2 ⟨⟨A2, c2, rfl, hown2⟩, hb2⟩
           rw [HS.out]
           have hw02 := bnext hw01 hb2
           have hY2 := hY1.upto hb2)
        | (go_at_call 132; (with_reducible refine (rtrim_any B m d ys _ hY2 hd hm).mono ?_); rintro e w3 ⟨⟨A3, c3, rfl, hown3⟩, hb3⟩
           rw [HT.out]
           have hw03 := bnext hw02 hb3))
      go_ret2
      exact ⟨⟨none, 0, 0, by (rw [HE.out]; try rfl), by rw [HE.out]; exact OwnI.nil_⟩, hw03⟩
    by_cases hz2 : (trimL ys).length = 0
    · have HE : Hid (mulR p xs ys = ([], 0)) := Lib.hid (by unfold mulR; rw [if_pos h0, if_neg (by omega)]; unfold mulL; rw [if_pos (.inr hz2)])
      have H0 := Lib.hid h0
      rw [hz2] at HT
      obtain ⟨s, hs⟩ : ∃ t, (trimL xs).length = t := ⟨_, rfl⟩
      rw [hs] at HS hs0 hz1
      have hsb : ((s : Int) == 0) = false := by simp; omega
      clear h0 hl hl2 hs h1 hz2 hz1
      go_enter Try.func39, Try.ntmps39
      go_wp2_with (first
        | (go_at_call 131; (refine (rlists_any p _ 2 2 [xs, ys] _ (by exact Mat.two _ A B n m c d xs ys 22 _ (by simp) (h.upto (bbox _)) (h2.upto (bbox _)) hn hm) (by omega)).mono ?_); rw [H0.out]; rintro e w1 ⟨rfl, hb1⟩
           have hw01 : Below w.heap.size w w1 := bnext (ballocs (bbox _) _) hb1
           have hX1 := h.upto hw01
           have hY1 := h2.upto hw01)
        | (go_at_call 132; (with_reducible refine (rtrim_any A n c xs _ hX1 hc hn).mono ?_); rintro e w2 ⟨⟨A2, c2, rfl, hown2⟩, hb2⟩
           rw [HS.out]
           have hw02 := bnext hw01 hb2
           have hY2 := hY1.upto hb2)
        | (go_at_call 132; (with_reducible refine (rtrim_any B m d ys _ hY2 hd hm).mono ?_); rintro e w3 ⟨⟨A3, c3, rfl, hown3⟩, hb3⟩
           rw [HT.out]
           have hw03 := bnext hw02 hb3))
      go_ret2
      exact ⟨⟨none, 0, 0, by (rw [HE.out]; try rfl), by rw [HE.out]; exact OwnI.nil_⟩, hw03⟩
    by_cases hlim : 513 < (trimL xs).length + (trimL ys).length
    · have HE : Hid (mulR p xs ys = ([], 4)) := Lib.hid (by unfold mulR; rw [if_pos h0, if_pos ⟨by omega, by omega, hlim⟩])
      have H0 := Lib.hid h0
      obtain ⟨s, hs⟩ : ∃ s, (trimL xs).length = s := ⟨_, rfl⟩
      obtain ⟨t, ht⟩ : ∃ t, (trimL ys).length = t := ⟨_, rfl⟩
      rw [hs] at HS hs0 hlim hz1
      rw [ht] at HT ht0 hlim hz2
      have hsb : ((s : Int) == 0) = false := by simp; omega
      have htb : ((t : Int) == 0) = false := by simp; omega
      have hst : (512 : Int) < (s : Int) + (t : Int) - 1 := by omega
      clear h0 hl hl2 hs ht h1 hz1 hz2
      go_enter Try.func39, Try.ntmps39
      go_wp2_with (first
        | (go_at_call 131; (refine (rlists_any p _ 2 2 [xs, ys] _ (by exact Mat.two _ A B n m c d xs ys 22 _ (by simp) (h.upto (bbox _)) (h2.upto (bbox _)) hn hm) (by omega)).mono ?_); rw [H0.out]; rintro e w1 ⟨rfl, hb1⟩
           have hw01 : Below w.heap.size w w1 := bnext (ballocs (bbox _) _) hb1
           have hX1 := h.upto hw01
           have hY1 := h2.upto hw01)
        | (go_at_call 132; (with_reducible refine (rtrim_any A n c xs _ hX1 hc hn).mono ?_); rintro e w2 ⟨⟨A2, c2, rfl, hown2⟩, hb2⟩
           rw [HS.out]
           have hw02 := bnext hw01 hb2
           have hY2 := hY1.upto hb2)
        | (go_at_call 132; (with_reducible refine (rtrim_any B m d ys _ hY2 hd hm).mono ?_); rintro e w3 ⟨⟨A3, c3, rfl, hown3⟩, hb3⟩
           rw [HT.out]
           have hw03 := bnext hw02 hb3))
      go_ret2
      exact ⟨⟨none, 0, 0, by (rw [HE.out]; try rfl), by rw [HE.out]; exact OwnI.nil_⟩, hw03⟩
    · have HE : Hid (mulR p xs ys = (mulL p xs ys, 0)) := Lib.hid (by unfold mulR; rw [if_pos h0, if_neg (fun e => hlim e.2.2)])
      rw [HE.out]
      refine (rmul5_ok p A B n m c d xs ys w h1.1 h h2 h1.2.1.1 h1.2.2.1 (by omega) (by omega) hc hd (by omega) (by omega) (by omega)).mono ?_
      rintro e w' ⟨⟨A', c', rfl, hown⟩, hb⟩
      exact ⟨⟨A', _, c', rfl, hown⟩, hb⟩
  · obtain ⟨er, HER⟩ : ∃ er, Hid (errL p [xs, ys] = er) := ⟨_, Lib.hid rfl⟩
    have HE := Lib.hid (show mulR p xs ys = ([], errL p [xs, ys]) by unfold mulR; rw [if_neg h0])
    rw [HER.out] at h0 HE
    have hne : (er != 0) = true := by simpa using h0
    have H0 := Lib.hid h0
    clear h0 hl hl2
    go_enter Try.func39, Try.ntmps39
    go_wp2_with (go_at_call 131; refine (rlists_any p _ 2 2 [xs, ys] _ (by exact Mat.two _ A B n m c d xs ys 22 _ (by simp) (h.upto (bbox _)) (h2.upto (bbox _)) hn hm) (by omega)).mono ?_; rw [HER.out]; rintro e w1 ⟨rfl, hb1⟩
                 have hbb1 := bnext (ballocs (bbox _) _) hb1)
    go_ret2
    exact ⟨⟨none, 0, 0, by (rw [HE.out]; try rfl), by rw [HE.out]; exact OwnI.nil_⟩, hbb1⟩
end Go.Proofs.Ytoblofilaegnaaa
