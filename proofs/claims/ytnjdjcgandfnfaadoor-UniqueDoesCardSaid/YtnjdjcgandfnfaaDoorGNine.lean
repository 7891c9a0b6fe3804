/-
  Words for memory and contracts of small functions of the second form. Conditions: those of each lemma.
-/
import Derived.Test.YtnjdjcgandfnfaaDoorGCnt
import Derived.Deep.QuietTactic
import Derived.BigQuiet
import Derived.Test.YtnjdjcgandfnfaaDoorGRef
import Derived.Test.YtnjdjcgandfnfaaDoorGPol
import Derived.Test.YtnjdjcgandfnfaaDoorGPoly
import Derived.Test.YtnjdjcgandfnfaaDoorRPre
import Derived.Test.YtnjdjcgandfnfaaDoorPlain
import Derived.Test.YtnjdjcgandfnfaaDoorGAll
import Derived.Test.YtnjdjcgandfnfaaDoorRes
/-! RInts9 -/
namespace Go.Proofs.YtnjdjcgandfnfaaDoor
open Go.RowKit
set_option linter.unusedVariables false

theorem rints9_any (A B : Option Addr) (n m c d : Nat) (xs ys : List Int) (w : World) {B1 B2 : Nat} (h : Ints w B1 A n xs) (h2 : Ints w B2 B m ys) (hn : n ≤ 17592186044416) (hm : m ≤ 17592186044416) :
    Calls Tryd.prog 41 #[.slice A n c, .slice B m d] w fun e w' => e = .returned (.bool (sameL xs ys)) ∧ ∃ q, w' = w.drewN q := by
  by_cases hl : n = m
  · subst hl
    have HL := Lib.hid h.len
    have HM := Lib.hid h2.len
    go_enter Tryd.func41, Tryd.ntmps41
    go_wp2
    go_loopw [13] (fun i wr => ∃ k q : Nat, k ≤ n ∧ i = .int .i64 k ∧ Hid (xs.take k = ys.take k) ∧ wr = w.drewN q) (fun i _ => n - (intOf i).toNat)
    case atStart => exact ⟨0, 0, Nat.zero_le _, rfl, Lib.hid rfl, rfl⟩
    case round =>
      obtain ⟨k, q, hk, rfl, HE, rfl⟩ := hrel
      by_cases hlt : k < n
      · obtain ⟨b1, o1, rfl, hb1, hc1⟩ := h.2 (by omega)
        obtain ⟨b2, o2, rfl, hb2, hc2⟩ := h2.2 (by omega)
        have hr1 := hc1 k hlt
        have hr2 := hc2 k hlt
        clear hc1 hc2
        have HT1 := Lib.hid (take_snoc_int xs k (by rw [HL.out]; exact hlt))
        have HT2 := Lib.hid (take_snoc_int ys k (by rw [HM.out]; exact hlt))
        have HX := Lib.hid (show ∀ j, xs = ys → xs.getD j 0 = ys.getD j 0 from fun j e => by rw [e])
        have HXk := Lib.hid (HX.out k)
        clear HX
        generalize xs.getD k 0 = x at *
        generalize ys.getD k 0 = y at *
        by_cases hxy : x = y
        · subst hxy
          go_wp2
          go_quiet (fail)
          go_wp2
          go_roundw
          case rel => exact ⟨k + 1, _, by omega, by go_num, Lib.hid (by rw [HT1.out, HT2.out, HE.out]), rfl⟩
          case measure => simp [intOf]; omega
        · have hxb : (x != y) = true := by simpa using hxy
          have hf : sameL xs ys = false := by
            rw [← Bool.not_eq_true, sameL_iff]; intro e; exact hxy (HXk.out e)
          have HF := Lib.hid hf
          clear hf hxy
          go_wp2
          go_quiet (fail)
          go_wp2
          go_ret
          exact ⟨ret_bool HF.out.symm, _, World.drewN_drewN _ _ _⟩
      · go_wp2
        go_ret
        refine ⟨ret_bool ?_, q, rfl⟩
        have := HE.out
        rw [List.take_of_length_le (by rw [HL.out]; omega), List.take_of_length_le (by rw [HM.out]; omega)] at this
        exact (sameL_iff.2 this).symm
  · have hf : sameL xs ys = false := by
      rw [← Bool.not_eq_true, sameL_iff]; intro e; apply hl; rw [← h.len, ← h2.len, e]
    have HF := Lib.hid hf
    have hne : ((n : Int) != (m : Int)) = true := by simp; omega
    clear hf
    go_enter Tryd.func41, Tryd.ntmps41
    go_wp2
    go_ret
    exact ⟨ret_bool HF.out.symm, 0, rfl⟩
end Go.Proofs.YtnjdjcgandfnfaaDoor

/-! RWr9 -/
namespace Go.Proofs.YtnjdjcgandfnfaaDoor
open Go.RowKit
set_option linter.unusedVariables false

set_option maxRecDepth 100000 in
set_option maxHeartbeats 1600000 in
theorem rwrong9_ok (p : Int) (A : Option Addr) (m c : Nat) (vs : List Int) (bs : List Bool) (C : Option Addr) (n cc : Nat) (cs : List Int) (w : World) (hok : okP p = true) (h : Cel w w.heap.size A m vs bs) (hm : m ≤ 32) (hmp : (m : Int) < p) (hkn : knOk p vs bs)
    (hC : Ints w w.heap.size C n cs) (hca : allP p cs = true) (hn : n ≤ 512) :
    Calls Tryd.prog 37 #[.agg #[.int .i64 p], .slice A m c, .slice C n cc] w fun e w' =>
      (∃ (A' : Option Addr) (c' : Nat), e = .returned (.slice A' (wrL p cs (knL vs bs)).length c') ∧ OwnI w' w.heap.size 3 A' (wrL p cs (knL vs bs)).length c' (wrL p cs (knL vs bs))) ∧ Below w.heap.size w w' := by
  obtain ⟨i0, hi0, hz0, hz1, hz2⟩ := info_parts info_int
  have hp := okP_pos hok
  have HOK := Lib.hid hok
  have HCA := Lib.hid hca
  have HV := Lib.hid h.1
  have hF0 := Blk.new w 24 #[.int .i64 p]
  have hb0 : Below w.heap.size w (w.alloc (.cells #[.int .i64 p] 24)) := bbox _
  have hS0 := h.upto hb0
  have hC0 := hC.upto hb0
  obtain ⟨l, hl⟩ : ∃ l, knL vs bs = l := ⟨_, rfl⟩
  have HPT : Hid (allP p (ptK l) = true) := Lib.hid (by rw [← hl]; exact ptK_allP vs bs (by rw [HV.out]; exact hmp))
  have hlm : l.length ≤ m := by have := knL_len vs bs; rw [hl, HV.out] at this; exact this
  have HL := Lib.hid hl
  rw [hl]
  obtain ⟨N, hN⟩ : ∃ N, l.length = N := ⟨_, rfl⟩
  have HN := Lib.hid hN
  rw [hN] at hlm
  clear hok hkn hca hl hN
  go_enter Tryd.func37, Tryd.ntmps37
  go_wp2_with (go_at_call 36; refine (rknown_ok A m c vs bs _ hS0 hm).mono ?_; rintro e w3 ⟨⟨A3, c3, rfl, hO3⟩, hb3⟩
               rw [HL.out, HN.out] at hO3
               rw [HL.out, HN.out]
               have hbb3 := bnext hb0 hb3
               have hF3 := hF0.below hb3 hF0.lt
               have hC3 := hC0.upto hb3
               have hSh := hO3.sh)
  go_loopw [7, 15] (fun s i wz => ∃ (k q : Nat) (L : Option Addr) (lc : Nat) (r : List Int), k ≤ N ∧ q ≤ k ∧ i = .int .i64 k ∧ s = .slice L q lc ∧ Hid (OwnI wz w3.heap.size 3 L q lc r) ∧ Hid (wrL p cs (l.take k) = r) ∧ Below w3.heap.size w3 wz) (fun _ i _ => N - (intOf i).toNat)
  case atStart => exact ⟨0, 0, none, 0, [], Nat.zero_le _, Nat.le_refl _, rfl, rfl, Lib.hid OwnI.nil_, Lib.hid (by simp [wrL]), Below.refl _ _⟩
  case round =>
    obtain ⟨k, q, L, lc, r, hk, hqk, rfl, rfl, HO, HQ, hb⟩ := hrel
    by_cases hlt : k < N
    · obtain ⟨b1, o1, rfl, hbl1, hc1⟩ := hSh.2.2 (by omega)
      have hx0 := (hb.cell (p := ⟨b1, o1 + k * 2, none⟩) hbl1).trans (hc1 k hlt).1
      have hx1 := (hb.cell (p := ⟨b1, o1 + k * 2 + 1, none⟩) hbl1).trans (hc1 k hlt).2
      clear hc1
      have hki : (k : Int) < (N : Int) := by omega
      have hk0 : (0 : Int) ≤ (k : Int) := by omega
      have hlk : k < l.length := by rw [HN.out]; exact hlt
      have hxb := allP_getD HPT.out (k := k) (by rw [ptK_len]; exact hlk)
      have HST := Lib.hid (show l.take (k + 1) = l.take k ++ [((ptK l).getD k 0, (vlK l).getD k 0)] by
        have h1 : l.take (k + 1) = l.take k ++ [l[k]] := by rw [List.take_add_one, List.getElem?_eq_getElem hlk]; rfl
        have h2 : (ptK l).getD k 0 = (l[k]).1 := by simp [ptK, List.getD_eq_getElem?_getD, List.getElem?_eq_getElem hlk]
        have h3 : (vlK l).getD k 0 = (l[k]).2 := by simp [vlK, List.getD_eq_getElem?_getD, List.getElem?_eq_getElem hlk]
        rw [h1, h2, h3])
      obtain ⟨x, hx⟩ : ∃ x, (ptK l).getD k 0 = x := ⟨_, rfl⟩
      obtain ⟨y, hy⟩ : ∃ y, (vlK l).getD k 0 = y := ⟨_, rfl⟩
      rw [hx] at hx0 hxb HST
      rw [hy] at hx1 HST
      clear hx hy hlk
      have hFz := (hF3.below hb hF3.lt).alloc (.cells #[.int .i64 x, .int .i64 y] 85)
      have hcfz : (wr.alloc (.cells #[.int .i64 x, .int .i64 y] 85)).cell? ⟨w.heap.size, 0, none⟩ = some (.int .i64 p) := (hFz.cell 0).trans rfl
      have hCz := (hC3.upto hb).upto (bbox (w0 := wr) (.cells #[.int .i64 x, .int .i64 y] 85))
      have hN9 := Blk.new wr 85 #[.int .i64 x, .int .i64 y]
      have hbz := ballocs hb (.cells #[.int .i64 x, .int .i64 y] 85)
      have hOz := HO.out.alloc (.cells #[.int .i64 x, .int .i64 y] 85)
      obtain ⟨g9, hg9⟩ : ∃ g9, wr.heap.size = g9 := ⟨_, rfl⟩
      obtain ⟨v9, hv9⟩ : ∃ v9, valueP p x cs = v9 := ⟨_, rfl⟩
      have HV9 := Lib.hid hv9
      have HW9 := Lib.hid (wrL_snoc p cs (l.take k) (x, y))
      clear hv9
      by_cases hvy : v9 = y
      · have hve : (v9 != y) = false := by simpa using hvy
        have HQ2 : Hid (wrL p cs (l.take (k + 1)) = r) := Lib.hid (by
          have h1 := HW9.out
          rw [if_pos (HV9.out.trans hvy), List.append_nil] at h1
          rw [HST.out, h1, HQ.out])
        go_wp2_with (go_at_call 53; (refine (rValue_ok p x C n cc cs _ HOK.out hxb hCz HCA.out hn).mono ?_); rintro e w4 ⟨rfl, hb4⟩
                     rw [HV9.out]
                     have hN4 := hN9.below hb4 hN9.lt
                     rw [hg9] at hN4
                     have hz1' : w4.cell? ⟨g9, 1, none⟩ = some (.int .i64 y) := (hN4.cell 1).trans rfl)
        go_roundw
        case rel => exact ⟨k + 1, q, L, lc, r, by omega, by omega, by go_num, rfl, Lib.hid (hOz.belowAll hb4), HQ2, bnext hbz hb4⟩
        case measure => simp [intOf]; omega
      · have hve : (v9 != y) = true := by simpa using hvy
        have HQ2 : Hid (wrL p cs (l.take (k + 1)) = r ++ [x]) := Lib.hid (by
          have h1 := HW9.out
          rw [if_neg (fun hh => hvy (HV9.out.symm.trans hh))] at h1
          rw [HST.out, h1, HQ.out])
        go_wp2_with (first
          | (go_at_call 53; (refine (rValue_ok p x C n cc cs _ HOK.out hxb hCz HCA.out hn).mono ?_); rintro e w4 ⟨rfl, hb4⟩
             rw [HV9.out]
             have hN4 := hN9.below hb4 hN9.lt
             rw [hg9] at hN4
             have hz0' : w4.cell? ⟨g9, 0, none⟩ = some (.int .i64 x) := (hN4.cell 0).trans rfl
             have hz1' : w4.cell? ⟨g9, 1, none⟩ = some (.int .i64 y) := (hN4.cell 1).trans rfl
             have hO2 := (hOz.belowAll hb4).alloc (.cells #[.int .i64 x] 3)
             have hb5 := ballocs (bnext hbz hb4) (.cells #[.int .i64 x] 3))
          | (at_builtin
             refine wpList_append_ints rfl _ _ _ rfl w3.heap.size 3 i0 _ Tryd.underlying22 hi0 hz0 hz1 hz2 rfl L q lc _ rfl hO2 _ _ 1 1 [x] rfl (Ints.one _ _ _) (q + 1) rfl _ rfl (by omega) hb5.size ?_
             intro A2 c2 w6 hown6 hgr6 hbw6 hab
             have hb6 := hb5.trans hbw6))
        go_roundw
        case rel => exact ⟨k + 1, q + 1, A2, c2, _, by omega, by omega, by go_num, rfl, Lib.hid hown6, HQ2, hb6⟩
        case measure => simp [intOf]; omega
    · obtain rfl : k = N := by omega
      have hl := HO.out.len
      have HQ3 := HQ.out
      rw [List.take_of_length_le (by rw [HN.out]; exact Nat.le_refl _)] at HQ3
      have HL3 := Lib.hid HQ3
      clear HQ3
      go_wp2
      go_ret
      rw [HL3.out, hl]
      exact ⟨⟨L, lc, rfl, HO.out.base (by have := hbb3.size; exact this)⟩, bnext hbb3 hb⟩
end Go.Proofs.YtnjdjcgandfnfaaDoor

/-! RVal -/
namespace Go.Proofs.YtnjdjcgandfnfaaDoor
open Go.RowKit
set_option linter.unusedVariables false

theorem vstep5 {p : Int} (x : Int) (zs : List Int) {j : Nat} (hj : j < zs.length) : (valueP p x (zs.drop (j + 1)) * x + zs.getD j 0) % p = valueP p x (zs.drop j) := by
  rw [List.drop_eq_getElem_cons hj]
  show _ = addP p (mulP p (valueP p x (zs.drop (j + 1))) x) _
  unfold addP mulP
  rw [List.getD_eq_getElem?_getD, List.getElem?_eq_getElem hj, Option.getD_some]
  exact (Int.emod_add_emod _ _ _).symm
set_option maxRecDepth 100000 in
theorem rTrim_all (p : Int) (A : Option Addr) (n c : Nat) (xs : List Int) (w : World) (h : Ints w w.heap.size A n xs) (hc : n ≤ c) (hn : n ≤ 17592186044416) :
    Calls Tryd.prog 28 #[.agg #[.int .i64 p], .slice A n c] w (VecPost (polyR (errL p [xs]) (trimL xs)) w) := by
  obtain ⟨er, HER⟩ : ∃ er, Hid (errL p [xs] = er) := ⟨_, Lib.hid rfl⟩
  rw [HER.out]
  obtain ⟨t, HT⟩ : ∃ t, Hid (tn xs n = t) := ⟨_, Lib.hid rfl⟩
  have htn : t ≤ 17592186044416 := by rw [← HT.out]; have := tn_le xs n; omega

  by_cases h0 : er = 0
  · subst h0
    go_enter Tryd.func28, Tryd.ntmps28
    go_wp2_with (first
      | (go_at_call 51; refine (rlists_any p _ 1 1 [xs] _ (by exact Mat.one _ A n c xs 22 _ (by simp) (h.upto (bbox _)) hn) (by omega)).mono ?_; rw [HER.out]; rintro e w1 ⟨rfl, hb1⟩
         have hbb1 := bnext (ballocs (bbox _) _) hb1)
      | (go_at_call 52; (refine (rtrim_any A n c xs _ (h.upto hbb1) hc hn).mono ?_); rintro e w2 ⟨⟨A2, c2, rfl, hown2⟩, hb2⟩
         rw [HT.out] at hown2
         rw [HT.out]
         have hbb2 := bnext hbb1 hb2))
    go_ret2
    exact ⟨⟨A2, t, c2, rfl, hown2.base hbb1.size⟩, hbb2⟩
  · have hne : (er != 0) = true := by simpa using h0
    have H0 := Lib.hid h0
    clear h0
    go_enter Tryd.func28, Tryd.ntmps28
    go_wp2_with (go_at_call 51; refine (rlists_any p _ 1 1 [xs] _ (by exact Mat.one _ A n c xs 22 _ (by simp) (h.upto (bbox _)) hn) (by omega)).mono ?_; rw [HER.out]; rintro e w1 ⟨rfl, hb1⟩
                 have hbb1 := bnext (ballocs (bbox _) _) hb1)
    go_ret2
    exact ⟨⟨none, 0, 0, by (rw [polyR_no _ H0.out]; try rfl), by rw [polyR_no _ H0.out]; exact OwnI.nil_⟩, hbb1⟩
set_option maxRecDepth 100000 in
set_option maxHeartbeats 800000 in
theorem rvalue_all (p x : Int) (A : Option Addr) (n c : Nat) (zs : List Int) (w : World) (hp : 2 ≤ p ∧ p ≤ 65521) (hx : 0 ≤ x ∧ x < p) (h : Ints w w.heap.size A n zs) (hz : allP p zs = true) (hn : n ≤ 1000) :
    Calls Tryd.prog 73 #[.agg #[.int .i64 p], .slice A n c, .int .i64 x] w fun e w' => e = .returned (.int .i64 (valueP p x zs)) ∧ Below w.heap.size w w' := by
  have HL := Lib.hid h.len
  have HZ := Lib.hid hz
  have hB0 : Below w.heap.size w (w.alloc (.cells #[.int .i64 p] 24)) := bbox _
  have hF0 := Blk.new w 24 #[.int .i64 p]
  have hcF0 : (w.alloc (.cells #[.int .i64 p] 24)).cell? ⟨w.heap.size, 0, none⟩ = some (.int .i64 p) := (hF0.cell 0).trans rfl
  have hI := h.upto hB0
  have hn1 : IntKind.i64.wrap ((n : Int) - 1) = (n : Int) - 1 := IntWalk.i64_in _ (by omega)
  clear hz
  go_enter Tryd.func73, Tryd.ntmps73
  go_wp2
  obtain ⟨w1, hw1⟩ : ∃ w1, w1 = w.alloc (.cells #[.int .i64 p] 24) := ⟨_, rfl⟩
  rw [← hw1] at hB0 hcF0 hI ⊢
  clear hw1 hF0
  go_loopw [7, 8] (fun s i wz => ∃ (k q : Nat) (iv sv : Int), k ≤ n ∧ i = .int .i64 iv ∧ Hid (iv = (k : Int) - 1) ∧ s = .int .i64 sv ∧ Hid (valueP p x (zs.drop k) = sv) ∧ wz = w1.drewN q) (fun _ i _ => (intOf i + 1).toNat)
  case atStart => exact ⟨n, 0, _, 0, Nat.le_refl _, rfl, Lib.hid rfl, rfl, Lib.hid (by rw [List.drop_of_length_le (by rw [HL.out]; exact Nat.le_refl _)]; rfl), rfl⟩
  case round =>
    obtain ⟨k, q, iv, sv, hk, rfl, HI, rfl, HS, rfl⟩ := hrel
    by_cases hk0 : 0 < k
    · obtain ⟨j, rfl⟩ : ∃ j, k = j + 1 := ⟨k - 1, by omega⟩
      obtain rfl : iv = (j : Int) := by have := HI.out; omega
      obtain ⟨b, off, rfl, hb, hcell⟩ := hI.2 (by omega)
      have hcj := hcell j (by omega)
      clear hcell
      have hye := allP_getD HZ.out (k := j) (by rw [HL.out]; omega)
      have hsv := valueP_in hp.1 x (zs.drop (j + 1))
      have hst := vstep5 (p := p) x zs (j := j) (by rw [HL.out]; omega)
      rw [HS.out] at hsv hst
      obtain ⟨y, HY⟩ : ∃ y, Hid (zs.getD j 0 = y) := ⟨_, Lib.hid rfl⟩
      rw [HY.out] at hcj hye hst
      obtain ⟨v, hv⟩ : ∃ v, (sv * x + y) % p = v := ⟨_, rfl⟩
      have HN : Hid (valueP p x (zs.drop j) = v) := Lib.hid (hst.symm.trans hv)
      have hsx : 0 ≤ sv * x ∧ sv * x ≤ 65521 * 65521 := ⟨Int.mul_nonneg hsv.1 hx.1, by have := Int.mul_le_mul (show sv ≤ 65521 by omega) (show x ≤ 65521 by omega) hx.1 (by omega); omega⟩
      have hw1 : IntKind.i64.wrap (sv * x) = sv * x := IntWalk.i64_in _ (by omega)
      have hw2 : IntKind.i64.wrap (sv * x + y) = sv * x + y := IntWalk.i64_in _ (by omega)
      have hvt : (sv * x + y).tmod p = v := by rw [Int.tmod_eq_emod_of_nonneg (by omega)]; exact hv
      have hjm : IntKind.i64.wrap ((j : Int) - 1) = (j : Int) - 1 := IntWalk.i64_in _ (by omega)
      have hj0 : (0 : Int) ≤ (j : Int) := by omega
      have hjn : (j : Int) < (n : Int) := by omega
      have hp0 : ¬ p = 0 := by omega
      clear hst hv hsx HI
      go_wp2
      go_quiet (fail)
      go_wp2
      go_roundw
      case rel => exact ⟨j, _, _, v, by omega, rfl, Lib.hid rfl, rfl, HN, rfl⟩
      case measure => simp [intOf]
    · obtain rfl : k = 0 := by omega
      have hiv : iv < 0 := by have := HI.out; omega
      have hiv2 : ¬ (0 ≤ iv) := by omega
      have HS2 : Hid (valueP p x zs = sv) := HS
      go_wp2
      go_ret
      exact ⟨ret_int HS2.out.symm, below_drewN hB0 _⟩
theorem inF_one5 (p x : Int) : inF p [x] = (okP p && inP p x) := by simp [inF, allP]
theorem errL_pt (p x : Int) (xs : List Int) : errL p [xs, [x]] = if inF p [x] = true then errL p [xs] else 9 := by
  rw [inF_one5]
  unfold errL allR
  simp only [List.all_cons, List.all_nil, Bool.and_true, List.any_cons, List.any_nil, Bool.or_false, List.length_cons, List.length_nil, allP]
  cases okP p <;> cases inP p x <;> simp
set_option maxRecDepth 100000 in
theorem rValue_all (p x : Int) (A : Option Addr) (n c : Nat) (xs : List Int) (w : World) (h : Ints w w.heap.size A n xs) (hn : n ≤ 17592186044416) :
    Calls Tryd.prog 53 #[.agg #[.int .i64 p], .slice A n c, .int .i64 x] w (ValPost (numR (errL p [xs, [x]]) (valueP p x xs)) w) := by
  have hl := h.len
  have hF0 := (Blk.new w 24 #[.int .i64 p]).alloc (.cells #[.int .i64 x] 3)
  have hb0 : Below w.heap.size w ((w.alloc (.cells #[.int .i64 p] 24)).alloc (.cells #[.int .i64 x] 3)) := ballocs (bbox _) _
  by_cases hx : inF p [x] = true
  · have hE : errL p [xs, [x]] = errL p [xs] := by rw [errL_pt, if_pos hx]
    rw [hE]
    have hxp : 0 ≤ x ∧ x < p := by have := allP_iff.1 (inF_iff.1 hx).2 x List.mem_cons_self; exact this
    have hp := okP_pos (inF_iff.1 hx).1
    have HXI := Lib.hid hx
    by_cases h0 : errL p [xs] = 0
    · have h1 := errL_one h0
      rw [numR_yes _ h0]
      have HZ := Lib.hid h1.2.1
      have hn5 : n ≤ 512 := by omega
      have HER := Lib.hid h0
      obtain ⟨v, HV⟩ : ∃ v, Hid (valueP p x xs = v) := ⟨_, Lib.hid rfl⟩
      rw [HV.out]
      clear h0 h1 hx hE hl
      go_enter Tryd.func53, Tryd.ntmps53
      go_wp2_with (first
        | (go_at_call 72; (refine (in_any p _ 1 1 [x] _ (by exact Ints.oneAt _ x 3 _ (by simp)) (by omega)).mono ?_); rintro e w1 ⟨rfl, hb1⟩
           rw [HXI.out]
           have hbb1 := bnext hb0 hb1
           have hF1 := hF0.below hb1 hF0.lt
           have hcF1 : w1.cell? ⟨w.heap.size, 0, none⟩ = some (.int .i64 p) := (hF1.cell 0).trans rfl
           have hI1 := h.upto hbb1)
        | (go_at_call 51; (refine (rlists_any p _ 1 1 [xs] _ (by exact Mat.one _ A n c xs 22 _ rfl hI1 (by omega)) (by omega)).mono ?_); rw [HER.out]; rintro e w2 ⟨rfl, hb2⟩
           have hbb2 := bnext (ballocs hbb1 _) hb2
           have hF2 := (hF1.alloc _).below hb2 (hF1.alloc _).lt
           have hcF2 : w2.cell? ⟨w.heap.size, 0, none⟩ = some (.int .i64 p) := (hF2.cell 0).trans rfl
           have hI2 := h.upto hbb2)
        | (go_at_call 73; (with_reducible refine (rvalue_all p x A n c xs _ hp hxp hI2 HZ.out (by omega)).mono ?_); rintro e w3 ⟨rfl, hb3⟩
           rw [HV.out]
           have hbb3 := bnext hbb2 hb3))
      go_ret2
      exact ⟨rfl, hbb3⟩
    · obtain ⟨er, HER⟩ : ∃ er, Hid (errL p [xs] = er) := ⟨_, Lib.hid rfl⟩
      rw [HER.out] at h0 ⊢
      have hne : (er != 0) = true := by simpa using h0
      have H0 := Lib.hid h0
      clear h0 hx hE hl
      go_enter Tryd.func53, Tryd.ntmps53
      go_wp2_with (first
        | (go_at_call 72; (refine (in_any p _ 1 1 [x] _ (by exact Ints.oneAt _ x 3 _ (by simp)) (by omega)).mono ?_); rintro e w1 ⟨rfl, hb1⟩
           rw [HXI.out]
           have hbb1 := bnext hb0 hb1
           have hF1 := hF0.below hb1 hF0.lt
           have hcF1 : w1.cell? ⟨w.heap.size, 0, none⟩ = some (.int .i64 p) := (hF1.cell 0).trans rfl
           have hI1 := h.upto hbb1)
        | (go_at_call 51; (refine (rlists_any p _ 1 1 [xs] _ (by exact Mat.one _ A n c xs 22 _ rfl hI1 (by omega)) (by omega)).mono ?_); rw [HER.out]; rintro e w2 ⟨rfl, hb2⟩
           have hbb2 := bnext (ballocs hbb1 _) hb2))
      go_ret2
      exact ⟨by (rw [numR_no _ H0.out]; try rfl), hbb2⟩
  · have hE : errL p [xs, [x]] = 9 := by rw [errL_pt, if_neg hx]
    have hx' : inF p [x] = false := by simpa using hx
    have HXI := Lib.hid hx'
    have HE := Lib.hid hE
    clear hx hx' hE hl
    go_enter Tryd.func53, Tryd.ntmps53
    go_wp2_with (go_at_call 72; (refine (in_any p _ 1 1 [x] _ (by exact Ints.oneAt _ x 3 _ (by simp)) (by omega)).mono ?_); rintro e w1 ⟨rfl, hb1⟩
                 rw [HXI.out]
                 have hbb1 := bnext hb0 hb1)
    go_ret2
    exact ⟨by (rw [HE.out]; try rfl), hbb1⟩
end Go.Proofs.YtnjdjcgandfnfaaDoor

/-! RItpD -/
namespace Go.Proofs.YtnjdjcgandfnfaaDoor
open Go.RowKit Go.Maps
set_option linter.unusedVariables false

set_option maxHeartbeats 1600000 in
set_option maxRecDepth 100000 in
theorem rinterp_err (p : Int) (A : Option Addr) (n c : Nat) (us ys : List Int) (w : World) (h : Sh w w.heap.size A n us ys) (hn : n ≤ 100) (h0 : ¬ errL p [us, ys] = 0) :
    Calls Tryd.prog 58 #[.agg #[.int .i64 p], .slice A n c] w fun e w' => e = .returned (.tuple #[.slice none 0 0, .int .i64 (errL p [us, ys])]) ∧ Below w.heap.size w w' := by
  have HLA := Lib.hid h.1
  have HLY := Lib.hid h.2.1
  have hI := h.2.2
  obtain ⟨i0, hi0, hz0, hz1, hz2⟩ := info_parts info_int
  obtain ⟨er, HER⟩ : ∃ er, Hid (errL p [us, ys] = er) := ⟨_, Lib.hid rfl⟩
  rw [HER.out] at h0 ⊢
  have hne : (er != 0) = true := by simpa using h0
  clear h h0
  go_enter Tryd.func58, Tryd.ntmps58
  go_wp2
  have hbb0 : Below w.heap.size w (w.alloc (.cells #[.int .i64 p] 24)) := bbox _
  go_loopw [6, 7, 27] (fun r1 r2 i wr => ∃ (k : Nat) (A1 A2 : Option Addr) (c1 c2 : Nat), k ≤ n ∧ r1 = .slice A1 k c1 ∧ r2 = .slice A2 k c2 ∧ i = .int .i64 k ∧ Hid (Two wr (w.alloc (.cells #[.int .i64 p] 24)).heap.size 3 A1 k c1 (us.take k) A2 k c2 (ys.take k)) ∧ Below (w.alloc (.cells #[.int .i64 p] 24)).heap.size (w.alloc (.cells #[.int .i64 p] 24)) wr) (fun _ _ i _ => n - (intOf i).toNat)
  case atStart => exact ⟨0, none, none, 0, 0, Nat.zero_le _, rfl, rfl, rfl, Lib.hid Two.nil_, Below.refl _ _⟩
  case round =>
    obtain ⟨k, A1, A2, c1, c2, hk, rfl, rfl, rfl, HT, hbf⟩ := hrel
    have hb := bnext hbb0 hbf
    by_cases hlt : k < n
    · obtain ⟨b, off, rfl, hbl, hcell⟩ := hI (by omega)
      have hcA := (hb.cell (p := ⟨b, off + k * 2, none⟩) hbl).trans (hcell k hlt).1
      have hcY := (hb.cell (p := ⟨b, off + k * 2 + 1, none⟩) hbl).trans (hcell k hlt).2
      clear hcell
      have HU := Lib.hid (take_succ_getD us k (by rw [HLA.out]; exact hlt))
      have HV := Lib.hid (take_succ_getD ys k (by rw [HLY.out]; exact hlt))
      generalize us.getD k 0 = u at *
      generalize ys.getD k 0 = v at *
      have HTQ : Hid (Two (wr.alloc (.cells #[.int .i64 u, .int .i64 v] 85)) (w.alloc (.cells #[.int .i64 p] 24)).heap.size 3 A1 k c1 (us.take k) A2 k c2 (ys.take k)) := Lib.hid (HT.out.alloc _)
      have HSQ : S2 wr.heap.size u v (wr.alloc (.cells #[.int .i64 u, .int .i64 v] 85)) := ⟨((Blk.new wr _ _).cell 0).trans rfl, ((Blk.new wr _ _).cell 1).trans rfl⟩
      have hbq := ballocs hbf (.cells #[.int .i64 u, .int .i64 v] 85)
      have hn1 : (Value.slice A1 k c1).ownBlock ≠ some wr.heap.size := fun e => by have := (World.ownsRow.lt HT.out.1 _ e).2; omega
      have hn2 : (Value.slice A2 k c2).ownBlock ≠ some wr.heap.size := fun e => by have := (World.ownsRow.lt HT.out.2.1 _ e).2; omega
      go_wp2
      --ARMS
      go_region_held3 (fun w' => w'.cell? ⟨wr.heap.size, 0, none⟩ = some (.int .i64 u) ∧ w'.cell? ⟨wr.heap.size, 1, none⟩ = some (.int .i64 v)) (first | exact HSQ.drew | exact HS8 | exact HSQ | exact HSQ.drew.alloc _ | exact (HSQ.drew.alloc _).alloc _ | exact HS8.alloc _ | exact HS9)
        (first
          | ((refine step_append_twoG (w := (wr.alloc (.cells #[.int .i64 u, .int .i64 v] 85)).drew.alloc (.cells #[.int .i64 u] 3)) rfl (.tmp 31) (.tmp 34) 22 rfl (w.alloc (.cells #[.int .i64 p] 24)).heap.size 3 i0 _ Tryd.underlying22 hi0 hz0 hz1 hz2 rfl A1 k c1 (us.take k) A2 k c2 (ys.take k) (HTQ.out.drew.alloc _) (by simp [Act.eval]) (wr.heap.size + 1) 1 u (by simp [Act.eval]) (Ints.oneAt _ u _ (wr.heap.size + 1) (by simp)) (by omega) (le_alloc hbq.drew.size _) ?_); intro A3 c3 w8 hT8 hb8 hg8 hs8; have HS8 := S2.grown (HSQ.drew.alloc _) hg8 hn1; have hbb8 := (hbq.drew.alloc hbq.drew.size (.cells #[.int .i64 u] 3)).trans hb8)
          | ((refine step_append_twoG (w := ((wr.alloc (.cells #[.int .i64 u, .int .i64 v] 85)).drew.alloc (.cells #[.int .i64 u] 3)).alloc (.cells #[.int .i64 v] 3)) rfl (.tmp 31) (.tmp 34) 22 rfl (w.alloc (.cells #[.int .i64 p] 24)).heap.size 3 i0 _ Tryd.underlying22 hi0 hz0 hz1 hz2 rfl A1 k c1 (us.take k) A2 k c2 (ys.take k) ((HTQ.out.drew.alloc _).alloc _) (by simp [Act.eval]) (wr.heap.size + 1) 1 u (by simp [Act.eval]) ((Ints.oneAt _ u _ (wr.heap.size + 1) (by simp)).upto (bbox _)) (by omega) (le_alloc (le_alloc hbq.drew.size _) _) ?_); intro A3 c3 w8 hT8 hb8 hg8 hs8; have HS8 := S2.grown ((HSQ.drew.alloc _).alloc _) hg8 hn1; have hbb8 := ((hbq.drew.alloc hbq.drew.size (.cells #[.int .i64 u] 3)).alloc (hbq.drew.alloc hbq.drew.size (.cells #[.int .i64 u] 3)).size (.cells #[.int .i64 v] 3)).trans hb8; have hsy := hs8 (wr.heap.size + 1 + 1) v (Src.new HTQ.out.drew (by first | (simp; done) | (simp; omega)) (Ints.oneAt _ v _ (wr.heap.size + 1 + 1) (by simp))))
          | ((refine step_append_twoG (w := ((wr.alloc (.cells #[.int .i64 u, .int .i64 v] 85)).drew.alloc (.cells #[.int .i64 v] 3)).alloc (.cells #[.int .i64 u] 3)) rfl (.tmp 31) (.tmp 34) 22 rfl (w.alloc (.cells #[.int .i64 p] 24)).heap.size 3 i0 _ Tryd.underlying22 hi0 hz0 hz1 hz2 rfl A1 k c1 (us.take k) A2 k c2 (ys.take k) ((HTQ.out.drew.alloc _).alloc _) (by simp [Act.eval]) (wr.heap.size + 1 + 1) 1 u (by simp [Act.eval]) (Ints.oneAt _ u _ (wr.heap.size + 1 + 1) (by simp)) (by omega) (le_alloc (le_alloc hbq.drew.size _) _) ?_); intro A3 c3 w8 hT8 hb8 hg8 hs8; have HS8 := S2.grown ((HSQ.drew.alloc _).alloc _) hg8 hn1; have hbb8 := ((hbq.drew.alloc hbq.drew.size (.cells #[.int .i64 v] 3)).alloc (hbq.drew.alloc hbq.drew.size (.cells #[.int .i64 v] 3)).size (.cells #[.int .i64 u] 3)).trans hb8; have hsy := hs8 (wr.heap.size + 1) v (Src.new HTQ.out.drew (by first | (simp; done) | (simp; omega)) ((Ints.oneAt _ v _ (wr.heap.size + 1) (by simp)).upto (bbox _))))
          | ((refine step_append_twoG (w := w8.alloc (.cells #[.int .i64 v] 3)) rfl (.tmp 36) (.tmp 39) 22 rfl (w.alloc (.cells #[.int .i64 p] 24)).heap.size 3 i0 _ Tryd.underlying22 hi0 hz0 hz1 hz2 rfl A2 k c2 (ys.take k) A3 (k + 1) c3 (us.take k ++ [u]) (hT8.swap.alloc _) (by simp [Act.eval]) w8.heap.size 1 v (by simp [Act.eval]) (Ints.oneAt _ v _ w8.heap.size (by simp)) (by omega) (le_alloc hbb8.size _) ?_); intro A4 c4 w9 hT hb9 hg9 _; have HS9 := S2.grown (HS8.alloc _) hg9 hn2; have hTT := hT.swap; have hbb := (hbb8.alloc hbb8.size _).trans hb9)
          | ((refine step_append_twoG (w := w8) rfl (.tmp 36) (.tmp 39) 22 rfl (w.alloc (.cells #[.int .i64 p] 24)).heap.size 3 i0 _ Tryd.underlying22 hi0 hz0 hz1 hz2 rfl A2 k c2 (ys.take k) A3 (k + 1) c3 (us.take k ++ [u]) hT8.swap (by simp [Act.eval]) (wr.heap.size + 1) 1 v (by simp [Act.eval]) hsy.1 (by omega) hbb8.size ?_); intro A4 c4 w9 hT hb9 hg9 _; have HS9 := S2.grown HS8 hg9 hn2; have hTT := hT.swap; have hbb := hbb8.trans hb9)
          | ((refine step_append_twoG (w := w8) rfl (.tmp 36) (.tmp 39) 22 rfl (w.alloc (.cells #[.int .i64 p] 24)).heap.size 3 i0 _ Tryd.underlying22 hi0 hz0 hz1 hz2 rfl A2 k c2 (ys.take k) A3 (k + 1) c3 (us.take k ++ [u]) hT8.swap (by simp [Act.eval]) (wr.heap.size + 1 + 1) 1 v (by simp [Act.eval]) hsy.1 (by omega) hbb8.size ?_); intro A4 c4 w9 hT hb9 hg9 _; have HS9 := S2.grown HS8 hg9 hn2; have hTT := hT.swap; have hbb := hbb8.trans hb9))
      --END
      all_goals
        go_wp2
        go_roundw
        case rel => exact ⟨k + 1, A3, A4, c3, c4, by omega, rfl, rfl, by go_num, Lib.hid (by rw [HU.out, HV.out]; exact hTT), hbb⟩
        case measure => simp [intOf]; omega
    · have hkn : k = n := by omega
      subst hkn
      have hT := HT.out
      rw [List.take_of_length_le (by rw [HLA.out]; omega), List.take_of_length_le (by rw [HLY.out]; omega)] at hT
      have hJ1 := hT.1.ints
      have hJ2 := hT.2.1.ints
      have hF := (Blk.new w 24 #[.int .i64 p]).below hbf (by simp)
      have hc0 : wr.cell? ⟨w.heap.size, 0, none⟩ = some (.int .i64 p) := (hF.cell 0).trans rfl
      clear HT hI hT hbb0
      go_wp2_with (go_at_call 51; refine (rlists_any p _ 2 2 [us, ys] _ (by exact Mat.two _ A1 A2 k k c1 c2 us ys 22 _ (by simp) hJ1 hJ2 (by omega) (by omega)) (by omega)).mono ?_; rw [HER.out]; rintro e w1 ⟨rfl, hb1⟩
                   have hbb1 := bnext (ballocs hb (.cells #[.slice A1 k c1, .slice A2 k c2] 22)) hb1)
      go_ret2
      exact ⟨rfl, hbb1⟩

set_option maxHeartbeats 3200000 in
set_option maxRecDepth 100000 in
theorem rinterp_ok (p : Int) (A : Option Addr) (n c : Nat) (us ys : List Int) (w : World) (h : Sh w w.heap.size A n us ys) (hn : n ≤ 100) (h0 : errL p [us, ys] = 0) :
    Calls Tryd.prog 58 #[.agg #[.int .i64 p], .slice A n c] w (ItpPost p us ys w) := by
  have HLA := Lib.hid h.1
  have HLY := Lib.hid h.2.1
  have hI := h.2.2
  obtain ⟨i0, hi0, hz0, hz1, hz2⟩ := info_parts info_int
  have H0 := Lib.hid h0
  have HA := Lib.hid (errL_two h0).2.1.1
  have HY := Lib.hid (errL_two h0).2.2.1
  have HO := Lib.hid (errL_two h0).1
  have hp := okP_pos (errL_two h0).1
  clear h h0
  go_enter Tryd.func58, Tryd.ntmps58
  go_wp2
  have hbb0 : Below w.heap.size w (w.alloc (.cells #[.int .i64 p] 24)) := bbox _
  go_loopw [6, 7, 27] (fun r1 r2 i wr => ∃ (k : Nat) (A1 A2 : Option Addr) (c1 c2 : Nat), k ≤ n ∧ r1 = .slice A1 k c1 ∧ r2 = .slice A2 k c2 ∧ i = .int .i64 k ∧ Hid (Two wr (w.alloc (.cells #[.int .i64 p] 24)).heap.size 3 A1 k c1 (us.take k) A2 k c2 (ys.take k)) ∧ Below (w.alloc (.cells #[.int .i64 p] 24)).heap.size (w.alloc (.cells #[.int .i64 p] 24)) wr) (fun _ _ i _ => n - (intOf i).toNat)
  case atStart => exact ⟨0, none, none, 0, 0, Nat.zero_le _, rfl, rfl, rfl, Lib.hid Two.nil_, Below.refl _ _⟩
  case round =>
    obtain ⟨k, A1, A2, c1, c2, hk, rfl, rfl, rfl, HT, hbf⟩ := hrel
    have hb := bnext hbb0 hbf
    by_cases hlt : k < n
    · obtain ⟨b, off, rfl, hbl, hcell⟩ := hI (by omega)
      have hcA := (hb.cell (p := ⟨b, off + k * 2, none⟩) hbl).trans (hcell k hlt).1
      have hcY := (hb.cell (p := ⟨b, off + k * 2 + 1, none⟩) hbl).trans (hcell k hlt).2
      clear hcell
      have HU := Lib.hid (take_succ_getD us k (by rw [HLA.out]; exact hlt))
      have HV := Lib.hid (take_succ_getD ys k (by rw [HLY.out]; exact hlt))
      generalize us.getD k 0 = u at *
      generalize ys.getD k 0 = v at *
      have HTQ : Hid (Two (wr.alloc (.cells #[.int .i64 u, .int .i64 v] 85)) (w.alloc (.cells #[.int .i64 p] 24)).heap.size 3 A1 k c1 (us.take k) A2 k c2 (ys.take k)) := Lib.hid (HT.out.alloc _)
      have HSQ : S2 wr.heap.size u v (wr.alloc (.cells #[.int .i64 u, .int .i64 v] 85)) := ⟨((Blk.new wr _ _).cell 0).trans rfl, ((Blk.new wr _ _).cell 1).trans rfl⟩
      have hbq := ballocs hbf (.cells #[.int .i64 u, .int .i64 v] 85)
      have hn1 : (Value.slice A1 k c1).ownBlock ≠ some wr.heap.size := fun e => by have := (World.ownsRow.lt HT.out.1 _ e).2; omega
      have hn2 : (Value.slice A2 k c2).ownBlock ≠ some wr.heap.size := fun e => by have := (World.ownsRow.lt HT.out.2.1 _ e).2; omega
      go_wp2
      --ARMS
      go_region_held3 (fun w' => w'.cell? ⟨wr.heap.size, 0, none⟩ = some (.int .i64 u) ∧ w'.cell? ⟨wr.heap.size, 1, none⟩ = some (.int .i64 v)) (first | exact HSQ.drew | exact HS8 | exact HSQ | exact HSQ.drew.alloc _ | exact (HSQ.drew.alloc _).alloc _ | exact HS8.alloc _ | exact HS9)
        (first
          | ((refine step_append_twoG (w := (wr.alloc (.cells #[.int .i64 u, .int .i64 v] 85)).drew.alloc (.cells #[.int .i64 u] 3)) rfl (.tmp 31) (.tmp 34) 22 rfl (w.alloc (.cells #[.int .i64 p] 24)).heap.size 3 i0 _ Tryd.underlying22 hi0 hz0 hz1 hz2 rfl A1 k c1 (us.take k) A2 k c2 (ys.take k) (HTQ.out.drew.alloc _) (by simp [Act.eval]) (wr.heap.size + 1) 1 u (by simp [Act.eval]) (Ints.oneAt _ u _ (wr.heap.size + 1) (by simp)) (by omega) (le_alloc hbq.drew.size _) ?_); intro A3 c3 w8 hT8 hb8 hg8 hs8; have HS8 := S2.grown (HSQ.drew.alloc _) hg8 hn1; have hbb8 := (hbq.drew.alloc hbq.drew.size (.cells #[.int .i64 u] 3)).trans hb8)
          | ((refine step_append_twoG (w := ((wr.alloc (.cells #[.int .i64 u, .int .i64 v] 85)).drew.alloc (.cells #[.int .i64 u] 3)).alloc (.cells #[.int .i64 v] 3)) rfl (.tmp 31) (.tmp 34) 22 rfl (w.alloc (.cells #[.int .i64 p] 24)).heap.size 3 i0 _ Tryd.underlying22 hi0 hz0 hz1 hz2 rfl A1 k c1 (us.take k) A2 k c2 (ys.take k) ((HTQ.out.drew.alloc _).alloc _) (by simp [Act.eval]) (wr.heap.size + 1) 1 u (by simp [Act.eval]) ((Ints.oneAt _ u _ (wr.heap.size + 1) (by simp)).upto (bbox _)) (by omega) (le_alloc (le_alloc hbq.drew.size _) _) ?_); intro A3 c3 w8 hT8 hb8 hg8 hs8; have HS8 := S2.grown ((HSQ.drew.alloc _).alloc _) hg8 hn1; have hbb8 := ((hbq.drew.alloc hbq.drew.size (.cells #[.int .i64 u] 3)).alloc (hbq.drew.alloc hbq.drew.size (.cells #[.int .i64 u] 3)).size (.cells #[.int .i64 v] 3)).trans hb8; have hsy := hs8 (wr.heap.size + 1 + 1) v (Src.new HTQ.out.drew (by first | (simp; done) | (simp; omega)) (Ints.oneAt _ v _ (wr.heap.size + 1 + 1) (by simp))))
          | ((refine step_append_twoG (w := ((wr.alloc (.cells #[.int .i64 u, .int .i64 v] 85)).drew.alloc (.cells #[.int .i64 v] 3)).alloc (.cells #[.int .i64 u] 3)) rfl (.tmp 31) (.tmp 34) 22 rfl (w.alloc (.cells #[.int .i64 p] 24)).heap.size 3 i0 _ Tryd.underlying22 hi0 hz0 hz1 hz2 rfl A1 k c1 (us.take k) A2 k c2 (ys.take k) ((HTQ.out.drew.alloc _).alloc _) (by simp [Act.eval]) (wr.heap.size + 1 + 1) 1 u (by simp [Act.eval]) (Ints.oneAt _ u _ (wr.heap.size + 1 + 1) (by simp)) (by omega) (le_alloc (le_alloc hbq.drew.size _) _) ?_); intro A3 c3 w8 hT8 hb8 hg8 hs8; have HS8 := S2.grown ((HSQ.drew.alloc _).alloc _) hg8 hn1; have hbb8 := ((hbq.drew.alloc hbq.drew.size (.cells #[.int .i64 v] 3)).alloc (hbq.drew.alloc hbq.drew.size (.cells #[.int .i64 v] 3)).size (.cells #[.int .i64 u] 3)).trans hb8; have hsy := hs8 (wr.heap.size + 1) v (Src.new HTQ.out.drew (by first | (simp; done) | (simp; omega)) ((Ints.oneAt _ v _ (wr.heap.size + 1) (by simp)).upto (bbox _))))
          | ((refine step_append_twoG (w := w8.alloc (.cells #[.int .i64 v] 3)) rfl (.tmp 36) (.tmp 39) 22 rfl (w.alloc (.cells #[.int .i64 p] 24)).heap.size 3 i0 _ Tryd.underlying22 hi0 hz0 hz1 hz2 rfl A2 k c2 (ys.take k) A3 (k + 1) c3 (us.take k ++ [u]) (hT8.swap.alloc _) (by simp [Act.eval]) w8.heap.size 1 v (by simp [Act.eval]) (Ints.oneAt _ v _ w8.heap.size (by simp)) (by omega) (le_alloc hbb8.size _) ?_); intro A4 c4 w9 hT hb9 hg9 _; have HS9 := S2.grown (HS8.alloc _) hg9 hn2; have hTT := hT.swap; have hbb := (hbb8.alloc hbb8.size _).trans hb9)
          | ((refine step_append_twoG (w := w8) rfl (.tmp 36) (.tmp 39) 22 rfl (w.alloc (.cells #[.int .i64 p] 24)).heap.size 3 i0 _ Tryd.underlying22 hi0 hz0 hz1 hz2 rfl A2 k c2 (ys.take k) A3 (k + 1) c3 (us.take k ++ [u]) hT8.swap (by simp [Act.eval]) (wr.heap.size + 1) 1 v (by simp [Act.eval]) hsy.1 (by omega) hbb8.size ?_); intro A4 c4 w9 hT hb9 hg9 _; have HS9 := S2.grown HS8 hg9 hn2; have hTT := hT.swap; have hbb := hbb8.trans hb9)
          | ((refine step_append_twoG (w := w8) rfl (.tmp 36) (.tmp 39) 22 rfl (w.alloc (.cells #[.int .i64 p] 24)).heap.size 3 i0 _ Tryd.underlying22 hi0 hz0 hz1 hz2 rfl A2 k c2 (ys.take k) A3 (k + 1) c3 (us.take k ++ [u]) hT8.swap (by simp [Act.eval]) (wr.heap.size + 1 + 1) 1 v (by simp [Act.eval]) hsy.1 (by omega) hbb8.size ?_); intro A4 c4 w9 hT hb9 hg9 _; have HS9 := S2.grown HS8 hg9 hn2; have hTT := hT.swap; have hbb := hbb8.trans hb9))
      --END
      all_goals
        go_wp2
        go_roundw
        case rel => exact ⟨k + 1, A3, A4, c3, c4, by omega, rfl, rfl, by go_num, Lib.hid (by rw [HU.out, HV.out]; exact hTT), hbb⟩
        case measure => simp [intOf]; omega
    · have hkn : k = n := by omega
      subst hkn
      have hT := HT.out
      rw [List.take_of_length_le (by rw [HLA.out]; omega), List.take_of_length_le (by rw [HLY.out]; omega)] at hT
      have hJ1 := hT.1.ints
      have hJ2 := hT.2.1.ints
      have hF := (Blk.new w 24 #[.int .i64 p]).below hbf (by simp)
      have hc0 : wr.cell? ⟨w.heap.size, 0, none⟩ = some (.int .i64 p) := (hF.cell 0).trans rfl
      have hcap1 := OwnI.cap hT.1
      clear HT hI hT hbb0
      go_wp2_with (go_at_call 51; refine (rlists_any p _ 2 2 [us, ys] _ (by exact Mat.two _ A1 A2 k k c1 c2 us ys 22 _ (by simp) hJ1 hJ2 (by omega) (by omega)) (by omega)).mono ?_; rw [H0.out]; rintro e w1 ⟨rfl, hb1⟩
                   have hbb1 := bnext (ballocs hb (.cells #[.slice A1 k c1, .slice A2 k c2] 22)) hb1
                   have hK1 := (hJ1.upto (bbox (.cells #[.slice A1 k c1, .slice A2 k c2] 22))).upto hb1
                   have hK2 := (hJ2.upto (bbox (.cells #[.slice A1 k c1, .slice A2 k c2] 22))).upto hb1
                   have hF1 := (hF.alloc (.cells #[.slice A1 k c1, .slice A2 k c2] 22)).below hb1 (hF.alloc _).lt
                   clear hb1)
      clear hJ1 hJ2 hb hc0 hF
      go_loopw [52] (fun i wx => ∃ (j q : Nat), j ≤ k ∧ i = .int .i64 j ∧ Hid (Dist (us.take j)) ∧ wx = w1.drewN q) (fun i _ => k - (intOf i).toNat)
      case atStart => exact ⟨0, 0, Nat.zero_le _, rfl, Lib.hid (fun a b _ hb => by simp at hb), rfl⟩
      case round =>
        obtain ⟨j, q, hj, rfl, HDJ, rfl⟩ := hrel
        by_cases hlt2 : j < k
        · obtain ⟨b1, o1, rfl, hb1, hc1⟩ := hK1.2 (by omega)
          have hcx := hc1 j hlt2
          have HC1 := Lib.hid hc1
          clear hc1
          have HDN : Hid (us.getD j 0 ∉ us.take j → Dist (us.take (j + 1))) := Lib.hid (fun hn => Dist.take_succ (by rw [HLA.out]; exact hlt2) HDJ.out hn)
          have HDX : Hid (us.getD j 0 ∈ us.take j → ¬ Dist us) := Lib.hid (fun hm hD => by
            obtain ⟨i, hi, hil, e⟩ := take_mem hm
            exact hD i j hi (by rw [HLA.out]; exact hlt2) e)
          have HMM : Hid (∀ i, i < j → us.getD i 0 = us.getD j 0 → us.getD j 0 ∈ us.take j) := Lib.hid (fun i hi e => by
            rw [← e, List.getD_eq_getElem?_getD, List.getElem?_eq_getElem (by rw [HLA.out]; omega)]
            exact List.mem_take_iff_getElem.2 ⟨i, by rw [HLA.out]; omega, rfl⟩)
          have HMN : Hid ((∀ i, i < j → us.getD i 0 ≠ us.getD j 0) → us.getD j 0 ∉ us.take j) := Lib.hid (fun ha hm => by
            obtain ⟨i, hi, hil, e⟩ := take_mem hm
            exact ha i hi e)
          have hj0 : (0 : Int) ≤ (j : Int) := by omega
          have hjk : (j : Int) < (k : Int) := by omega
          have hjc : (j : Int) ≤ (c1 : Int) := by omega
          go_wp2
          go_loopw [59] (fun i wy => ∃ (i2 q2 : Nat), i2 ≤ j ∧ i = .int .i64 i2 ∧ Hid (∀ i, i < i2 → us.getD i 0 ≠ us.getD j 0) ∧ wy = w1.drewN q2) (fun i _ => j - (intOf i).toNat)
          case atStart => exact ⟨0, q, Nat.zero_le _, rfl, Lib.hid (fun i hi => absurd hi (by omega)), rfl⟩
          case round =>
            obtain ⟨i2, q2, hi2, rfl, HNE, rfl⟩ := hrel
            by_cases hlt3 : i2 < j
            · have hcz := HC1.out i2 (by omega)
              have hi20 : (0 : Int) ≤ (i2 : Int) := by omega
              have hi2k : (i2 : Int) < (k : Int) := by omega
              have HM2 := Lib.hid (HMM.out i2 hlt3)
              have HN2 : Hid (us.getD i2 0 ≠ us.getD j 0 → ∀ i, i < i2 + 1 → us.getD i 0 ≠ us.getD j 0) := Lib.hid (fun hne i hi => by
                rcases Nat.lt_or_ge i i2 with h1 | h1
                · exact HNE.out i h1
                · obtain rfl : i = i2 := by omega
                  exact hne)
              obtain ⟨x, HX⟩ : ∃ x, Hid (us.getD j 0 = x) := ⟨_, Lib.hid rfl⟩
              obtain ⟨z, HZ⟩ : ∃ z, Hid (us.getD i2 0 = z) := ⟨_, Lib.hid rfl⟩
              rw [HX.out] at hcx
              rw [HZ.out] at hcz
              by_cases hxz : z = x
              · have HDD : Hid (¬ Dist us) := Lib.hid (HDX.out (HM2.out (by rw [HX.out, HZ.out]; exact hxz)))
                subst hxz
                clear HX HZ
                go_wp2
                go_quiet (fail)
                go_wp2
                go_ret2
                exact .inr (.inl ⟨H0.out, HDD.out, rfl, below_drewN (below_drewN hbb1 q2) _⟩)
              · have HN3 := Lib.hid (HN2.out (by rw [HX.out, HZ.out]; exact hxz))
                have hxb : (x == z) = false := by simp; exact fun e => hxz e.symm
                clear hxz
                go_wp2
                go_quiet (fail)
                go_wp2
                go_roundw
                case rel => exact ⟨i2 + 1, _, by omega, by go_num, HN3, rfl⟩
                case measure => simp [intOf]; omega
            · obtain rfl : i2 = j := by omega
              have HD2 := Lib.hid (HDN.out (HMN.out HNE.out))
              go_wp2
              go_roundw
              case rel => exact ⟨i2 + 1, q2, by omega, by go_num, HD2, rfl⟩
              case measure => simp [intOf]; omega
        · have hjk : j = k := by omega
          subst hjk
          have HDI : Hid (Dist us) := Lib.hid (by have := HDJ.out; rwa [List.take_of_length_le (by rw [HLA.out]; omega)] at this)
          have hL1 := (hK1.drewN q).upto (bbox (w0 := w1.drewN q) (.cells #[.int .i64 1] 3))
          have hL2 := (hK2.drewN q).upto (bbox (w0 := w1.drewN q) (.cells #[.int .i64 1] 3))
          have hbw3 := ballocs (below_drewN hbb1 q) (.cells #[.int .i64 1] 3)
          have hF3 := (Blk.drewN hF1 q).alloc (.cells #[.int .i64 1] 3)
          have HS := Lib.hid (Itp.start hp.1 us ys)
          have hN0 : Ints ((w1.drewN q).alloc (.cells #[.int .i64 1] 3)) ((w1.drewN q).alloc (.cells #[.int .i64 1] 3)).heap.size (some ⟨w1.heap.size, 0, none⟩) 1 [1] := Ints.oneAt (w1.drewN q) 1 3 _ rfl
          clear hK1 hK2 HDJ hbb1 hF1
          go_wp2_with fail
          obtain ⟨g3, hg3⟩ : ∃ g3, w1.heap.size = g3 := ⟨_, rfl⟩
          obtain ⟨w3, hw3⟩ : ∃ w3, (w1.drewN q).alloc (.cells #[.int .i64 1] 3) = w3 := ⟨_, rfl⟩
          rw [hw3] at hL1 hL2 hbw3 hF3 hN0
          rw [hg3] at hN0
          rw [hw3, hg3]
          clear hw3 hg3
          have hFl3 := hF3.lt
          go_loopw [13, 14, 76] (fun v1 v2 i wz => ∃ (k nn : Nat) (P N : Option Addr) (pc nc : Nat) (poly node : List Int), k ≤ j ∧ nn = k + 1 ∧ k ≤ pc ∧ v1 = .slice P k pc ∧ v2 = .slice N nn nc ∧ i = .int .i64 k ∧ Ints wz wz.heap.size P k poly ∧ Ints wz wz.heap.size N nn node ∧ Hid (Itp p us ys poly node k) ∧ Below w3.heap.size w3 wz) (fun _ _ i _ => j - (intOf i).toNat)
          case atStart => exact ⟨0, 1, none, some ⟨g3, 0, none⟩, 0, 1, [], [1], Nat.zero_le _, rfl, Nat.le_refl _, rfl, rfl, rfl, Ints.nil_, hN0, HS, Below.refl _ _⟩
          case round =>
            obtain ⟨k, nn, P, N, pc, nc, poly, node, hkj, hnn, hkpc, rfl, rfl, rfl, hIP, hIN, HI, hbz⟩ := hrel
            have HNN := Lib.hid hnn
            have hnn2 : 0 < nn ∧ nn ≤ 200 := by omega
            clear hnn
            by_cases hlt3 : k < j
            · obtain ⟨b1, o1, rfl, hb1, hc1⟩ := hL1.2 (by omega)
              obtain ⟨b2, o2, rfl, hb2, hc2⟩ := hL2.2 (by omega)
              have hcx := (hbz.cell (p := ⟨b1, o1 + k, none⟩) hb1).trans (hc1 k hlt3)
              have HCY : Hid (∀ wx, Below w3.heap.size w3 wx → wx.cell? ⟨b2, o2 + k, none⟩ = some (.int .i64 (ys.getD k 0))) := Lib.hid fun wx hx => (hx.cell (p := ⟨b2, o2 + k, none⟩) hb2).trans (hc2 k hlt3)
              have HCF : Hid (∀ wx, Below w3.heap.size w3 wx → wx.cell? ⟨w.heap.size, 0, none⟩ = some (.int .i64 p)) := Lib.hid fun wx hx => ((hF3.below hx hFl3).cell 0).trans rfl
              clear hc1 hc2
              have hxe := allP_getD HA.out (k := k) (by rw [HLA.out]; exact hlt3)
              have hye := allP_getD HY.out (k := k) (by rw [HLY.out]; exact hlt3)
              have hvn := HI.out.new HO.out HA.out (by rw [HLA.out]; exact hlt3) (fun a b h1 h2 => HDI.out a b h1 h2)
              have HSTEP : Hid (∀ inv, Cong p (valueP p (us.getD k 0) node * inv) 1 → Itp p us ys (addTo p (mulP p (subP p (ys.getD k 0) (valueP p (us.getD k 0) poly)) inv) 0 node (poly ++ List.replicate 1 0) (k + 1)) (rawMul p node [subP p 0 (us.getD k 0), 1]) (k + 1)) :=
                Lib.hid fun inv hv => HI.out.step HO.out HA.out HY.out (by rw [HLA.out]; exact hlt3) (by rw [HLY.out]; exact hlt3) hv
              have HAP := Lib.hid HI.out.ap
              have HAN := Lib.hid HI.out.an
              have HNL : Hid (node.length = nn) := Lib.hid (by rw [HNN.out]; exact HI.out.ln)
              have HPL : Hid (poly.length = k) := Lib.hid HI.out.lp
              have hpu := valueP_in hp.1 (us.getD k 0) poly
              obtain ⟨u, HVP⟩ : ∃ u, Hid (valueP p (us.getD k 0) poly = u) := ⟨_, Lib.hid rfl⟩
              obtain ⟨v, HVN⟩ : ∃ v, Hid (valueP p (us.getD k 0) node = v) := ⟨_, Lib.hid rfl⟩
              rw [HVP.out] at hpu
              rw [HVN.out] at hvn
              have HST2 : Hid (∀ inv, Cong p (v * inv) 1 → Itp p us ys (addTo p (mulP p (subP p (ys.getD k 0) u) inv) 0 node (poly ++ List.replicate 1 0) (k + 1)) (rawMul p node [subP p 0 (us.getD k 0), 1]) (k + 1)) := Lib.hid fun inv hv => by
                have := HSTEP.out inv (by rw [HVN.out]; exact hv)
                rwa [HVP.out] at this
              have HWZ : Hid (wideK p (us.getD k 0) node 0 = List.replicate (nn + 1) 0) := Lib.hid (by rw [wideK_zero, HNL.out])
              have HWA : Hid (wideK p (us.getD k 0) node nn = rawMul p node [subP p 0 (us.getD k 0), 1]) := Lib.hid (by rw [← HNL.out]; exact wideK_all (hwp := HAN.out) p _ node (by rw [HNL.out]; exact hnn2.1) hp.1)
              have HWS : Hid (∀ i, i < nn → ((wideK p (us.getD k 0) node i).set (i + 1) ((cf (wideK p (us.getD k 0) node i) (i + 1) + cf node i) % p)).set i ((cf ((wideK p (us.getD k 0) node i).set (i + 1) ((cf (wideK p (us.getD k 0) node i) (i + 1) + cf node i) % p)) i + (p - us.getD k 0) * cf node i) % p) = wideK p (us.getD k 0) node (i + 1)) := Lib.hid fun i hi => wideK_step hp.1 hxe HAN.out (by rw [HNL.out]; exact hi)
              have HWP : Hid (∀ i, allP p (wideK p (us.getD k 0) node i) = true) := Lib.hid fun i => wideK_allP hp.1 _ HAN.out i
              have HWL : Hid (∀ i, (wideK p (us.getD k 0) node i).length = nn + 1) := Lib.hid fun i => by rw [wideK_len, HNL.out]
              clear HSTEP HI
              generalize us.getD k 0 = x at *
              generalize ys.getD k 0 = y at *
              have hsu := subP_in y u hp.1
              have hk0 : (0 : Int) ≤ (k : Int) := by omega
              have hkj1 : (k : Int) < (j : Int) := by omega
              have hcf0 := HCF.out wr hbz
              have hcf1 : wr.drew.cell? ⟨w.heap.size, 0, none⟩ = some (.int .i64 p) := hcf0
              have hIPd : Ints wr.drew wr.drew.heap.size P k poly := hIP.drew
              have hINd : Ints wr.drew wr.drew.heap.size N nn node := hIN.drew
              go_wp2_with fail
              go_region_held3 (fun w' => w'.cell? ⟨w.heap.size, 0, none⟩ = some (.int .i64 p)) (first | exact hcf0 | exact hcf1 | exact hcf4 | exact hcf5)
                (first
                  | (go_at_call 73; (with_reducible refine (rvalue_all p x P k pc poly wr.drew hp hxe hIPd HAP.out (by omega)).mono ?_); rintro e w4 ⟨rfl, hb4⟩
                     rw [HVP.out]
                     have hbz4 := hbz.drew.trans (hb4.mono hbz.size)
                     have hcf4 := HCF.out w4 hbz4
                     have hIN4 := hINd.upto hb4
                     have hIP4 := hIPd.upto hb4)
                  | (go_at_call 73; (with_reducible refine (rvalue_all p x N nn nc node w4 hp hxe hIN4 HAN.out (by omega)).mono ?_); rintro e w5 ⟨rfl, hb5⟩
                     rw [HVN.out]
                     have hbz5 := bnext hbz4 hb5
                     have hcf5 := HCF.out w5 hbz5
                     have hIN5 := hIN4.upto hb5
                     have hIP5 := hIP4.upto hb5))
              rename_i K hk hHeld
              clear hHeld
              refine hk _ _ ?_
              clear hk
              have hcy5 := HCY.out w5 hbz5
              have hcy5d : w5.drew.cell? ⟨b2, o2 + k, none⟩ = some (.int .i64 y) := hcy5
              have hcf5d : w5.drew.cell? ⟨w.heap.size, 0, none⟩ = some (.int .i64 p) := hcf5
              have hq1 : IntKind.i64.wrap (y + p) = y + p := IntWalk.i64_in _ (by omega)
              have hq2 : IntKind.i64.wrap (y + p - u) = y + p - u := IntWalk.i64_in _ (by omega)
              obtain ⟨s, HS2⟩ : ∃ s, Hid (subP p y u = s) := ⟨_, Lib.hid rfl⟩
              rw [HS2.out] at hsu
              have hq3 : (y + p - u).tmod p = s := by rw [Int.tmod_eq_emod_of_nonneg (by omega), sub_as]; exact HS2.out
              have hp0 : ¬ p = 0 := by omega
              have hvi : 0 < v ∧ v < p := hvn
              go_wp2_with fail
              go_region_held3 (fun w' => w'.cell? ⟨b2, o2 + k, none⟩ = some (.int .i64 y) ∧ w'.cell? ⟨w.heap.size, 0, none⟩ = some (.int .i64 p)) (first | exact ⟨hcy5, hcf5⟩ | exact ⟨hcy5d, hcf5d⟩ | exact ⟨hcy6, hcf6⟩)
                ((go_at_call 57; refine (rinv_ok p v _ HO.out hvi).mono ?_; rintro e w6 ⟨⟨inv, rfl, hinv, HINV⟩, hb6⟩
                  have hbz6 := bnext hbz5.drew hb6
                  have hcf6 := HCF.out w6 hbz6
                  have hcy6 := HCY.out w6 hbz6
                  have hIN6 := hIN5.drew.upto hb6
                  have hIP6 := hIP5.drew.upto hb6
                  have hsi : 0 ≤ s * inv ∧ s * inv ≤ 65521 * 65521 := ⟨Int.mul_nonneg hsu.1 hinv.1, by have := Int.mul_le_mul (show s ≤ 65521 by omega) (show inv ≤ 65521 by omega) hinv.1 (by omega); omega⟩
                  have hq4 : IntKind.i64.wrap (s * inv) = s * inv := IntWalk.i64_in _ (by omega)
                  obtain ⟨by_, HBY⟩ : ∃ by_, Hid (s * inv % p = by_) := ⟨_, Lib.hid rfl⟩
                  have hq5 : (s * inv).tmod p = by_ := by rw [Int.tmod_eq_emod_of_nonneg (by omega)]; exact HBY.out))
              rename_i K2 hk2 hHeld2
              clear hHeld2
              refine hk2 _ _ ?_
              clear hk2
              have HITP : Hid (Itp p us ys (addTo p by_ 0 node (poly ++ List.replicate 1 0) (k + 1)) (rawMul p node [subP p 0 x, 1]) (k + 1)) := Lib.hid (by
                have := HST2.out inv HINV.out
                rw [HS2.out] at this
                have e : mulP p s inv = by_ := HBY.out
                rwa [e] at this)
              have hby := emod_in hp.1 (s * inv)
              rw [HBY.out] at hby
              have HDR : Hid ((List.replicate nn (0 : Int)).drop k = List.replicate 1 0) := Lib.hid (by rw [HNN.out]; simp)
              have HAZ : Hid (allP p (poly ++ List.replicate 1 0) = true) := Lib.hid (allP_append.2 ⟨HAP.out, allP_iff.2 (by simp; omega)⟩)
              have HPZ : Hid ((poly ++ List.replicate 1 (0 : Int)).length = nn) := Lib.hid (by rw [List.length_append, HPL.out, List.length_replicate, HNN.out])
              have hkn2 : k ≤ nn := by have := HNN.out; omega
              have hb6w := bnext hbw3 hbz6
              have hF6 := hF3.below hbz6 hFl3
              obtain ⟨b3, o3, rfl, hb3, hc3⟩ := hIN6.2 hnn2.1
              clear hc3 hb4 hcf4 hIN4 hIP4 hbz4 hb5 hbz5 hcf5 hcy5 hIN5 hIP5 hcy5d hcf5d hcx HCY HCF HST2 hIPd hINd HVP HVN hIP hIN hbz hcf0 hcf1 hb6 hcf6 hcy6 hq1 hq2 hq3 hq4 hq5 hsi HBY HS2 HINV hvi hvn hpu hsu hinv
              go_wp2_with (first
                | (at_make
                   refine wpList_make_full _ rfl _ _ 22 rfl w3.heap.size 3 i0 (.int .i64 0) 1 Tryd.underlying22 hi0 hz0 hz1 .i64 .i64 _ _ nn rfl rfl (by first | rfl | omega) (by first | rfl | omega) (by rw [hz2]; omega) (by unfold maxLen; omega) hbz6.size ?_
                   intro w7 hown hgr
                   have hown7 : OwnI w7 w3.heap.size 3 (some ⟨w6.heap.size, 0, none⟩) nn nn (List.replicate nn 0) := by rw [zeros_made] at hown; exact hown
                   have hb67 : Below w6.heap.size w6 w7 := (Below.refl _ _).grown hgr (Nat.le_refl _) (fun k hk => by cases hk)
                   clear hown hgr)
                | ((with_reducible refine wpList_copy_ints rfl (.tmp 111) (.tmp 112) 22 rfl 3 Tryd.underlying22 (by rw [hi0]; simp [hz1]) w3.heap.size w6.heap.size w6.heap.size nn _ poly P k pc rfl rfl hown7 (hIP6.below hb67) hkn2 ?_)
                   intro w8 hown8 hS8
                   rw [HDR.out] at hown8
                   have hb68 := Step.below hb67 hS8 hb67.size (Nat.le_refl _)))
              have hIN8 := hIN6.upto hb68
              have hF8 := hF6.below hb68 hF6.lt
              have hbz8 := bnext hbz6 hb68
              have hg6 : w.heap.size < w6.heap.size := hF6.lt
              have hg63 : w3.heap.size ≤ w6.heap.size := hbz6.size
              obtain ⟨gn, hgn⟩ : ∃ gn, w6.heap.size = gn := ⟨_, rfl⟩
              rw [hgn] at hown8 hg6 hg63 hb3
              rw [hgn]
              clear hgn hown7 hb67 hS8 hb68 hbz6 hb6w hF6 hIP6 hIN6
              go_loopw [116] (fun i wz => ∃ j2 : Nat, j2 ≤ nn ∧ i = .int .i64 j2 ∧ OwnI wz w3.heap.size 3 (some ⟨gn, 0, none⟩) nn nn (addTo p by_ 0 node (poly ++ List.replicate 1 0) j2) ∧ Step gn w8 wz) (fun i _ => nn - (intOf i).toNat)
              case atStart => exact ⟨0, Nat.zero_le _, rfl, by rw [addTo_zero]; exact hown8, Step.refl _ _⟩
              case round =>
                obtain ⟨j2, hj2, rfl, hownj, hSj⟩ := hrel
                have hINj := hIN8.grownAt hSj (by simp; omega)
                have hFj := Step.block hSj hF8 (by omega)
                by_cases hlt2 : j2 < nn
                · obtain ⟨b4, o4, e4, hb4, hc4⟩ := hINj.2 (by omega)
                  injection e4 with e4
                  injection e4 with e5 e6 _
                  subst e5 e6
                  have hcy := hc4 j2 hlt2
                  clear hc4
                  have hye := allP_getD HAN.out (k := j2) (by rw [HNL.out]; exact hlt2)
                  have hcf : wr.cell? ⟨w.heap.size, 0, none⟩ = some (.int .i64 p) := (hFj.cell 0).trans rfl
                  have hct := hownj.cellAt (j := 0 + j2) (by omega)
                  rw [addTo_at p by_ 0 node _ j2 (by rw [HPZ.out]; omega)] at hct
                  have hfz := hownj.frozenAt (0 + j2)
                  have hte := allP_getD HAZ.out (k := 0 + j2) (by rw [HPZ.out]; omega)
                  have hst := hownj.stored (0 + j2) (timesP p by_ ((poly ++ List.replicate 1 (0 : Int)).getD (0 + j2) 0) (node.getD j2 0))
                  rw [addTo_set p by_ 0 node _ j2 (by rw [HPZ.out]; omega)] at hst
                  rw [Nat.zero_add] at hct hfz hte hst
                  obtain ⟨y2, HY2⟩ : ∃ y2, Hid (node.getD j2 0 = y2) := ⟨_, Lib.hid rfl⟩
                  obtain ⟨t, HT⟩ : ∃ t, Hid ((poly ++ List.replicate 1 (0 : Int)).getD j2 0 = t) := ⟨_, Lib.hid rfl⟩
                  rw [HY2.out] at hcy hye hst
                  rw [HT.out] at hct hte hst
                  obtain ⟨v2, HV⟩ : ∃ v2, Hid (timesP p by_ t y2 = v2) := ⟨_, Lib.hid rfl⟩
                  rw [HV.out] at hst
                  have hxy : 0 ≤ by_ * y2 ∧ by_ * y2 ≤ 65521 * 65521 := ⟨Int.mul_nonneg (by omega) hye.1, by have := Int.mul_le_mul (show by_ ≤ 65521 by omega) (show y2 ≤ 65521 by omega) hye.1 (by omega); omega⟩
                  have hvt : (t + by_ * y2).tmod p = v2 := by rw [Int.tmod_eq_emod_of_nonneg (by omega), times_raw hp.1]; exact HV.out
                  have hw1 : IntKind.i64.wrap (by_ * y2) = by_ * y2 := IntWalk.i64_in _ (by omega)
                  have hw2 : IntKind.i64.wrap (t + by_ * y2) = t + by_ * y2 := IntWalk.i64_in _ (by omega)
                  have hj0' : (0 : Int) ≤ (j2 : Int) := by omega
                  have hjb : (j2 : Int) < (nn : Int) := by omega
                  have HSX := Lib.hid hst.drew
                  have hSj2 : Step gn w8 (wr.setCell ⟨gn, j2, none⟩ (.int .i64 v2)).drew := (hSj.set j2 _).drew
                  clear hst hxy
                  go_wp2_with fail
                  go_region
                  go_wp2
                  go_roundw
                  case rel => exact ⟨j2 + 1, by omega, by go_num, HSX.out, hSj2⟩
                  case measure => simp [intOf]; omega
                · obtain rfl : j2 = nn := by omega
                  have hbj := Step.below hbz8 hSj hbz8.size (by omega)
                  obtain ⟨nw, hnw⟩ : ∃ nw, j2 + 1 = nw := ⟨_, rfl⟩
                  have hnwi : IntKind.i64.wrap ((j2 : Int) + 1) = (nw : Int) := by rw [IntWalk.i64_in _ (by omega)]; omega
                  have hnw2 : nw ≤ 300 := by omega
                  rw [hnw] at HWZ HWL
                  have HNW := Lib.hid hnw
                  clear hnw HAZ hown8 hIN8 hF8 hSj hbz8
                  go_wp2_with (at_make
                               refine wpList_make_full _ rfl _ _ 22 rfl w3.heap.size 3 i0 (.int .i64 0) 1 Tryd.underlying22 hi0 hz0 hz1 .i64 .i64 _ _ nw rfl rfl (by first | rfl | omega) (by first | rfl | omega) (by rw [hz2]; omega) (by unfold maxLen; omega) hbj.size ?_
                               intro w9 hown hgr
                               have hown9 : OwnI w9 w3.heap.size 3 (some ⟨wr.heap.size, 0, none⟩) nw nw (List.replicate nw 0) := by rw [zeros_made] at hown; exact hown
                               have hb89 : Below wr.heap.size wr w9 := (Below.refl _ _).grown hgr (Nat.le_refl _) (fun k hk => by cases hk)
                               clear hown hgr)
                  have hN9 := hownj.belowAll hb89
                  have hg8 := hownj.ints.lt (show 0 < j2 by omega)
                  have hb38 : b3 < wr.heap.size := hINj.lt (show 0 < j2 by omega)
                  have hIN9 := hINj.upto hb89
                  have hF9 := hFj.below hb89 hFj.lt
                  have hbz9 := bnext hbj hb89
                  have hg9 : w.heap.size < wr.heap.size := hFj.lt
                  have hg93 : w3.heap.size ≤ wr.heap.size := hbj.size
                  obtain ⟨gw, hgw⟩ : ∃ gw, wr.heap.size = gw := ⟨_, rfl⟩
                  rw [hgw] at hown9 hg9 hg93 hg8 hb38
                  rw [hgw]
                  clear hgw hb89 hownj hINj hFj hbj
                  go_loopw [144] (fun i wz => ∃ k2 : Nat, k2 ≤ j2 ∧ i = .int .i64 k2 ∧ OwnI wz w3.heap.size 3 (some ⟨gw, 0, none⟩) nw nw (wideK p x node k2) ∧ Step gw w9 wz) (fun i _ => j2 - (intOf i).toNat)
                  case atStart => exact ⟨0, Nat.zero_le _, rfl, by rw [HWZ.out]; exact hown9, Step.refl _ _⟩
                  case round =>
                    obtain ⟨k2, hk2, rfl, hownk, hSk⟩ := hrel
                    have hNk := hN9.kept hSk (.inr (by simp [Value.ownBlock]; omega))
                    have hINk := hIN9.grownAt hSk (by simp; omega)
                    have hFk := Step.block hSk hF9 (by omega)
                    by_cases hlt2 : k2 < j2
                    · obtain ⟨b4, o4, e4, hb4, hc4⟩ := hINk.2 (by omega)
                      injection e4 with e4
                      injection e4 with e5 e6 _
                      subst e5 e6
                      have hcy := hc4 k2 hlt2
                      clear hc4
                      have hnw := HNW.out
                      have hye := allP_getD HAN.out (k := k2) (by rw [HNL.out]; exact hlt2)
                      have hcf : wr.cell? ⟨w.heap.size, 0, none⟩ = some (.int .i64 p) := (hFk.cell 0).trans rfl
                      obtain ⟨z, hz⟩ : ∃ z, k2 + 1 = z := ⟨_, rfl⟩
                      have hzi : IntKind.i64.wrap ((k2 : Int) + 1) = (z : Int) := by rw [IntWalk.i64_in _ (by omega)]; omega
                      have hzN : (z : Int) < (nw : Int) := by omega
                      have hz0' : (0 : Int) ≤ (z : Int) := by omega
                      have hcz := hownk.cellAt (j := z) (by omega)
                      have hfzz := hownk.frozenAt z
                      have htw := allP_getD (HWP.out k2) (k := z) (by rw [HWL.out]; omega)
                      have htk := allP_getD (HWP.out k2) (k := k2) (by rw [HWL.out]; omega)
                      obtain ⟨y2, HY2⟩ : ∃ y2, Hid (node.getD k2 0 = y2) := ⟨_, Lib.hid rfl⟩
                      obtain ⟨t, HT⟩ : ∃ t, Hid ((wideK p x node k2).getD z 0 = t) := ⟨_, Lib.hid rfl⟩
                      obtain ⟨v1, HV1⟩ : ∃ v1, Hid ((t + y2) % p = v1) := ⟨_, Lib.hid rfl⟩
                      obtain ⟨l1, HL1⟩ : ∃ l1, Hid ((wideK p x node k2).set z v1 = l1) := ⟨_, Lib.hid rfl⟩
                      obtain ⟨t2, HT2⟩ : ∃ t2, Hid (l1.getD k2 0 = t2) := ⟨_, Lib.hid rfl⟩
                      obtain ⟨v2, HV2⟩ : ∃ v2, Hid ((t2 + (p - x) * y2) % p = v2) := ⟨_, Lib.hid rfl⟩
                      have HW2 : Hid (l1.set k2 v2 = wideK p x node (k2 + 1)) := Lib.hid (by
                        rw [← HV2.out, ← HT2.out, ← HL1.out, ← HV1.out, ← HT.out, ← HY2.out, ← hz]
                        exact HWS.out k2 hlt2)
                      have hte : t2 = (wideK p x node k2).getD k2 0 := by
                        rw [← HT2.out, ← HL1.out]
                        show cf _ _ = cf _ _
                        rw [cf_set, if_neg (by omega)]
                      rw [← hte] at htk
                      rw [HY2.out] at hcy hye
                      rw [HT.out] at hcz htw
                      have hst1 := hownk.stored z v1
                      rw [HL1.out] at hst1
                      have hcz2 := hst1.drew.cellAt (j := k2) (by omega)
                      rw [HT2.out] at hcz2
                      have hfz2 := hst1.drew.frozenAt k2
                      have hS1 : Step gw w9 (wr.setCell ⟨gw, z, none⟩ (.int .i64 v1)).drew := (hSk.set z _).drew
                      have hF1 := Step.block hS1 hF9 (by omega)
                      have hcf2 : (wr.setCell ⟨gw, z, none⟩ (.int .i64 v1)).drew.cell? ⟨w.heap.size, 0, none⟩ = some (.int .i64 p) := (hF1.cell 0).trans rfl
                      have hst2 := hst1.drew.stored k2 v2
                      rw [HW2.out] at hst2
                      have HST3 := Lib.hid hst2.drew
                      have hS2 : Step gw w9 ((wr.setCell ⟨gw, z, none⟩ (.int .i64 v1)).drew.setCell ⟨gw, k2, none⟩ (.int .i64 v2)).drew := (hS1.set k2 _).drew
                      have hw1 : IntKind.i64.wrap (t + y2) = t + y2 := IntWalk.i64_in _ (by omega)
                      have hv1 : (t + y2).tmod p = v1 := by rw [Int.tmod_eq_emod_of_nonneg (by omega)]; exact HV1.out
                      obtain ⟨d, hd⟩ : ∃ d, p - x = d := ⟨_, rfl⟩
                      have hw3 : IntKind.i64.wrap (p - x) = d := by rw [IntWalk.i64_in _ (by omega)]; exact hd
                      have hdin : 0 < d ∧ d ≤ p := by omega
                      rw [hd] at HV2
                      have hxy : 0 ≤ d * y2 ∧ d * y2 ≤ 65521 * 65521 := ⟨Int.mul_nonneg (by omega) hye.1, by have := Int.mul_le_mul (show d ≤ 65521 by omega) (show y2 ≤ 65521 by omega) hye.1 (by omega); omega⟩
                      have hw4 : IntKind.i64.wrap (d * y2) = d * y2 := IntWalk.i64_in _ (by omega)
                      have hw5 : IntKind.i64.wrap (t2 + d * y2) = t2 + d * y2 := IntWalk.i64_in _ (by omega)
                      have hv2 : (t2 + d * y2).tmod p = v2 := by rw [Int.tmod_eq_emod_of_nonneg (by omega)]; exact HV2.out
                      have hk20 : (0 : Int) ≤ (k2 : Int) := by omega
                      have hk2b : (k2 : Int) < (j2 : Int) := by omega
                      have hk2w : (k2 : Int) < (nw : Int) := by omega
                      have HZ := Lib.hid hz
                      clear hd hst1 hst2 hxy hte hF1 hS1 hownk hSk hNk hINk hFk hz
                      go_wp2_with fail
                      go_region
                      go_wp2_with fail
                      go_region
                      go_wp2
                      go_roundw
                      case rel => exact ⟨k2 + 1, by omega, by first | go_num | rw [HZ.out], HST3.out, hS2⟩
                      case measure => have hz := HZ.out; clear HZ; simp [intOf]; omega
                    · obtain rfl : k2 = j2 := by omega
                      have hbk := Step.below hbz9 hSk hbz9.size (by omega)
                      rw [HWA.out] at hownk
                      have hnw := HNW.out
                      have hnn := HNN.out
                      subst hnw
                      subst hnn
                      go_wp2
                      go_roundw
                      case rel => exact ⟨k + 1, k + 1 + 1, some ⟨gn, 0, none⟩, some ⟨gw, 0, none⟩, k + 1, k + 1 + 1, _, _, by omega, rfl, Nat.le_refl _, rfl, rfl, by go_num, hNk.ints, hownk.ints, HITP, hbk⟩
                      case measure => simp [intOf]; omega
            · obtain rfl : k = j := by omega
              have HD := Lib.hid (HI.out.done hp.1 HLA.out HLY.out HY.out)
              have HTL : Hid (tn poly k = (trimL poly).length) := Lib.hid (by rw [trimL_len, hIP.len])
              have hbwz := bnext hbw3 hbz
              clear HI
              go_wp2_with (go_at_call 52; refine (rtrim_any P k pc poly _ hIP hkpc (by omega)).mono ?_; rintro e w4 ⟨⟨A4, c4, rfl, hown4⟩, hb4⟩
                           rw [HTL.out] at hown4
                           rw [HTL.out])
              go_ret2
              exact .inr (.inr ⟨H0.out, HDI.out, trimL poly, A4, c4, rfl, hown4.base hbwz.size, HD.out, bnext hbwz hb4⟩)
theorem rinterp_all (p : Int) (A : Option Addr) (n c : Nat) (us ys : List Int) (w : World) (h : Sh w w.heap.size A n us ys) (hn : n ≤ 100) :
    Calls Tryd.prog 58 #[.agg #[.int .i64 p], .slice A n c] w (ItpPost p us ys w) := by
  by_cases h0 : errL p [us, ys] = 0
  · exact rinterp_ok p A n c us ys w h hn h0
  · refine (rinterp_err p A n c us ys w h hn h0).mono ?_
    rintro e w' ⟨rfl, hb⟩
    exact .inl ⟨h0, rfl, hb⟩
end Go.Proofs.YtnjdjcgandfnfaaDoor

/-! RFill -/
namespace Go.Proofs.YtnjdjcgandfnfaaDoor
open Go.RowKit
set_option linter.unusedVariables false

set_option maxRecDepth 100000 in
theorem rfill_err {p : Int} {A : Option Addr} {m c : Nat} {k : Int} {vs : List Int} {bs : List Bool} {w : World} (hp64 : -9223372036854775808 ≤ p ∧ p ≤ 9223372036854775807) (h : Cel w w.heap.size A m vs bs) (hm : m ≤ 1000) (hk64 : -9223372036854775808 ≤ k ∧ k ≤ 9223372036854775807) (he : beginE p vs bs k ≠ 0) :
    Calls Tryd.prog 35 #[.agg #[.int .i64 p], .slice A m c, .int .i64 k] w fun e w' => e = .returned (.tuple #[.slice none 0 0, .int .i64 (beginE p vs bs k)]) ∧ Below w.heap.size w w' := by
  have hb0 : Below w.heap.size w (w.alloc (.cells #[.int .i64 p] 24)) := bbox _
  have H0 := Lib.hid (h.upto hb0)
  obtain ⟨ce, hce⟩ : ∃ ce, beginE p vs bs k = ce := ⟨_, rfl⟩
  rw [hce] at he ⊢
  have h0 : ¬ ce = 0 := he
  have HCE := Lib.hid hce
  clear hce he
  go_enter Tryd.func35, Tryd.ntmps35
  go_wp2_with (go_at_call 49; refine (rbegin_all p A m c k vs bs _ hp64 H0.out hm hk64).mono ?_; rintro e w1 ⟨rfl, hb1⟩; rw [HCE.out]
               have hbb1 := bnext hb0 hb1)
  go_ret2
  exact ⟨rfl, hbb1⟩
set_option maxRecDepth 100000 in
theorem rfill_few {p : Int} {A : Option Addr} {m c k : Nat} {vs : List Int} {bs : List Bool} {w : World} (hp64 : -9223372036854775808 ≤ p ∧ p ≤ 9223372036854775807) (h : Cel w w.heap.size A m vs bs) (hm : m ≤ 32) (he : beginE p vs bs k = 0) (hkl : (knL vs bs).length < k) (hk : k ≤ 1000) :
    Calls Tryd.prog 35 #[.agg #[.int .i64 p], .slice A m c, .int .i64 k] w fun e w' => e = .returned (.tuple #[.slice none 0 0, .int .i64 11]) ∧ Below w.heap.size w w' := by
  have hb0 : Below w.heap.size w (w.alloc (.cells #[.int .i64 p] 24)) := bbox _
  have H0 := Lib.hid (h.upto hb0)
  have HE := Lib.hid he
  obtain ⟨q, hq⟩ : ∃ q, (knL vs bs).length = q := ⟨_, rfl⟩
  have HQ := Lib.hid hq
  have hqk : (q : Int) < (k : Int) := by omega
  clear he hq hkl
  go_enter Tryd.func35, Tryd.ntmps35
  go_wp2_with (first
    | (go_at_call 49; refine (rbegin_all p A m c k vs bs _ hp64 H0.out (by omega) (by omega)).mono ?_; rintro e w1 ⟨rfl, hb1⟩; rw [HE.out]
       have hbb1 := bnext hb0 hb1
       have H1 := Lib.hid (H0.out.upto hb1))
    | (go_at_call 36; refine (rknown_ok A m c vs bs _ H1.out hm).mono ?_; rintro e w2 ⟨⟨A2, c2, rfl, hO2⟩, hb2⟩; rw [HQ.out]
       have hbb2 := bnext hbb1 hb2))
  go_ret2
  exact ⟨rfl, hbb2⟩
theorem rinterp_thr (p : Int) (A : Option Addr) (n c : Nat) (us ys : List Int) (w : World) (h : Sh w w.heap.size A n us ys) (hn : n ≤ 100) (h0 : errL p [us, ys] = 0) (hd : Dist us) :
    Calls Tryd.prog 58 #[.agg #[.int .i64 p], .slice A n c] w fun e w' => (∃ R A' c', e = .returned (.tuple #[.slice A' R.length c', .int .i64 0]) ∧ OwnI w' w.heap.size 3 A' R.length c' R ∧ Through p us ys R) ∧ Below w.heap.size w w' := by
  refine (rinterp_all p A n c us ys w h hn).mono ?_
  rintro e w' (⟨h1, _⟩ | ⟨_, h1, _⟩ | ⟨_, _, R, A', c', rfl, hO, hT, hb⟩)
  · exact absurd h0 h1
  · exact absurd hd h1
  · exact ⟨⟨R, A', c', rfl, hO, hT⟩, hb⟩
set_option maxRecDepth 100000 in
set_option maxHeartbeats 1600000 in
theorem rfill_ok {p : Int} {A : Option Addr} {m c k : Nat} {vs : List Int} {bs : List Bool} {w : World} (hp64 : -9223372036854775808 ≤ p ∧ p ≤ 9223372036854775807) (h : Cel w w.heap.size A m vs bs) (hm : m ≤ 32) (he : beginE p vs bs k = 0) (hkl : k ≤ (knL vs bs).length) :
    Calls Tryd.prog 35 #[.agg #[.int .i64 p], .slice A m c, .int .i64 k] w fun e w' => (∃ R A' c', e = .returned (.tuple #[.slice A' R.length c', .int .i64 0]) ∧ OwnI w' w.heap.size 3 A' R.length c' R ∧ Through p (ptK ((knL vs bs).take k)) (vlK ((knL vs bs).take k)) R) ∧ Below w.heap.size w w' := by
  have hb0 : Below w.heap.size w (w.alloc (.cells #[.int .i64 p] 24)) := bbox _
  have H0 := Lib.hid (h.upto hb0)
  have hF0 := Blk.new w 24 #[.int .i64 p]
  have HE := Lib.hid he
  have hbk := (beginE_ok he)
  have hc := cellsE_ok hbk.1
  have hkn := knL_len vs bs
  have hv := h.1
  have hlen : ((knL vs bs).take k).length = k := by rw [List.length_take]; omega
  have hua : allP p (ptK ((knL vs bs).take k)) = true := by rw [ptK_take]; exact take_allP (ptK_allP vs bs hc.2.2.1) k
  have hva : allP p (vlK ((knL vs bs).take k)) = true := by rw [vlK_take]; exact take_allP (vlK_allP hc.2.2.2) k
  have hud : Dist (ptK ((knL vs bs).take k)) := fun i j h1 h2 => by
    rw [ptK_take] at h2 ⊢
    exact ((ptK_apart vs bs).take k) i j h1 h2
  have HL0 : Hid (errL p [ptK ((knL vs bs).take k), vlK ((knL vs bs).take k)] = 0) := Lib.hid (by
    unfold errL
    rw [if_pos ⟨hc.1, by rw [allR_iff]; intro r hr; rcases List.mem_cons.1 hr with rfl | hr; exact hua; rw [List.mem_singleton.1 hr]; exact hva⟩, if_neg (by simp [ptK_len, vlK_len]; omega)])
  have HD := Lib.hid hud
  obtain ⟨q, hq⟩ : ∃ q, (knL vs bs).length = q := ⟨_, rfl⟩
  have HQ := Lib.hid hq
  have hqk : ¬ (q : Int) < (k : Int) := by omega
  have hqk2 : (k : Int) ≤ (q : Int) := by omega
  have hq32 : q ≤ 32 := by omega
  have hk0 : (0 : Int) ≤ (k : Int) := by omega
  have HTK : Hid (∀ W B A2, Sh W B A2 q (ptK (knL vs bs)) (vlK (knL vs bs)) → Sh W B A2 k (ptK ((knL vs bs).take k)) (vlK ((knL vs bs).take k))) := Lib.hid fun W B A2 hS => by
    rw [ptK_take, vlK_take]
    refine ⟨by rw [List.length_take, hS.1]; omega, by rw [List.length_take, hS.2.1]; omega, fun hn => ?_⟩
    obtain ⟨b, off, e, hl, hcl⟩ := hS.2.2 (by omega)
    refine ⟨b, off, e, hl, fun j hj => ?_⟩
    rw [show ((ptK (knL vs bs)).take k).getD j 0 = (ptK (knL vs bs)).getD j 0 by simp [List.getD_eq_getElem?_getD, hj], show ((vlK (knL vs bs)).take k).getD j 0 = (vlK (knL vs bs)).getD j 0 by simp [List.getD_eq_getElem?_getD, hj]]
    exact hcl j (by omega)
  clear he hq hkl hbk hc hua hva hud hlen hkn
  go_enter Tryd.func35, Tryd.ntmps35
  go_wp2_with (first
    | (go_at_call 49; refine (rbegin_all p A m c k vs bs _ hp64 H0.out (by omega) (by omega)).mono ?_; rintro e w1 ⟨rfl, hb1⟩; rw [HE.out]
       have hbb1 := bnext hb0 hb1
       have hF1 := hF0.below hb1 hF0.lt
       have H1 := Lib.hid (H0.out.upto hb1))
    | (go_at_call 36; refine (rknown_ok A m c vs bs _ H1.out hm).mono ?_; rintro e w2 ⟨⟨A2, c2, rfl, hO2⟩, hb2⟩
       rw [HQ.out] at hO2
       rw [HQ.out]
       have hbb2 := bnext hbb1 hb2
       have hF2 := hF1.below hb2 hF1.lt
       have hcap := hO2.cap
       have HSH := Lib.hid (HTK.out _ _ _ hO2.sh)))
  have hcF : w2.cell? ⟨w.heap.size, 0, none⟩ = some (.int .i64 p) := (hF2.cell 0).trans rfl
  have hkc : (k : Int) ≤ (c2 : Int) := by omega
  go_region_with (go_at_call 58; refine (rinterp_thr p A2 k _ _ _ _ (by exact HSH.out) (by omega) HL0.out HD.out).mono ?_; rintro e w3 ⟨⟨R, A3, c3, rfl, hO3, hT⟩, hb3⟩
                  have HT := Lib.hid hT
                  have HO3 := Lib.hid hO3
                  have hbb3 := bnext (show Below w.heap.size w w2.drew from hbb2.drew) hb3
                  clear hT hO3 hb3)
  go_wp2
  go_ret2
  exact ⟨⟨R, A3, c3, rfl, HO3.out.base (by have := hbb2.size; exact this), HT.out⟩, hbb3⟩
theorem rfill_all (p : Int) (A : Option Addr) (m c : Nat) (k : Int) (vs : List Int) (bs : List Bool) (w : World) (hp64 : -9223372036854775808 ≤ p ∧ p ≤ 9223372036854775807) (h : Cel w w.heap.size A m vs bs) (hm : m ≤ 1000) (hk64 : -9223372036854775808 ≤ k ∧ k ≤ 9223372036854775807) :
    Calls Tryd.prog 35 #[.agg #[.int .i64 p], .slice A m c, .int .i64 k] w (FillPost p vs bs k w) := by
  by_cases h0 : beginE p vs bs k = 0
  · have hb := beginE_ok h0
    have hc := cellsE_ok hb.1
    have hv := h.1
    obtain ⟨q, rfl⟩ : ∃ q : Nat, k = q := ⟨k.toNat, by omega⟩
    by_cases hl : (knL vs bs).length < q
    · refine (rfill_few hp64 h (by omega) h0 hl (by omega)).mono ?_
      rintro e w' ⟨rfl, hb⟩
      exact ⟨none, 0, 0, [], 11, rfl, by omega, by omega, Ints.nil_, .inr (.inl ⟨h0, by omega, rfl, rfl⟩), hb⟩
    · refine (rfill_ok hp64 h (by omega) h0 (by omega)).mono ?_
      rintro e w' ⟨⟨R, A', c', rfl, hO, hT⟩, hb⟩
      have hRl : R.length ≤ 32 := by have := hT.ln; rw [ptK_len, List.length_take] at this; omega
      exact ⟨A', _, c', R, 0, rfl, hRl, hO.cap, hO.ints, .inr (.inr ⟨h0, by omega, rfl, hT⟩), hb⟩
  · refine (rfill_err hp64 h hm hk64 h0).mono ?_
    rintro e w' ⟨rfl, hb⟩
    exact ⟨none, 0, 0, [], _, rfl, by omega, by omega, Ints.nil_, .inl ⟨h0, rfl, rfl⟩, hb⟩
end Go.Proofs.YtnjdjcgandfnfaaDoor

/-! URad -/
namespace Go.Proofs.YtnjdjcgandfnfaaDoor
open Go.RowKit
set_option linter.unusedVariables false

/-- What Radius finds. -/
def radR (n k : Int) : Int × Int := if k < 1 ∨ n < 0 ∨ 32 < n then (0, 1) else if n < k then (0, 11) else ((n - k) / 2, 0)
theorem radR_cases (n k : Int) : (k < 1 ∧ radR n k = (0, 1)) ∨ (¬ k < 1 ∧ n < 0 ∧ radR n k = (0, 1)) ∨ (¬ k < 1 ∧ ¬ n < 0 ∧ 32 < n ∧ radR n k = (0, 1)) ∨ (¬ k < 1 ∧ ¬ n < 0 ∧ ¬ 32 < n ∧ n < k ∧ radR n k = (0, 11)) ∨ (¬ k < 1 ∧ ¬ n < 0 ∧ ¬ 32 < n ∧ ¬ n < k ∧ radR n k = ((n - k) / 2, 0)) := by
  unfold radR
  by_cases h1 : k < 1
  · left; exact ⟨h1, if_pos (.inl h1)⟩
  · by_cases h2 : n < 0
    · right; left; exact ⟨h1, h2, if_pos (.inr (.inl h2))⟩
    · by_cases h3 : 32 < n
      · right; right; left; exact ⟨h1, h2, h3, if_pos (.inr (.inr h3))⟩
      · have h0 : ¬ (k < 1 ∨ n < 0 ∨ 32 < n) := by rintro (h | h | h); exact h1 h; exact h2 h; exact h3 h
        by_cases h4 : n < k
        · right; right; right; left; exact ⟨h1, h2, h3, h4, by rw [if_neg h0, if_pos h4]⟩
        · right; right; right; right; exact ⟨h1, h2, h3, h4, by rw [if_neg h0, if_neg h4]⟩
theorem uradius_all (n k : Int) (w : World) (hn64 : -9223372036854775808 ≤ n ∧ n ≤ 9223372036854775807) (hk64 : -9223372036854775808 ≤ k ∧ k ≤ 9223372036854775807) :
    Calls Tryd.prog 25 #[.int .i64 n, .int .i64 k] w fun e w' => e = .returned (.tuple #[.int .i64 (radR n k).1, .int .i64 (radR n k).2]) ∧ w = w' := by
  have HR := Lib.hid (radR_cases n k)
  rcases HR.out with ⟨h1, he⟩ | ⟨h1, h2, he⟩ | ⟨h1, h2, h3, he⟩ | ⟨h1, h2, h3, h4, he⟩ | ⟨h1, h2, h3, h4, he⟩
  · rw [he]
    go_enter Tryd.func25, Tryd.ntmps25
    go_wp2
    go_ret2
    exact ⟨rfl, rfl⟩
  · rw [he]
    go_enter Tryd.func25, Tryd.ntmps25
    go_wp2
    go_ret2
    exact ⟨rfl, rfl⟩
  · rw [he]
    go_enter Tryd.func25, Tryd.ntmps25
    go_wp2
    go_ret2
    exact ⟨rfl, rfl⟩
  · rw [he]
    go_enter Tryd.func25, Tryd.ntmps25
    go_wp2
    go_ret2
    exact ⟨rfl, rfl⟩
  · rw [he]
    have hd0 : 0 ≤ n - k := by omega
    have hw : IntKind.i64.wrap (n - k) = n - k := IntWalk.i64_in _ (by omega)
    have ht : (n - k).tdiv 2 = (n - k) / 2 := Int.tdiv_eq_ediv_of_nonneg hd0
    go_enter Tryd.func25, Tryd.ntmps25
    go_wp2
    go_ret2
    exact ⟨rfl, rfl⟩
theorem rradius_all (n k : Int) (w : World) (hn64 : -9223372036854775808 ≤ n ∧ n ≤ 9223372036854775807) (hk64 : -9223372036854775808 ≤ k ∧ k ≤ 9223372036854775807) :
    Calls Tryd.prog 26 #[.int .i64 n, .int .i64 k] w fun e w' => e = .returned (.tuple #[.int .i64 (radR n k).1, .int .i64 (radR n k).2]) ∧ w = w' := by
  have HR := Lib.hid (radR_cases n k)
  rcases HR.out with ⟨h1, he⟩ | ⟨h1, h2, he⟩ | ⟨h1, h2, h3, he⟩ | ⟨h1, h2, h3, h4, he⟩ | ⟨h1, h2, h3, h4, he⟩
  · rw [he]
    go_enter Tryd.func26, Tryd.ntmps26
    go_wp2
    go_ret2
    exact ⟨rfl, rfl⟩
  · rw [he]
    go_enter Tryd.func26, Tryd.ntmps26
    go_wp2
    go_ret2
    exact ⟨rfl, rfl⟩
  · rw [he]
    go_enter Tryd.func26, Tryd.ntmps26
    go_wp2
    go_ret2
    exact ⟨rfl, rfl⟩
  · rw [he]
    go_enter Tryd.func26, Tryd.ntmps26
    go_wp2
    go_ret2
    exact ⟨rfl, rfl⟩
  · rw [he]
    have hd0 : 0 ≤ n - k := by omega
    have hw : IntKind.i64.wrap (n - k) = n - k := IntWalk.i64_in _ (by omega)
    have ht : (n - k).tdiv 2 = (n - k) / 2 := Int.tdiv_eq_ediv_of_nonneg hd0
    go_enter Tryd.func26, Tryd.ntmps26
    go_wp2
    go_ret2
    exact ⟨rfl, rfl⟩
end Go.Proofs.YtnjdjcgandfnfaaDoor

/-! RChk9 -/
namespace Go.Proofs.YtnjdjcgandfnfaaDoor
open Go.RowKit
set_option linter.unusedVariables false

theorem rfill_thr {p : Int} {A : Option Addr} {m c : Nat} {k : Int} {vs : List Int} {bs : List Bool} {w : World} (hp64 : -9223372036854775808 ≤ p ∧ p ≤ 9223372036854775807) (h : Cel w w.heap.size A m vs bs) (hm : m ≤ 1000) (hk64 : -9223372036854775808 ≤ k ∧ k ≤ 9223372036854775807) {er : Int} (he : decE p vs bs k = er) :
    Calls Tryd.prog 35 #[.agg #[.int .i64 p], .slice A m c, .int .i64 k] w fun e w' => (∃ A' n' c', e = .returned (.tuple #[.slice A' n' c', .int .i64 er])) ∧ Below w.heap.size w w' := by
  refine (rfill_all p A m c k vs bs w hp64 h hm hk64).mono ?_
  rintro e w' ⟨A', n', c', R, er', rfl, _, _, _, hR, hb⟩
  refine ⟨⟨A', n', c', ?_⟩, hb⟩
  rcases hR with ⟨h0, _, h2⟩ | ⟨h0, h1, _, h2⟩ | ⟨h0, h1, h2, _⟩
  · rw [decE_no h0] at he; rw [h2, he]
  · rw [decE_few h0 h1] at he; rw [h2, ← he]
  · rw [decE_yes h0 h1] at he; rw [h2, ← he]

set_option maxRecDepth 100000 in
theorem rcheck_fail (p k : Int) (A : Option Addr) (m c : Nat) (vs : List Int) (bs : List Bool) (A1 A2 : Option Addr) (pn c1 wn c2 : Nat) (w : World) (hp64 : -9223372036854775808 ≤ p ∧ p ≤ 9223372036854775807) (h : Cel w w.heap.size A m vs bs) (hm : m ≤ 1000) (hk64 : -9223372036854775808 ≤ k ∧ k ≤ 9223372036854775807) (hd : decE p vs bs k ≠ 0) :
    Calls Tryd.prog 21 #[.agg #[.int .i64 p], .slice A m c, .int .i64 k, .agg #[.slice A1 pn c1, .slice A2 wn c2]] w fun e w' => e = .returned (.int .i64 (decE p vs bs k)) ∧ Below w.heap.size w w' := by
  have hb0 : Below w.heap.size w ((w.alloc (.cells #[.int .i64 p] 24)).alloc (.cells #[.slice A1 pn c1, .slice A2 wn c2] 27)) := ballocs (bbox _) _
  have hF0 := (Blk.new w 24 #[.int .i64 p]).alloc (.cells #[.slice A1 pn c1, .slice A2 wn c2] 27)
  have hR0 := Blk.new1 w (.cells #[.int .i64 p] 24) 27 #[.slice A1 pn c1, .slice A2 wn c2]
  have hS0 := (h.below hb0).more hb0.size
  obtain ⟨v, hv⟩ : ∃ v, decE p vs bs k = v := ⟨_, rfl⟩
  rw [hv] at hd ⊢
  have HV := Lib.hid hv
  have hvb : (v != 0) = true := by simpa using hd
  clear hv
  go_enter Tryd.func21, Tryd.ntmps21
  go_wp2_with (go_at_call 35; (refine (rfill_thr (er := v) hp64 hS0 hm hk64 HV.out).mono ?_); rintro e w1 ⟨⟨A', n', c', rfl⟩, hb1⟩
               have hbb1 := bnext hb0 hb1)
  go_ret
  exact ⟨rfl, hbb1⟩

set_option maxRecDepth 100000 in
set_option maxHeartbeats 1600000 in
theorem rcheck_poly (p : Int) (A : Option Addr) (m c k : Nat) (vs : List Int) (bs : List Bool) (A1 A2 : Option Addr) (pn c1 wn c2 : Nat) (P ws : List Int) (w : World) (h : Cel w w.heap.size A m vs bs) (hm : m ≤ 1000) (hk1000 : k ≤ 1000) (hd0 : decE p vs bs k = 0)
    (h1 : Ints w w.heap.size A1 pn P) (hpc : pn ≤ c1) (hpn : pn ≤ 17592186044416) (h2 : Ints w w.heap.size A2 wn ws) (hwn : wn ≤ 17592186044416) (hbad : errL p [P] ≠ 0 ∨ (errL p [P] = 0 ∧ ¬ tn P P.length ≤ k)) :
    Calls Tryd.prog 21 #[.agg #[.int .i64 p], .slice A m c, .int .i64 k, .agg #[.slice A1 pn c1, .slice A2 wn c2]] w fun e w' => e = .returned (.int .i64 2) ∧ Below w.heap.size w w' := by
  have hb0 : Below w.heap.size w ((w.alloc (.cells #[.int .i64 p] 24)).alloc (.cells #[.slice A1 pn c1, .slice A2 wn c2] 27)) := ballocs (bbox _) _
  have hF0 := (Blk.new w 24 #[.int .i64 p]).alloc (.cells #[.slice A1 pn c1, .slice A2 wn c2] 27)
  have hR0 := Blk.new1 w (.cells #[.int .i64 p] 24) 27 #[.slice A1 pn c1, .slice A2 wn c2]
  have hS0 := (h.below hb0).more hb0.size
  have hde := decE_zero hd0
  have hbe := beginE_ok hde.1
  have hce := cellsE_ok hbe.1
  have hp := okP_pos hce.1
  have HO := Lib.hid hce.1
  have HKN := Lib.hid hce.2.2.2
  have HD0 := Lib.hid hd0
  have hmv := h.1
  have hm32 : m ≤ 32 := by have := hce.2.1; omega
  have hmp : (m : Int) < p := by have := hce.2.2.1; omega
  have hln : (knL vs bs).length ≤ m := by have := knL_len vs bs; rw [h.1] at this; exact this
  have hp64 : -9223372036854775808 ≤ p ∧ p ≤ 9223372036854775807 := by omega
  have hk64 : -9223372036854775808 ≤ (k : Int) ∧ (k : Int) ≤ 9223372036854775807 := by omega
  have hI0 := h1.upto hb0
  have hJ0 := h2.upto hb0
  rcases hbad with h0 | ⟨h0, hd⟩
  · obtain ⟨er, HER⟩ : ∃ er, Hid (errL p [P] = er) := ⟨_, Lib.hid rfl⟩
    have hne : (er != 0) = true := by rw [HER.out] at h0; simpa using h0
    have HTR : Hid (polyR (errL p [P]) (trimL P) = ([], er)) := Lib.hid (by rw [polyR_no _ h0, HER.out])
    clear h h1 h2 h0 hde hbe hce hd0 hmv
    go_enter Tryd.func21, Tryd.ntmps21
    go_wp2_with (first
      | (go_at_call 35; (refine (rfill_thr (er := 0) hp64 hS0 hm hk64 HD0.out).mono ?_); rintro e w1 ⟨⟨A', n', c', rfl⟩, hb1⟩
         have hbb1 := bnext hb0 hb1
         have hF1 := hF0.below hb1 hF0.lt
         have hR1 := hR0.below hb1 hR0.lt
         have hS1 := hS0.upto hb1
         have hI1 := hI0.upto hb1
         have hJ1 := hJ0.upto hb1
         have hcF1 : w1.cell? ⟨w.heap.size, 0, none⟩ = some (.int .i64 p) := (hF1.cell 0).trans rfl
         have hcR1 : w1.cell? ⟨w.heap.size + 1, 0, none⟩ = some (.slice A1 pn c1) := (hR1.cell 0).trans rfl
         clear hb1)
      | (go_at_call 28; (refine (rTrim_all p A1 pn c1 P _ hI1 hpc hpn).mono ?_); rw [HTR.out]; rintro e w2 ⟨⟨A3, n3, c3, rfl, hO2⟩, hb2⟩
         have hbb2 := bnext hbb1 hb2
         have hF2 := hF1.below hb2 hF1.lt
         have hR2 := hR1.below hb2 hR1.lt
         have hS2 := hS1.upto hb2
         have hJ2 := hJ1.upto hb2
         have hcF2 : w2.cell? ⟨w.heap.size, 0, none⟩ = some (.int .i64 p) := (hF2.cell 0).trans rfl
         clear hb2))
    go_ret
    exact ⟨rfl, hbb2⟩
  · have HTR : Hid (polyR (errL p [P]) (trimL P) = (trimL P, 0)) := Lib.hid (polyR_yes _ h0)
    have HLN : Hid (∀ x, x = (trimL P).length → (k : Int) < (x : Int)) := Lib.hid fun x hx => by rw [hx, trimL_len]; omega
    clear h h1 h2 h0 hde hbe hce hd0 hmv hd
    go_enter Tryd.func21, Tryd.ntmps21
    go_wp2_with (first
      | (go_at_call 35; (refine (rfill_thr (er := 0) hp64 hS0 hm hk64 HD0.out).mono ?_); rintro e w1 ⟨⟨A', n', c', rfl⟩, hb1⟩
         have hbb1 := bnext hb0 hb1
         have hF1 := hF0.below hb1 hF0.lt
         have hR1 := hR0.below hb1 hR0.lt
         have hS1 := hS0.upto hb1
         have hI1 := hI0.upto hb1
         have hJ1 := hJ0.upto hb1
         have hcF1 : w1.cell? ⟨w.heap.size, 0, none⟩ = some (.int .i64 p) := (hF1.cell 0).trans rfl
         have hcR1 : w1.cell? ⟨w.heap.size + 1, 0, none⟩ = some (.slice A1 pn c1) := (hR1.cell 0).trans rfl
         clear hb1)
      | (go_at_call 28; (refine (rTrim_all p A1 pn c1 P _ hI1 hpc hpn).mono ?_); rw [HTR.out]; rintro e w2 ⟨⟨A3, n3, c3, rfl, hO2⟩, hb2⟩
         have hbb2 := bnext hbb1 hb2
         have hF2 := hF1.below hb2 hF1.lt
         have hR2 := hR1.below hb2 hR1.lt
         have hS2 := hS1.upto hb2
         have hJ2 := hJ1.upto hb2
         have hcF2 : w2.cell? ⟨w.heap.size, 0, none⟩ = some (.int .i64 p) := (hF2.cell 0).trans rfl
         have hkl := HLN.out n3 hO2.len.symm
         clear hb2))
    go_ret
    exact ⟨rfl, hbb2⟩

set_option maxRecDepth 100000 in
set_option maxHeartbeats 1600000 in
theorem rcheck_far (p : Int) (A : Option Addr) (m c k : Nat) (vs : List Int) (bs : List Bool) (A1 A2 : Option Addr) (pn c1 wn c2 : Nat) (P ws : List Int) (w : World) (h : Cel w w.heap.size A m vs bs) (hm : m ≤ 1000) (hk1000 : k ≤ 1000) (hd0 : decE p vs bs k = 0)
    (h1 : Ints w w.heap.size A1 pn P) (hpc : pn ≤ c1) (hpn : pn ≤ 17592186044416) (h2 : Ints w w.heap.size A2 wn ws) (hwn : wn ≤ 17592186044416) (he0 : errL p [P] = 0) (hd : tn P P.length ≤ k) (hv : ((knL vs bs).length - k) / 2 < (wrL p P (knL vs bs)).length) :
    Calls Tryd.prog 21 #[.agg #[.int .i64 p], .slice A m c, .int .i64 k, .agg #[.slice A1 pn c1, .slice A2 wn c2]] w fun e w' => e = .returned (.int .i64 12) ∧ Below w.heap.size w w' := by
  have hb0 : Below w.heap.size w ((w.alloc (.cells #[.int .i64 p] 24)).alloc (.cells #[.slice A1 pn c1, .slice A2 wn c2] 27)) := ballocs (bbox _) _
  have hF0 := (Blk.new w 24 #[.int .i64 p]).alloc (.cells #[.slice A1 pn c1, .slice A2 wn c2] 27)
  have hR0 := Blk.new1 w (.cells #[.int .i64 p] 24) 27 #[.slice A1 pn c1, .slice A2 wn c2]
  have hS0 := (h.below hb0).more hb0.size
  have hde := decE_zero hd0
  have hbe := beginE_ok hde.1
  have hce := cellsE_ok hbe.1
  have hp := okP_pos hce.1
  have HO := Lib.hid hce.1
  have HKN := Lib.hid hce.2.2.2
  have HD0 := Lib.hid hd0
  have hmv := h.1
  have hm32 : m ≤ 32 := by have := hce.2.1; omega
  have hmp : (m : Int) < p := by have := hce.2.2.1; omega
  have hln : (knL vs bs).length ≤ m := by have := knL_len vs bs; rw [h.1] at this; exact this
  have hp64 : -9223372036854775808 ≤ p ∧ p ≤ 9223372036854775807 := by omega
  have hk64 : -9223372036854775808 ≤ (k : Int) ∧ (k : Int) ≤ 9223372036854775807 := by omega
  have hI0 := h1.upto hb0
  have hJ0 := h2.upto hb0
  obtain ⟨l, hl⟩ : ∃ l, knL vs bs = l := ⟨_, rfl⟩
  obtain ⟨N, hN⟩ : ∃ N, l.length = N := ⟨_, rfl⟩
  obtain ⟨v, hvE⟩ : ∃ v, (N - k) / 2 = v := ⟨_, rfl⟩
  obtain ⟨wl, hwl⟩ : ∃ wl, wrL p P l = wl := ⟨_, rfl⟩
  obtain ⟨q, hq⟩ : ∃ q, wl.length = q := ⟨_, rfl⟩
  have hPt := errL_one he0
  have HTR : Hid (polyR (errL p [P]) (trimL P) = (trimL P, 0)) := Lib.hid (polyR_yes _ he0)
  have HL := Lib.hid hl
  have HWT : Hid (wrL p (trimL P) l = wl) := Lib.hid (by rw [wrL_trim p hp.1, hwl])
  have HN : Hid (l.length = N) := Lib.hid hN
  have HQ := Lib.hid hq
  have hkN : k ≤ N := by have := hde.2; rw [hl, hN] at this; omega
  have hk1 : 1 ≤ k := by have := hbe.2.1; omega
  have HRD : Hid (radR N k = ((v : Int), 0)) := Lib.hid (by
    unfold radR
    rw [if_neg (by rw [hl, hN] at hln; omega), if_neg (by omega)]
    have : ((N : Int) - (k : Int)) / 2 = (v : Int) := by omega
    rw [this])
  have HLN : Hid (∀ x, x = (trimL P).length → (x : Int) ≤ (k : Int) ∧ x ≤ 512) := Lib.hid fun x hx => by rw [hx, trimL_len]; have := hbe.2.2; omega
  have HTA : Hid (allP p (trimL P) = true) := Lib.hid (trimL_allP hPt.2.1)
  have hN32 : N ≤ 32 := by rw [hl, hN] at hln; omega
  have hq32 : q ≤ 32 := by rw [← hq, ← hwl]; exact Nat.le_trans (wrL_len p P _) (by rw [hN]; exact hN32)
  have hv1 : (v : Int) < (q : Int) := by rw [hl, hN, hvE, hwl, hq] at hv; omega
  clear hv
  clear h h1 h2 hde hbe hce hd0 hmv hPt he0 hd hl hN hvE hwl hq hln
  go_enter Tryd.func21, Tryd.ntmps21
  go_wp2_with (first
    | (go_at_call 35; (refine (rfill_thr (er := 0) hp64 hS0 hm hk64 HD0.out).mono ?_); rintro e w1 ⟨⟨A', n', c', rfl⟩, hb1⟩
       have hbb1 := bnext hb0 hb1
       have hF1 := hF0.below hb1 hF0.lt
       have hR1 := hR0.below hb1 hR0.lt
       have hS1 := hS0.upto hb1
       have hI1 := hI0.upto hb1
       have hJ1 := hJ0.upto hb1
       have hcF1 : w1.cell? ⟨w.heap.size, 0, none⟩ = some (.int .i64 p) := (hF1.cell 0).trans rfl
       have hcR1 : w1.cell? ⟨w.heap.size + 1, 0, none⟩ = some (.slice A1 pn c1) := (hR1.cell 0).trans rfl
       clear hb1)
    | (go_at_call 28; (refine (rTrim_all p A1 pn c1 P _ hI1 hpc hpn).mono ?_); rw [HTR.out]; rintro e w2 ⟨⟨A3, n3, c3, rfl, hO2⟩, hb2⟩
       have hbb2 := bnext hbb1 hb2
       have hF2 := hF1.below hb2 hF1.lt
       have hR2 := hR1.below hb2 hR1.lt
       have hS2 := hS1.upto hb2
       have hJ2 := hJ1.upto hb2
       have hcF2 : w2.cell? ⟨w.heap.size, 0, none⟩ = some (.int .i64 p) := (hF2.cell 0).trans rfl
       have hn3 := HLN.out n3 hO2.len.symm
       have hn3b : ¬ (k : Int) < (n3 : Int) := by omega
       clear hb2)
    | (go_at_call 37; (refine (rwrong9_ok p A m c vs bs A3 n3 c3 (trimL P) _ HO.out hS2 hm32 hmp HKN.out hO2.ints HTA.out hn3.2).mono ?_); rw [HL.out, HWT.out, HQ.out]; rintro e w3 ⟨⟨A4, c4, rfl, hO3⟩, hb3⟩
       have hbb3 := bnext hbb2 hb3
       have hR3 := hR2.below hb3 hR2.lt
       have hS3 := hS2.upto hb3
       have hJ3 := hJ2.upto hb3
       have hW3 := hO3.ints
       clear hb3 hO3 hO2)
    | (go_at_call 36; (refine (rknown_ok A m c vs bs _ hS3 hm32).mono ?_); rw [HL.out, HN.out]; rintro e w4 ⟨⟨A5, c5, rfl, hO4⟩, hb4⟩
       have hbb4 := bnext hbb3 hb4
       have hR4 := hR3.below hb4 hR3.lt
       have hJ4 := hJ3.upto hb4
       have hW4 := hW3.upto hb4
       have hcR4 : w4.cell? ⟨w.heap.size + 1, 1, none⟩ = some (.slice A2 wn c2) := (hR4.cell 1).trans rfl
       clear hb4 hO4)
    | (go_at_call 26; (refine (rradius_all N k _ (by omega) (by omega)).mono ?_); rw [HRD.out]; rintro e w' ⟨rfl, rfl⟩))
  go_ret
  exact ⟨rfl, hbb4⟩

set_option maxRecDepth 100000 in
set_option maxHeartbeats 1600000 in
theorem rcheck_other (p : Int) (A : Option Addr) (m c k : Nat) (vs : List Int) (bs : List Bool) (A1 A2 : Option Addr) (pn c1 wn c2 : Nat) (P ws : List Int) (w : World) (h : Cel w w.heap.size A m vs bs) (hm : m ≤ 1000) (hk1000 : k ≤ 1000) (hd0 : decE p vs bs k = 0)
    (h1 : Ints w w.heap.size A1 pn P) (hpc : pn ≤ c1) (hpn : pn ≤ 17592186044416) (h2 : Ints w w.heap.size A2 wn ws) (hwn : wn ≤ 17592186044416) (he0 : errL p [P] = 0) (hd : tn P P.length ≤ k) (hv : (wrL p P (knL vs bs)).length ≤ ((knL vs bs).length - k) / 2) (hws : wrL p P (knL vs bs) ≠ ws) :
    Calls Tryd.prog 21 #[.agg #[.int .i64 p], .slice A m c, .int .i64 k, .agg #[.slice A1 pn c1, .slice A2 wn c2]] w fun e w' => e = .returned (.int .i64 12) ∧ Below w.heap.size w w' := by
  have hb0 : Below w.heap.size w ((w.alloc (.cells #[.int .i64 p] 24)).alloc (.cells #[.slice A1 pn c1, .slice A2 wn c2] 27)) := ballocs (bbox _) _
  have hF0 := (Blk.new w 24 #[.int .i64 p]).alloc (.cells #[.slice A1 pn c1, .slice A2 wn c2] 27)
  have hR0 := Blk.new1 w (.cells #[.int .i64 p] 24) 27 #[.slice A1 pn c1, .slice A2 wn c2]
  have hS0 := (h.below hb0).more hb0.size
  have hde := decE_zero hd0
  have hbe := beginE_ok hde.1
  have hce := cellsE_ok hbe.1
  have hp := okP_pos hce.1
  have HO := Lib.hid hce.1
  have HKN := Lib.hid hce.2.2.2
  have HD0 := Lib.hid hd0
  have hmv := h.1
  have hm32 : m ≤ 32 := by have := hce.2.1; omega
  have hmp : (m : Int) < p := by have := hce.2.2.1; omega
  have hln : (knL vs bs).length ≤ m := by have := knL_len vs bs; rw [h.1] at this; exact this
  have hp64 : -9223372036854775808 ≤ p ∧ p ≤ 9223372036854775807 := by omega
  have hk64 : -9223372036854775808 ≤ (k : Int) ∧ (k : Int) ≤ 9223372036854775807 := by omega
  have hI0 := h1.upto hb0
  have hJ0 := h2.upto hb0
  obtain ⟨l, hl⟩ : ∃ l, knL vs bs = l := ⟨_, rfl⟩
  obtain ⟨N, hN⟩ : ∃ N, l.length = N := ⟨_, rfl⟩
  obtain ⟨v, hvE⟩ : ∃ v, (N - k) / 2 = v := ⟨_, rfl⟩
  obtain ⟨wl, hwl⟩ : ∃ wl, wrL p P l = wl := ⟨_, rfl⟩
  obtain ⟨q, hq⟩ : ∃ q, wl.length = q := ⟨_, rfl⟩
  have hPt := errL_one he0
  have HTR : Hid (polyR (errL p [P]) (trimL P) = (trimL P, 0)) := Lib.hid (polyR_yes _ he0)
  have HL := Lib.hid hl
  have HWT : Hid (wrL p (trimL P) l = wl) := Lib.hid (by rw [wrL_trim p hp.1, hwl])
  have HN : Hid (l.length = N) := Lib.hid hN
  have HQ := Lib.hid hq
  have hkN : k ≤ N := by have := hde.2; rw [hl, hN] at this; omega
  have hk1 : 1 ≤ k := by have := hbe.2.1; omega
  have HRD : Hid (radR N k = ((v : Int), 0)) := Lib.hid (by
    unfold radR
    rw [if_neg (by rw [hl, hN] at hln; omega), if_neg (by omega)]
    have : ((N : Int) - (k : Int)) / 2 = (v : Int) := by omega
    rw [this])
  have HLN : Hid (∀ x, x = (trimL P).length → (x : Int) ≤ (k : Int) ∧ x ≤ 512) := Lib.hid fun x hx => by rw [hx, trimL_len]; have := hbe.2.2; omega
  have HTA : Hid (allP p (trimL P) = true) := Lib.hid (trimL_allP hPt.2.1)
  have hN32 : N ≤ 32 := by rw [hl, hN] at hln; omega
  have hq32 : q ≤ 32 := by rw [← hq, ← hwl]; exact Nat.le_trans (wrL_len p P _) (by rw [hN]; exact hN32)
  have hv1 : ¬ (v : Int) < (q : Int) := by rw [hl, hN, hvE, hwl, hq] at hv; omega
  have HSM : Hid (sameL wl ws = false) := Lib.hid (by rw [hl, hwl] at hws; simpa [sameL] using hws)
  clear hv hws
  clear h h1 h2 hde hbe hce hd0 hmv hPt he0 hd hl hN hvE hwl hq hln
  go_enter Tryd.func21, Tryd.ntmps21
  go_wp2_with (first
    | (go_at_call 35; (refine (rfill_thr (er := 0) hp64 hS0 hm hk64 HD0.out).mono ?_); rintro e w1 ⟨⟨A', n', c', rfl⟩, hb1⟩
       have hbb1 := bnext hb0 hb1
       have hF1 := hF0.below hb1 hF0.lt
       have hR1 := hR0.below hb1 hR0.lt
       have hS1 := hS0.upto hb1
       have hI1 := hI0.upto hb1
       have hJ1 := hJ0.upto hb1
       have hcF1 : w1.cell? ⟨w.heap.size, 0, none⟩ = some (.int .i64 p) := (hF1.cell 0).trans rfl
       have hcR1 : w1.cell? ⟨w.heap.size + 1, 0, none⟩ = some (.slice A1 pn c1) := (hR1.cell 0).trans rfl
       clear hb1)
    | (go_at_call 28; (refine (rTrim_all p A1 pn c1 P _ hI1 hpc hpn).mono ?_); rw [HTR.out]; rintro e w2 ⟨⟨A3, n3, c3, rfl, hO2⟩, hb2⟩
       have hbb2 := bnext hbb1 hb2
       have hF2 := hF1.below hb2 hF1.lt
       have hR2 := hR1.below hb2 hR1.lt
       have hS2 := hS1.upto hb2
       have hJ2 := hJ1.upto hb2
       have hcF2 : w2.cell? ⟨w.heap.size, 0, none⟩ = some (.int .i64 p) := (hF2.cell 0).trans rfl
       have hn3 := HLN.out n3 hO2.len.symm
       have hn3b : ¬ (k : Int) < (n3 : Int) := by omega
       clear hb2)
    | (go_at_call 37; (refine (rwrong9_ok p A m c vs bs A3 n3 c3 (trimL P) _ HO.out hS2 hm32 hmp HKN.out hO2.ints HTA.out hn3.2).mono ?_); rw [HL.out, HWT.out, HQ.out]; rintro e w3 ⟨⟨A4, c4, rfl, hO3⟩, hb3⟩
       have hbb3 := bnext hbb2 hb3
       have hR3 := hR2.below hb3 hR2.lt
       have hS3 := hS2.upto hb3
       have hJ3 := hJ2.upto hb3
       have hW3 := hO3.ints
       clear hb3 hO3 hO2)
    | (go_at_call 36; (refine (rknown_ok A m c vs bs _ hS3 hm32).mono ?_); rw [HL.out, HN.out]; rintro e w4 ⟨⟨A5, c5, rfl, hO4⟩, hb4⟩
       have hbb4 := bnext hbb3 hb4
       have hR4 := hR3.below hb4 hR3.lt
       have hJ4 := hJ3.upto hb4
       have hW4 := hW3.upto hb4
       have hcR4 : w4.cell? ⟨w.heap.size + 1, 1, none⟩ = some (.slice A2 wn c2) := (hR4.cell 1).trans rfl
       clear hb4 hO4)
    | (go_at_call 26; (refine (rradius_all N k _ (by omega) (by omega)).mono ?_); rw [HRD.out]; rintro e w' ⟨rfl, rfl⟩)
    | (go_at_call 41; (with_reducible refine (rints9_any A4 A2 q wn c4 c2 wl ws _ hW4 hJ4 (by omega) hwn).mono ?_); rintro e w' ⟨rfl, qd, rfl⟩; rw [HSM.out]))
  go_ret
  exact ⟨rfl, below_drewN hbb4 _⟩

set_option maxRecDepth 100000 in
set_option maxHeartbeats 1600000 in
theorem rcheck_same (p : Int) (A : Option Addr) (m c k : Nat) (vs : List Int) (bs : List Bool) (A1 A2 : Option Addr) (pn c1 wn c2 : Nat) (P ws : List Int) (w : World) (h : Cel w w.heap.size A m vs bs) (hm : m ≤ 1000) (hk1000 : k ≤ 1000) (hd0 : decE p vs bs k = 0)
    (h1 : Ints w w.heap.size A1 pn P) (hpc : pn ≤ c1) (hpn : pn ≤ 17592186044416) (h2 : Ints w w.heap.size A2 wn ws) (hwn : wn ≤ 17592186044416) (he0 : errL p [P] = 0) (hd : tn P P.length ≤ k) (hv : (wrL p P (knL vs bs)).length ≤ ((knL vs bs).length - k) / 2) (hws : wrL p P (knL vs bs) = ws) :
    Calls Tryd.prog 21 #[.agg #[.int .i64 p], .slice A m c, .int .i64 k, .agg #[.slice A1 pn c1, .slice A2 wn c2]] w fun e w' => e = .returned (.int .i64 0) ∧ Below w.heap.size w w' := by
  have hb0 : Below w.heap.size w ((w.alloc (.cells #[.int .i64 p] 24)).alloc (.cells #[.slice A1 pn c1, .slice A2 wn c2] 27)) := ballocs (bbox _) _
  have hF0 := (Blk.new w 24 #[.int .i64 p]).alloc (.cells #[.slice A1 pn c1, .slice A2 wn c2] 27)
  have hR0 := Blk.new1 w (.cells #[.int .i64 p] 24) 27 #[.slice A1 pn c1, .slice A2 wn c2]
  have hS0 := (h.below hb0).more hb0.size
  have hde := decE_zero hd0
  have hbe := beginE_ok hde.1
  have hce := cellsE_ok hbe.1
  have hp := okP_pos hce.1
  have HO := Lib.hid hce.1
  have HKN := Lib.hid hce.2.2.2
  have HD0 := Lib.hid hd0
  have hmv := h.1
  have hm32 : m ≤ 32 := by have := hce.2.1; omega
  have hmp : (m : Int) < p := by have := hce.2.2.1; omega
  have hln : (knL vs bs).length ≤ m := by have := knL_len vs bs; rw [h.1] at this; exact this
  have hp64 : -9223372036854775808 ≤ p ∧ p ≤ 9223372036854775807 := by omega
  have hk64 : -9223372036854775808 ≤ (k : Int) ∧ (k : Int) ≤ 9223372036854775807 := by omega
  have hI0 := h1.upto hb0
  have hJ0 := h2.upto hb0
  obtain ⟨l, hl⟩ : ∃ l, knL vs bs = l := ⟨_, rfl⟩
  obtain ⟨N, hN⟩ : ∃ N, l.length = N := ⟨_, rfl⟩
  obtain ⟨v, hvE⟩ : ∃ v, (N - k) / 2 = v := ⟨_, rfl⟩
  obtain ⟨wl, hwl⟩ : ∃ wl, wrL p P l = wl := ⟨_, rfl⟩
  obtain ⟨q, hq⟩ : ∃ q, wl.length = q := ⟨_, rfl⟩
  have hPt := errL_one he0
  have HTR : Hid (polyR (errL p [P]) (trimL P) = (trimL P, 0)) := Lib.hid (polyR_yes _ he0)
  have HL := Lib.hid hl
  have HWT : Hid (wrL p (trimL P) l = wl) := Lib.hid (by rw [wrL_trim p hp.1, hwl])
  have HN : Hid (l.length = N) := Lib.hid hN
  have HQ := Lib.hid hq
  have hkN : k ≤ N := by have := hde.2; rw [hl, hN] at this; omega
  have hk1 : 1 ≤ k := by have := hbe.2.1; omega
  have HRD : Hid (radR N k = ((v : Int), 0)) := Lib.hid (by
    unfold radR
    rw [if_neg (by rw [hl, hN] at hln; omega), if_neg (by omega)]
    have : ((N : Int) - (k : Int)) / 2 = (v : Int) := by omega
    rw [this])
  have HLN : Hid (∀ x, x = (trimL P).length → (x : Int) ≤ (k : Int) ∧ x ≤ 512) := Lib.hid fun x hx => by rw [hx, trimL_len]; have := hbe.2.2; omega
  have HTA : Hid (allP p (trimL P) = true) := Lib.hid (trimL_allP hPt.2.1)
  have hN32 : N ≤ 32 := by rw [hl, hN] at hln; omega
  have hq32 : q ≤ 32 := by rw [← hq, ← hwl]; exact Nat.le_trans (wrL_len p P _) (by rw [hN]; exact hN32)
  have hv1 : ¬ (v : Int) < (q : Int) := by rw [hl, hN, hvE, hwl, hq] at hv; omega
  have HSM : Hid (sameL wl ws = true) := Lib.hid (by rw [hl, hwl] at hws; simpa [sameL] using hws)
  clear hv hws
  clear h h1 h2 hde hbe hce hd0 hmv hPt he0 hd hl hN hvE hwl hq hln
  go_enter Tryd.func21, Tryd.ntmps21
  go_wp2_with (first
    | (go_at_call 35; (refine (rfill_thr (er := 0) hp64 hS0 hm hk64 HD0.out).mono ?_); rintro e w1 ⟨⟨A', n', c', rfl⟩, hb1⟩
       have hbb1 := bnext hb0 hb1
       have hF1 := hF0.below hb1 hF0.lt
       have hR1 := hR0.below hb1 hR0.lt
       have hS1 := hS0.upto hb1
       have hI1 := hI0.upto hb1
       have hJ1 := hJ0.upto hb1
       have hcF1 : w1.cell? ⟨w.heap.size, 0, none⟩ = some (.int .i64 p) := (hF1.cell 0).trans rfl
       have hcR1 : w1.cell? ⟨w.heap.size + 1, 0, none⟩ = some (.slice A1 pn c1) := (hR1.cell 0).trans rfl
       clear hb1)
    | (go_at_call 28; (refine (rTrim_all p A1 pn c1 P _ hI1 hpc hpn).mono ?_); rw [HTR.out]; rintro e w2 ⟨⟨A3, n3, c3, rfl, hO2⟩, hb2⟩
       have hbb2 := bnext hbb1 hb2
       have hF2 := hF1.below hb2 hF1.lt
       have hR2 := hR1.below hb2 hR1.lt
       have hS2 := hS1.upto hb2
       have hJ2 := hJ1.upto hb2
       have hcF2 : w2.cell? ⟨w.heap.size, 0, none⟩ = some (.int .i64 p) := (hF2.cell 0).trans rfl
       have hn3 := HLN.out n3 hO2.len.symm
       have hn3b : ¬ (k : Int) < (n3 : Int) := by omega
       clear hb2)
    | (go_at_call 37; (refine (rwrong9_ok p A m c vs bs A3 n3 c3 (trimL P) _ HO.out hS2 hm32 hmp HKN.out hO2.ints HTA.out hn3.2).mono ?_); rw [HL.out, HWT.out, HQ.out]; rintro e w3 ⟨⟨A4, c4, rfl, hO3⟩, hb3⟩
       have hbb3 := bnext hbb2 hb3
       have hR3 := hR2.below hb3 hR2.lt
       have hS3 := hS2.upto hb3
       have hJ3 := hJ2.upto hb3
       have hW3 := hO3.ints
       clear hb3 hO3 hO2)
    | (go_at_call 36; (refine (rknown_ok A m c vs bs _ hS3 hm32).mono ?_); rw [HL.out, HN.out]; rintro e w4 ⟨⟨A5, c5, rfl, hO4⟩, hb4⟩
       have hbb4 := bnext hbb3 hb4
       have hR4 := hR3.below hb4 hR3.lt
       have hJ4 := hJ3.upto hb4
       have hW4 := hW3.upto hb4
       have hcR4 : w4.cell? ⟨w.heap.size + 1, 1, none⟩ = some (.slice A2 wn c2) := (hR4.cell 1).trans rfl
       clear hb4 hO4)
    | (go_at_call 26; (refine (rradius_all N k _ (by omega) (by omega)).mono ?_); rw [HRD.out]; rintro e w' ⟨rfl, rfl⟩)
    | (go_at_call 41; (with_reducible refine (rints9_any A4 A2 q wn c4 c2 wl ws _ hW4 hJ4 (by omega) hwn).mono ?_); rintro e w' ⟨rfl, qd, rfl⟩; rw [HSM.out]))
  go_ret
  exact ⟨rfl, below_drewN hbb4 _⟩

theorem rcheckA_all (p : Int) (A : Option Addr) (m c : Nat) (k : Int) (vs : List Int) (bs : List Bool) (A1 A2 : Option Addr) (pn c1 wn c2 : Nat) (P ws : List Int) (w : World) (hp64 : -9223372036854775808 ≤ p ∧ p ≤ 9223372036854775807) (h : Cel w w.heap.size A m vs bs) (hm : m ≤ 1000) (hk64 : -9223372036854775808 ≤ k ∧ k ≤ 9223372036854775807)
    (h1 : Ints w w.heap.size A1 pn P) (hpc : pn ≤ c1) (hpn : pn ≤ 17592186044416) (h2 : Ints w w.heap.size A2 wn ws) (hwn : wn ≤ 17592186044416) :
    Calls Tryd.prog 21 #[.agg #[.int .i64 p], .slice A m c, .int .i64 k, .agg #[.slice A1 pn c1, .slice A2 wn c2]] w fun e w' => e = .returned (.int .i64 (chkA p vs bs k P ws)) ∧ Below w.heap.size w w' := by
  by_cases hd0 : decE p vs bs k = 0
  · rw [chkA_yes P ws hd0]
    have hb := beginE_ok (decE_zero hd0).1
    have hv := h.1
    obtain ⟨q, rfl⟩ : ∃ q : Nat, k = q := ⟨k.toNat, by omega⟩
    unfold chkR
    by_cases he : errL p [P] = 0
    · by_cases hd : tn P P.length ≤ q
      · rw [if_pos ⟨he, hd⟩]
        by_cases hv2 : (wrL p P (knL vs bs)).length ≤ ((knL vs bs).length - q) / 2
        · by_cases hw : wrL p P (knL vs bs) = ws
          · rw [if_pos ⟨hv2, hw⟩]
            exact rcheck_same p A m c q vs bs A1 A2 pn c1 wn c2 P ws w h hm (by omega) hd0 h1 hpc hpn h2 hwn he hd hv2 hw
          · rw [if_neg (fun x => hw x.2)]
            exact rcheck_other p A m c q vs bs A1 A2 pn c1 wn c2 P ws w h hm (by omega) hd0 h1 hpc hpn h2 hwn he hd hv2 hw
        · rw [if_neg (fun x => hv2 x.1)]
          exact rcheck_far p A m c q vs bs A1 A2 pn c1 wn c2 P ws w h hm (by omega) hd0 h1 hpc hpn h2 hwn he hd (Nat.lt_of_not_le hv2)
      · rw [if_neg (fun x => hd x.2)]
        exact rcheck_poly p A m c q vs bs A1 A2 pn c1 wn c2 P ws w h hm (by omega) hd0 h1 hpc hpn h2 hwn (.inr ⟨he, hd⟩)
    · rw [if_neg (fun x => he x.1)]
      exact rcheck_poly p A m c q vs bs A1 A2 pn c1 wn c2 P ws w h hm (by omega) hd0 h1 hpc hpn h2 hwn (.inl he)
  · rw [chkA_no P ws hd0]
    exact rcheck_fail p k A m c vs bs A1 A2 pn c1 wn c2 w hp64 h hm hk64 hd0
end Go.Proofs.YtnjdjcgandfnfaaDoor
