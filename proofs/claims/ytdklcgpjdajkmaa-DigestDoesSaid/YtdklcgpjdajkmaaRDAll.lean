/-
  What the second form's Line, Lines and Fits hand back for any arguments: the result or the error. Conditions: the lists read as their numbers.
-/
import Derived.Test.YtdklcgpjdajkmaaDAll
import Derived.Test.YtdklcgpjdajkmaaRAll
import Derived.Test.YtdklcgpjdajkmaaRDig
import Derived.Deep.QuietTactic
import Derived.BigQuiet
namespace Go.Proofs.Ytdklcgpjdajkmaa
open Go.RowKit
set_option linter.unusedVariables false

theorem vstep {p : Int} (x : Int) (zs : List Int) {j : Nat} (hj : j < zs.length) : (valueP p x (zs.drop (j + 1)) * x + zs.getD j 0) % p = valueP p x (zs.drop j) := by
  rw [List.drop_eq_getElem_cons hj]
  show _ = addP p (mulP p (valueP p x (zs.drop (j + 1))) x) _
  unfold addP mulP
  rw [List.getD_eq_getElem?_getD, List.getElem?_eq_getElem hj, Option.getD_some]
  exact (Int.emod_add_emod _ _ _).symm

theorem inF_one (p x : Int) : inF p [x] = (okP p && inP p x) := by simp [inF, allP]

set_option maxRecDepth 100000 in
set_option maxHeartbeats 800000 in
theorem rline_any (p pt : Int) (A : Option Addr) (n c : Nat) (xs : List Int) (w : World) (h : Ints w w.heap.size A n xs) (hn : n ≤ 17592186044416) :
    Calls Try.prog 56 #[.agg #[.int .i64 p], .int .i64 pt, .slice A n c] w (ValPost (lineR p pt xs) w) := by
  have HL := Lib.hid h.len
  have hF0 := Blk.new w 46 #[.int .i64 p]
  by_cases hx : inF p xs = true
  · have HX := Lib.hid hx
    by_cases hpt : inP p pt = true
    · have HPI : Hid (inF p [pt] = true) := Lib.hid (by rw [inF_one, (inF_iff.1 hx).1, hpt]; rfl)
      by_cases hn64 : 64 < n
      · have HE : Hid (lineR p pt xs = (0, 4)) := Lib.hid (by unfold lineR; rw [if_pos ⟨(inF_iff.1 hx).1, hpt, (inF_iff.1 hx).2⟩, if_pos (by rw [HL.out]; exact hn64)])
        clear hx hpt
        go_enter Try.func56, Try.ntmps56
        go_wp2_with (first
          | (go_at_call 128; (with_reducible refine (in_any p A n c xs _ (h.upto (bbox _)) hn).mono ?_); rintro e w1 ⟨rfl, hb1⟩; rw [HX.out]
             have hb := bnext (bbox _) hb1
             have hF1 := hF0.below hb1 (by simp)
             have hfc1 : w1.cell? ⟨w.heap.size, 0, none⟩ = some (.int .i64 p) := (hF1.cell 0).trans rfl)
          | (go_at_call 128; refine (in_any p (some ⟨w1.heap.size, 0, none⟩) 1 1 [pt] _ (Ints.oneAt _ _ _ _ rfl) (by omega)).mono ?_; rintro e w2 ⟨rfl, hb2⟩; rw [HPI.out]
             have hbb := bnext (ballocs hb _) hb2))
        go_ret2
        exact ⟨by (rw [HE.out]; rfl), hbb⟩
      · have HE : Hid (lineR p pt xs = (valueP p pt xs, 0)) := Lib.hid (by unfold lineR; rw [if_pos ⟨(inF_iff.1 hx).1, hpt, (inF_iff.1 hx).2⟩, if_neg (by rw [HL.out]; exact hn64)])
        have hp := okP_pos (inF_iff.1 hx).1
        have hpt' := inP_iff.1 hpt
        have HZ := Lib.hid (inF_iff.1 hx).2
        have hn1 : IntKind.i64.wrap ((n : Int) - 1) = (n : Int) - 1 := IntWalk.i64_in _ (by omega)
        clear hx hpt
        go_enter Try.func56, Try.ntmps56
        go_wp2_with (first
          | (go_at_call 128; (with_reducible refine (in_any p A n c xs _ (h.upto (bbox _)) hn).mono ?_); rintro e w1 ⟨rfl, hb1⟩; rw [HX.out]
             have hb := bnext (bbox _) hb1
             have hF1 := hF0.below hb1 (by simp)
             have hfc1 : w1.cell? ⟨w.heap.size, 0, none⟩ = some (.int .i64 p) := (hF1.cell 0).trans rfl)
          | (go_at_call 128; refine (in_any p (some ⟨w1.heap.size, 0, none⟩) 1 1 [pt] _ (Ints.oneAt _ _ _ _ rfl) (by omega)).mono ?_; rintro e w2 ⟨rfl, hb2⟩; rw [HPI.out]
             have hbb := bnext (ballocs hb _) hb2
             have hF2 := (hF1.alloc (.cells #[.int .i64 pt] 3)).below hb2 (by have := hF1.lt; simp; omega)
             have hcF : w2.cell? ⟨w.heap.size, 0, none⟩ = some (.int .i64 p) := (hF2.cell 0).trans rfl
             have hI := h.upto hbb
             clear hb2 hF1 hfc1 hb hb1))
        go_loopw [8, 9] (fun s i wz => ∃ (k q : Nat) (iv sv : Int), k ≤ n ∧ i = .int .i64 iv ∧ Hid (iv = (k : Int) - 1) ∧ s = .int .i64 sv ∧ Hid (valueP p pt (xs.drop k) = sv) ∧ wz = w2.drewN q) (fun _ i _ => (intOf i + 1).toNat)
        case atStart => exact ⟨n, 0, _, 0, Nat.le_refl _, rfl, Lib.hid rfl, rfl, Lib.hid (by rw [List.drop_of_length_le (by rw [HL.out]; exact Nat.le_refl _)]; rfl), rfl⟩
        case round =>
          obtain ⟨k, q, iv, sv, hk, rfl, HI, rfl, HS, rfl⟩ := hrel
          by_cases hk0 : 0 < k
          · obtain ⟨j, rfl⟩ : ∃ j, k = j + 1 := ⟨k - 1, by omega⟩
            obtain rfl : iv = (j : Int) := by have := HI.out; omega
            obtain ⟨b, off, rfl, hb, hcell⟩ := hI.2 (by omega)
            have hcj := hcell j (by omega)
            clear hcell
            have hye := allP_getD HZ.out (k := j) (by rw [HL.out]; omega)
            have hsv := valueP_in hp.1 pt (xs.drop (j + 1))
            have hst := vstep (p := p) pt xs (j := j) (by rw [HL.out]; omega)
            rw [HS.out] at hsv hst
            obtain ⟨y, HY⟩ : ∃ y, Hid (xs.getD j 0 = y) := ⟨_, Lib.hid rfl⟩
            rw [HY.out] at hcj hye hst
            obtain ⟨v, hv⟩ : ∃ v, (sv * pt + y) % p = v := ⟨_, rfl⟩
            have HN : Hid (valueP p pt (xs.drop j) = v) := Lib.hid (hst.symm.trans hv)
            have hsx : 0 ≤ sv * pt ∧ sv * pt ≤ 65521 * 65521 := ⟨Int.mul_nonneg hsv.1 hpt'.1, by have := Int.mul_le_mul (show sv ≤ 65521 by omega) (show pt ≤ 65521 by omega) hpt'.1 (by omega); omega⟩
            have hw1 : IntKind.i64.wrap (sv * pt) = sv * pt := IntWalk.i64_in _ (by omega)
            have hw2 : IntKind.i64.wrap (sv * pt + y) = sv * pt + y := IntWalk.i64_in _ (by omega)
            have hvt : (sv * pt + y).tmod p = v := by rw [Int.tmod_eq_emod_of_nonneg (by omega)]; exact hv
            have hjm : IntKind.i64.wrap ((j : Int) - 1) = (j : Int) - 1 := IntWalk.i64_in _ (by omega)
            have hj0 : (0 : Int) ≤ (j : Int) := by omega
            have hjn : (j : Int) < (n : Int) := by omega
            have hp0 : ¬ p = 0 := by omega
            clear hst hv hsx HI
            go_wp2
            go_quiet (fail)
            go_wp2
            go_roundw
            case rel => exact ⟨j, _, _, v, by omega, rfl, Lib.hid rfl, rfl, HN, rfl⟩
            case measure => simp [intOf]
          · obtain rfl : k = 0 := by omega
            have hiv : iv < 0 := by have := HI.out; omega
            have hiv2 : ¬ (0 ≤ iv) := by omega
            have HS2 : Hid (valueP p pt xs = sv) := HS
            go_wp2
            go_ret2
            exact ⟨by (rw [HE.out, HS2.out]; try rfl), below_drewN hbb _⟩
    · have HE : Hid (lineR p pt xs = (0, 9)) := Lib.hid (by unfold lineR; rw [if_neg (fun e => hpt e.2.1)])
      have HPI : Hid (inF p [pt] = false) := Lib.hid (by rw [inF_one]; simp at hpt; rw [hpt, Bool.and_false])
      clear hx hpt
      go_enter Try.func56, Try.ntmps56
      go_wp2_with (first
        | (go_at_call 128; (with_reducible refine (in_any p A n c xs _ (h.upto (bbox _)) hn).mono ?_); rintro e w1 ⟨rfl, hb1⟩; rw [HX.out]
           have hb := bnext (bbox _) hb1
           have hF1 := hF0.below hb1 (by simp)
           have hfc1 : w1.cell? ⟨w.heap.size, 0, none⟩ = some (.int .i64 p) := (hF1.cell 0).trans rfl)
        | (go_at_call 128; refine (in_any p (some ⟨w1.heap.size, 0, none⟩) 1 1 [pt] _ (Ints.oneAt _ _ _ _ rfl) (by omega)).mono ?_; rintro e w2 ⟨rfl, hb2⟩; rw [HPI.out]
           have hbb := bnext (ballocs hb _) hb2))
      go_ret2
      exact ⟨by (rw [HE.out]; rfl), hbb⟩
  · have HE : Hid (lineR p pt xs = (0, 9)) := Lib.hid (by unfold lineR; rw [if_neg (fun e => hx (inF_iff.2 ⟨e.1, e.2.2⟩))])
    have hx' : inF p xs = false := by simpa using hx
    have HX := Lib.hid hx'
    clear hx hx'
    go_enter Try.func56, Try.ntmps56
    go_wp2_with (go_at_call 128; (with_reducible refine (in_any p A n c xs _ (h.upto (bbox _)) hn).mono ?_); rintro e w1 ⟨rfl, hb1⟩; rw [HX.out]
                 have hb := bnext (bbox _) hb1)
    go_ret2
    exact ⟨by (rw [HE.out]; rfl), hb⟩

set_option maxRecDepth 100000 in
set_option maxHeartbeats 1600000 in
theorem rlines_any (p pt : Int) (A : Option Addr) (n c : Nat) (rows : List (List Int)) (w : World) {lo : Nat} (h : Mat w lo w.heap.size A n rows) (hn : n ≤ 17592186043904) :
    Calls Try.prog 52 #[.agg #[.int .i64 p], .int .i64 pt, .slice A n c] w (VecPost (linesR p pt rows) w) := by
  obtain ⟨i0, hi0, hz0, hz1, hz2⟩ := info_parts info_int
  have HL := Lib.hid h.len
  have hF0 := (Blk.new w 46 #[.int .i64 p]).alloc (.cells #[.int .i64 pt] 3)
  have hb0 : Below w.heap.size w ((w.alloc (.cells #[.int .i64 p] 46)).alloc (.cells #[.int .i64 pt] 3)) := ballocs (bbox _) _
  by_cases hpt : inF p [pt] = true
  · have HPI := Lib.hid hpt
    have hok : okP p = true := (inF_iff.1 hpt).1
    have hptb : inP p pt = true := by rw [inF_one, hok] at hpt; exact hpt
    have hpt' := inP_iff.1 hptb
    have hp := okP_pos hok
    obtain ⟨b0, HB0⟩ : ∃ b0, Hid (decide (1024 < rows.length) = b0) := ⟨_, Lib.hid rfl⟩
    have HB0' : Hid (decide ((1024 : Int) < (n : Int)) = b0) := Lib.hid (by rw [← HB0.out, HL.out, decide_eq_decide]; omega)
    obtain ⟨ab, HAB⟩ : ∃ ab, Hid (allM p rows = ab) := ⟨_, Lib.hid rfl⟩
    obtain ⟨lb, HLB⟩ : ∃ lb, Hid (longM rows = lb) := ⟨_, Lib.hid rfl⟩
    have HE : Hid (linesR p pt rows = if ab = true then (if lb = true then ([], 4) else (linesP p pt rows, 0)) else ([], 9)) := Lib.hid (by
      unfold linesR; rw [HAB.out, HLB.out]
      cases ab
      · rw [if_neg (fun e => by cases e.2.2)]; rfl
      · rw [if_pos ⟨hok, hptb, rfl⟩]; rfl)
    have HO := Lib.hid hok
    clear hpt hok hptb
    go_enter Try.func52, Try.ntmps52
    go_wp2_with (go_at_call 128; refine (in_any p _ 1 1 [pt] _ (by exact Ints.oneAt _ pt 3 _ (by simp)) (by omega)).mono ?_; rintro e w1 ⟨rfl, hb1⟩; rw [HPI.out]
                 have hbb1 := bnext hb0 hb1
                 have hF1 := hF0.below hb1 (by simp; omega)
                 clear hb1)
    go_loopw [8, 26] (fun lg i wr => ∃ (k : Nat) (b : Bool), k ≤ n ∧ lg = .bool b ∧ i = .int .i64 k ∧ Hid ((b0 || (rows.take k).any fun r => decide (64 < r.length)) = b) ∧ Hid (∀ r ∈ rows.take k, allP p r = true) ∧ Below w.heap.size w wr ∧ Blk wr w.heap.size 46 #[.int .i64 p]) (fun _ i _ => n - (intOf i).toNat)
    case atStart => exact ⟨0, b0, Nat.zero_le _, by rw [← HB0'.out], rfl, Lib.hid (by simp), Lib.hid (by simp), hbb1, hF1⟩
    case round =>
      obtain ⟨k, bb, hk, rfl, rfl, HB, HA, hbr, hFr⟩ := hrel
      have hcr : wr.cell? ⟨w.heap.size, 0, none⟩ = some (.int .i64 p) := (hFr.cell 0).trans rfl
      by_cases hlt : k < n
      · obtain ⟨b, off, B1, m, d, rfl, _, hb1, hcell, hm, hI, _⟩ := (h.upto hbr).at_ hlt
        have HN := Lib.hid (longM_take_succ b0 rows k (by rw [HL.out]; exact hlt))
        have HN1 : Hid (allP p (rows.getD k []) = true → ∀ r ∈ rows.take (k + 1), allP p r = true) := Lib.hid (fun h1 => take_mem_succD (by rw [HL.out]; exact hlt) HA.out h1)
        have HN3 : Hid (ab = true → allP p (rows.getD k []) = true) := Lib.hid (fun e => allM_iff.1 (HAB.out.trans e) _ (getD_mem (by rw [HL.out]; exact hlt)))
        generalize rows.getD k [] = row at *
        have HD : Hid (decide (64 < row.length) = decide ((64 : Int) < (m : Int))) := Lib.hid (by rw [hI.len, decide_eq_decide]; omega)
        by_cases hin : inF p row = true
        · have HIN := Lib.hid hin
          have HN2 := Lib.hid (HN1.out (inF_iff.1 hin).2)
          clear hin
          cases bb
          all_goals
            go_wp2_with (go_at_call 128; refine (in_any p B1 m d row _ hI (by omega)).mono ?_; rintro e w3 ⟨rfl, hb3⟩; rw [HIN.out]
                         have hbr3 := bnext hbr hb3
                         have hFr3 := hFr.below hb3 hFr.lt
                         clear hb3)
            go_roundw
            case rel => exact ⟨k + 1, _, by omega, rfl, by go_num, Lib.hid (by rw [HN.out, HB.out, HD.out]; simp), HN2, hbr3, hFr3⟩
            case measure => simp [intOf]; omega
        · have hin' : inF p row = false := by simpa using hin
          have HIN := Lib.hid hin'
          have hab : ab = false := by
            rw [← Bool.not_eq_true]; intro e
            exact hin (inF_iff.2 ⟨HO.out, HN3.out e⟩)
          subst hab
          clear hin hin'
          go_wp2_with (go_at_call 128; refine (in_any p B1 m d row _ hI (by omega)).mono ?_; rintro e w3 ⟨rfl, hb3⟩; rw [HIN.out]
                       have hbr3 := bnext hbr hb3
                       clear hb3)
          go_ret2
          exact ⟨⟨none, 0, 0, by (rw [HE.out]; rfl), by rw [HE.out]; exact OwnI.nil_⟩, hbr3⟩
      · have hkn : k = n := by omega
        subst hkn
        have hab : ab = true := by
          rw [← HAB.out]; exact allM_iff.2 (by have := HA.out; rwa [List.take_of_length_le (by rw [HL.out]; omega)] at this)
        subst hab
        have hlb : bb = lb := by
          have := HB.out
          rw [List.take_of_length_le (by rw [HL.out]; omega), ← HB0.out] at this
          rw [← this, ← HLB.out]; rfl
        subst hlb
        have HAL := Lib.hid (allM_iff.1 HAB.out)
        cases bb
        · have HW : Hid (∀ r ∈ rows, r.length ≤ 64) := Lib.hid (by
            intro r hr
            have := HLB.out
            unfold longM at this
            rw [Bool.or_eq_false_iff] at this
            have := List.any_eq_false.1 this.2 r hr
            simpa using this)
          go_wp2
          go_loopw [11, 44] (fun v i wx => ∃ (j : Nat) (A' : Option Addr) (c' : Nat), j ≤ k ∧ i = .int .i64 j ∧ v = .slice A' j c' ∧ OwnI wx (w.heap.size + 1) 3 A' j c' (linesP p pt (rows.take j)) ∧ Below w.heap.size w wx ∧ Blk wx w.heap.size 46 #[.int .i64 p]) (fun _ i _ => k - (intOf i).toNat)
          case atStart => exact ⟨0, none, 0, Nat.zero_le _, rfl, rfl, OwnI.nil_, hbr, hFr⟩
          case round =>
            obtain ⟨j, A', c', hj, rfl, rfl, hown, hbx, hFx⟩ := hrel
            have hcx : wr.cell? ⟨w.heap.size, 0, none⟩ = some (.int .i64 p) := (hFx.cell 0).trans rfl
            by_cases hlt2 : j < k
            · obtain ⟨b, off, B1, m, d, rfl, _, hb1, hcell, hm, hI, _⟩ := (h.upto hbx).at_ hlt2
              have HT := Lib.hid (linesP_take_succ p pt rows j (by rw [HL.out]; exact hlt2))
              have HX1 := HAL.out _ (getD_mem (d := []) (k := j) (by rw [HL.out]; exact hlt2))
              have HX2 := HW.out _ (getD_mem (d := []) (k := j) (by rw [HL.out]; exact hlt2))
              generalize rows.getD j [] = row at *
              have HLR : Hid (lineR p pt row = (valueP p pt row, 0)) := Lib.hid (by unfold lineR; rw [if_pos ⟨HO.out, inP_iff.2 hpt', HX1⟩, if_neg (by omega)])
              clear HX1 HX2
              go_wp2_with (first
                | (go_at_call 56; refine (valE HLR (rline_any p pt B1 m d row _ hI (by omega))).mono ?_; rintro e w3 ⟨rfl, hb3⟩
                   have hbx3 := bnext hbx hb3
                   have hown3 := hown.belowAll hb3
                   have hFx3 := hFx.below hb3 hFx.lt
                   have hl3 : w.heap.size + 1 ≤ w3.heap.size := hFx3.lt
                   clear hb3)
                | (at_builtin
                   refine wpList_append_ints rfl _ _ _ rfl (w.heap.size + 1) 3 i0 _ Try.underlying22 hi0 hz0 hz1 hz2 rfl A' j c' _ rfl (hown3.alloc _) _ _ 1 1 [valueP p pt row] rfl (Ints.one _ _ _) (j + 1) rfl _ rfl (by omega) (le_alloc hl3 _) ?_
                   intro A2 c2 w4 hown4 _ hbw4 _
                   rw [← HT.out] at hown4
                   have hbw5 : Below (w.heap.size + 1) w3 w4 := ((Below.refl _ w3).alloc hl3 (.cells #[.int .i64 (valueP p pt row)] 3)).trans hbw4
                   have hbx4 := hbx3.trans (hbw5.mono (by omega))
                   have hFx4 := hFx3.below hbw5 (by omega)))
              go_roundw
              case rel => exact ⟨j + 1, A2, c2, by omega, by go_num, rfl, hown4, hbx4, hFx4⟩
              case measure => simp [intOf]; omega
            · have hjk : j = k := by omega
              subst hjk
              rw [List.take_of_length_le (by rw [HL.out]; omega)] at hown
              go_wp2
              go_ret2
              exact ⟨⟨A', j, c', by (rw [HE.out]; rfl), by rw [HE.out]; exact hown.base (by omega)⟩, hbx⟩
        · go_wp2
          go_ret2
          exact ⟨⟨none, 0, 0, by (rw [HE.out]; rfl), by rw [HE.out]; exact OwnI.nil_⟩, hbr⟩
  · have hpt' : inF p [pt] = false := by simpa using hpt
    have HPI := Lib.hid hpt'
    have HE : Hid (linesR p pt rows = ([], 9)) := Lib.hid (by
      unfold linesR; rw [if_neg (fun e => hpt (by rw [inF_one, e.1, e.2.1]; rfl))])
    clear hpt hpt'
    go_enter Try.func52, Try.ntmps52
    go_wp2_with (go_at_call 128; refine (in_any p _ 1 1 [pt] _ (by exact Ints.oneAt _ pt 3 _ (by simp)) (by omega)).mono ?_; rintro e w1 ⟨rfl, hb1⟩; rw [HPI.out]
                 have hbb1 := bnext hb0 hb1)
    go_ret2
    exact ⟨⟨none, 0, 0, by (rw [HE.out]; rfl), by rw [HE.out]; exact OwnI.nil_⟩, hbb1⟩

set_option maxRecDepth 100000 in
set_option maxHeartbeats 1600000 in
theorem rfits_any (p pt : Int) (L Q X : Option Addr) (n k m cl cq cx : Nat) (ls qs xs : List Int) (w : World) (hL : Ints w w.heap.size L n ls) (hQ : Ints w w.heap.size Q k qs) (hX : Ints w w.heap.size X m xs)
    (hn : n ≤ 17592186044416) (hk : k ≤ 17592186044416) (hm : m ≤ 17592186044416) :
    Calls Try.prog 54 #[.agg #[.int .i64 p], .int .i64 pt, .slice L n cl, .slice Q k cq, .slice X m cx] w (BoolPost (fitsR p pt ls qs xs) w) := by
  have hLl := hL.len
  have hQl := hQ.len
  have hXl := hX.len
  have hF0 := (Blk.new w 46 #[.int .i64 p]).alloc (.cells #[.int .i64 pt] 3)
  have hb0 : Below w.heap.size w ((w.alloc (.cells #[.int .i64 p] 46)).alloc (.cells #[.int .i64 pt] 3)) := ballocs (bbox _) _
  obtain ⟨b1, HB1⟩ : ∃ b, Hid (inF p [pt] = b) := ⟨_, Lib.hid rfl⟩
  obtain ⟨b2, HB2⟩ : ∃ b, Hid (inF p ls = b) := ⟨_, Lib.hid rfl⟩
  obtain ⟨b3, HB3⟩ : ∃ b, Hid (inF p qs = b) := ⟨_, Lib.hid rfl⟩
  obtain ⟨b4, HB4⟩ : ∃ b, Hid (inF p xs = b) := ⟨_, Lib.hid rfl⟩
  have HE : Hid (fitsR p pt ls qs xs = if (b1 && b2 && b3 && b4) = true then (if 64 < xs.length ∨ 1024 < ls.length ∨ 1024 < qs.length then (false, 4) else if qs.length = ls.length then (valueP p pt xs == dotP p qs ls, 0) else (false, 2)) else (false, 9)) := Lib.hid (by
    unfold fitsR
    have e : (okP p && inP p pt && allP p ls && allP p qs && allP p xs) = (b1 && b2 && b3 && b4) := by
      rw [← HB1.out, ← HB2.out, ← HB3.out, ← HB4.out, inF_one]
      unfold inF
      cases okP p <;> simp
    rw [e])
  cases b1
  · clear hLl hQl hXl
    go_enter Try.func54, Try.ntmps54
    go_wp2_with (go_at_call 128; refine (in_any p _ 1 1 [pt] _ (by exact Ints.oneAt _ pt 3 _ (by simp)) (by omega)).mono ?_; rintro e w1 ⟨rfl, hb1⟩; rw [HB1.out]
                 have hbb1 := bnext hb0 hb1)
    go_ret2
    exact ⟨by (rw [HE.out]; rfl), hbb1⟩
  have hok : okP p = true := (inF_iff.1 HB1.out).1
  have hptb : inP p pt = true := by have := HB1.out; rw [inF_one, hok] at this; exact this
  cases b2
  · clear hLl hQl hXl hok hptb
    go_enter Try.func54, Try.ntmps54
    go_wp2_with (first
      | (go_at_call 128; (with_reducible refine (in_any p L n cl ls w1 (hL.upto hbb1) (by omega)).mono ?_); rintro e w2 ⟨rfl, hb2⟩; rw [HB2.out]
         have hbb2 := bnext hbb1 hb2)
      | (go_at_call 128; refine (in_any p _ 1 1 [pt] _ (by exact Ints.oneAt _ pt 3 _ (by simp)) (by omega)).mono ?_; rintro e w1 ⟨rfl, hb1⟩; rw [HB1.out]
         have hbb1 := bnext hb0 hb1
         have hF1 := hF0.below hb1 (by simp; omega)
         have hc1 : w1.cell? ⟨w.heap.size, 0, none⟩ = some (.int .i64 p) := (hF1.cell 0).trans rfl))
    go_ret2
    exact ⟨by (rw [HE.out]; rfl), hbb2⟩
  cases b3
  · clear hLl hQl hXl hok hptb
    go_enter Try.func54, Try.ntmps54
    go_wp2_with (first
      | (go_at_call 128; (with_reducible refine (in_any p L n cl ls w1 (hL.upto hbb1) (by omega)).mono ?_); rintro e w2 ⟨rfl, hb2⟩; rw [HB2.out]
         have hbb2 := bnext hbb1 hb2
         have hF2 := hF1.below hb2 hF1.lt
         have hc2 : w2.cell? ⟨w.heap.size, 0, none⟩ = some (.int .i64 p) := (hF2.cell 0).trans rfl)
      | (go_at_call 128; (with_reducible refine (in_any p Q k cq qs w2 (hQ.upto hbb2) (by omega)).mono ?_); rintro e w3 ⟨rfl, hb3⟩; rw [HB3.out]
         have hbb3 := bnext hbb2 hb3)
      | (go_at_call 128; refine (in_any p _ 1 1 [pt] _ (by exact Ints.oneAt _ pt 3 _ (by simp)) (by omega)).mono ?_; rintro e w1 ⟨rfl, hb1⟩; rw [HB1.out]
         have hbb1 := bnext hb0 hb1
         have hF1 := hF0.below hb1 (by simp; omega)
         have hc1 : w1.cell? ⟨w.heap.size, 0, none⟩ = some (.int .i64 p) := (hF1.cell 0).trans rfl))
    go_ret2
    exact ⟨by (rw [HE.out]; rfl), hbb3⟩
  cases b4
  · clear hLl hQl hXl hok hptb
    go_enter Try.func54, Try.ntmps54
    go_wp2_with (first
      | (go_at_call 128; (with_reducible refine (in_any p L n cl ls w1 (hL.upto hbb1) (by omega)).mono ?_); rintro e w2 ⟨rfl, hb2⟩; rw [HB2.out]
         have hbb2 := bnext hbb1 hb2
         have hF2 := hF1.below hb2 hF1.lt
         have hc2 : w2.cell? ⟨w.heap.size, 0, none⟩ = some (.int .i64 p) := (hF2.cell 0).trans rfl)
      | (go_at_call 128; (with_reducible refine (in_any p Q k cq qs w2 (hQ.upto hbb2) (by omega)).mono ?_); rintro e w3 ⟨rfl, hb3⟩; rw [HB3.out]
         have hbb3 := bnext hbb2 hb3
         have hF3 := hF2.below hb3 hF2.lt
         have hc3 : w3.cell? ⟨w.heap.size, 0, none⟩ = some (.int .i64 p) := (hF3.cell 0).trans rfl)
      | (go_at_call 128; (with_reducible refine (in_any p X m cx xs w3 (hX.upto hbb3) (by omega)).mono ?_); rintro e w4 ⟨rfl, hb4⟩; rw [HB4.out]
         have hbb4 := bnext hbb3 hb4)
      | (go_at_call 128; refine (in_any p _ 1 1 [pt] _ (by exact Ints.oneAt _ pt 3 _ (by simp)) (by omega)).mono ?_; rintro e w1 ⟨rfl, hb1⟩; rw [HB1.out]
         have hbb1 := bnext hb0 hb1
         have hF1 := hF0.below hb1 (by simp; omega)
         have hc1 : w1.cell? ⟨w.heap.size, 0, none⟩ = some (.int .i64 p) := (hF1.cell 0).trans rfl))
    go_ret2
    exact ⟨by (rw [HE.out]; rfl), hbb4⟩
  have HE : Hid (fitsR p pt ls qs xs = if 64 < xs.length ∨ 1024 < ls.length ∨ 1024 < qs.length then (false, 4) else if qs.length = ls.length then (valueP p pt xs == dotP p qs ls, 0) else (false, 2)) := Lib.hid (HE.out.trans (if_pos rfl))
  have al := (inF_iff.1 HB2.out).2
  have aq := (inF_iff.1 HB3.out).2
  have ax := (inF_iff.1 HB4.out).2
  by_cases hlim : 64 < m ∨ 1024 < n ∨ 1024 < k
  · have HE2 : Hid (fitsR p pt ls qs xs = (false, 4)) := Lib.hid (by rw [HE.out, if_pos (by rw [hLl, hQl, hXl]; exact hlim)])
    have hc : 64 < m ∨ (m ≤ 64 ∧ 1024 < n) ∨ (m ≤ 64 ∧ n ≤ 1024 ∧ 1024 < k) := by omega
    clear hok hptb al aq ax hLl hQl hXl hlim HE
    rcases hc with hc | ⟨hc1, hc⟩ | ⟨hc1, hc2, hc⟩
    all_goals
      go_enter Try.func54, Try.ntmps54
      go_wp2_with (first
        | (go_at_call 128; (with_reducible refine (in_any p L n cl ls w1 (hL.upto hbb1) (by omega)).mono ?_); rintro e w2 ⟨rfl, hb2⟩; rw [HB2.out]
           have hbb2 := bnext hbb1 hb2
           have hF2 := hF1.below hb2 hF1.lt
           have hc2 : w2.cell? ⟨w.heap.size, 0, none⟩ = some (.int .i64 p) := (hF2.cell 0).trans rfl)
        | (go_at_call 128; (with_reducible refine (in_any p Q k cq qs w2 (hQ.upto hbb2) (by omega)).mono ?_); rintro e w3 ⟨rfl, hb3⟩; rw [HB3.out]
           have hbb3 := bnext hbb2 hb3
           have hF3 := hF2.below hb3 hF2.lt
           have hc3 : w3.cell? ⟨w.heap.size, 0, none⟩ = some (.int .i64 p) := (hF3.cell 0).trans rfl)
        | (go_at_call 128; (with_reducible refine (in_any p X m cx xs w3 (hX.upto hbb3) (by omega)).mono ?_); rintro e w4 ⟨rfl, hb4⟩; rw [HB4.out]
           have hbb4 := bnext hbb3 hb4)
        | (go_at_call 128; refine (in_any p _ 1 1 [pt] _ (by exact Ints.oneAt _ pt 3 _ (by simp)) (by omega)).mono ?_; rintro e w1 ⟨rfl, hb1⟩; rw [HB1.out]
           have hbb1 := bnext hb0 hb1
           have hF1 := hF0.below hb1 (by simp; omega)
           have hc1 : w1.cell? ⟨w.heap.size, 0, none⟩ = some (.int .i64 p) := (hF1.cell 0).trans rfl))
      go_ret2
      exact ⟨by (rw [HE2.out]; rfl), hbb4⟩
  · have hcm : m ≤ 64 := by omega
    have hcn : n ≤ 1024 := by omega
    have hck : k ≤ 1024 := by omega
    by_cases hlen : k = n
    · subst hlen
      have HE2 : Hid (fitsR p pt ls qs xs = (valueP p pt xs == dotP p qs ls, 0)) := Lib.hid (by rw [HE.out, if_neg (by rw [hLl, hQl, hXl]; exact hlim), if_pos (by rw [hLl, hQl])])
      have HDR : Hid (dotR p qs ls = (dotP p qs ls, 0)) := Lib.hid (by unfold dotR; rw [if_pos ⟨HB3.out, HB2.out⟩, if_pos (by rw [hLl, hQl])])
      have HLR : Hid (lineR p pt xs = (valueP p pt xs, 0)) := Lib.hid (by unfold lineR; rw [if_pos ⟨hok, hptb, ax⟩, if_neg (by rw [hXl]; omega)])
      obtain ⟨dv, HDV⟩ : ∃ v, Hid (dotP p qs ls = v) := ⟨_, Lib.hid rfl⟩
      obtain ⟨vv, HVV⟩ : ∃ v, Hid (valueP p pt xs = v) := ⟨_, Lib.hid rfl⟩
      rw [HDV.out] at HDR HE2
      rw [HVV.out] at HLR HE2
      clear hok hptb al aq ax hLl hQl hXl hlim HE
      go_enter Try.func54, Try.ntmps54
      go_wp2_with (first
        | (go_at_call 128; (with_reducible refine (in_any p L k cl ls w1 (hL.upto hbb1) (by omega)).mono ?_); rintro e w2 ⟨rfl, hb2⟩; rw [HB2.out]
           have hbb2 := bnext hbb1 hb2
           have hF2 := hF1.below hb2 hF1.lt
           have hc2 : w2.cell? ⟨w.heap.size, 0, none⟩ = some (.int .i64 p) := (hF2.cell 0).trans rfl)
        | (go_at_call 128; (with_reducible refine (in_any p Q k cq qs w2 (hQ.upto hbb2) (by omega)).mono ?_); rintro e w3 ⟨rfl, hb3⟩; rw [HB3.out]
           have hbb3 := bnext hbb2 hb3
           have hF3 := hF2.below hb3 hF2.lt
           have hc3 : w3.cell? ⟨w.heap.size, 0, none⟩ = some (.int .i64 p) := (hF3.cell 0).trans rfl)
        | (go_at_call 128; (with_reducible refine (in_any p X m cx xs w3 (hX.upto hbb3) (by omega)).mono ?_); rintro e w4 ⟨rfl, hb4⟩; rw [HB4.out]
           have hbb4 := bnext hbb3 hb4
           have hF4 := hF3.below hb4 hF3.lt
           have hc4 : w4.cell? ⟨w.heap.size, 0, none⟩ = some (.int .i64 p) := (hF4.cell 0).trans rfl)
        | (go_at_call 128; refine (in_any p _ 1 1 [pt] _ (by exact Ints.oneAt _ pt 3 _ (by simp)) (by omega)).mono ?_; rintro e w1 ⟨rfl, hb1⟩; rw [HB1.out]
           have hbb1 := bnext hb0 hb1
           have hF1 := hF0.below hb1 (by simp; omega)
           have hc1 : w1.cell? ⟨w.heap.size, 0, none⟩ = some (.int .i64 p) := (hF1.cell 0).trans rfl)
        | (go_at_call 38; (refine (valE HDR (rdot_any p Q L k k cq cl qs ls _ (hQ.upto hbb4) (hL.upto hbb4) (by omega) (by omega))).mono ?_); rintro e w5 ⟨rfl, hb5⟩
           have hbb5 := bnext hbb4 hb5
           have hF5 := hF4.below hb5 hF4.lt
           have hc5 : w5.cell? ⟨w.heap.size, 0, none⟩ = some (.int .i64 p) := (hF5.cell 0).trans rfl)
        | (go_at_call 56; (refine (valE HLR (rline_any p pt X m cx xs _ (hX.upto hbb5) (by omega))).mono ?_); rintro e w6 ⟨rfl, hb6⟩
           have hbb6 := bnext hbb5 hb6))
      go_ret2
      exact ⟨by (rw [HE2.out]; try rfl), hbb6⟩
    · have HE2 : Hid (fitsR p pt ls qs xs = (false, 2)) := Lib.hid (by rw [HE.out, if_neg (by rw [hLl, hQl, hXl]; exact hlim), if_neg (by rw [hLl, hQl]; exact hlen)])
      have HDR : Hid (dotR p qs ls = (0, 2)) := Lib.hid (by unfold dotR; rw [if_pos ⟨HB3.out, HB2.out⟩, if_neg (by rw [hLl, hQl]; exact hlen)])
      clear hok hptb al aq ax hLl hQl hXl hlim hlen HE
      go_enter Try.func54, Try.ntmps54
      go_wp2_with (first
        | (go_at_call 128; (with_reducible refine (in_any p L n cl ls w1 (hL.upto hbb1) (by omega)).mono ?_); rintro e w2 ⟨rfl, hb2⟩; rw [HB2.out]
           have hbb2 := bnext hbb1 hb2
           have hF2 := hF1.below hb2 hF1.lt
           have hc2 : w2.cell? ⟨w.heap.size, 0, none⟩ = some (.int .i64 p) := (hF2.cell 0).trans rfl)
        | (go_at_call 128; (with_reducible refine (in_any p Q k cq qs w2 (hQ.upto hbb2) (by omega)).mono ?_); rintro e w3 ⟨rfl, hb3⟩; rw [HB3.out]
           have hbb3 := bnext hbb2 hb3
           have hF3 := hF2.below hb3 hF2.lt
           have hc3 : w3.cell? ⟨w.heap.size, 0, none⟩ = some (.int .i64 p) := (hF3.cell 0).trans rfl)
        | (go_at_call 128; (with_reducible refine (in_any p X m cx xs w3 (hX.upto hbb3) (by omega)).mono ?_); rintro e w4 ⟨rfl, hb4⟩; rw [HB4.out]
           have hbb4 := bnext hbb3 hb4
           have hF4 := hF3.below hb4 hF3.lt
           have hc4 : w4.cell? ⟨w.heap.size, 0, none⟩ = some (.int .i64 p) := (hF4.cell 0).trans rfl)
        | (go_at_call 128; refine (in_any p _ 1 1 [pt] _ (by exact Ints.oneAt _ pt 3 _ (by simp)) (by omega)).mono ?_; rintro e w1 ⟨rfl, hb1⟩; rw [HB1.out]
           have hbb1 := bnext hb0 hb1
           have hF1 := hF0.below hb1 (by simp; omega)
           have hc1 : w1.cell? ⟨w.heap.size, 0, none⟩ = some (.int .i64 p) := (hF1.cell 0).trans rfl)
        | (go_at_call 38; (refine (valE HDR (rdot_any p Q L k n cq cl qs ls _ (hQ.upto hbb4) (hL.upto hbb4) (by omega) (by omega))).mono ?_); rintro e w5 ⟨rfl, hb5⟩
           have hbb5 := bnext hbb4 hb5))
      go_ret2
      exact ⟨by (rw [HE2.out]; rfl), hbb5⟩
end Go.Proofs.Ytdklcgpjdajkmaa
