/-
  What the second form's functions on lists hand back, for any arguments: Add, Scale, Dot, Unit, Combine: the result or the error. Conditions: the lists read as their numbers.
-/
import Derived.Test.YtoblofilaegnaaaVAll
import Derived.Test.YtoblofilaegnaaaRComb
import Derived.Deep.QuietTactic
import Derived.BigQuiet
namespace Go.Proofs.Ytoblofilaegnaaa
open Go.RowKit
set_option linter.unusedVariables false

theorem twoE_eq (p : Int) (xs ys : List Int) : (twoE p xs ys = 0 ∧ inF p xs = true ∧ inF p ys = true ∧ xs.length = ys.length) ∨ (twoE p xs ys = 2 ∧ inF p xs = true ∧ inF p ys = true ∧ ¬ xs.length = ys.length) ∨ (twoE p xs ys = 9 ∧ ¬ (inF p xs = true ∧ inF p ys = true)) := by
  unfold twoE
  by_cases h : inF p xs = true ∧ inF p ys = true
  · by_cases hl : xs.length = ys.length
    · exact .inl ⟨by rw [if_pos h, if_pos hl], h.1, h.2, hl⟩
    · exact .inr (.inl ⟨by rw [if_pos h, if_neg hl], h.1, h.2, hl⟩)
  · exact .inr (.inr ⟨by rw [if_neg h], h⟩)

theorem radd_any (p : Int) (A B : Option Addr) (n m c d : Nat) (xs ys : List Int) (w : World) (h : Ints w w.heap.size A n xs) (h2 : Ints w w.heap.size B m ys) (hn : n ≤ 17592186044416) (hm : m ≤ 17592186044416) :
    Calls Try.prog 24 #[.agg #[.int .i64 p], .slice A n c, .slice B m d] w (VecPost (addR p xs ys) w) := by
  rcases twoE_eq p xs ys with ⟨_, hx, hy, hl⟩ | ⟨he, hx, hy, hl⟩ | ⟨he, hx⟩
  · have hnm : n = m := by rw [← h.len, ← h2.len, hl]
    subst hnm
    have HR : Hid (addR p xs ys = (zipI (addP p) xs ys, 0)) := Lib.hid (by unfold addR; rw [if_pos ⟨hx, hy⟩, if_pos hl])
    refine (radd_ok p A B n c d xs ys w (inF_iff.1 hx).1 h h2 (inF_iff.1 hx).2 (inF_iff.1 hy).2 hn).mono ?_
    rintro e w' ⟨⟨A', c', rfl, hown⟩, hb⟩
    exact ⟨⟨A', n, c', by rw [HR.out], by rw [HR.out]; exact hown⟩, hb⟩
  · have HR : Hid (addR p xs ys = ([], 2)) := Lib.hid (by unfold addR; rw [if_pos ⟨hx, hy⟩, if_neg hl])
    have HE := Lib.hid he
    clear hx hy hl he
    go_enter Try.func24, Try.ntmps24
    go_wp2_with (go_at_call 122; refine (two_any p A B n m c d xs ys _ (h.upto (bbox _)) (h2.upto (bbox _)) hn hm).mono ?_; rintro e w1 ⟨rfl, hb1⟩; rw [HE.out]
                 have hb := bnext (bbox _) hb1)
    go_ret2
    exact ⟨⟨none, 0, 0, by (rw [HR.out]; try rfl), by rw [HR.out]; exact OwnI.nil_⟩, hb⟩
  · have HR : Hid (addR p xs ys = ([], 9)) := Lib.hid (by unfold addR; rw [if_neg hx])
    have HE := Lib.hid he
    clear hx he
    go_enter Try.func24, Try.ntmps24
    go_wp2_with (go_at_call 122; refine (two_any p A B n m c d xs ys _ (h.upto (bbox _)) (h2.upto (bbox _)) hn hm).mono ?_; rintro e w1 ⟨rfl, hb1⟩; rw [HE.out]
                 have hb := bnext (bbox _) hb1)
    go_ret2
    exact ⟨⟨none, 0, 0, by (rw [HR.out]; try rfl), by rw [HR.out]; exact OwnI.nil_⟩, hb⟩

theorem rscale_any (p y : Int) (A : Option Addr) (n c : Nat) (xs : List Int) (w : World) (h : Ints w w.heap.size A n xs) (hn : n ≤ 17592186044416) :
    Calls Try.prog 26 #[.agg #[.int .i64 p], .slice A n c, .int .i64 y] w (VecPost (scaleR p xs y) w) := by
  by_cases hx : inF p xs = true
  · by_cases hy : inP p y = true
    · have HR : Hid (scaleR p xs y = (scaleP p y xs, 0)) := Lib.hid (by unfold scaleR; rw [if_pos ⟨hx, hy⟩])
      refine (rscale_ok p y A n c xs w (inF_iff.1 hx).1 h (inF_iff.1 hx).2 (inP_iff.1 hy) hn).mono ?_
      rintro e w' ⟨⟨A', c', rfl, hown⟩, hb⟩
      exact ⟨⟨A', n, c', by rw [HR.out], by rw [HR.out]; exact hown⟩, hb⟩
    · have HR : Hid (scaleR p xs y = ([], 9)) := Lib.hid (by unfold scaleR; rw [if_neg (fun e => hy e.2)])
      have HI1 := Lib.hid hx
      have HI2 : Hid (inF p [y] = false) := Lib.hid (by rw [inF_false]; intro _; unfold allP; simpa using hy)
      clear hx hy
      go_enter Try.func26, Try.ntmps26
      go_wp2_with (first
        | (go_at_call 126; (with_reducible refine (in_any p A n c xs _ (h.upto (bbox _)) hn).mono ?_); rintro e w1 ⟨rfl, hb1⟩; rw [HI1.out]
           have hb := bnext (bbox _) hb1
           have hF1 := (Blk.new w 24 #[.int .i64 p]).below hb1 (by simp)
           have hfc1 : w1.cell? ⟨w.heap.size, 0, none⟩ = some (.int .i64 p) := (hF1.cell 0).trans rfl
           clear hb1)
        | (go_at_call 126; refine (in_any p (some ⟨w1.heap.size, 0, none⟩) 1 1 [y] _ (Ints.oneAt _ _ _ _ rfl) (by omega)).mono ?_; rintro e w2 ⟨rfl, hb2⟩; rw [HI2.out]
           have hbb := bnext (ballocs hb _) hb2
           clear hb2))
      go_ret2
      exact ⟨⟨none, 0, 0, by (rw [HR.out]; try rfl), by rw [HR.out]; exact OwnI.nil_⟩, hbb⟩
  · have hx' : inF p xs = false := by simpa using hx
    have HR : Hid (scaleR p xs y = ([], 9)) := Lib.hid (by unfold scaleR; rw [if_neg (fun e => hx e.1)])
    have HI1 := Lib.hid hx'
    clear hx hx'
    go_enter Try.func26, Try.ntmps26
    go_wp2_with (go_at_call 126; (with_reducible refine (in_any p A n c xs _ (h.upto (bbox _)) hn).mono ?_); rintro e w1 ⟨rfl, hb1⟩; rw [HI1.out]
                 have hb := bnext (bbox _) hb1)
    go_ret2
    exact ⟨⟨none, 0, 0, by (rw [HR.out]; try rfl), by rw [HR.out]; exact OwnI.nil_⟩, hb⟩

theorem dot_step (p s x y : Int) : addP p s (mulP p x y) = (s + x * y) % p := by
  unfold addP mulP
  rw [Int.add_emod, Int.emod_emod_of_dvd _ (Int.dvd_refl p), ← Int.add_emod]
theorem zip_take_dot (p : Int) (xs ys : List Int) (k : Nat) (hx : k < xs.length) (hy : k < ys.length) :
    sumP p (zipI (mulP p) (xs.take (k + 1)) (ys.take (k + 1))) = (sumP p (zipI (mulP p) (xs.take k) (ys.take k)) + xs.getD k 0 * ys.getD k 0) % p := by
  rw [zipI_take_succ _ _ _ _ hx hy, sumP_snoc, dot_step]

set_option maxHeartbeats 400000 in
theorem rdot_any (p : Int) (A B : Option Addr) (n m c d : Nat) (xs ys : List Int) (w : World) (h : Ints w w.heap.size A n xs) (h2 : Ints w w.heap.size B m ys) (hn : n ≤ 17592186044416) (hm : m ≤ 17592186044416) :
    Calls Try.prog 29 #[.agg #[.int .i64 p], .slice A n c, .slice B m d] w (ValPost (dotR p xs ys) w) := by
  rcases twoE_eq p xs ys with ⟨he, hx, hy, hl⟩ | ⟨he, hx, hy, hl⟩ | ⟨he, hx⟩
  · have hnm : n = m := by rw [← h.len, ← h2.len, hl]
    subst hnm
    have HR : Hid (dotR p xs ys = (dotP p xs ys, 0)) := Lib.hid (by unfold dotR; rw [if_pos ⟨hx, hy⟩, if_pos hl])
    have hp := okP_pos (inF_iff.1 hx).1
    have HX := Lib.hid (inF_iff.1 hx).2
    have HY := Lib.hid (inF_iff.1 hy).2
    have HE := Lib.hid he
    have HL := Lib.hid h.len
    have HM := Lib.hid h2.len
    clear hx hy hl he
    go_enter Try.func29, Try.ntmps29
    go_wp2_with (go_at_call 122; refine (two_any p A B n n c d xs ys _ (h.upto (bbox _)) (h2.upto (bbox _)) hn hm).mono ?_; rintro e w1 ⟨rfl, hb1⟩; rw [HE.out]
                 have hb := bnext (bbox _) hb1
                 have hF := (Blk.new w 24 #[.int .i64 p]).below hb1 (by simp))
    clear hb1
    go_loopw [9, 20] (fun s i wr => ∃ k q : Nat, k ≤ n ∧ i = .int .i64 k ∧ s = .int .i64 (sumP p (zipI (mulP p) (xs.take k) (ys.take k))) ∧ wr = w1.drewN q) (fun _ i _ => n - (intOf i).toNat)
    case atStart => exact ⟨0, 0, Nat.zero_le _, rfl, rfl, rfl⟩
    case round =>
      obtain ⟨k, q, hk, rfl, rfl, rfl⟩ := hrel
      have hs := sumP_in hp.1 (zipI (mulP p) (xs.take k) (ys.take k))
      by_cases hlt : k < n
      · obtain ⟨b1, o1, rfl, hb1, hc1⟩ := h.2 (by omega)
        obtain ⟨b2, o2, rfl, hb2, hc2⟩ := h2.2 (by omega)
        have hr1 := (hb.cell (p := ⟨b1, o1 + k, none⟩) hb1).trans (hc1 k hlt)
        have hr2 := (hb.cell (p := ⟨b2, o2 + k, none⟩) hb2).trans (hc2 k hlt)
        have hfr : w1.cell? ⟨w.heap.size, 0, none⟩ = some (.int .i64 p) := (hF.cell 0).trans rfl
        clear hc1 hc2
        have HT := Lib.hid (zip_take_dot p xs ys k (by rw [HL.out]; exact hlt) (by rw [HM.out]; exact hlt))
        have hxk := allP_getD HX.out (k := k) (by rw [HL.out]; exact hlt)
        have hyk := allP_getD HY.out (k := k) (by rw [HM.out]; exact hlt)
        generalize xs.getD k 0 = x at *
        generalize ys.getD k 0 = y at *
        generalize sumP p (zipI (mulP p) (xs.take k) (ys.take k)) = s at *
        have hmm : 0 ≤ x * y ∧ x * y ≤ 65521 * 65521 := ⟨Int.mul_nonneg hxk.1 hyk.1, Int.mul_le_mul (by omega) (by omega) hyk.1 (by omega)⟩
        have hk0 : (0 : Int) ≤ (k : Int) := by omega
        have hk1 : (k : Int) < (n : Int) := by omega
        have hw1 : IntKind.i64.wrap (x * y) = x * y := IntWalk.i64_in _ (by omega)
        have hw2 : IntKind.i64.wrap (s + x * y) = s + x * y := IntWalk.i64_in _ (by omega)
        have hp0 : ¬ p = 0 := by omega
        have ht : (s + x * y).tmod p = (s + x * y) % p := Int.tmod_eq_emod_of_nonneg (by omega)
        go_wp2
        go_quiet (fail)
        clear hw1 hw2 ht
        go_wp2
        go_roundw
        case rel => exact ⟨k + 1, _, by omega, by go_num, by rw [HT.out], rfl⟩
        case measure => simp [intOf]; omega
      · have hkn : k = n := by omega
        subst hkn
        have HD : Hid (sumP p (zipI (mulP p) (xs.take k) (ys.take k)) = dotP p xs ys) := Lib.hid (by rw [List.take_of_length_le (by rw [HL.out]; omega), List.take_of_length_le (by rw [HM.out]; omega)]; rfl)
        rw [HD.out]
        go_wp2
        go_ret2
        exact ⟨by (rw [HR.out]; try rfl), below_drewN hb q⟩
  · have HR : Hid (dotR p xs ys = (0, 2)) := Lib.hid (by unfold dotR; rw [if_pos ⟨hx, hy⟩, if_neg hl])
    have HE := Lib.hid he
    clear hx hy hl he
    go_enter Try.func29, Try.ntmps29
    go_wp2_with (go_at_call 122; refine (two_any p A B n m c d xs ys _ (h.upto (bbox _)) (h2.upto (bbox _)) hn hm).mono ?_; rintro e w1 ⟨rfl, hb1⟩; rw [HE.out]
                 have hb := bnext (bbox _) hb1)
    go_ret2
    exact ⟨by (rw [HR.out]; try rfl), hb⟩
  · have HR : Hid (dotR p xs ys = (0, 9)) := Lib.hid (by unfold dotR; rw [if_neg hx])
    have HE := Lib.hid he
    clear hx he
    go_enter Try.func29, Try.ntmps29
    go_wp2_with (go_at_call 122; refine (two_any p A B n m c d xs ys _ (h.upto (bbox _)) (h2.upto (bbox _)) hn hm).mono ?_; rintro e w1 ⟨rfl, hb1⟩; rw [HE.out]
                 have hb := bnext (bbox _) hb1)
    go_ret2
    exact ⟨by (rw [HR.out]; try rfl), hb⟩

set_option maxRecDepth 100000 in
theorem runit_any (p n at_ : Int) (w : World) :
    Calls Try.prog 34 #[.agg #[.int .i64 p], .int .i64 n, .int .i64 at_] w (VecPost (unitR p n at_) w) := by
  obtain ⟨i0, hi0, hz0, hz1, hz2⟩ := info_parts info_int
  by_cases hok : okP p = true
  · have HO := Lib.hid hok
    by_cases hn : n < 0 ∨ 1024 < n
    · have HR : Hid (unitR p n at_ = ([], 4)) := Lib.hid (by unfold unitR; rw [if_pos hok, if_pos hn])
      clear hok
      rcases hn with hn | hn
      all_goals
        go_enter Try.func34, Try.ntmps34
        go_wp2_with (go_at_call 128; refine (check_yes p _ HO.out).mono ?_; rintro e w1 ⟨rfl, hb1⟩
                     have hbb1 := bnext (bbox _) hb1)
        all_goals go_ret2
        all_goals exact ⟨⟨none, 0, 0, by (rw [HR.out]; try rfl), by rw [HR.out]; exact OwnI.nil_⟩, hbb1⟩
    · have hn1 : 0 ≤ n := by omega
      have hn2 : n ≤ 1024 := by omega
      by_cases hat : at_ < 0 ∨ n ≤ at_
      · have HR : Hid (unitR p n at_ = ([], 1)) := Lib.hid (by unfold unitR; rw [if_pos hok, if_neg hn, if_pos hat])
        clear hok hn
        rcases hat with hat | hat
        all_goals
          go_enter Try.func34, Try.ntmps34
          go_wp2_with (go_at_call 128; refine (check_yes p _ HO.out).mono ?_; rintro e w1 ⟨rfl, hb1⟩
                       have hbb1 := bnext (bbox _) hb1)
          all_goals go_ret2
          all_goals exact ⟨⟨none, 0, 0, by (rw [HR.out]; try rfl), by rw [HR.out]; exact OwnI.nil_⟩, hbb1⟩
      · obtain ⟨n, rfl⟩ : ∃ k : Nat, n = k := ⟨n.toNat, by omega⟩
        obtain ⟨at_, rfl⟩ : ∃ k : Nat, at_ = k := ⟨at_.toNat, by omega⟩
        have HR : Hid (unitR p n at_ = (unitL n at_, 0)) := Lib.hid (by unfold unitR; rw [if_pos hok, if_neg hn, if_neg hat, Int.toNat_natCast, Int.toNat_natCast])
        have hat1 : at_ < n := by omega
        clear hok hn hat
        go_enter Try.func34, Try.ntmps34
        go_wp2_with (first
          | (go_at_call 128; refine (check_yes p _ HO.out).mono ?_; rintro e w1 ⟨rfl, hb1⟩
             have hbb1 := bnext (bbox _) hb1)
          | (at_make
             refine wpList_make_full _ rfl _ _ 22 rfl w.heap.size 3 i0 (.int .i64 0) 1 Try.underlying22 hi0 hz0 hz1 .i64 .i64 n n n rfl rfl rfl rfl (by rw [hz2]; omega) (by unfold maxLen; omega) hbb1.size ?_
             intro w2 hown hgr
             have hown1 : OwnI w2 w.heap.size 3 (some ⟨w1.heap.size, 0, none⟩) n n (List.replicate n 0) := by rw [made_zeros] at hown; exact hown
             have hc := hown1.cellAt hat1
             have hf := hown1.frozenAt at_
             have hown2 := hown1.stored at_ 1
             have hb2 := (hbb1.grown hgr hbb1.size (fun k hk => by cases hk)).setCell (p := ⟨w1.heap.size, at_, none⟩) hbb1.size (.int .i64 1)
             clear hown hgr))
        go_ret2
        exact ⟨⟨_, n, n, by (rw [HR.out]; try rfl), by rw [HR.out]; exact hown2⟩, hb2⟩
  · have hok' : okP p = false := by simpa using hok
    have HO := Lib.hid hok'
    have HR : Hid (unitR p n at_ = ([], 9)) := Lib.hid (by unfold unitR; rw [if_neg hok])
    clear hok hok'
    go_enter Try.func34, Try.ntmps34
    go_wp2_with (go_at_call 128; refine (check_no p _ HO.out).mono ?_; rintro e w1 ⟨rfl, hb1⟩
                 have hbb1 := bnext (bbox _) hb1)
    all_goals go_ret2
    all_goals exact ⟨⟨none, 0, 0, by (rw [HR.out]; try rfl), by rw [HR.out]; exact OwnI.nil_⟩, hbb1⟩

theorem not_all_first {p : Int} {rows : List (List Int)} (h : ¬ ∀ r ∈ rows, inF p r = true) (k : Nat) (hk : k = rows.length) : ¬ ∀ r ∈ rows.take k, inF p r = true := by
  rw [List.take_of_length_le (by omega)]; exact h
theorem take_mem_succ {P : List Int → Prop} {rows : List (List Int)} {k : Nat} (hk : k < rows.length) (h : ∀ r ∈ rows.take k, P r) (h1 : P (rows.getD k [])) : ∀ r ∈ rows.take (k + 1), P r := by
  rw [List.take_succ_eq_append_getElem hk]
  intro r hr
  rcases List.mem_append.1 hr with hr | hr
  · exact h r hr
  · rw [List.mem_singleton] at hr
    rw [List.getD_eq_getElem?_getD, List.getElem?_eq_getElem hk] at h1
    rw [hr]; exact h1

set_option maxRecDepth 100000 in
set_option maxHeartbeats 1600000 in
theorem rcombine_any (p : Int) (A C : Option Addr) (n m c d : Nat) (wd : Int) (cs : List Int) (rows : List (List Int)) (w : World) {lo : Nat} (h : Ints w w.heap.size A n cs) (hM : Mat w lo w.heap.size C m rows)
    (hn : n ≤ 17592186044416) (hm : m ≤ 17592186044416) :
    Calls Try.prog 31 #[.agg #[.int .i64 p], .slice A n c, .slice C m d, .int .i64 wd] w (VecPost (combR p cs rows wd) w) := by
  by_cases hok : okP p = true
  · have HO := Lib.hid hok
    by_cases hw : wd < 0 ∨ 64 < wd
    · have HR : Hid (combR p cs rows wd = ([], 4)) := Lib.hid (by unfold combR; rw [if_pos hok, if_pos hw])
      clear hok
      rcases hw with hw | hw
      all_goals
        go_enter Try.func31, Try.ntmps31
        go_wp2_with (go_at_call 128; refine (check_yes p _ HO.out).mono ?_; rintro e w1 ⟨rfl, hb1⟩
                     have hbb1 := bnext (bbox _) hb1)
        all_goals go_ret2
        all_goals exact ⟨⟨none, 0, 0, by (rw [HR.out]; try rfl), by rw [HR.out]; exact OwnI.nil_⟩, hbb1⟩
    · have hw0 : 0 ≤ wd := by omega
      have hw1 : wd ≤ 64 := by omega
      by_cases hl : n = m
      · subst hl
        have HM := Lib.hid hM.len
        have HL := Lib.hid h.len
        by_cases hwd : wideB rows wd = true
        · by_cases hall : allP p cs = true ∧ allM p rows = true
          · obtain ⟨wd, rfl⟩ : ∃ k : Nat, wd = k := ⟨wd.toNat, by omega⟩
            have HR : Hid (combR p cs rows wd = (combP p cs rows wd, 0)) := Lib.hid (by unfold combR; rw [if_pos hok, if_neg hw, if_neg (by rw [HL.out, HM.out]; simp), if_pos hwd, if_pos hall, Int.toNat_natCast])
            refine (rcombine_ok p A C n wd c d cs rows w hok h hM hall.1 (fun r hr => ⟨allM_iff.1 hall.2 r hr, by have := wideB_iff.1 hwd r hr; omega⟩) hn (by omega)).mono ?_
            rintro e w' ⟨⟨A', c', rfl, hown⟩, hb⟩
            exact ⟨⟨A', wd, c', by rw [HR.out], by rw [HR.out]; exact hown⟩, hb⟩
          · have HR : Hid (combR p cs rows wd = ([], 9)) := Lib.hid (by unfold combR; rw [if_pos hok, if_neg hw, if_neg (by rw [HL.out, HM.out]; simp), if_pos hwd, if_neg hall])
            have HW := Lib.hid (wideB_iff.1 hwd)
            have HF : Hid (inF p cs = true → ¬ ∀ r ∈ rows, inF p r = true) := Lib.hid (fun h1 h2 => hall ⟨(inF_iff.1 h1).2, allM_iff.2 fun r hr => (inF_iff.1 (h2 r hr)).2⟩)
            clear hok hwd hall hw
            go_enter Try.func31, Try.ntmps31
            go_wp2_with (go_at_call 128; refine (check_yes p _ HO.out).mono ?_; rintro e w1 ⟨rfl, hb1⟩
                         have hbb1 := bnext (bbox _) hb1
                         have hF1 := (Blk.new w 24 #[.int .i64 p]).below hb1 (by simp)
                         have hc1 : w1.cell? ⟨w.heap.size, 0, none⟩ = some (.int .i64 p) := (hF1.cell 0).trans rfl
                         clear hb1)
            go_loop [38] (fun i => ∃ k : Nat, k ≤ n ∧ i = .int .i64 k) (fun i => n - (intOf i).toNat)
            case atStart => exact ⟨0, Nat.zero_le _, rfl⟩
            case round =>
              obtain ⟨k, hk, rfl⟩ := hrel
              by_cases hlt : k < n
              · obtain ⟨b, off, B1, m, d1, rfl, _, hb1, hcell, hm1, hI, _⟩ := (hM.upto hbb1).at_ hlt
                have hrow := HW.out _ (getD_mem2 (d := []) (k := k) (by rw [HM.out]; exact hlt))
                generalize rows.getD k [] = row at *
                rw [hI.len] at hrow
                subst hrow
                go_wp2
                go_round
                case rel => exact ⟨k + 1, by omega, by go_num⟩
                case measure => simp [intOf]; omega
              · have hkn : k = n := by omega
                subst hkn
                by_cases hcs : inF p cs = true
                · have HCS := Lib.hid hcs
                  have HF2 := Lib.hid (HF.out hcs)
                  clear hcs
                  go_wp2_with (go_at_call 126; refine (in_any p A k c cs _ (h.upto hbb1) (by omega)).mono ?_; rintro e w2 ⟨rfl, hb2⟩; rw [HCS.out]
                               have hbb2 := bnext hbb1 hb2
                               have hF2 := hF1.below hb2 hF1.lt
                               clear hb2)
                  clear hbb1 hF1 hc1
                  go_loopw [53] (fun i wr => ∃ j : Nat, j ≤ k ∧ i = .int .i64 j ∧ Below w.heap.size w wr ∧ Blk wr w.heap.size 24 #[.int .i64 p] ∧ Hid (∀ r ∈ rows.take j, inF p r = true)) (fun i _ => k - (intOf i).toNat)
                  case atStart => exact ⟨0, Nat.zero_le _, rfl, hbb2, hF2, Lib.hid (by simp)⟩
                  case round =>
                    obtain ⟨j, hj, rfl, hbr, hFr, HA⟩ := hrel
                    have hcr : wr.cell? ⟨w.heap.size, 0, none⟩ = some (.int .i64 p) := (hFr.cell 0).trans rfl
                    by_cases hlt : j < k
                    · obtain ⟨b, off, B1, m, d1, rfl, _, hb1, hcell, hm1, hI, _⟩ := (hM.upto hbr).at_ hlt
                      have HT : Hid (inF p (rows.getD j []) = true → ∀ r ∈ rows.take (j + 1), inF p r = true) := Lib.hid (fun h1 => take_mem_succ (by rw [HM.out]; exact hlt) HA.out h1)
                      generalize rows.getD j [] = row at *
                      by_cases hin : inF p row = true
                      · have HN := Lib.hid (HT.out hin)
                        have HIN := Lib.hid hin
                        clear hin
                        go_wp2_with (go_at_call 126; refine (in_any p B1 m d1 row _ hI (by omega)).mono ?_; rintro e w3 ⟨rfl, hb3⟩; rw [HIN.out]
                                     have hbr3 := bnext hbr hb3
                                     have hFr3 := hFr.below hb3 hFr.lt
                                     clear hb3)
                        go_roundw
                        case rel => exact ⟨j + 1, by omega, by go_num, hbr3, hFr3, HN⟩
                        case measure => simp [intOf]; omega
                      · have hin' : inF p row = false := by simpa using hin
                        have HIN := Lib.hid hin'
                        clear hin hin'
                        go_wp2_with (go_at_call 126; refine (in_any p B1 m d1 row _ hI (by omega)).mono ?_; rintro e w3 ⟨rfl, hb3⟩; rw [HIN.out]
                                     have hbr3 := bnext hbr hb3
                                     clear hb3)
                        go_ret2
                        exact ⟨⟨none, 0, 0, by (rw [HR.out]; try rfl), by rw [HR.out]; exact OwnI.nil_⟩, hbr3⟩
                    · have hjk : j = k := by omega
                      subst hjk
                      exact absurd HA.out (not_all_first HF2.out j (by rw [HM.out]))
                · have hcs' : inF p cs = false := by simpa using hcs
                  have HCS := Lib.hid hcs'
                  clear hcs hcs'
                  go_wp2_with (go_at_call 126; refine (in_any p A k c cs _ (h.upto hbb1) (by omega)).mono ?_; rintro e w2 ⟨rfl, hb2⟩; rw [HCS.out]
                               have hbb2 := bnext hbb1 hb2
                               clear hb2)
                  go_ret2
                  exact ⟨⟨none, 0, 0, by (rw [HR.out]; try rfl), by rw [HR.out]; exact OwnI.nil_⟩, hbb2⟩
        · have HR : Hid (combR p cs rows wd = ([], 2)) := Lib.hid (by unfold combR; rw [if_pos hok, if_neg hw, if_neg (by rw [HL.out, HM.out]; simp), if_neg hwd])
          have HW : Hid (¬ ∀ r ∈ rows, ((r.length : Nat) : Int) = wd) := Lib.hid (fun e => hwd (wideB_iff.2 e))
          clear hok hwd hw
          go_enter Try.func31, Try.ntmps31
          go_wp2_with (go_at_call 128; refine (check_yes p _ HO.out).mono ?_; rintro e w1 ⟨rfl, hb1⟩
                       have hbb1 := bnext (bbox _) hb1
                       clear hb1)
          go_loop [38] (fun i => ∃ k : Nat, k ≤ n ∧ i = .int .i64 k ∧ Hid (∀ r ∈ rows.take k, ((r.length : Nat) : Int) = wd)) (fun i => n - (intOf i).toNat)
          case atStart => exact ⟨0, Nat.zero_le _, rfl, Lib.hid (by simp)⟩
          case round =>
            obtain ⟨k, hk, rfl, HB⟩ := hrel
            by_cases hlt : k < n
            · obtain ⟨b, off, B1, m, d1, rfl, _, hb1, hcell, hm1, hI, _⟩ := (hM.upto hbb1).at_ hlt
              have HT : Hid (((rows.getD k []).length : Int) = wd → ∀ r ∈ rows.take (k + 1), ((r.length : Nat) : Int) = wd) := Lib.hid (fun h1 => take_mem_succ (P := fun r => ((r.length : Nat) : Int) = wd) (by rw [HM.out]; exact hlt) HB.out h1)
              generalize rows.getD k [] = row at *
              rw [hI.len] at HT
              by_cases hmw : (m : Int) = wd
              · have HN := Lib.hid (HT.out hmw)
                clear HT
                subst hmw
                go_wp2
                go_round
                case rel => exact ⟨k + 1, by omega, by go_num, HN⟩
                case measure => simp [intOf]; omega
              · have hne : ((m : Int) != wd) = true := by simpa using hmw
                clear hmw
                go_wp2
                go_ret2
                exact ⟨⟨none, 0, 0, by (rw [HR.out]; try rfl), by rw [HR.out]; exact OwnI.nil_⟩, hbb1⟩
            · have hkn : k = n := by omega
              subst hkn
              exact absurd (by have := HB.out; rwa [List.take_of_length_le (by rw [HM.out]; omega)] at this) HW.out
      · have HR : Hid (combR p cs rows wd = ([], 2)) := Lib.hid (by unfold combR; rw [if_pos hok, if_neg hw, if_pos (by rw [h.len, hM.len]; exact hl)])
        have hne : ((n : Int) != (m : Int)) = true := by simp; omega
        clear hok hw
        go_enter Try.func31, Try.ntmps31
        go_wp2_with (go_at_call 128; refine (check_yes p _ HO.out).mono ?_; rintro e w1 ⟨rfl, hb1⟩
                     have hbb1 := bnext (bbox _) hb1)
        all_goals go_ret2
        all_goals exact ⟨⟨none, 0, 0, by (rw [HR.out]; try rfl), by rw [HR.out]; exact OwnI.nil_⟩, hbb1⟩
  · have hok' : okP p = false := by simpa using hok
    have HO := Lib.hid hok'
    have HR : Hid (combR p cs rows wd = ([], 9)) := Lib.hid (by unfold combR; rw [if_neg hok])
    clear hok hok'
    go_enter Try.func31, Try.ntmps31
    go_wp2_with (go_at_call 128; refine (check_no p _ HO.out).mono ?_; rintro e w1 ⟨rfl, hb1⟩
                 have hbb1 := bnext (bbox _) hb1)
    all_goals go_ret2
    all_goals exact ⟨⟨none, 0, 0, by (rw [HR.out]; try rfl), by rw [HR.out]; exact OwnI.nil_⟩, hbb1⟩

/-- What a function leaves that makes a list or gives an error: the list and the error named. -/
def VecP (rs : List Int) (er : Int) (w : World) (e : Ending) (w' : World) : Prop :=
  ∃ A' n' c', e = .returned (.tuple #[.slice A' n' c', .int .i64 er]) ∧ OwnI w' w.heap.size 3 A' n' c' rs ∧ n' ≤ 17592186044416 ∧ Below w.heap.size w w'
theorem vecE {r : List Int × Int} {rs : List Int} {er : Int} {P : Program} {f : FuncId} {args : Array Value} {w : World} (hr : Hid (r = (rs, er))) (hl : Hid (r.1.length ≤ 17592186044416)) (h : Calls P f args w (VecPost r w)) : Calls P f args w (VecP rs er w) := by
  refine h.mono ?_
  rintro e w' ⟨⟨A', n', c', he, ho⟩, hb⟩
  have hl' := hl.out
  rw [hr.out] at he ho hl'
  exact ⟨A', n', c', he, ho, by have := ho.len; omega, hb⟩
theorem addR_len (p : Int) (xs ys : List Int) (h : xs.length ≤ 17592186044416) : (addR p xs ys).1.length ≤ 17592186044416 := by
  unfold addR; split
  · split
    · simp only [zipI, List.length_zipWith]; omega
    · simp
  · simp
theorem scaleR_len (p : Int) (xs : List Int) (x : Int) (h : xs.length ≤ 17592186044416) : (scaleR p xs x).1.length ≤ 17592186044416 := by
  unfold scaleR; split
  · simp only [scaleP, List.length_map]; omega
  · simp
theorem unitR_len (p n at_ : Int) : (unitR p n at_).1.length ≤ 17592186044416 := by
  unfold unitR; split
  · split
    · simp
    · split
      · simp
      · simp only [unitL, List.length_set, List.length_replicate]; omega
  · simp
theorem combR_len (p : Int) (cs : List Int) (rows : List (List Int)) (wd : Int) : (combR p cs rows wd).1.length ≤ 17592186044416 := by
  unfold combR; split
  · split
    · simp
    · split
      · simp
      · split
        · split
          · rename_i h1 h2
            have := combP_len p cs rows wd.toNat (fun r hr => by have := wideB_iff.1 h1 r hr; omega)
            simp only
            omega
          · simp
        · simp
  · simp
end Go.Proofs.Ytoblofilaegnaaa
