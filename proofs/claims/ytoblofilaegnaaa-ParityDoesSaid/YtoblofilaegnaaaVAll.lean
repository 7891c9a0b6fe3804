/-
  What vector's Dot, Combine and Unit hand back, for any arguments: the result or the error. Conditions: the lists read as their numbers.
-/
import Derived.Test.YtoblofilaegnaaaUnitV
import Derived.Test.YtoblofilaegnaaaVec2
import Derived.Test.YtoblofilaegnaaaComb
namespace Go.Proofs.Ytoblofilaegnaaa
open Go.RowKit
set_option linter.unusedVariables false

/-- What a function leaves that gives a number or an error. -/
def ValPost (r : Int × Int) (w : World) (e : Ending) (w' : World) : Prop := e = .returned (.tuple #[.int .i64 r.1, .int .i64 r.2]) ∧ Below w.heap.size w w'
/-- The inner product of two lists, or the error. -/
def dotR (p : Int) (xs ys : List Int) : Int × Int := if inF p xs = true ∧ inF p ys = true then (if xs.length = ys.length then (dotP p xs ys, 0) else (0, 2)) else (0, 9)

set_option maxHeartbeats 400000 in
theorem vdot_any (p : Int) (A B : Option Addr) (n m c d : Nat) (xs ys : List Int) (w : World) (hp64 : -9223372036854775808 ≤ p ∧ p ≤ 9223372036854775807) (h : Ints w w.heap.size A n xs) (h2 : Ints w w.heap.size B m ys) (hn : n ≤ 17592186044416) (hm : m ≤ 17592186044416) :
    Calls Try.prog 28 #[.agg #[.int .i64 p], .slice A n c, .slice B m d] w (ValPost (dotR p xs ys) w) := by
  by_cases hok : okP p = true
  · have HO := Lib.hid hok
    by_cases hx : allP p xs = true
    · by_cases hy : allP p ys = true
      · by_cases hl : n = m
        · subst hl
          have HR : Hid (dotR p xs ys = (dotP p xs ys, 0)) := Lib.hid (by unfold dotR; rw [if_pos ⟨inF_iff.2 ⟨hok, hx⟩, inF_iff.2 ⟨hok, hy⟩⟩, if_pos (by rw [h.len, h2.len])])
          unfold ValPost
          rw [HR.out]
          exact dot_ok p A B n c d xs ys w hok h h2 hx hy hn
        · have HX := Lib.hid hx
          have HY := Lib.hid hy
          have HR : Hid (dotR p xs ys = (0, 2)) := Lib.hid (by unfold dotR; rw [if_pos ⟨inF_iff.2 ⟨hok, hx⟩, inF_iff.2 ⟨hok, hy⟩⟩, if_neg (by rw [h.len, h2.len]; exact hl)])
          have hne : ((n : Int) != (m : Int)) = true := by simp; omega
          clear hx hy hok
          go_enter Try.func28, Try.ntmps28
          go_wp2_with (first
            | (go_at_call 118; refine (of_yes p _ HO.out).mono ?_; rintro e w1 ⟨rfl, hb1⟩
               have hbb1 := bnext (bbox _) hb1)
            | (go_at_call 119; (with_reducible refine (all_any p A n c xs w1 (h.upto hbb1) (by omega)).mono ?_); rintro e w2 ⟨rfl, hb2⟩; rw [HX.out]
               have hbb2 := bnext hbb1 hb2)
            | (go_at_call 119; (with_reducible refine (all_any p B m d ys w2 (h2.upto hbb2) (by omega)).mono ?_); rintro e w3 ⟨rfl, hb3⟩; rw [HY.out]
               have hbb3 := bnext hbb2 hb3))
          go_ret2
          exact ⟨by (rw [HR.out]; try rfl), hbb3⟩
      · have hy' : allP p ys = false := by simpa using hy
        have HX := Lib.hid hx
        have HY := Lib.hid hy'
        have HR : Hid (dotR p xs ys = (0, 9)) := Lib.hid (by unfold dotR; rw [if_neg (fun e => hy (inF_iff.1 e.2).2)])
        clear hx hy hy' hok
        go_enter Try.func28, Try.ntmps28
        go_wp2_with (first
          | (go_at_call 118; refine (of_yes p _ HO.out).mono ?_; rintro e w1 ⟨rfl, hb1⟩
             have hbb1 := bnext (bbox _) hb1)
          | (go_at_call 119; (with_reducible refine (all_any p A n c xs w1 (h.upto hbb1) (by omega)).mono ?_); rintro e w2 ⟨rfl, hb2⟩; rw [HX.out]
             have hbb2 := bnext hbb1 hb2)
          | (go_at_call 119; (with_reducible refine (all_any p B m d ys w2 (h2.upto hbb2) (by omega)).mono ?_); rintro e w3 ⟨rfl, hb3⟩; rw [HY.out]
             have hbb3 := bnext hbb2 hb3))
        go_ret2
        exact ⟨by (rw [HR.out]; try rfl), hbb3⟩
    · have hx' : allP p xs = false := by simpa using hx
      have HX := Lib.hid hx'
      have HR : Hid (dotR p xs ys = (0, 9)) := Lib.hid (by unfold dotR; rw [if_neg (fun e => hx (inF_iff.1 e.1).2)])
      clear hx hx' hok
      go_enter Try.func28, Try.ntmps28
      go_wp2_with (first
        | (go_at_call 118; refine (of_yes p _ HO.out).mono ?_; rintro e w1 ⟨rfl, hb1⟩
           have hbb1 := bnext (bbox _) hb1)
        | (go_at_call 119; (with_reducible refine (all_any p A n c xs w1 (h.upto hbb1) (by omega)).mono ?_); rintro e w2 ⟨rfl, hb2⟩; rw [HX.out]
           have hbb2 := bnext hbb1 hb2))
      go_ret2
      exact ⟨by (rw [HR.out]; try rfl), hbb2⟩
  · have hok' : okP p = false := by simpa using hok
    have HO := Lib.hid hok'
    have HR : Hid (dotR p xs ys = (0, 9)) := Lib.hid (by unfold dotR; rw [if_neg (fun e => hok (inF_iff.1 e.1).1)])
    clear hok hok'
    go_enter Try.func28, Try.ntmps28
    go_wp2_with (go_at_call 118; refine (of_no p _ hp64 HO.out).mono ?_; rintro e w1 ⟨rfl, hb1⟩
                 have hbb1 := bnext (bbox _) hb1)
    go_ret2
    exact ⟨by (rw [HR.out]; try rfl), hbb1⟩

/-- A unit list, or the error. -/
def unitR (p n at_ : Int) : List Int × Int := if okP p = true then (if n < 0 ∨ 1024 < n then ([], 4) else if at_ < 0 ∨ n ≤ at_ then ([], 1) else (unitL n.toNat at_.toNat, 0)) else ([], 9)

theorem vunit_any (p n at_ : Int) (w : World) (hp64 : -9223372036854775808 ≤ p ∧ p ≤ 9223372036854775807) :
    Calls Try.prog 33 #[.agg #[.int .i64 p], .int .i64 n, .int .i64 at_] w (VecPost (unitR p n at_) w) := by
  by_cases hok : okP p = true
  · have HO := Lib.hid hok
    by_cases hn : n < 0 ∨ 1024 < n
    · have HR : Hid (unitR p n at_ = ([], 4)) := Lib.hid (by unfold unitR; rw [if_pos hok, if_pos hn])
      clear hok
      rcases hn with hn | hn
      all_goals
        go_enter Try.func33, Try.ntmps33
        go_wp2_with (go_at_call 118; refine (of_yes p _ HO.out).mono ?_; rintro e w1 ⟨rfl, hb1⟩
                     have hbb1 := bnext (bbox _) hb1)
        all_goals go_ret2
        all_goals exact ⟨⟨none, 0, 0, by (rw [HR.out]; try rfl), by rw [HR.out]; exact OwnI.nil_⟩, hbb1⟩
    · by_cases hat : at_ < 0 ∨ n ≤ at_
      · have HR : Hid (unitR p n at_ = ([], 1)) := Lib.hid (by unfold unitR; rw [if_pos hok, if_neg hn, if_pos hat])
        have hn1 : 0 ≤ n := by omega
        have hn2 : n ≤ 1024 := by omega
        clear hok hn
        rcases hat with hat | hat
        all_goals
          go_enter Try.func33, Try.ntmps33
          go_wp2_with (go_at_call 118; refine (of_yes p _ HO.out).mono ?_; rintro e w1 ⟨rfl, hb1⟩
                       have hbb1 := bnext (bbox _) hb1)
          all_goals go_ret2
          all_goals exact ⟨⟨none, 0, 0, by (rw [HR.out]; try rfl), by rw [HR.out]; exact OwnI.nil_⟩, hbb1⟩
      · obtain ⟨n, rfl⟩ : ∃ k : Nat, n = k := ⟨n.toNat, by omega⟩
        obtain ⟨at_, rfl⟩ : ∃ k : Nat, at_ = k := ⟨at_.toNat, by omega⟩
        have HR : Hid (unitR p n at_ = (unitL n at_, 0)) := Lib.hid (by unfold unitR; rw [if_pos hok, if_neg hn, if_neg hat, Int.toNat_natCast, Int.toNat_natCast])
        refine (unit_ok p n at_ w hok (by omega) (by omega)).mono ?_
        rintro e w' ⟨⟨A', c', rfl, hown⟩, hb⟩
        exact ⟨⟨A', n, c', by (rw [HR.out]; try rfl), by rw [HR.out]; exact hown⟩, hb⟩
  · have hok' : okP p = false := by simpa using hok
    have HO := Lib.hid hok'
    have HR : Hid (unitR p n at_ = ([], 9)) := Lib.hid (by unfold unitR; rw [if_neg hok])
    clear hok hok'
    go_enter Try.func33, Try.ntmps33
    go_wp2_with (go_at_call 118; refine (of_no p _ hp64 HO.out).mono ?_; rintro e w1 ⟨rfl, hb1⟩
                 have hbb1 := bnext (bbox _) hb1)
    all_goals go_ret2
    all_goals exact ⟨⟨none, 0, 0, by (rw [HR.out]; try rfl), by rw [HR.out]; exact OwnI.nil_⟩, hbb1⟩

/-- Are all rows of one width? -/
def wideB (rows : List (List Int)) (width : Int) : Bool := rows.all fun r => ((r.length : Nat) : Int) == width
/-- Are all elements of all rows elements? -/
def allM (p : Int) (rows : List (List Int)) : Bool := rows.all (allP p)
/-- A combination of rows, or the error. -/
def combR (p : Int) (cs : List Int) (rows : List (List Int)) (width : Int) : List Int × Int :=
  if okP p = true then (if width < 0 ∨ 64 < width then ([], 4) else if cs.length ≠ rows.length then ([], 2) else if wideB rows width = true then (if allP p cs = true ∧ allM p rows = true then (combP p cs rows width.toNat, 0) else ([], 9)) else ([], 2)) else ([], 9)

theorem wideB_iff {rows : List (List Int)} {width : Int} : wideB rows width = true ↔ ∀ r ∈ rows, ((r.length : Nat) : Int) = width := by simp [wideB]
theorem allM_iff {p : Int} {rows : List (List Int)} : allM p rows = true ↔ ∀ r ∈ rows, allP p r = true := by simp [allM]
theorem allM_take_succ (p : Int) (rows : List (List Int)) (k : Nat) (hk : k < rows.length) : allM p (rows.take (k + 1)) = (allM p (rows.take k) && allP p (rows.getD k [])) := by
  unfold allM
  rw [List.take_succ_eq_append_getElem hk, List.all_append, List.getD_eq_getElem?_getD, List.getElem?_eq_getElem hk]
  simp only [List.all_cons, List.all_nil, Bool.and_true, Option.getD_some]

set_option maxRecDepth 100000 in
set_option maxHeartbeats 1600000 in
theorem vcombine_any (p : Int) (A C : Option Addr) (n m c d : Nat) (wd : Int) (cs : List Int) (rows : List (List Int)) (w : World) {lo : Nat} (hp64 : -9223372036854775808 ≤ p ∧ p ≤ 9223372036854775807) (h : Ints w w.heap.size A n cs) (hM : Mat w lo w.heap.size C m rows)
    (hn : n ≤ 17592186044416) (hm : m ≤ 17592186044416) :
    Calls Try.prog 30 #[.agg #[.int .i64 p], .slice A n c, .slice C m d, .int .i64 wd] w (VecPost (combR p cs rows wd) w) := by
  by_cases hok : okP p = true
  · have HO := Lib.hid hok
    by_cases hw : wd < 0 ∨ 64 < wd
    · have HR : Hid (combR p cs rows wd = ([], 4)) := Lib.hid (by unfold combR; rw [if_pos hok, if_pos hw])
      clear hok
      rcases hw with hw | hw
      all_goals
        go_enter Try.func30, Try.ntmps30
        go_wp2_with (go_at_call 118; refine (of_yes p _ HO.out).mono ?_; rintro e w1 ⟨rfl, hb1⟩
                     have hbb1 := bnext (bbox _) hb1)
        all_goals go_ret2
        all_goals exact ⟨⟨none, 0, 0, by (rw [HR.out]; try rfl), by rw [HR.out]; exact OwnI.nil_⟩, hbb1⟩
    · by_cases hl : n = m
      · subst hl
        have hw0 : 0 ≤ wd := by omega
        have hw1 : wd ≤ 64 := by omega
        have HM := Lib.hid hM.len
        have HL := Lib.hid h.len
        by_cases hwd : wideB rows wd = true
        · by_cases hall : allP p cs = true ∧ allM p rows = true
          · obtain ⟨wd, rfl⟩ : ∃ k : Nat, wd = k := ⟨wd.toNat, by omega⟩
            have HR : Hid (combR p cs rows wd = (combP p cs rows wd, 0)) := Lib.hid (by unfold combR; rw [if_pos hok, if_neg hw, if_neg (by rw [HL.out, HM.out]; simp), if_pos hwd, if_pos hall, Int.toNat_natCast])
            refine (combine_ok p A C n wd c d cs rows w hok h hM hall.1 (fun r hr => ⟨allM_iff.1 hall.2 r hr, by have := wideB_iff.1 hwd r hr; omega⟩) hn (by omega)).mono ?_
            rintro e w' ⟨⟨A', c', rfl, hown⟩, hb⟩
            exact ⟨⟨A', wd, c', by (rw [HR.out]; try rfl), by rw [HR.out]; exact hown⟩, hb⟩
          · have HR : Hid (combR p cs rows wd = ([], 9)) := Lib.hid (by unfold combR; rw [if_pos hok, if_neg hw, if_neg (by rw [HL.out, HM.out]; simp), if_pos hwd, if_neg hall])
            have HF : Hid ((allP p cs && allM p rows) = false) := Lib.hid (by rw [← Bool.not_eq_true]; simpa using hall)
            have HW := Lib.hid (wideB_iff.1 hwd)
            obtain ⟨b0, HB0⟩ : ∃ b0, Hid (allP p cs = b0) := ⟨_, Lib.hid rfl⟩
            clear hok hwd hall
            go_enter Try.func30, Try.ntmps30
            go_wp2_with (first
              | (go_at_call 118; refine (of_yes p _ HO.out).mono ?_; rintro e w1 ⟨rfl, hb1⟩
                 have hbb1 := bnext (bbox _) hb1
                 clear hb1)
              | (go_at_call 119; (refine (all_any p A n c cs _ (h.upto hbb1) (by omega)).mono ?_); rintro e w2 ⟨rfl, hb2⟩; rw [HB0.out]
                 have hbb2 := bnext hbb1 hb2
                 clear hb2))
            clear hbb1
            go_loopw [12, 41] (fun el i wr => ∃ (k : Nat) (b : Bool), k ≤ n ∧ el = .bool b ∧ i = .int .i64 k ∧ Hid ((allP p cs && allM p (rows.take k)) = b) ∧ Below w.heap.size w wr) (fun _ i _ => n - (intOf i).toNat)
            case atStart => exact ⟨0, b0, Nat.zero_le _, rfl, rfl, Lib.hid (by rw [HB0.out]; simp [allM]), hbb2⟩
            case round =>
              obtain ⟨k, bb, hk, rfl, rfl, HB, hbr⟩ := hrel
              by_cases hlt : k < n
              · obtain ⟨b, off, B1, m, d1, rfl, _, hb1, hcell, hm1, hI, _⟩ := (hM.upto hbr).at_ hlt
                have hrow := HW.out _ (getD_mem2 (d := []) (k := k) (by rw [HM.out]; exact hlt))
                have HT := Lib.hid (allM_take_succ p rows k (by rw [HM.out]; exact hlt))
                generalize rows.getD k [] = row at *
                rw [hI.len] at hrow
                subst hrow
                cases bb
                · go_wp2
                  go_roundw
                  case rel => exact ⟨k + 1, false, by omega, rfl, by go_num, Lib.hid (by rw [HT.out, ← Bool.and_assoc, HB.out]; rfl), hbr⟩
                  case measure => simp [intOf]; omega
                · obtain ⟨b1, HB1⟩ : ∃ b1, Hid (allP p row = b1) := ⟨_, Lib.hid rfl⟩
                  go_wp2_with (go_at_call 119; refine (all_any p B1 m d1 row _ hI (by omega)).mono ?_; rintro e w3 ⟨rfl, hb3⟩; rw [HB1.out]
                               have hbr3 := bnext hbr hb3
                               clear hb3)
                  go_roundw
                  case rel => exact ⟨k + 1, b1, by omega, rfl, by go_num, Lib.hid (by rw [HT.out, ← Bool.and_assoc, HB.out, HB1.out]; rfl), hbr3⟩
                  case measure => simp [intOf]; omega
              · have hkn : k = n := by omega
                subst hkn
                have hbf : bb = false := by
                  have := HB.out
                  rw [List.take_of_length_le (by rw [HM.out]; omega), HF.out] at this
                  exact this.symm
                subst hbf
                go_wp2
                go_ret2
                exact ⟨⟨none, 0, 0, by (rw [HR.out]; try rfl), by rw [HR.out]; exact OwnI.nil_⟩, hbr⟩
        · have HR : Hid (combR p cs rows wd = ([], 2)) := Lib.hid (by unfold combR; rw [if_pos hok, if_neg hw, if_neg (by rw [HL.out, HM.out]; simp), if_neg hwd])
          have HW : Hid (¬ ∀ r ∈ rows, ((r.length : Nat) : Int) = wd) := Lib.hid (fun e => hwd (wideB_iff.2 e))
          obtain ⟨b0, HB0⟩ : ∃ b0, Hid (allP p cs = b0) := ⟨_, Lib.hid rfl⟩
          clear hok hwd
          go_enter Try.func30, Try.ntmps30
          go_wp2_with (first
            | (go_at_call 118; refine (of_yes p _ HO.out).mono ?_; rintro e w1 ⟨rfl, hb1⟩
               have hbb1 := bnext (bbox _) hb1
               clear hb1)
            | (go_at_call 119; (refine (all_any p A n c cs _ (h.upto hbb1) (by omega)).mono ?_); rintro e w2 ⟨rfl, hb2⟩; rw [HB0.out]
               have hbb2 := bnext hbb1 hb2
               clear hb2))
          clear hbb1
          go_loopw [12, 41] (fun el i wr => ∃ (k : Nat) (b : Bool), k ≤ n ∧ el = .bool b ∧ i = .int .i64 k ∧ Hid (∀ r ∈ rows.take k, ((r.length : Nat) : Int) = wd) ∧ Below w.heap.size w wr) (fun _ i _ => n - (intOf i).toNat)
          case atStart => exact ⟨0, b0, Nat.zero_le _, rfl, rfl, Lib.hid (by simp), hbb2⟩
          case round =>
            obtain ⟨k, bb, hk, rfl, rfl, HB, hbr⟩ := hrel
            by_cases hlt : k < n
            · obtain ⟨b, off, B1, m, d1, rfl, _, hb1, hcell, hm1, hI, _⟩ := (hM.upto hbr).at_ hlt
              have HT : Hid (rows.take (k + 1) = rows.take k ++ [rows.getD k []]) := Lib.hid (by rw [List.take_succ_eq_append_getElem (by rw [HM.out]; exact hlt)]; simp [List.getD_eq_getElem?_getD, List.getElem?_eq_getElem (show k < rows.length by rw [HM.out]; exact hlt)])
              generalize rows.getD k [] = row at *
              by_cases hmw : (m : Int) = wd
              · have HN : Hid (∀ r ∈ rows.take (k + 1), ((r.length : Nat) : Int) = wd) := Lib.hid (by
                  rw [HT.out]; intro r hr
                  rcases List.mem_append.1 hr with hr | hr
                  · exact HB.out r hr
                  · rw [List.mem_singleton] at hr; subst hr; rw [hI.len]; exact hmw)
                subst hmw
                cases bb
                · go_wp2
                  go_roundw
                  case rel => exact ⟨k + 1, false, by omega, rfl, by go_num, HN, hbr⟩
                  case measure => simp [intOf]; omega
                · obtain ⟨b1, HB1⟩ : ∃ b1, Hid (allP p row = b1) := ⟨_, Lib.hid rfl⟩
                  go_wp2_with (go_at_call 119; refine (all_any p B1 m d1 row _ hI (by omega)).mono ?_; rintro e w3 ⟨rfl, hb3⟩; rw [HB1.out]
                               have hbr3 := bnext hbr hb3
                               clear hb3)
                  go_roundw
                  case rel => exact ⟨k + 1, b1, by omega, rfl, by go_num, HN, hbr3⟩
                  case measure => simp [intOf]; omega
              · have hne : ((m : Int) != wd) = true := by simpa using hmw
                clear hmw
                go_wp2
                go_ret2
                exact ⟨⟨none, 0, 0, by (rw [HR.out]; try rfl), by rw [HR.out]; exact OwnI.nil_⟩, hbr⟩
            · have hkn : k = n := by omega
              subst hkn
              exact absurd (by have := HB.out; rwa [List.take_of_length_le (by rw [HM.out]; omega)] at this) HW.out
      · have HR : Hid (combR p cs rows wd = ([], 2)) := Lib.hid (by unfold combR; rw [if_pos hok, if_neg hw, if_pos (by rw [h.len, hM.len]; exact hl)])
        have hne : ((n : Int) != (m : Int)) = true := by simp; omega
        have hw0 : 0 ≤ wd := by omega
        have hw1 : wd ≤ 64 := by omega
        clear hok hw
        go_enter Try.func30, Try.ntmps30
        go_wp2_with (go_at_call 118; refine (of_yes p _ HO.out).mono ?_; rintro e w1 ⟨rfl, hb1⟩
                     have hbb1 := bnext (bbox _) hb1)
        all_goals go_ret2
        all_goals exact ⟨⟨none, 0, 0, by (rw [HR.out]; try rfl), by rw [HR.out]; exact OwnI.nil_⟩, hbb1⟩
  · have hok' : okP p = false := by simpa using hok
    have HO := Lib.hid hok'
    have HR : Hid (combR p cs rows wd = ([], 9)) := Lib.hid (by unfold combR; rw [if_neg hok])
    clear hok hok'
    go_enter Try.func30, Try.ntmps30
    go_wp2_with (go_at_call 118; refine (of_no p _ hp64 HO.out).mono ?_; rintro e w1 ⟨rfl, hb1⟩
                 have hbb1 := bnext (bbox _) hb1)
    all_goals go_ret2
    all_goals exact ⟨⟨none, 0, 0, by (rw [HR.out]; try rfl), by rw [HR.out]; exact OwnI.nil_⟩, hbb1⟩

theorem valE {r : Int × Int} {v er : Int} {P : Program} {f : FuncId} {args : Array Value} {w : World} (hr : Hid (r = (v, er))) (h : Calls P f args w (ValPost r w)) : Calls P f args w fun e w' => e = .returned (.tuple #[.int .i64 v, .int .i64 er]) ∧ Below w.heap.size w w' := by
  refine h.mono ?_
  rintro e w' ⟨he, hb⟩
  rw [hr.out] at he
  exact ⟨he, hb⟩
theorem pairE {α β : Type} (r : α × β) : ∃ a b, Hid (r = (a, b)) := ⟨r.1, r.2, Lib.hid rfl⟩
end Go.Proofs.Ytoblofilaegnaaa
