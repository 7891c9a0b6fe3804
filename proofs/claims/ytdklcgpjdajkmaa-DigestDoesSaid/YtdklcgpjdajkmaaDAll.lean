/-
  What digest's Lines, Line and Fits hand back for any arguments: the result or the error. Conditions: the lists read as their numbers.
-/
import Derived.Test.YtdklcgpjdajkmaaLines
import Derived.Test.YtdklcgpjdajkmaaFits
import Derived.Test.YtdklcgpjdajkmaaVAll
namespace Go.Proofs.Ytdklcgpjdajkmaa
open Go.RowKit
set_option linter.unusedVariables false

/-- Is a list of rows long: too many, or too wide? -/
def longM (rows : List (List Int)) : Bool := decide (1024 < rows.length) || rows.any fun r => decide (64 < r.length)
/-- The linear digests of rows, or the error. -/
def linesR (p pt : Int) (rows : List (List Int)) : List Int × Int := if okP p = true ∧ inP p pt = true ∧ allM p rows = true then (if longM rows = true then ([], 4) else (linesP p pt rows, 0)) else ([], 9)
/-- .. of one row. -/
def lineR (p pt : Int) (xs : List Int) : Int × Int := if okP p = true ∧ inP p pt = true ∧ allP p xs = true then (if 64 < xs.length then (0, 4) else (valueP p pt xs, 0)) else (0, 9)

theorem longM_take_succ (b : Bool) (rows : List (List Int)) (k : Nat) (hk : k < rows.length) : (b || (rows.take (k + 1)).any fun r => decide (64 < r.length)) = ((b || (rows.take k).any fun r => decide (64 < r.length)) || decide (64 < (rows.getD k []).length)) := by
  rw [List.take_succ_eq_append_getElem hk, List.any_append, List.getD_eq_getElem?_getD, List.getElem?_eq_getElem hk]
  simp only [List.any_cons, List.any_nil, Bool.or_false, Option.getD_some, Bool.or_assoc]
theorem linesR_len (p pt : Int) (rows : List (List Int)) (h : rows.length ≤ 17592186044416) : (linesR p pt rows).1.length ≤ 17592186044416 := by
  unfold linesR; split
  · split
    · simp
    · simp only [linesP, List.length_map]; exact h
  · simp

theorem take_mem_succD {P : List Int → Prop} {rows : List (List Int)} {k : Nat} (hk : k < rows.length) (h : ∀ r ∈ rows.take k, P r) (h1 : P (rows.getD k [])) : ∀ r ∈ rows.take (k + 1), P r := by
  rw [List.take_succ_eq_append_getElem hk]
  intro r hr
  rcases List.mem_append.1 hr with hr | hr
  · exact h r hr
  · rw [List.mem_singleton] at hr
    rw [List.getD_eq_getElem?_getD, List.getElem?_eq_getElem hk] at h1
    rw [hr]; exact h1

set_option maxHeartbeats 800000 in
set_option maxRecDepth 100000 in
theorem lines_any (p pt : Int) (A : Option Addr) (n c : Nat) (rows : List (List Int)) (w : World) {lo : Nat} (hp64 : -9223372036854775808 ≤ p ∧ p ≤ 9223372036854775807) (h : Mat w lo w.heap.size A n rows) (hn : n ≤ 17592186043904) :
    Calls Try.prog 51 #[.agg #[.int .i64 p], .int .i64 pt, .slice A n c] w (VecPost (linesR p pt rows) w) := by
  obtain ⟨i0, hi0, hz0, hz1, hz2⟩ := info_parts info_int
  have HL := Lib.hid h.len
  by_cases hok : okP p = true
  · have hp := okP_pos hok
    have HO := Lib.hid hok
    by_cases hpt : inP p pt = true
    · have HP := Lib.hid hpt
      have hpt' := inP_iff.1 hpt
      by_cases hall : allM p rows = true
      · have HR := Lib.hid (allM_iff.1 hall)
        obtain ⟨lb, HLB⟩ : ∃ lb, Hid (longM rows = lb) := ⟨_, Lib.hid rfl⟩
        have HE : Hid (linesR p pt rows = if lb = true then ([], 4) else (linesP p pt rows, 0)) := Lib.hid (by unfold linesR; rw [if_pos ⟨hok, hpt, hall⟩, HLB.out])
        have hb0 : ∃ b0, Hid (decide (1024 < rows.length) = b0) := ⟨_, Lib.hid rfl⟩
        obtain ⟨b0, HB0⟩ := hb0
        have hb0' : decide ((1024 : Int) < (n : Int)) = b0 := by rw [← HB0.out, HL.out, decide_eq_decide]; omega
        have HB0' := Lib.hid hb0'
        clear hok hall hpt hb0'
        go_enter Try.func51, Try.ntmps51
        go_wp2_with (first
          | (go_at_call 120; refine (of_yes p _ HO.out).mono ?_; rintro e w1 ⟨rfl, hb1⟩
             have hb := bnext (bbox _) hb1
             clear hb1)
          | (go_at_call 125; refine (has_any p pt _).mono ?_; rintro e w' ⟨rfl, rfl⟩; rw [HP.out]))
        go_loopw [10, 11, 32] (fun lg v i wr => ∃ (k : Nat) (A' : Option Addr) (c' : Nat) (b : Bool), k ≤ n ∧ lg = .bool b ∧ i = .int .i64 k ∧ v = .slice A' k c' ∧ Hid ((b0 || (rows.take k).any fun r => decide (64 < r.length)) = b) ∧ OwnI wr w.heap.size 3 A' k c' (linesP p pt (rows.take k)) ∧ Below w.heap.size w wr) (fun _ _ i _ => n - (intOf i).toNat)
        case atStart => exact ⟨0, none, 0, b0, Nat.zero_le _, by rw [← HB0'.out], rfl, rfl, Lib.hid (by simp), OwnI.nil_, hb⟩
        case round =>
          obtain ⟨k, A', c', bb, hk, rfl, rfl, rfl, HB, hown, hbr⟩ := hrel
          by_cases hlt : k < n
          · obtain ⟨b, off, B1, m, d, rfl, _, hb1, hcell, hm, hI, _⟩ := (h.upto hbr).at_ hlt
            have hrow := HR.out _ (getD_mem (d := []) (k := k) (by rw [HL.out]; exact hlt))
            have HT := Lib.hid (linesP_take_succ p pt rows k (by rw [HL.out]; exact hlt))
            have HN := Lib.hid (longM_take_succ b0 rows k (by rw [HL.out]; exact hlt))
            generalize rows.getD k [] = row at *
            have HA := Lib.hid hrow
            have HD : Hid (decide (64 < row.length) = decide ((64 : Int) < (m : Int))) := Lib.hid (by rw [hI.len, decide_eq_decide]; omega)
            clear hrow
            cases bb
            all_goals
              go_wp2_with (first
                | (go_at_call 121; refine (all_any p B1 m d row _ hI (by omega)).mono ?_; rintro e w2 ⟨rfl, hb2⟩; rw [HA.out]
                   have hI2 := hI.upto hb2
                   have hbr2 := bnext hbr hb2
                   have hown2 := hown.belowAll hb2
                   clear hb2)
                | (go_at_call 134; refine (value_any p pt B1 m d row _ hp hpt' hI2 HA.out (by omega)).mono ?_; rintro e w3 ⟨rfl, hb3⟩
                   have hbr3 := bnext hbr2 hb3
                   have hown3 := hown2.belowAll hb3
                   clear hb3)
                | (at_builtin
                   refine wpList_append_ints rfl _ _ _ rfl w.heap.size 3 i0 _ Try.underlying22 hi0 hz0 hz1 hz2 rfl A' k c' _ rfl (hown3.alloc _) _ _ 1 1 [valueP p pt row] rfl (Ints.one _ _ _) (k + 1) rfl _ rfl (by omega) (le_alloc hbr3.size _) ?_
                   intro A2 c2 w4 hown4 _ hbw4 _
                   rw [← HT.out] at hown4
                   have hbr4 := (ballocs hbr3 (.cells #[.int .i64 (valueP p pt row)] 3)).trans hbw4))
              go_roundw
              case rel => exact ⟨k + 1, A2, c2, _, by omega, rfl, by go_num, rfl, Lib.hid (by rw [HN.out, HB.out, HD.out]; simp), hown4, hbr4⟩
              case measure => simp [intOf]; omega
          · have hkn : k = n := by omega
            subst hkn
            have hlb : bb = lb := by
              have := HB.out
              rw [List.take_of_length_le (by rw [HL.out]; omega), ← HB0.out] at this
              rw [← this, ← HLB.out]; rfl
            subst hlb
            rw [List.take_of_length_le (by rw [HL.out]; omega)] at hown
            cases bb
            · go_wp2
              go_ret2
              exact ⟨⟨A', k, c', by (rw [HE.out]; rfl), by rw [HE.out]; exact hown⟩, hbr⟩
            · go_wp2
              go_ret2
              exact ⟨⟨none, 0, 0, by (rw [HE.out]; rfl), by rw [HE.out]; exact OwnI.nil_⟩, hbr⟩
      · have HE : Hid (linesR p pt rows = ([], 9)) := Lib.hid (by unfold linesR; rw [if_neg (fun e => hall e.2.2)])
        have HW : Hid (¬ ∀ r ∈ rows, allP p r = true) := Lib.hid (fun e => hall (allM_iff.2 e))
        have hb0 : ∃ b0, Hid (decide ((1024 : Int) < (n : Int)) = b0) := ⟨_, Lib.hid rfl⟩
        obtain ⟨b0, HB0'⟩ := hb0
        clear hok hall hpt
        go_enter Try.func51, Try.ntmps51
        go_wp2_with (first
          | (go_at_call 120; refine (of_yes p _ HO.out).mono ?_; rintro e w1 ⟨rfl, hb1⟩
             have hb := bnext (bbox _) hb1
             clear hb1)
          | (go_at_call 125; refine (has_any p pt _).mono ?_; rintro e w' ⟨rfl, rfl⟩; rw [HP.out]))
        go_loopw [10, 11, 32] (fun lg v i wr => ∃ (k : Nat) (A' : Option Addr) (c' : Nat) (b : Bool), k ≤ n ∧ lg = .bool b ∧ i = .int .i64 k ∧ v = .slice A' k c' ∧ Hid (∀ r ∈ rows.take k, allP p r = true) ∧ OwnI wr w.heap.size 3 A' k c' (linesP p pt (rows.take k)) ∧ Below w.heap.size w wr) (fun _ _ i _ => n - (intOf i).toNat)
        case atStart => exact ⟨0, none, 0, b0, Nat.zero_le _, by rw [← HB0'.out], rfl, rfl, Lib.hid (by simp), OwnI.nil_, hb⟩
        case round =>
          obtain ⟨k, A', c', bb, hk, rfl, rfl, rfl, HB, hown, hbr⟩ := hrel
          by_cases hlt : k < n
          · obtain ⟨b, off, B1, m, d, rfl, _, hb1, hcell, hm, hI, _⟩ := (h.upto hbr).at_ hlt
            have HT := Lib.hid (linesP_take_succ p pt rows k (by rw [HL.out]; exact hlt))
            have HN : Hid (allP p (rows.getD k []) = true → ∀ r ∈ rows.take (k + 1), allP p r = true) := Lib.hid (fun h1 => take_mem_succD (by rw [HL.out]; exact hlt) HB.out h1)
            generalize rows.getD k [] = row at *
            by_cases hrow : allP p row = true
            · have HA := Lib.hid hrow
              have HN2 := Lib.hid (HN.out hrow)
              clear hrow
              cases bb
              all_goals
                go_wp2_with (first
                  | (go_at_call 121; refine (all_any p B1 m d row _ hI (by omega)).mono ?_; rintro e w2 ⟨rfl, hb2⟩; rw [HA.out]
                     have hI2 := hI.upto hb2
                     have hbr2 := bnext hbr hb2
                     have hown2 := hown.belowAll hb2
                     clear hb2)
                  | (go_at_call 134; refine (value_any p pt B1 m d row _ hp hpt' hI2 HA.out (by omega)).mono ?_; rintro e w3 ⟨rfl, hb3⟩
                     have hbr3 := bnext hbr2 hb3
                     have hown3 := hown2.belowAll hb3
                     clear hb3)
                  | (at_builtin
                     refine wpList_append_ints rfl _ _ _ rfl w.heap.size 3 i0 _ Try.underlying22 hi0 hz0 hz1 hz2 rfl A' k c' _ rfl (hown3.alloc _) _ _ 1 1 [valueP p pt row] rfl (Ints.one _ _ _) (k + 1) rfl _ rfl (by omega) (le_alloc hbr3.size _) ?_
                     intro A2 c2 w4 hown4 _ hbw4 _
                     rw [← HT.out] at hown4
                     have hbr4 := (ballocs hbr3 (.cells #[.int .i64 (valueP p pt row)] 3)).trans hbw4))
                go_roundw
                case rel => exact ⟨k + 1, A2, c2, _, by omega, rfl, by go_num, rfl, HN2, hown4, hbr4⟩
                case measure => simp [intOf]; omega
            · have hrow' : allP p row = false := by simpa using hrow
              have HA := Lib.hid hrow'
              clear hrow hrow'
              go_wp2_with (go_at_call 121; refine (all_any p B1 m d row _ hI (by omega)).mono ?_; rintro e w2 ⟨rfl, hb2⟩; rw [HA.out]
                           have hbr2 := bnext hbr hb2
                           clear hb2)
              go_ret2
              exact ⟨⟨none, 0, 0, by (rw [HE.out]; rfl), by rw [HE.out]; exact OwnI.nil_⟩, hbr2⟩
          · have hkn : k = n := by omega
            subst hkn
            exact absurd (by have := HB.out; rwa [List.take_of_length_le (by rw [HL.out]; omega)] at this) HW.out
    · have hpt' : inP p pt = false := by simpa using hpt
      have HP := Lib.hid hpt'
      have HE : Hid (linesR p pt rows = ([], 9)) := Lib.hid (by unfold linesR; rw [if_neg (fun e => hpt e.2.1)])
      clear hok hpt hpt'
      go_enter Try.func51, Try.ntmps51
      go_wp2_with (first
        | (go_at_call 120; refine (of_yes p _ HO.out).mono ?_; rintro e w1 ⟨rfl, hb1⟩
           have hb := bnext (bbox _) hb1
           clear hb1)
        | (go_at_call 125; refine (has_any p pt _).mono ?_; rintro e w' ⟨rfl, rfl⟩; rw [HP.out]))
      go_ret2
      exact ⟨⟨none, 0, 0, by (rw [HE.out]; rfl), by rw [HE.out]; exact OwnI.nil_⟩, hb⟩
  · have hok' : okP p = false := by simpa using hok
    have HO := Lib.hid hok'
    have HE : Hid (linesR p pt rows = ([], 9)) := Lib.hid (by unfold linesR; rw [if_neg (fun e => hok e.1)])
    clear hok hok'
    go_enter Try.func51, Try.ntmps51
    go_wp2_with (go_at_call 120; refine (of_no p _ hp64 HO.out).mono ?_; rintro e w1 ⟨rfl, hb1⟩
                 have hb := bnext (bbox _) hb1)
    go_ret2
    exact ⟨⟨none, 0, 0, by (rw [HE.out]; rfl), by rw [HE.out]; exact OwnI.nil_⟩, hb⟩

theorem lineR_eq (p pt : Int) (xs : List Int) : ((linesR p pt [xs]).2 = 0 ∧ linesR p pt [xs] = ([valueP p pt xs], 0) ∧ lineR p pt xs = (valueP p pt xs, 0)) ∨ (¬ (linesR p pt [xs]).2 = 0 ∧ lineR p pt xs = (0, (linesR p pt [xs]).2)) := by
  unfold linesR lineR
  have e1 : allM p [xs] = allP p xs := by simp [allM]
  have e2 : longM [xs] = decide (64 < xs.length) := by simp [longM]
  rw [e1, e2]
  by_cases h : okP p = true ∧ inP p pt = true ∧ allP p xs = true
  · rw [if_pos h, if_pos h]
    by_cases hl : 64 < xs.length
    · right; rw [if_pos (by simpa using hl), if_pos hl]; exact ⟨by decide, rfl⟩
    · left; rw [if_neg (by simpa using hl), if_neg hl]; exact ⟨rfl, rfl, rfl⟩
  · right; rw [if_neg h, if_neg h]; exact ⟨by decide, rfl⟩

theorem line_any (p pt : Int) (A : Option Addr) (n c : Nat) (xs : List Int) (w : World) (hp64 : -9223372036854775808 ≤ p ∧ p ≤ 9223372036854775807) (h : Ints w w.heap.size A n xs) (hn : n ≤ 17592186044416) :
    Calls Try.prog 55 #[.agg #[.int .i64 p], .int .i64 pt, .slice A n c] w (ValPost (lineR p pt xs) w) := by
  rcases lineR_eq p pt xs with ⟨h0, h1, h2⟩ | ⟨h0, h2⟩
  · have H1 := Lib.hid h1
    have H2 := Lib.hid h2
    clear h0 h1 h2
    go_enter Try.func55, Try.ntmps55
    go_wp2_with (go_at_call 51; refine (lines_any p pt _ 1 1 [xs] _ hp64 (by exact Mat.one _ A n c xs 22 _ (by simp) (h.upto (bbox _)) hn) (by omega)).mono ?_; rintro e w1 ⟨⟨A', n', c', rfl, hown⟩, hb1⟩
                 rw [H1.out] at hown ⊢
                 dsimp only at hown ⊢
                 have hb := bnext (ballocs (bbox _) _) hb1
                 obtain rfl : n' = 1 := by have := hown.len; simpa using this.symm
                 obtain ⟨g, rfl, hg1, hg2⟩ := hown.form (by omega)
                 have hc := hown.cellAt (j := 0) (by omega)
                 clear hb1)
    go_ret2
    exact ⟨by (rw [H2.out]; rfl), hb⟩
  · obtain ⟨er, HER⟩ : ∃ er, Hid ((linesR p pt [xs]).2 = er) := ⟨_, Lib.hid rfl⟩
    rw [HER.out] at h0 h2
    have H2 := Lib.hid h2
    have hne : (er != 0) = true := by simpa using h0
    clear h0 h2
    go_enter Try.func55, Try.ntmps55
    go_wp2_with (go_at_call 51; refine (lines_any p pt _ 1 1 [xs] _ hp64 (by exact Mat.one _ A n c xs 22 _ (by simp) (h.upto (bbox _)) hn) (by omega)).mono ?_; rintro e w1 ⟨⟨A', n', c', rfl, hown⟩, hb1⟩
                 rw [HER.out]
                 have hb := bnext (ballocs (bbox _) _) hb1
                 clear hb1)
    go_ret2
    exact ⟨by (rw [H2.out]; rfl), hb⟩

/-- What a function leaves that gives an answer or an error. -/
def BoolPost (r : Bool × Int) (w : World) (e : Ending) (w' : World) : Prop := e = .returned (.tuple #[.bool r.1, .int .i64 r.2]) ∧ Below w.heap.size w w'
/-- Does an answer fit, or the error. -/
def fitsR (p pt : Int) (ls qs xs : List Int) : Bool × Int :=
  if (okP p && inP p pt && allP p ls && allP p qs && allP p xs) = true then (if 64 < xs.length ∨ 1024 < ls.length ∨ 1024 < qs.length then (false, 4) else if qs.length = ls.length then (valueP p pt xs == dotP p qs ls, 0) else (false, 2)) else (false, 9)

set_option maxHeartbeats 800000 in
set_option maxRecDepth 100000 in
theorem fits_any (p pt : Int) (L Q X : Option Addr) (n k m cl cq cx : Nat) (ls qs xs : List Int) (w : World) (hp64 : -9223372036854775808 ≤ p ∧ p ≤ 9223372036854775807) (hL : Ints w w.heap.size L n ls) (hQ : Ints w w.heap.size Q k qs) (hX : Ints w w.heap.size X m xs)
    (hn : n ≤ 17592186044416) (hk : k ≤ 17592186044416) (hm : m ≤ 17592186044416) :
    Calls Try.prog 53 #[.agg #[.int .i64 p], .int .i64 pt, .slice L n cl, .slice Q k cq, .slice X m cx] w (BoolPost (fitsR p pt ls qs xs) w) := by
  have hLl := hL.len
  have hQl := hQ.len
  have hXl := hX.len
  by_cases hall : (okP p && inP p pt && allP p ls && allP p qs && allP p xs) = true
  · obtain ⟨hok, hpt, al, aq, ax⟩ : okP p = true ∧ inP p pt = true ∧ allP p ls = true ∧ allP p qs = true ∧ allP p xs = true := by simpa [and_assoc] using hall
    have HO := Lib.hid hok
    have HP := Lib.hid hpt
    have HAL := Lib.hid al
    have HAQ := Lib.hid aq
    have HAX := Lib.hid ax
    by_cases hlim : 64 < m ∨ 1024 < n ∨ 1024 < k
    · have HE : Hid (fitsR p pt ls qs xs = (false, 4)) := Lib.hid (by unfold fitsR; rw [if_pos hall, if_pos (by rw [hLl, hQl, hXl]; exact hlim)])
      have hc : 64 < m ∨ (m ≤ 64 ∧ 1024 < n) ∨ (m ≤ 64 ∧ n ≤ 1024 ∧ 1024 < k) := by omega
      clear hok hpt al aq ax hall hLl hQl hXl hlim
      rcases hc with hc | ⟨hc1, hc⟩ | ⟨hc1, hc2, hc⟩
      all_goals
        go_enter Try.func53, Try.ntmps53
        go_wp2_with (first
          | (go_at_call 120; refine (of_yes p _ HO.out).mono ?_; rintro e w1 ⟨rfl, hb1⟩
             have hbb1 := bnext (bbox _) hb1)
          | (go_at_call 125; refine (has_any p pt _).mono ?_; rintro e w' ⟨rfl, rfl⟩; rw [HP.out])
          | (go_at_call 121; (with_reducible refine (all_any p L n cl ls w1 (hL.upto hbb1) (by omega)).mono ?_); rintro e w2 ⟨rfl, hb2⟩; rw [HAL.out]
             have hbb2 := bnext hbb1 hb2)
          | (go_at_call 121; (with_reducible refine (all_any p Q k cq qs w2 (hQ.upto hbb2) (by omega)).mono ?_); rintro e w3 ⟨rfl, hb3⟩; rw [HAQ.out]
             have hbb3 := bnext hbb2 hb3)
          | (go_at_call 121; (with_reducible refine (all_any p X m cx xs w3 (hX.upto hbb3) (by omega)).mono ?_); rintro e w4 ⟨rfl, hb4⟩; rw [HAX.out]
             have hbb4 := bnext hbb3 hb4))
        go_ret2
        exact ⟨by (rw [HE.out]; rfl), hbb4⟩
    · by_cases hlen : k = n
      · subst hlen
        have HE : Hid (fitsR p pt ls qs xs = (valueP p pt xs == dotP p qs ls, 0)) := Lib.hid (by unfold fitsR; rw [if_pos hall, if_neg (by rw [hLl, hQl, hXl]; exact hlim), if_pos (by rw [hLl, hQl])])
        refine (fits_ok p pt L Q X k m cl cq cx ls qs xs w hok (inP_iff.1 hpt) hL hQ hX al aq ax (by omega) (by omega)).mono ?_
        rintro e w' ⟨rfl, hb⟩
        exact ⟨by rw [HE.out], hb⟩
      · have HE : Hid (fitsR p pt ls qs xs = (false, 2)) := Lib.hid (by unfold fitsR; rw [if_pos hall, if_neg (by rw [hLl, hQl, hXl]; exact hlim), if_neg (by rw [hLl, hQl]; exact hlen)])
        have HDR : Hid (dotR p qs ls = (0, 2)) := Lib.hid (by unfold dotR; rw [if_pos ⟨inF_iff.2 ⟨hok, aq⟩, inF_iff.2 ⟨hok, al⟩⟩, if_neg (by rw [hLl, hQl]; exact hlen)])
        have hc1 : m ≤ 64 := by omega
        have hc2 : n ≤ 1024 := by omega
        have hc3 : k ≤ 1024 := by omega
        clear hok hpt al aq ax hall hLl hQl hXl hlim hlen
        go_enter Try.func53, Try.ntmps53
        go_wp2_with (first
          | (go_at_call 120; refine (of_yes p _ HO.out).mono ?_; rintro e w1 ⟨rfl, hb1⟩
             have hbb1 := bnext (bbox _) hb1
             have hF1 := (Blk.new w 46 #[.int .i64 p]).below hb1 (by simp))
          | (go_at_call 125; refine (has_any p pt _).mono ?_; rintro e w' ⟨rfl, rfl⟩; rw [HP.out])
          | (go_at_call 121; (with_reducible refine (all_any p L n cl ls w1 (hL.upto hbb1) (by omega)).mono ?_); rintro e w2 ⟨rfl, hb2⟩; rw [HAL.out]
             have hbb2 := bnext hbb1 hb2
             have hF2 := hF1.below hb2 hF1.lt)
          | (go_at_call 121; (with_reducible refine (all_any p Q k cq qs w2 (hQ.upto hbb2) (by omega)).mono ?_); rintro e w3 ⟨rfl, hb3⟩; rw [HAQ.out]
             have hbb3 := bnext hbb2 hb3
             have hF3 := hF2.below hb3 hF2.lt)
          | (go_at_call 121; (with_reducible refine (all_any p X m cx xs w3 (hX.upto hbb3) (by omega)).mono ?_); rintro e w4 ⟨rfl, hb4⟩; rw [HAX.out]
             have hbb4 := bnext hbb3 hb4
             have hF4 := hF3.below hb4 hF3.lt
             have hc4 : w4.cell? ⟨w.heap.size, 0, none⟩ = some (.int .i64 p) := (hF4.cell 0).trans rfl)
          | (go_at_call 37; (refine (valE HDR (vdot_any p Q L k n cq cl qs ls _ hp64 (hQ.upto hbb4) (hL.upto hbb4) (by omega) (by omega))).mono ?_); rintro e w5 ⟨rfl, hb5⟩
             have hbb5 := bnext hbb4 hb5))
        go_ret2
        exact ⟨by (rw [HE.out]; rfl), hbb5⟩
  · have HE : Hid (fitsR p pt ls qs xs = (false, 9)) := Lib.hid (by unfold fitsR; rw [if_neg hall])
    by_cases hok : okP p = true
    · obtain ⟨b1, HB1⟩ : ∃ b, Hid (inP p pt = b) := ⟨_, Lib.hid rfl⟩
      obtain ⟨b2, HB2⟩ : ∃ b, Hid (allP p ls = b) := ⟨_, Lib.hid rfl⟩
      obtain ⟨b3, HB3⟩ : ∃ b, Hid (allP p qs = b) := ⟨_, Lib.hid rfl⟩
      obtain ⟨b4, HB4⟩ : ∃ b, Hid (allP p xs = b) := ⟨_, Lib.hid rfl⟩
      have HO := Lib.hid hok
      have HX : Hid (¬ (b1 = true ∧ b2 = true ∧ b3 = true ∧ b4 = true)) := Lib.hid (by
        rintro ⟨rfl, rfl, rfl, rfl⟩
        exact hall (by rw [hok, HB1.out, HB2.out, HB3.out, HB4.out]; rfl))
      clear hok hall hLl hQl hXl
      cases b1
      · go_enter Try.func53, Try.ntmps53
        go_wp2_with (first
          | (go_at_call 120; refine (of_yes p _ HO.out).mono ?_; rintro e w1 ⟨rfl, hb1⟩
             have hbb1 := bnext (bbox _) hb1)
          | (go_at_call 125; refine (has_any p pt _).mono ?_; rintro e w' ⟨rfl, rfl⟩; rw [HB1.out]))
        go_ret2
        exact ⟨by (rw [HE.out]; rfl), hbb1⟩
      cases b2
      · go_enter Try.func53, Try.ntmps53
        go_wp2_with (first
          | (go_at_call 120; refine (of_yes p _ HO.out).mono ?_; rintro e w1 ⟨rfl, hb1⟩
             have hbb1 := bnext (bbox _) hb1)
          | (go_at_call 125; refine (has_any p pt _).mono ?_; rintro e w' ⟨rfl, rfl⟩; rw [HB1.out])
          | (go_at_call 121; (with_reducible refine (all_any p L n cl ls w1 (hL.upto hbb1) (by omega)).mono ?_); rintro e w2 ⟨rfl, hb2⟩; rw [HB2.out]
             have hbb2 := bnext hbb1 hb2))
        go_ret2
        exact ⟨by (rw [HE.out]; rfl), hbb2⟩
      cases b3
      · go_enter Try.func53, Try.ntmps53
        go_wp2_with (first
          | (go_at_call 120; refine (of_yes p _ HO.out).mono ?_; rintro e w1 ⟨rfl, hb1⟩
             have hbb1 := bnext (bbox _) hb1)
          | (go_at_call 125; refine (has_any p pt _).mono ?_; rintro e w' ⟨rfl, rfl⟩; rw [HB1.out])
          | (go_at_call 121; (with_reducible refine (all_any p L n cl ls w1 (hL.upto hbb1) (by omega)).mono ?_); rintro e w2 ⟨rfl, hb2⟩; rw [HB2.out]
             have hbb2 := bnext hbb1 hb2)
          | (go_at_call 121; (with_reducible refine (all_any p Q k cq qs w2 (hQ.upto hbb2) (by omega)).mono ?_); rintro e w3 ⟨rfl, hb3⟩; rw [HB3.out]
             have hbb3 := bnext hbb2 hb3))
        go_ret2
        exact ⟨by (rw [HE.out]; rfl), hbb3⟩
      cases b4
      · go_enter Try.func53, Try.ntmps53
        go_wp2_with (first
          | (go_at_call 120; refine (of_yes p _ HO.out).mono ?_; rintro e w1 ⟨rfl, hb1⟩
             have hbb1 := bnext (bbox _) hb1)
          | (go_at_call 125; refine (has_any p pt _).mono ?_; rintro e w' ⟨rfl, rfl⟩; rw [HB1.out])
          | (go_at_call 121; (with_reducible refine (all_any p L n cl ls w1 (hL.upto hbb1) (by omega)).mono ?_); rintro e w2 ⟨rfl, hb2⟩; rw [HB2.out]
             have hbb2 := bnext hbb1 hb2)
          | (go_at_call 121; (with_reducible refine (all_any p Q k cq qs w2 (hQ.upto hbb2) (by omega)).mono ?_); rintro e w3 ⟨rfl, hb3⟩; rw [HB3.out]
             have hbb3 := bnext hbb2 hb3)
          | (go_at_call 121; (with_reducible refine (all_any p X m cx xs w3 (hX.upto hbb3) (by omega)).mono ?_); rintro e w4 ⟨rfl, hb4⟩; rw [HB4.out]
             have hbb4 := bnext hbb3 hb4))
        go_ret2
        exact ⟨by (rw [HE.out]; rfl), hbb4⟩
      exact absurd ⟨rfl, rfl, rfl, rfl⟩ HX.out
    · have hok' : okP p = false := by simpa using hok
      have HO := Lib.hid hok'
      clear hok hok' hall hLl hQl hXl
      go_enter Try.func53, Try.ntmps53
      go_wp2_with (go_at_call 120; refine (of_no p _ hp64 HO.out).mono ?_; rintro e w1 ⟨rfl, hb1⟩
                   have hb := bnext (bbox _) hb1)
      go_ret2
      exact ⟨by (rw [HE.out]; rfl), hb⟩
end Go.Proofs.Ytdklcgpjdajkmaa
