/-
  The first error of lists of elements: the program's open and the second form's lists, for any lists. Conditions: the lists read as their numbers.
-/
import Derived.Test.YtoblofilaegnaaaPoly1
import Derived.Test.YtoblofilaegnaaaChk
namespace Go.Proofs.Ytoblofilaegnaaa
open Go.RowKit
set_option linter.unusedVariables false

/-- Are all elements of all rows elements? -/
def allR (p : Int) (rows : List (List Int)) : Bool := rows.all (allP p)
/-- The first error of lists of elements. -/
def errL (p : Int) (rows : List (List Int)) : Int := if okP p = true ∧ allR p rows = true then (if (rows.any fun r => decide (512 < r.length)) = true then 4 else 0) else 9
theorem allR_iff {p : Int} {rows : List (List Int)} : allR p rows = true ↔ ∀ r ∈ rows, allP p r = true := by simp [allR]

theorem any_take_succ (rows : List (List Int)) (k : Nat) (hk : k < rows.length) : ((rows.take (k + 1)).any fun r => decide (512 < r.length)) = (((rows.take k).any fun r => decide (512 < r.length)) || decide (512 < (rows.getD k []).length)) := by
  rw [List.take_succ_eq_append_getElem hk, List.any_append, List.getD_eq_getElem?_getD, List.getElem?_eq_getElem hk]
  simp only [List.any_cons, List.any_nil, Bool.or_false, Option.getD_some]
theorem take_mem_succR {P : List Int → Prop} {rows : List (List Int)} {k : Nat} (hk : k < rows.length) (h : ∀ r ∈ rows.take k, P r) (h1 : P (rows.getD k [])) : ∀ r ∈ rows.take (k + 1), P r := by
  rw [List.take_succ_eq_append_getElem hk]
  intro r hr
  rcases List.mem_append.1 hr with hr | hr
  · exact h r hr
  · rw [List.mem_singleton] at hr
    rw [List.getD_eq_getElem?_getD, List.getElem?_eq_getElem hk] at h1
    rw [hr]; exact h1
theorem errL_yes {p : Int} {rows : List (List Int)} (h : errL p rows = 0) : okP p = true ∧ ∀ r ∈ rows, allP p r = true ∧ r.length ≤ 512 := by
  unfold errL at h
  split at h
  · rename_i h1
    split at h
    · cases h
    · rename_i h2
      refine ⟨h1.1, fun r hr => ⟨allR_iff.1 h1.2 r hr, ?_⟩⟩
      have h3 : ∀ x ∈ rows, x.length ≤ 512 := by simpa using h2
      exact h3 r hr
  · cases h

/-- What open leaves. -/
def OpenPost (p er : Int) (w : World) (e : Ending) (w' : World) : Prop := e = .returned (.tuple #[.int .i64 (if er = 0 then p else 0), .int .i64 er]) ∧ Below w.heap.size w w'
def ErrPost (er : Int) (w : World) (e : Ending) (w' : World) : Prop := e = .returned (.int .i64 er) ∧ Below w.heap.size w w'

set_option maxRecDepth 100000 in
set_option maxHeartbeats 400000 in
theorem open_any (p : Int) (V : Option Addr) (n c : Nat) (rows : List (List Int)) (w : World) {lo : Nat} (hp64 : -9223372036854775808 ≤ p ∧ p ≤ 9223372036854775807) (hM : Mat w lo w.heap.size V n rows) (hn : n ≤ 1024) :
    Calls Try.prog 129 #[.agg #[.int .i64 p], .slice V n c] w (OpenPost p (errL p rows) w) := by
  by_cases hok : okP p = true
  · have HO := Lib.hid hok
    have HM := Lib.hid hM.len
    obtain ⟨ab, HAB⟩ : ∃ ab, Hid (allR p rows = ab) := ⟨_, Lib.hid rfl⟩
    obtain ⟨lb, HLB⟩ : ∃ lb, Hid ((rows.any fun r => decide (512 < r.length)) = lb) := ⟨_, Lib.hid rfl⟩
    have HE : Hid (errL p rows = if ab = true then (if lb = true then 4 else 0) else 9) := Lib.hid (by
      unfold errL; rw [HAB.out, HLB.out]
      cases ab
      · rw [if_neg (fun e => by cases e.2)]; rfl
      · rw [if_pos ⟨hok, rfl⟩]; rfl)
    clear hok
    go_enter Try.func129, Try.ntmps129
    go_wp2_with (go_at_call 118; refine (of_yes p _ HO.out).mono ?_; rintro e w1 ⟨rfl, hb1⟩
                 have hbb1 := bnext (bbox _) hb1
                 clear hb1)
    go_loopw [8, 20] (fun lg i wr => ∃ (k : Nat) (b : Bool), k ≤ n ∧ lg = .bool b ∧ i = .int .i64 k ∧ Hid (((rows.take k).any fun r => decide (512 < r.length)) = b) ∧ Hid (∀ r ∈ rows.take k, allP p r = true) ∧ Below w.heap.size w wr) (fun _ i _ => n - (intOf i).toNat)
    case atStart => exact ⟨0, false, Nat.zero_le _, rfl, rfl, Lib.hid (by simp), Lib.hid (by simp), hbb1⟩
    case round =>
      obtain ⟨k, bb, hk, rfl, rfl, HB, HA, hbr⟩ := hrel
      by_cases hlt : k < n
      · obtain ⟨b, off, B1, m, d1, rfl, _, hb1, hcell, hm, hI, _⟩ := (hM.upto hbr).at_ hlt
        have HN := Lib.hid (any_take_succ rows k (by rw [HM.out]; exact hlt))
        have HN1 : Hid (allP p (rows.getD k []) = true → ∀ r ∈ rows.take (k + 1), allP p r = true) := Lib.hid (fun h1 => take_mem_succR (by rw [HM.out]; exact hlt) HA.out h1)
        have HN3 : Hid (ab = true → allP p (rows.getD k []) = true) := Lib.hid (fun e => allR_iff.1 (HAB.out.trans e) _ (row_mem (by rw [HM.out]; exact hlt)))
        generalize rows.getD k [] = row at *
        have HD : Hid (decide (512 < row.length) = decide ((512 : Int) < (m : Int))) := Lib.hid (by rw [hI.len, decide_eq_decide]; omega)
        by_cases hin : allP p row = true
        · have HIN := Lib.hid hin
          have HN2 := Lib.hid (HN1.out hin)
          clear hin
          cases bb
          all_goals
            go_wp2_with (go_at_call 119; refine (all_any p B1 m d1 row _ hI (by omega)).mono ?_; rintro e w3 ⟨rfl, hb3⟩; rw [HIN.out]
                         have hbr3 := bnext hbr hb3
                         clear hb3)
            go_roundw
            case rel => exact ⟨k + 1, _, by omega, rfl, by go_num, Lib.hid (by rw [HN.out, HB.out, HD.out]; simp), HN2, hbr3⟩
            case measure => simp [intOf]; omega
        · have hin' : allP p row = false := by simpa using hin
          have HIN := Lib.hid hin'
          have hab : ab = false := by
            rw [← Bool.not_eq_true]; intro e
            exact hin (HN3.out e)
          subst hab
          clear hin hin'
          go_wp2_with (go_at_call 119; refine (all_any p B1 m d1 row _ hI (by omega)).mono ?_; rintro e w3 ⟨rfl, hb3⟩; rw [HIN.out]
                       have hbr3 := bnext hbr hb3
                       clear hb3)
          go_ret2
          exact ⟨by (rw [HE.out]; rfl), hbr3⟩
      · have hkn : k = n := by omega
        subst hkn
        have hab : ab = true := by
          rw [← HAB.out]; exact allR_iff.2 (by have := HA.out; rwa [List.take_of_length_le (by rw [HM.out]; omega)] at this)
        subst hab
        have hlb : bb = lb := by
          have := HB.out
          rw [List.take_of_length_le (by rw [HM.out]; omega)] at this
          rw [← this, ← HLB.out]
        subst hlb
        cases bb
        all_goals
          go_wp2
          go_ret2
          exact ⟨by (rw [HE.out]; rfl), hbr⟩
  · have hok' : okP p = false := by simpa using hok
    have HO := Lib.hid hok'
    have HE : Hid (errL p rows = 9) := Lib.hid (by unfold errL; rw [if_neg (fun e => hok e.1)])
    clear hok hok'
    go_enter Try.func129, Try.ntmps129
    go_wp2_with (go_at_call 118; refine (of_no p _ hp64 HO.out).mono ?_; rintro e w1 ⟨rfl, hb1⟩
                 have hb := bnext (bbox _) hb1)
    go_ret2
    exact ⟨by (rw [HE.out]; rfl), hb⟩

set_option maxRecDepth 100000 in
set_option maxHeartbeats 400000 in
theorem rlists_any (p : Int) (V : Option Addr) (n c : Nat) (rows : List (List Int)) (w : World) {lo : Nat} (hM : Mat w lo w.heap.size V n rows) (hn : n ≤ 1024) :
    Calls Try.prog 131 #[.agg #[.int .i64 p], .slice V n c] w (ErrPost (errL p rows) w) := by
  have hF0 := Blk.new w 24 #[.int .i64 p]
  by_cases hok : okP p = true
  · have HO := Lib.hid hok
    have HM := Lib.hid hM.len
    obtain ⟨ab, HAB⟩ : ∃ ab, Hid (allR p rows = ab) := ⟨_, Lib.hid rfl⟩
    obtain ⟨lb, HLB⟩ : ∃ lb, Hid ((rows.any fun r => decide (512 < r.length)) = lb) := ⟨_, Lib.hid rfl⟩
    have HE : Hid (errL p rows = if ab = true then (if lb = true then 4 else 0) else 9) := Lib.hid (by
      unfold errL; rw [HAB.out, HLB.out]
      cases ab
      · rw [if_neg (fun e => by cases e.2)]; rfl
      · rw [if_pos ⟨hok, rfl⟩]; rfl)
    clear hok
    go_enter Try.func131, Try.ntmps131
    go_wp2_with (go_at_call 128; refine (check_yes p _ HO.out).mono ?_; rintro e w1 ⟨rfl, hb1⟩
                 have hbb1 := bnext (bbox _) hb1
                 have hF1 := hF0.below hb1 hF0.lt
                 clear hb1)
    go_loopw [17] (fun i wr => ∃ k : Nat, k ≤ n ∧ i = .int .i64 k ∧ Below w.heap.size w wr ∧ Blk wr w.heap.size 24 #[.int .i64 p] ∧ Hid (∀ r ∈ rows.take k, allP p r = true)) (fun i _ => n - (intOf i).toNat)
    case atStart => exact ⟨0, Nat.zero_le _, rfl, hbb1, hF1, Lib.hid (by simp)⟩
    case round =>
      obtain ⟨k, hk, rfl, hbr, hFr, HA⟩ := hrel
      have hcF : wr.cell? ⟨w.heap.size, 0, none⟩ = some (.int .i64 p) := (hFr.cell 0).trans rfl
      by_cases hlt : k < n
      · obtain ⟨b, off, B1, m, d1, rfl, _, hb1, hcell, hm, hI, _⟩ := (hM.upto hbr).at_ hlt
        have HN1 : Hid (allP p (rows.getD k []) = true → ∀ r ∈ rows.take (k + 1), allP p r = true) := Lib.hid (fun h1 => take_mem_succR (by rw [HM.out]; exact hlt) HA.out h1)
        have HN3 : Hid (ab = true → allP p (rows.getD k []) = true) := Lib.hid (fun e => allR_iff.1 (HAB.out.trans e) _ (row_mem (by rw [HM.out]; exact hlt)))
        generalize rows.getD k [] = row at *
        by_cases hin : inF p row = true
        · have HIN := Lib.hid hin
          have HN2 := Lib.hid (HN1.out (inF_iff.1 hin).2)
          clear hin
          go_wp2_with (go_at_call 126; refine (in_any p B1 m d1 row _ hI (by omega)).mono ?_; rintro e w3 ⟨rfl, hb3⟩; rw [HIN.out]
                       have hbr3 := bnext hbr hb3
                       have hF3 := hFr.below hb3 hFr.lt
                       clear hb3)
          go_roundw
          case rel => exact ⟨k + 1, by omega, by go_num, hbr3, hF3, HN2⟩
          case measure => simp [intOf]; omega
        · have hin' : inF p row = false := by simpa using hin
          have HIN := Lib.hid hin'
          have hab : ab = false := by
            rw [← Bool.not_eq_true]; intro e
            exact hin (inF_iff.2 ⟨HO.out, HN3.out e⟩)
          subst hab
          clear hin hin'
          go_wp2_with (go_at_call 126; refine (in_any p B1 m d1 row _ hI (by omega)).mono ?_; rintro e w3 ⟨rfl, hb3⟩; rw [HIN.out]
                       have hbr3 := bnext hbr hb3
                       clear hb3)
          go_ret
          exact ⟨by (rw [HE.out]; rfl), hbr3⟩
      · have hkn : k = n := by omega
        subst hkn
        have hab : ab = true := by
          rw [← HAB.out]; exact allR_iff.2 (by have := HA.out; rwa [List.take_of_length_le (by rw [HM.out]; omega)] at this)
        subst hab
        go_wp2
        have hb0 := hbr
        go_loopw [28] (fun i wz => ∃ j : Nat, j ≤ k ∧ i = .int .i64 j ∧ wz = wr ∧ Hid (((rows.take j).any fun r => decide (512 < r.length)) = false)) (fun i _ => k - (intOf i).toNat)
        case atStart => exact ⟨0, Nat.zero_le _, rfl, rfl, Lib.hid (by simp)⟩
        case round =>
          obtain ⟨k2, hk2, rfl, rfl, HB⟩ := hrel
          by_cases hlt2 : k2 < k
          · obtain ⟨b, off, B1, m, d1, rfl, _, hb1, hcell, hm, hI, _⟩ := (hM.upto hb0).at_ hlt2
            have HN := Lib.hid (any_take_succ rows k2 (by rw [HM.out]; exact hlt2))
            have HM2 : Hid (512 < (rows.getD k2 []).length → lb = true) := Lib.hid (fun h1 => by
              rw [← HLB.out]; exact List.any_eq_true.2 ⟨_, row_mem (by rw [HM.out]; exact hlt2), by simpa using h1⟩)
            generalize rows.getD k2 [] = row at *
            rw [hI.len] at HM2 HN
            by_cases hm5 : 512 < m
            · have hm5i : (512 : Int) < (m : Int) := by omega
              have hlb := HM2.out hm5
              subst hlb
              go_wp2
              go_ret
              exact ⟨by (rw [HE.out]; rfl), hb0⟩
            · have hm5i : ¬ ((512 : Int) < (m : Int)) := by omega
              have HN4 : Hid (((rows.take (k2 + 1)).any fun r => decide (512 < r.length)) = false) := Lib.hid (by rw [HN.out, HB.out]; simpa using hm5)
              go_wp2
              go_roundw
              case rel => exact ⟨k2 + 1, by omega, by go_num, trivial, HN4⟩
              case measure => simp [intOf]; omega
          · have hkk : k2 = k := by omega
            subst hkk
            have hlb : lb = false := by
              have := HB.out
              rw [List.take_of_length_le (by rw [HM.out]; omega)] at this
              rw [← this, ← HLB.out]
            subst hlb
            go_wp2
            go_ret
            exact ⟨by (rw [HE.out]; rfl), hb0⟩
  · have hok' : okP p = false := by simpa using hok
    have HO := Lib.hid hok'
    have HE : Hid (errL p rows = 9) := Lib.hid (by unfold errL; rw [if_neg (fun e => hok e.1)])
    clear hok hok'
    go_enter Try.func131, Try.ntmps131
    go_wp2_with (go_at_call 128; refine (check_no p _ HO.out).mono ?_; rintro e w1 ⟨rfl, hb1⟩
                 have hb := bnext (bbox _) hb1)
    go_ret
    exact ⟨by (rw [HE.out]; try rfl), hb⟩
end Go.Proofs.Ytoblofilaegnaaa
