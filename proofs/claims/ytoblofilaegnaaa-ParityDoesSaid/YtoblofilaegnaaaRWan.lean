/-
  What the second form's Wanted of parity hands back for any arguments. Conditions: the rows read as their numbers.
-/
import Derived.Test.YtoblofilaegnaaaOneAll
import Derived.Test.YtoblofilaegnaaaRComb
import Derived.Test.YtoblofilaegnaaaPar1
namespace Go.Proofs.Ytoblofilaegnaaa
open Go.RowKit
set_option linter.unusedVariables false

/-- What Wanted leaves. -/
def WanP (q : (Int × Bool) × Int) (w : World) (e : Ending) (w' : World) : Prop := e = .returned (.tuple #[.int .i64 q.1.1, .bool q.1.2, .int .i64 q.2]) ∧ Below w.heap.size w w'
theorem wanR_field {p : Int} {rows : List (List Int)} (h : okP p = false) : wanR p rows = ((0, false), 9) := by unfold wanR; rw [if_pos h]
theorem wanR_elt {p : Int} {rows : List (List Int)} (h : okP p = true) {r : List Int} (hr : r ∈ rows) (ha : allP p r = false) : wanR p rows = ((0, false), 9) := by
  have h0 : rows.all (allP p) = false := by
    rw [← Bool.not_eq_true, List.all_eq_true]
    intro h1
    have := h1 r hr
    rw [ha] at this; cases this
  unfold wanR; rw [if_neg (by simp [h]), if_pos h0]
theorem wanR_nil {p : Int} {rows : List (List Int)} (h : okP p = true) (h0 : rows = []) : wanR p rows = ((0, false), 2) := by
  subst h0
  unfold wanR; rw [if_neg (by simp [h]), if_neg (by simp), if_pos rfl]
theorem wanR_len {p : Int} {rows : List (List Int)} (h : okP p = true) (ha : ∀ r ∈ rows, allP p r = true) {r : List Int} (hr : r ∈ rows) (hl : r.length ≠ (rows.getD 0 []).length) : wanR p rows = ((0, false), 2) := by
  have h0 : ¬ rows.all (allP p) = false := by rw [List.all_eq_true.2 ha]; simp
  have h1 : (rows.all fun r => r.length == (rows.getD 0 []).length) = false := by
    rw [← Bool.not_eq_true, List.all_eq_true]
    intro h1
    have := h1 r hr
    exact hl (by simpa using this)
  have h2 : rows ≠ [] := by rintro rfl; cases hr
  unfold wanR; rw [if_neg (by simp [h]), if_neg h0, if_neg h2, if_pos h1]
theorem wanR_ok {p : Int} {rows : List (List Int)} (h : okP p = true) (ha : ∀ r ∈ rows, allP p r = true) (hn : rows ≠ []) (hl : ∀ r ∈ rows, r.length = (rows.getD 0 []).length) : wanR p rows = (oneR (plusL p (rows.getD 0 []).length rows), 0) := by
  have h0 : ¬ rows.all (allP p) = false := by rw [List.all_eq_true.2 ha]; simp
  have h1 : ¬ (rows.all fun r => r.length == (rows.getD 0 []).length) = false := by
    rw [List.all_eq_true.2 (fun r hr => by simpa using hl r hr)]; simp
  unfold wanR; rw [if_neg (by simp [h]), if_neg h0, if_neg hn, if_neg h1]
theorem take_all_succ {P : List Int → Prop} {rows : List (List Int)} {k : Nat} (hk : k < rows.length) (h : ∀ r ∈ rows.take k, P r) (h1 : P (rows.getD k [])) : ∀ r ∈ rows.take (k + 1), P r := by
  intro r hr
  rw [take_snoc_row rows k hk] at hr
  rcases List.mem_append.1 hr with hr | hr
  · exact h r hr
  · rw [List.mem_singleton.1 hr]; exact h1

set_option maxRecDepth 100000 in
theorem rwan_field (p : Int) (A : Option Addr) (m c : Nat) (w : World) (hok : okP p = false) :
    Calls Try.prog 86 #[.agg #[.int .i64 p], .slice A m c] w (WanP ((0, false), 9) w) := by
  have HO := Lib.hid hok
  clear hok
  have hb0 : Below w.heap.size w (w.alloc (.cells #[.int .i64 p] 24)) := bbox _
  go_enter Try.func86, Try.ntmps86
  go_wp2_with (go_at_call 128; refine (check_no p _ HO.out).mono ?_; rintro e w1 ⟨rfl, hb1⟩; have hbb1 := bnext hb0 hb1)
  go_ret3
  exact ⟨rfl, hbb1⟩

set_option maxRecDepth 100000 in
set_option maxHeartbeats 8000000 in
theorem rwan_yes (p : Int) (A : Option Addr) (m c lo : Nat) (rows : List (List Int)) (w : World) (hok : okP p = true) (hM : Mat w lo w.heap.size A m rows) (hm : m ≤ 17592186044416) :
    Calls Try.prog 86 #[.agg #[.int .i64 p], .slice A m c] w (WanP (wanR p rows) w) := by
  obtain ⟨i0, hi0, hz0, hz1, hz2⟩ := info_parts info_int
  have hp := okP_pos hok
  have HO := Lib.hid hok
  have HM := Lib.hid hM.len
  have HIF : Hid (∀ row, inF p row = allP p row) := Lib.hid fun row => by
    cases ha : allP p row
    · cases hb : inF p row
      · rfl
      · rw [(inF_iff.1 hb).2] at ha; cases ha
    · exact inF_iff.2 ⟨HO.out, ha⟩
  generalize hRS : wanR p rows = RS
  have HE9 : Hid (∀ r ∈ rows, allP p r = false → RS = ((0, false), 9)) := Lib.hid fun r hr ha => by rw [← hRS, wanR_elt HO.out hr ha]
  have HE0 : Hid (rows = [] → RS = ((0, false), 2)) := Lib.hid fun h => by rw [← hRS, wanR_nil HO.out h]
  have HE2 : Hid ((∀ r ∈ rows, allP p r = true) → ∀ r ∈ rows, r.length ≠ (rows.getD 0 []).length → RS = ((0, false), 2)) := Lib.hid fun ha r hr hl => by rw [← hRS, wanR_len HO.out ha hr hl]
  have HOK : Hid ((∀ r ∈ rows, allP p r = true) → rows ≠ [] → (∀ r ∈ rows, r.length = (rows.getD 0 []).length) → RS = (oneR (plusL p (rows.getD 0 []).length rows), 0)) := Lib.hid fun ha hn hl => by rw [← hRS, wanR_ok HO.out ha hn hl]
  clear hok hRS
  have hb0 : Below w.heap.size w (w.alloc (.cells #[.int .i64 p] 24)) := bbox _
  have hF0 := Blk.new w 24 #[.int .i64 p]
  go_enter Try.func86, Try.ntmps86
  go_wp2_with (go_at_call 128; refine (check_yes p _ HO.out).mono ?_; rintro e w1 ⟨rfl, hb1⟩; have hbb1 := bnext hb0 hb1; have hF1 := hF0.below hb1 hF0.lt; clear hb1 hb0 hF0)
  go_loopw [24] (fun i wr => ∃ k : Nat, k ≤ m ∧ i = .int .i64 k ∧ Below w.heap.size w wr ∧ Blk wr w.heap.size 24 #[.int .i64 p] ∧ Hid (∀ r ∈ rows.take k, allP p r = true)) (fun i _ => m - (intOf i).toNat)
  case atStart => exact ⟨0, Nat.zero_le _, rfl, hbb1, hF1, Lib.hid (by simp)⟩
  case round =>
    obtain ⟨k, hk, rfl, hbr, hFr, HA⟩ := hrel
    have hcr : wr.cell? ⟨w.heap.size, 0, none⟩ = some (.int .i64 p) := (hFr.cell 0).trans rfl
    by_cases hlt : k < m
    · obtain ⟨b, off, A1, n1, c1, rfl, _, hb1, hcell, hn1, hI, _⟩ := (hM.upto hbr).at_ hlt
      have hmem : rows.getD k [] ∈ rows := getD_mem2 (by rw [HM.out]; exact hlt)
      have HT : Hid (allP p (rows.getD k []) = true → ∀ r ∈ rows.take (k + 1), allP p r = true) := Lib.hid fun h => take_all_succ (P := fun r => allP p r = true) (by rw [HM.out]; exact hlt) HA.out h
      have HB : Hid (allP p (rows.getD k []) = false → RS = ((0, false), 9)) := Lib.hid (HE9.out _ hmem)
      generalize rows.getD k [] = row at *
      have hkm : (k : Int) < (m : Int) := by omega
      have hk0 : (0 : Int) ≤ (k : Int) := by omega
      cases ha : allP p row
      · obtain rfl := HB.out ha
        have HIN : Hid (inF p row = false) := Lib.hid (by rw [HIF.out]; exact ha)
        clear ha HT HB
        go_wp2_with (go_at_call 126; refine (in_any p A1 n1 c1 row _ hI (by omega)).mono ?_; rintro e w3 ⟨rfl, hb3⟩; rw [HIN.out]
                     have hbr3 := bnext hbr hb3)
        go_ret3
        exact ⟨rfl, hbr3⟩
      · have HIN : Hid (inF p row = true) := Lib.hid (by rw [HIF.out]; exact ha)
        have HN := Lib.hid (HT.out ha)
        clear ha HT HB
        go_wp2_with (go_at_call 126; refine (in_any p A1 n1 c1 row _ hI (by omega)).mono ?_; rintro e w3 ⟨rfl, hb3⟩; rw [HIN.out]
                     have hbr3 := bnext hbr hb3
                     have hFr3 := hFr.below hb3 hFr.lt
                     clear hb3)
        go_roundw
        case rel => exact ⟨k + 1, by omega, by go_num, hbr3, hFr3, HN⟩
        case measure => simp [intOf]; omega
    · obtain rfl : k = m := by omega
      have hA0 := HA.out
      rw [List.take_of_length_le (by rw [HM.out]; omega)] at hA0
      have HAA := Lib.hid hA0
      clear hA0 HA hlt
      by_cases hm0 : k = 0
      · subst hm0
        obtain rfl := HE0.out (List.eq_nil_of_length_eq_zero HM.out)
        go_wp2
        go_ret3
        exact ⟨rfl, hbr⟩
      · obtain ⟨b, off, A0, n0, c0, rfl, _, hb0, hcell0, hn0, hI0, _⟩ := hM.at_ (j := 0) (by omega)
        rw [Nat.add_zero] at hcell0
        have hcr0 := (hbr.cell (p := ⟨b, off, none⟩) hb0).trans hcell0
        have hmem0 : rows.getD 0 [] ∈ rows := getD_mem2 (by rw [HM.out]; omega)
        have hn6 := hn0
        have HNE : Hid (rows ≠ []) := Lib.hid fun e => by have := HM.out; rw [e] at this; simp at this; omega
        have HE2' := Lib.hid (HE2.out HAA.out)
        have HOK' := Lib.hid (HOK.out HAA.out HNE.out)
        rw [hI0.len] at HE2' HOK'
        have hmk : (0 : Int) < (k : Int) := by omega
        have hmk2 : 0 < k := by omega
        clear hm0 hI0 hmem0 HE2 HOK HE0 HE9 hcr hbb1 hF1
        go_wp2_with (
          at_make
          refine wpList_make_full _ rfl _ _ 22 rfl (w.heap.size + 1) 3 i0 (.int .i64 0) 1 Try.underlying22 hi0 hz0 hz1 .i64 .i64 n0 n0 n0 rfl rfl rfl rfl (by rw [hz2]; omega) (by unfold maxLen; omega) (by (have := hFr.lt); omega) ?_
          intro w4 hown hgr
          have hown4 : OwnI w4 (w.heap.size + 1) 3 (some ⟨wr.heap.size, 0, none⟩) n0 n0 (List.replicate n0 0) := by rw [made_zeros] at hown; exact hown
          have hb4 := hbr.grown hgr hbr.size (fun k hk => by cases hk)
          have hF4 := hFr.grown hgr (fun e => by cases e)
          clear hown hgr)
        clear hFr hbr hcr0
        generalize wr.heap.size = g at *
        go_loopw [43] (fun i wx => ∃ j : Nat, j ≤ k ∧ i = .int .i64 j ∧ OwnI wx (w.heap.size + 1) 3 (some ⟨g, 0, none⟩) n0 n0 (plusL p n0 (rows.take j)) ∧ Below w.heap.size w wx ∧ Blk wx w.heap.size 24 #[.int .i64 p] ∧ Hid (∀ r ∈ rows.take j, r.length = n0)) (fun i _ => k - (intOf i).toNat)
        case atStart => exact ⟨0, Nat.zero_le _, rfl, hown4, hb4, hF4, Lib.hid (by simp)⟩
        case round =>
          obtain ⟨j, hj, rfl, hown, hbx, hFx, HB⟩ := hrel
          by_cases hlt2 : j < k
          · obtain ⟨b1, o1, A1, n1, c1, e9, _, hb1, hcell1, hn1, hI, _⟩ := (hM.below hbx).at_ hlt2
            obtain ⟨rfl, rfl⟩ : b = b1 ∧ off = o1 := by injection e9 with e9; injection e9 with e1 e2 _; exact ⟨e1, e2⟩
            clear e9
            have hmem : rows.getD j [] ∈ rows := getD_mem2 (by rw [HM.out]; exact hlt2)
            have hjk : (j : Int) < (k : Int) := by omega
            have hj0 : (0 : Int) ≤ (j : Int) := by omega
            by_cases hln : n1 = n0
            · subst hln
              have HN : Hid (∀ r ∈ rows.take (j + 1), r.length = n1) := Lib.hid (take_all_succ (P := fun r => r.length = n1) (by rw [HM.out]; exact hlt2) HB.out hI.len)
              have HT : Hid (plusL p n1 (rows.take (j + 1)) = zipI (timesP p 1) (plusL p n1 (rows.take j)) (rows.getD j [])) := Lib.hid (by rw [take_snoc_row rows j (by rw [HM.out]; exact hlt2), plusL_snoc])
              have HTA := Lib.hid (plusL_all hp.1 n1 (rows.take j))
              have HRA := Lib.hid (HAA.out _ hmem)
              have HIL := Lib.hid hI.len
              have HOL := Lib.hid hown.len
              generalize rows.getD j [] = row at *
              generalize plusL p n1 (rows.take j) = ts at *
              have hx0 : (0 : Int) ≤ (n1 : Int) := by omega
              clear hmem hown4 hb4 hF4
              go_wp2_with fail
              go_loopw [54] (fun i wy => ∃ q : Nat, q ≤ n1 ∧ i = .int .i64 q ∧ OwnI wy (w.heap.size + 1) 3 (some ⟨g, 0, none⟩) n1 n1 (partly (timesP p 1) ts row q) ∧ Step g wr wy) (fun i _ => n1 - (intOf i).toNat)
              case atStart => exact ⟨0, Nat.zero_le _, rfl, by rw [partly_zero]; exact hown, Step.refl _ _⟩
              case round =>
                obtain ⟨q, hq, rfl, howny, hS⟩ := hrel
                by_cases hlt3 : q < n1
                · obtain ⟨b3, o3, rfl, hb3, hc3⟩ := hI.2 (by omega)
                  have hlw := hFx.lt
                  obtain ⟨g9, e9, hg9, hg10⟩ := howny.form (by omega)
                  obtain rfl : g = g9 := by injection e9 with e9; injection e9
                  have hb3g : b3 ≠ g := by omega
                  have hbs := hbx.size
                  have hry : wr.cell? ⟨b3, o3 + q, none⟩ = some (.int .i64 (row.getD q 0)) := (World.cell?_of_block (World.grownBy.block hS b3 (by omega) (fun e => hb3g (by injection e)))).trans (hc3 q hlt3)
                  have hrp : wr.cell? ⟨w.heap.size, 0, none⟩ = some (.int .i64 p) := (World.cell?_of_block (World.grownBy.block hS w.heap.size (by omega) (fun e => by injection e; omega))).trans ((hFx.cell 0).trans rfl)
                  have hrt := howny.cellAt hlt3
                  rw [partly_at _ ts row (by rw [HIL.out, HOL.out]) q (by rw [HOL.out]; exact hlt3)] at hrt
                  have hfz := howny.frozenAt q
                  have hst := howny.stored q (timesP p 1 (ts.getD q 0) (row.getD q 0))
                  rw [partly_set _ ts row (by rw [HIL.out, HOL.out]) q (by rw [HOL.out]; exact hlt3)] at hst
                  have hS2 := hS.set q (.int .i64 (timesP p 1 (ts.getD q 0) (row.getD q 0)))
                  have htk := allP_getD HTA.out (k := q) (by rw [HOL.out]; exact hlt3)
                  have hyk := allP_getD HRA.out (k := q) (by rw [HIL.out]; exact hlt3)
                  generalize ts.getD q 0 = t at *
                  generalize row.getD q 0 = y at *
                  have hq0 : (0 : Int) ≤ (q : Int) := by omega
                  have hq1 : (q : Int) < (n1 : Int) := by omega
                  have hw2 : IntKind.i64.wrap (t + y) = t + y := IntWalk.i64_in _ (by omega)
                  have hp0 : ¬ p = 0 := by omega
                  have hv : timesP p 1 t y = (t + y) % p := timesP_add hyk
                  rw [hv] at hst hS2
                  have HS := Lib.hid hst
                  have HS2 := Lib.hid hS2
                  clear hst hS2 hc3 hv e9 hg9 hg10
                  go_wp2_with fail
                  go_region
                  all_goals go_wp2
                  all_goals go_roundw
                  case rel => exact ⟨q + 1, by omega, by go_num, HS.out.drew, HS2.out.drew⟩
                  case measure => simp [intOf]; omega
                · obtain rfl : q = n1 := by omega
                  have HE : Hid (partly (timesP p 1) ts row q = zipI (timesP p 1) ts row) := Lib.hid (by have := partly_all (timesP p 1) ts row (by rw [HIL.out, HOL.out]); rwa [HOL.out] at this)
                  rw [HE.out, ← HT.out] at howny
                  have hgb := (World.ownsRow.lt howny g rfl).1
                  have hbx5 := Step.below hbx hS hbx.size (by omega)
                  have hFx5 := Step.block hS hFx (by omega)
                  go_wp2
                  go_roundw
                  case rel => exact ⟨j + 1, by omega, by go_num, howny, hbx5, hFx5, HN⟩
                  case measure => simp [intOf]; omega
            · have hlen := hI.len
              obtain rfl := HE2'.out _ hmem (by rw [hlen]; exact hln)
              have hne : ((n1 : Int) != (n0 : Int)) = true := by simp; omega
              have hne2 : ¬ (n1 : Int) = (n0 : Int) := by omega
              go_wp2
              go_ret3
              exact ⟨rfl, hbx⟩
          · obtain rfl : j = k := by omega
            have hB0 := HB.out
            rw [List.take_of_length_le (by rw [HM.out]; omega)] at hown hB0
            obtain rfl := HOK'.out hB0
            clear hB0
            go_wp2_with (go_at_call 155; refine (only_any (some ⟨g, 0, none⟩) n0 n0 (plusL p n0 rows) _ hown.ints (by omega)).mono ?_; rintro e w9 ⟨rfl, rfl⟩)
            go_ret3
            exact ⟨rfl, hbx⟩
theorem rwanted_all (p : Int) (A : Option Addr) (m c lo : Nat) (rows : List (List Int)) (w : World) (hM : Mat w lo w.heap.size A m rows) (hm : m ≤ 17592186044416) :
    Calls Try.prog 86 #[.agg #[.int .i64 p], .slice A m c] w (WanP (wanR p rows) w) := by
  by_cases hok : okP p = true
  · exact rwan_yes p A m c lo rows w hok hM hm
  · have hokf : okP p = false := by simpa using hok
    rw [wanR_field hokf]
    exact rwan_field p A m c w hokf
end Go.Proofs.Ytoblofilaegnaaa
