/-
  What parity's Wanted hands back for any arguments. Conditions: the rows read as their numbers.
-/
import Derived.Test.YtoblofilaegnaaaPWant
import Derived.Test.YtoblofilaegnaaaRWan
namespace Go.Proofs.Ytoblofilaegnaaa
open Go.RowKit Go.Shelf
set_option linter.unusedVariables false
attribute [local go_sem] Oper.semAt_some

set_option maxRecDepth 100000 in
/-- The three results lie in cells; one mark is taken. -/
theorem leave31 {n : Nat} {fn : Func} {a b c : Nat} {p q r : Tmp} {u x : Int} {v : Bool} {tp tq tr : TypeId} {R : Ending → World → Prop} {tmps : Array Value} {D : Nat} {W W0 : World} {B : Nat} (h : fn.results = #[.cell p tp, .cell q tq, .cell r tr])
    (hp : tmps.getD p undef = .pointer (some ⟨a, 0, none⟩)) (hq : tmps.getD q undef = .pointer (some ⟨b, 0, none⟩)) (hr : tmps.getD r undef = .pointer (some ⟨c, 0, none⟩))
    (hlp : ∀ w : World, w.cell? ⟨a, 0, none⟩ = some (.int .i64 u) → (loadVar tp ⟨a, 0, none⟩).run Try.prog w = .ok (.int .i64 u) w)
    (hlq : ∀ w : World, w.cell? ⟨b, 0, none⟩ = some (.bool v) → (loadVar tq ⟨b, 0, none⟩).run Try.prog w = .ok (.bool v) w)
    (hlr : ∀ w : World, w.cell? ⟨c, 0, none⟩ = some (.int .i64 x) → (loadVar tr ⟨c, 0, none⟩).run Try.prog w = .ok (.int .i64 x) w)
    (hD : a < D ∧ b < D ∧ c < D) (hBD : W0.heap.size ≤ D) (hK : W.heap[D]? = some (.deferred (some []))) (ha : W.cell? ⟨a, 0, none⟩ = some (.int .i64 u)) (hb : W.cell? ⟨b, 0, none⟩ = some (.bool v)) (hc : W.cell? ⟨c, 0, none⟩ = some (.int .i64 x))
    (hB : Below B W0 W) (hB0 : B ≤ W0.heap.size) (hR : ∀ w', Below B W0 w' → R (.returned (.tuple #[.int .i64 u, .bool v, .int .i64 x])) w') :
    bodyPostM Fence.wide n Try.prog fn R .ret { tmps := tmps, defers := [{ target := .collected D, args := #[] }] } W := by
  refine ⟨by simp, .inl ⟨_, _, rfl, run_takeDeferred hK, ?_⟩⟩
  have hk : ∀ (o : Obj) (k : Nat), k < D → (W.putObj D o).cell? ⟨k, 0, none⟩ = W.cell? ⟨k, 0, none⟩ := fun o k hk => World.cell?_of_block (World.putObj_heap_other (by show k ≠ D; omega))
  refine ⟨.tuple #[.int .i64 u, .bool v, .int .i64 x], ?_, hR _ (hB.trans (belowK_b (w := W0) hB0 W D _ _ (by omega) hK rfl rfl))⟩
  rw [results_cell3' h, hp, hq, hr]
  show ((loadVar tp ⟨a, 0, none⟩).run Try.prog _).andThen _ = _
  rw [hlp _ ((hk _ a hD.1).trans ha)]
  show ((loadVar tq ⟨b, 0, none⟩).run Try.prog _).andThen _ = _
  rw [hlq _ ((hk _ b hD.2.1).trans hb)]
  show ((loadVar tr ⟨c, 0, none⟩).run Try.prog _).andThen _ = _
  rw [hlr _ ((hk _ c hD.2.2).trans hc)]
  rfl

set_option maxRecDepth 100000 in
theorem pwan_field (p : Int) (A : Option Addr) (m c : Nat) (w : World) (hp64 : -9223372036854775808 ≤ p ∧ p ≤ 9223372036854775807) (hok : okP p = false) :
    Calls Try.prog 85 #[.agg #[.int .i64 p], .slice A m c] w (WanP ((0, false), 9) w) := by
  have HO := Lib.hid hok
  clear hok
  obtain ⟨wx, hwx, hszx, hbx, x0, x1, x2, x3, x4⟩ := blk5 w 24 25 3 4 36 #[.int .i64 p] #[.slice A m c] #[.int .i64 0] #[.bool false] #[.int .i64 0]
  have hcx0 : wx.cell? ⟨w.heap.size, 0, none⟩ = some (.int .i64 p) := (x0.cell 0).trans rfl
  go_enter Try.func85, Try.ntmps85
  go_wp2_with (go_at_call 118; refine (of_no p _ hp64 HO.out).mono ?_; rintro e w1 ⟨rfl, hb1⟩
               have hw1 := ballocs (hbx.trans (hb1.mono hbx.size)) (.cells #[.int .i64 0] 126)
               have y2 := (x2.below hb1 x2.lt).alloc (.cells #[.int .i64 0] 126)
               have y3 := (x3.below hb1 x3.lt).alloc (.cells #[.int .i64 0] 126)
               have y4 := (x4.below hb1 x4.lt).alloc (.cells #[.int .i64 0] 126)
               have hc4 : (w1.alloc (.cells #[.int .i64 0] 126)).cell? ⟨w.heap.size + 1 + 1, 0, none⟩ = some (.int .i64 0) := (y2.cell 0).trans rfl
               have hc5 : (w1.alloc (.cells #[.int .i64 0] 126)).cell? ⟨w.heap.size + 1 + 1 + 1, 0, none⟩ = some (.bool false) := (y3.cell 0).trans rfl
               have hc6 : (w1.alloc (.cells #[.int .i64 0] 126)).cell? ⟨w.heap.size + 1 + 1 + 1 + 1, 0, none⟩ = some (.int .i64 0) := (y4.cell 0).trans rfl
               have hf4 := y2.frozen 0
               have hf5 := y3.frozen 0
               have hf6 := y4.frozen 0
               clear hb1)
  obtain ⟨W, hW⟩ : ∃ W, w1.alloc (.cells #[.int .i64 0] 126) = W := ⟨_, rfl⟩
  rw [hW] at hw1 hc4 hc5 hc6 hf4 hf5 hf6 ⊢
  have hg4 : (((W.setCell ⟨w.heap.size + 1 + 1, 0, none⟩ (.int .i64 0)).setCell ⟨w.heap.size + 1 + 1 + 1, 0, none⟩ (.bool false)).setCell ⟨w.heap.size + 1 + 1 + 1 + 1, 0, none⟩ (.int .i64 9)).cell? ⟨w.heap.size + 1 + 1, 0, none⟩ = some (.int .i64 0) := by go_simp
  have hg5 : (((W.setCell ⟨w.heap.size + 1 + 1, 0, none⟩ (.int .i64 0)).setCell ⟨w.heap.size + 1 + 1 + 1, 0, none⟩ (.bool false)).setCell ⟨w.heap.size + 1 + 1 + 1 + 1, 0, none⟩ (.int .i64 9)).cell? ⟨w.heap.size + 1 + 1 + 1, 0, none⟩ = some (.bool false) := by go_simp
  have hg6 : (((W.setCell ⟨w.heap.size + 1 + 1, 0, none⟩ (.int .i64 0)).setCell ⟨w.heap.size + 1 + 1 + 1, 0, none⟩ (.bool false)).setCell ⟨w.heap.size + 1 + 1 + 1 + 1, 0, none⟩ (.int .i64 9)).cell? ⟨w.heap.size + 1 + 1 + 1 + 1, 0, none⟩ = some (.int .i64 9) := by go_simp
  refine bodyPost_ret (v := .tuple #[.int .i64 0, .bool false, .int .i64 9]) (by simp [results, Try.results85, go_sem, hg4, hg5, hg6]) rfl ⟨rfl, ((hw1.setCell (by simp; omega) _).setCell (by simp; omega) _).setCell (by simp; omega) _⟩

theorem rowsOf_all {w0 : World} {B : Nat} {rows : List (List Int)} {P : List Int → Prop} (pre : List (RowElt w0 B rows)) (x : RowElt w0 B rows) (h : ∀ r ∈ rowsOf pre, P r) (hx : P x.1.2) : ∀ r ∈ rowsOf (pre ++ [x]), P r := by
  rw [rowsOf_snoc]
  intro r hr
  rcases List.mem_append.1 hr with hr | hr
  · exact h r hr
  · rw [List.mem_singleton.1 hr]; exact hx

set_option maxRecDepth 100000 in
set_option maxHeartbeats 8000000 in
theorem pwan_yes (p : Int) (A : Option Addr) (m c lo : Nat) (rows : List (List Int)) (w : World) (hok : okP p = true) (hM : Mat w lo w.heap.size A m rows) (hm : m ≤ 17592186044416) :
    Calls Try.prog 85 #[.agg #[.int .i64 p], .slice A m c] w (WanP (wanR p rows) w) := by
  have hp := okP_pos hok
  have HO := Lib.hid hok
  have HM := Lib.hid hM.len
  generalize hRS : wanR p rows = RS
  have HE9 : Hid (∀ r ∈ rows, allP p r = false → RS = ((0, false), 9)) := Lib.hid fun r hr ha => by rw [← hRS, wanR_elt HO.out hr ha]
  have HE0 : Hid (rows = [] → RS = ((0, false), 2)) := Lib.hid fun h => by rw [← hRS, wanR_nil HO.out h]
  have HE2 : Hid ((∀ r ∈ rows, allP p r = true) → ∀ r ∈ rows, r.length ≠ (rows.getD 0 []).length → RS = ((0, false), 2)) := Lib.hid fun ha r hr hl => by rw [← hRS, wanR_len HO.out ha hr hl]
  have HOK : Hid ((∀ r ∈ rows, allP p r = true) → rows ≠ [] → (∀ r ∈ rows, r.length = (rows.getD 0 []).length) → RS = (oneR (plusL p (rows.getD 0 []).length rows), 0)) := Lib.hid fun ha hn hl => by rw [← hRS, wanR_ok HO.out ha hn hl]
  clear hok hRS
  obtain ⟨wx, hwx, hszx, hbx, x0, x1, x2, x3, x4⟩ := blk5 w 24 25 3 4 36 #[.int .i64 p] #[.slice A m c] #[.int .i64 0] #[.bool false] #[.int .i64 0]
  have hcx0 : wx.cell? ⟨w.heap.size, 0, none⟩ = some (.int .i64 p) := (x0.cell 0).trans rfl
  refine (callsIn_wide (n := 5)).1 ?_
  refine callsIn_of_wp_marks Try.func85 rfl trivial ?_ rfl
  simp only [Try.ntmps85, List.size_toArray, List.length_cons, List.length_nil, Nat.reduceAdd, Nat.reduceSub, Array.replicate_succ, Array.replicate_zero, List.push_toArray, List.append_toArray, List.nil_append, List.cons_append]
  gi_wp2_with (first
    | (refine ⟨trivial, ?_⟩; gi_at_call 118; refine (callsIn_wide.2 (of_yes p _ HO.out)).mono ?_; rintro e w1 ⟨rfl, hb1⟩
       have hw1 := hbx.trans (hb1.mono hbx.size)
       have y1 := x1.below hb1 x1.lt
       have y2 := x2.below hb1 x2.lt
       have y3 := x3.below hb1 x3.lt
       have y4 := x4.below hb1 x4.lt
       have hcR1 : (w1.alloc (.cells #[.int .i64 p] 126)).cell? ⟨w.heap.size + 1, 0, none⟩ = some (.slice A m c) := ((y1.alloc _).cell 0).trans rfl
       have hsz1 := hb1.size
       rw [hszx] at hsz1
       clear hb1)
    | (refine ⟨trivial, ?_⟩; gi_at_call 153; refine (callsIn_wide.2 (each_any A m c _)).mono ?_; rintro e w' ⟨rfl, rfl⟩))
  obtain ⟨W4, hW4⟩ : ∃ W4, (w1.alloc (.cells #[.int .i64 p] 126)).alloc (.cells #[.slice A m c] 25) = W4 := ⟨_, rfl⟩
  have hsz : W4.heap.size = w1.heap.size + 2 := by rw [← hW4]; simp
  have bP : Blk W4 w1.heap.size 126 #[.int .i64 p] := by rw [← hW4]; exact (Blk.new w1 _ _).alloc _
  have bL : Blk W4 (w1.heap.size + 1) 25 #[.slice A m c] := by rw [← hW4]; exact Blk.new1 w1 _ _ _
  have hB0 : Below w.heap.size w W4 := by rw [← hW4]; exact ballocs (ballocs hw1 _) _
  have hB14 : Below w1.heap.size w1 W4 := by rw [← hW4]; exact ballocs (bbox _) _
  have z1 := y1.below hB14 y1.lt
  have z2 := y2.below hB14 y2.lt
  have z3 := y3.below hB14 y3.lt
  have z4 := y4.below hB14 y4.lt
  have hM4 : Mat W4 lo w.heap.size A m rows := hM.below hB0
  rw [hW4]
  clear hW4 hcR1 y1 y2 y3 y4 hw1 hB14 x0 x1 x2 x3 x4 hcx0 hwx hbx
  refine wpIn_rangeFunc_ownG (α := RowElt W4 w.heap.size rows) rfl (by omega) (gf := 174) (lb := #[.pointer (some ⟨w1.heap.size + 1, 0, none⟩)]) rfl trivial (enters_of Try.func174 (by kernel_rfl) rfl)
    (encs := fun y : RowElt W4 w.heap.size rows => #[Value.slice y.1.1.1 y.1.1.2.1 y.1.1.2.2]) (Kp := KeepsB (w1.heap.size + 2) w.heap.size) (S := fun ys => rowsOf ys = rows) (Sp := fun pre => ∃ k, rowsOf pre = rows.take k) (N := rows.length) (w0 := W4)
    (fun l J Jx W hW hJ _ hY h0 => each1_in _ (by omega) l (w1.heap.size + 1) (w1.heap.size + 2) w.heap.size m lo w.heap.size A c rows W4 (by omega) J Jx hY W hW (by omega) (by omega) (by omega) (by omega) (by omega) ((hW.cell (p := ⟨w1.heap.size + 1, 0, none⟩) (by show w1.heap.size + 1 < W4.heap.size; omega)).trans ((bL.cell 0).trans rfl)) hM4 h0)
    KeepsB.trans (KeepsB.put (by omega)) (Below.refl _ _) (fun _ => rfl)
    (fun pre W => KeepsB (w1.heap.size + 2) w.heap.size W4 W ∧ (∀ r ∈ rowsOf pre, allP p r = true) ∧ Below w.heap.size w W)
    (fun cc pre W => cc = .ret ∧ RS = ((0, false), 9) ∧ W.cell? ⟨w.heap.size + 1 + 1, 0, none⟩ = some (.int .i64 0) ∧ W.cell? ⟨w.heap.size + 1 + 1 + 1, 0, none⟩ = some (.bool false) ∧ W.cell? ⟨w.heap.size + 1 + 1 + 1 + 1, 0, none⟩ = some (.int .i64 9) ∧ Below w.heap.size w W)
    (fun s W W' row hs hg hr => by
      obtain ⟨h1, h2, h3⟩ := hs
      exact ⟨ownFrom_keepsB (β := Unit) (by omega) (by omega) () W W' row h1 hg hr, h2, ownFrom_below (β := Unit) (Nat.le_refl _) (by omega) () W W' row h3 hg hr⟩)
    (fun cc s W W' row hs hg hr => by
      obtain ⟨h0, h1, h2, h3, h4, h5⟩ := hs
      have hr2 : ∀ r, row = some r → ∃ o : Obj, W.heap[r]? = some o ∧ o.isCells = false := fun r e => (hr r e).2
      exact ⟨h0, h1, cell_kept h2 hg hr2, cell_kept h3 hg hr2, cell_kept h4 hg hr2, ownFrom_below (β := Unit) (Nat.le_refl _) (by omega) () W W' row h5 hg hr⟩)
    ⟨KeepsB.refl _ _ _, (fun r hr => by cases hr), hB0⟩
    (fun y => { tmps := #[.agg #[.int .i64 p], .slice A m c, .pointer (some ⟨w.heap.size, 0, none⟩), .pointer (some ⟨w.heap.size + 1, 0, none⟩), .pointer (some ⟨w.heap.size + 1 + 1, 0, none⟩), .pointer (some ⟨w.heap.size + 1 + 1 + 1, 0, none⟩), .pointer (some ⟨w.heap.size + 1 + 1 + 1 + 1, 0, none⟩), .pointer (some ⟨w1.heap.size, 0, none⟩), .bool true, .slice y.1.1.1 y.1.1.2.1 y.1.1.2.2, undef, undef, undef, .tuple #[.int .i64 p, .bool true], .agg #[.int .i64 p], .tuple #[.int .i64 p, .bool true], .int .i64 p, .bool true, .bool true, .bool false, .slice A m c, .func (.func 174) #[] #[.pointer (some ⟨w1.heap.size + 1, 0, none⟩)], .slice y.1.1.1 y.1.1.2.1 y.1.1.2.2, undef, undef, undef, undef, undef, undef, undef, undef, undef, undef, undef, undef, undef, undef, undef, undef, undef, undef, undef, undef, undef, undef, undef, undef, undef, undef, undef, undef, undef, undef, undef], defers := [] }) ?assign ?body ?done ?stop
  case assign =>
    intro l y W K hK
    gi_wp2
    exact hK
  case body =>
    rintro l pre ⟨⟨⟨A1, n1, c1⟩, row⟩, hI1, hn1, hmem⟩ W ⟨hKB, hAll, hB⟩ hlt
    dsimp only at hI1 hn1 hmem
    have hd : 1 ≤ 5 - 1 - 1 := by omega
    have HALL := Lib.hid hAll
    clear hAll
    have hcp : W.cell? ⟨w1.heap.size, 0, none⟩ = some (.int .i64 p) := ((hKB.blk (by omega) (by omega) bP).cell 0).trans rfl
    have hWs := hKB.1
    have hIW : Ints W W.heap.size A1 n1 row := (hI1.keepsB hKB (by omega) (by omega)).more (by omega)
    cases ha : allP p row
    · have hRS9 := HE9.out row hmem ha
      have HA := Lib.hid ha
      clear ha
      gi_wp2_with (refine ⟨trivial, ?_⟩; gi_at_call 119; refine (CallsIn.inRound l (callsIn_wide.2 (all_any p A1 n1 c1 row _ hIW (by omega)))).mono ?_; rintro e W5 ⟨rfl, hb5⟩; rw [HA.out]
                   have v2 := (hKB.blk (by omega) (by omega) z2).below hb5 (by omega)
                   have v3 := (hKB.blk (by omega) (by omega) z3).below hb5 (by omega)
                   have v4 := (hKB.blk (by omega) (by omega) z4).below hb5 (by omega)
                   have hc4 : W5.cell? ⟨w.heap.size + 1 + 1, 0, none⟩ = some (.int .i64 0) := (v2.cell 0).trans rfl
                   have hc5 : W5.cell? ⟨w.heap.size + 1 + 1 + 1, 0, none⟩ = some (.bool false) := (v3.cell 0).trans rfl
                   have hc6 : W5.cell? ⟨w.heap.size + 1 + 1 + 1 + 1, 0, none⟩ = some (.int .i64 0) := (v4.cell 0).trans rfl
                   have hf4 := v2.frozen 0
                   have hf5 := v3.frozen 0
                   have hf6 := v4.frozen 0)
      refine ⟨((KeepsOthers.ofBelow hb5).trans (((KeepsOthers.setCell _ _ _).trans (KeepsOthers.setCell _ _ _)).trans (KeepsOthers.setCell _ _ _))).from _, rfl, hRS9, ?_, ?_, ?_, (((hB.trans (hb5.mono hB.size)).setCell (by dsimp only; omega) _).setCell (by dsimp only; omega) _).setCell (by dsimp only; omega) _⟩
      · go_simp
      · go_simp
      · go_simp
    · have HA := Lib.hid ha
      clear ha
      gi_wp2_with (refine ⟨trivial, ?_⟩; gi_at_call 119; refine (CallsIn.inRound l (callsIn_wide.2 (all_any p A1 n1 c1 row _ hIW (by omega)))).mono ?_; rintro e W5 ⟨rfl, hb5⟩; rw [HA.out])
      exact ⟨(KeepsOthers.ofBelow hb5).from _, KeepsB.ofBelow hb5 (by omega), hKB.trans (KeepsB.ofBelow hb5 (by omega)), rowsOf_all pre _ HALL.out HA.out, hB.trans (hb5.mono hB.size)⟩
  case done =>
    rintro D ys W hD hS ⟨hKB, hAll, hB⟩ hK
    have HAA : Hid (∀ r ∈ rows, allP p r = true) := Lib.hid (by rw [← hS]; exact hAll)
    clear hAll
    have hWs := hKB.1
    have gP := hKB.blk (by omega) (by omega) bP
    have g1 := hKB.blk (by omega) (by omega) z1
    have g2 := hKB.blk (by omega) (by omega) z2
    have g3 := hKB.blk (by omega) (by omega) z3
    have g4 := hKB.blk (by omega) (by omega) z4
    have hc1 : W.cell? ⟨w.heap.size + 1, 0, none⟩ = some (.slice A m c) := (g1.cell 0).trans rfl
    have hDW : D < W.heap.size := (Array.getElem?_eq_some_iff.1 hK).1
    by_cases hmz : m = 0
    · subst hmz
      obtain rfl := HE0.out (List.eq_nil_of_length_eq_zero HM.out)
      have hc4 : W.cell? ⟨w.heap.size + 1 + 1, 0, none⟩ = some (.int .i64 0) := (g2.cell 0).trans rfl
      have hc5 : W.cell? ⟨w.heap.size + 1 + 1 + 1, 0, none⟩ = some (.bool false) := (g3.cell 0).trans rfl
      have hc6 : W.cell? ⟨w.heap.size + 1 + 1 + 1 + 1, 0, none⟩ = some (.int .i64 0) := (g4.cell 0).trans rfl
      have hf4 := g2.frozen 0
      have hf5 := g3.frozen 0
      have hf6 := g4.frozen 0
      have hKn := Lib.hid hK
      clear hK hKB hS
      gi_wp2
      refine leave31 (u := 0) (v := false) (x := 2) (D := D) (B := w.heap.size) (W0 := w) rfl rfl rfl rfl (fun w h => by go_simp) (fun w h => by go_simp) (fun w h => by go_simp) (by omega) (by omega) ?_ ?_ ?_ ?_ (((hB.setCell (by dsimp only; omega) _).setCell (by dsimp only; omega) _).setCell (by dsimp only; omega) _) (by omega) (fun w' hb => ⟨rfl, hb⟩)
      · exact (Below.heap_setCell _ _ _ _ (by dsimp only; omega)).trans ((Below.heap_setCell _ _ _ _ (by dsimp only; omega)).trans ((Below.heap_setCell _ _ _ _ (by dsimp only; omega)).trans hKn.out))
      · go_simp
      · go_simp
      · go_simp
    · have hm0 : ¬ ((m : Int) = 0) := by omega
      have hKn := Lib.hid hK
      have hBn := Lib.hid hB
      clear hK hB hKB hS
      gi_wp2_with (refine ⟨trivial, ?_⟩; gi_at_call 153; refine (callsIn_wide.2 (each_any A m c _)).mono ?_; rintro e w' ⟨rfl, rfl⟩)
      obtain ⟨W6, hW6⟩ : ∃ W6, W.alloc (.cells #[.slice A m c] 25) = W6 := ⟨_, rfl⟩
      have hsz6 : W6.heap.size = W.heap.size + 1 := by rw [← hW6]; simp
      have bL6 : Blk W6 W.heap.size 25 #[.slice A m c] := by rw [← hW6]; exact Blk.new _ _ _
      have hB6w : Below W.heap.size W W6 := by rw [← hW6]; exact bbox _
      have hB6 : Below w.heap.size w W6 := hBn.out.trans (hB6w.mono hBn.out.size)
      have hM6 : Mat W6 lo w.heap.size A m rows := hM.below hB6
      have k7 := gP.below hB6w gP.lt
      have k1 := g1.below hB6w g1.lt
      have k2 := g2.below hB6w g2.lt
      have k3 := g3.below hB6w g3.lt
      have k4 := g4.below hB6w g4.lt
      have hK6 : W6.heap[D]? = some (.deferred (some [])) := (hB6w.block D hDW).trans hKn.out
      rw [hW6]
      clear hW6 hc1 gP g1 g2 g3 g4 hBn hKn
      obtain ⟨b, off, A0, n0, c0, rfl, _, hb0, hcell0, hn0, hI0, _⟩ := hM6.at_ (j := 0) (by omega)
      have hmem0 : rows.getD 0 [] ∈ rows := getD_mem2 (by rw [HM.out]; omega)
      have hn6 := hn0
      have HNE : Hid (rows ≠ []) := Lib.hid fun e => by have := HM.out; rw [e] at this; simp at this; omega
      have HE2' := Lib.hid (HE2.out HAA.out)
      have HOK' := Lib.hid (HOK.out HAA.out HNE.out)
      rw [hI0.len] at HE2' HOK'
      rw [Nat.add_zero] at hcell0
      clear hI0 HE2 HOK HE9 HE0 hmem0
      refine wpIn_rangeFunc_ownG (α := RowElt W6 w.heap.size rows) rfl (by omega) (gf := 174) (lb := #[.pointer (some ⟨W.heap.size, 0, none⟩)]) rfl trivial (enters_of Try.func174 (by kernel_rfl) rfl)
        (encs := fun y : RowElt W6 w.heap.size rows => #[Value.slice y.1.1.1 y.1.1.2.1 y.1.1.2.2]) (Kp := KeepsB (W.heap.size + 1) w.heap.size) (S := fun ys => rowsOf ys = rows) (Sp := fun pre => ∃ k, rowsOf pre = rows.take k) (N := rows.length) (w0 := W6)
        (fun l J Jx W2 hW hJ _ hY h0 => each1_in _ (by omega) l W.heap.size (W.heap.size + 1) w.heap.size m lo w.heap.size (some ⟨b, off, none⟩) c rows W6 (by omega) J Jx hY W2 hW (by omega) (by omega) (by omega) (by omega) (by omega) ((hW.cell (p := ⟨W.heap.size, 0, none⟩) (by show W.heap.size < W6.heap.size; omega)).trans ((bL6.cell 0).trans rfl)) hM6 h0)
        KeepsB.trans (KeepsB.put (by omega)) (Below.refl _ _) (fun _ => rfl)
        (fun pre W2 => KeepsB (W.heap.size + 1) w.heap.size W6 W2 ∧ (∀ r ∈ rowsOf pre, r.length = n0) ∧ Below w.heap.size w W2)
        (fun cc pre W2 => cc = .ret ∧ RS = ((0, false), 2) ∧ W2.cell? ⟨w.heap.size + 1 + 1, 0, none⟩ = some (.int .i64 0) ∧ W2.cell? ⟨w.heap.size + 1 + 1 + 1, 0, none⟩ = some (.bool false) ∧ W2.cell? ⟨w.heap.size + 1 + 1 + 1 + 1, 0, none⟩ = some (.int .i64 2) ∧ W2.heap[D]? = some (.deferred (some [])) ∧ W6.heap.size ≤ W2.heap.size ∧ Below w.heap.size w W2)
        (fun s W W' row hs hg hr => by
          obtain ⟨h1, h2, h3⟩ := hs
          exact ⟨ownFrom_keepsB (β := Unit) (by omega) (by omega) () W W' row h1 hg hr, h2, ownFrom_below (β := Unit) (Nat.le_refl _) (by omega) () W W' row h3 hg hr⟩)
        (fun cc s W W' row hs hg hr => by
          obtain ⟨h0, h1, h2, h3, h4, h6, h7, h5⟩ := hs
          have hr2 : ∀ r, row = some r → ∃ o : Obj, W.heap[r]? = some o ∧ o.isCells = false := fun r e => (hr r e).2
          exact ⟨h0, h1, cell_kept h2 hg hr2, cell_kept h3 hg hr2, cell_kept h4 hg hr2, (hg.block D (by omega) (fun e => by have := (hr D e.symm).1; omega)).trans h6, Nat.le_trans h7 hg.size, ownFrom_below (β := Unit) (Nat.le_refl _) (by omega) () W W' row h5 hg hr⟩)
        ⟨KeepsB.refl _ _ _, (fun r hr => by cases hr), hB6⟩
        (fun y => { tmps := #[.agg #[.int .i64 p], .slice (some ⟨b, off, none⟩) m c, .pointer (some ⟨w.heap.size, 0, none⟩), .pointer (some ⟨w.heap.size + 1, 0, none⟩), .pointer (some ⟨w.heap.size + 1 + 1, 0, none⟩), .pointer (some ⟨w.heap.size + 1 + 1 + 1, 0, none⟩), .pointer (some ⟨w.heap.size + 1 + 1 + 1 + 1, 0, none⟩), .pointer (some ⟨w1.heap.size, 0, none⟩), .bool true, undef, .slice y.1.1.1 y.1.1.2.1 y.1.1.2.2, undef, undef, .tuple #[.int .i64 p, .bool true], .agg #[.int .i64 p], .tuple #[.int .i64 p, .bool true], .int .i64 p, .bool true, .bool true, .bool false, .slice (some ⟨b, off, none⟩) m c, .func (.func 174) #[] #[.pointer (some ⟨w1.heap.size + 1, 0, none⟩)], undef, undef, undef, undef, undef, .slice (some ⟨b, off, none⟩) m c, .int .i64 m, .bool false, .slice (some ⟨b, off, none⟩) m c, .func (.func 174) #[] #[.pointer (some ⟨W.heap.size, 0, none⟩)], .slice y.1.1.1 y.1.1.2.1 y.1.1.2.2, undef, undef, undef, undef, undef, undef, undef, undef, undef, undef, undef, undef, undef, undef, undef, undef, undef, undef, undef, undef, undef], defers := [] }) ?assign2 ?body2 ?done2 ?stop2
      case assign2 =>
        intro l y W2 K hK
        gi_wp2
        exact hK
      case body2 =>
        rintro l pre ⟨⟨⟨A1, n1, c1⟩, row⟩, hI1, hn1, hmem⟩ W2 ⟨hKB, hAll2, hB2⟩ hlt
        dsimp only at hI1 hn1 hmem
        have hd : 1 ≤ 5 - 1 - 1 := by omega
        have HALL2 := Lib.hid hAll2
        clear hAll2
        have hW2s := hKB.1
        have hcp : W2.cell? ⟨w.heap.size + 1, 0, none⟩ = some (.slice (some ⟨b, off, none⟩) m c) := ((hKB.blk (by omega) (by omega) k1).cell 0).trans rfl
        have hcr : W2.cell? ⟨b, off, none⟩ = some (.slice A0 n0 c0) := (hKB.cell (by omega) (by omega)).trans hcell0
        have hm1 : (0 : Int) < (m : Int) := by omega
        by_cases hln : n1 = n0
        · subst hln
          gi_wp2
          exact ⟨(KeepsOthers.ofBelow (Below.refl _ _)).from _, KeepsB.refl _ _ _, hKB, rowsOf_all (P := fun r => r.length = n1) pre _ HALL2.out hI1.len, hB2⟩
        · have hlen := hI1.len
          have hRS2 := HE2'.out row hmem (by rw [hlen]; exact hln)
          have hne : ((n1 : Int) != (n0 : Int)) = true := by simp; omega
          have hne2 : ¬ (n1 : Int) = (n0 : Int) := by omega
          have v2 := hKB.blk (by omega) (by omega) k2
          have v3 := hKB.blk (by omega) (by omega) k3
          have v4 := hKB.blk (by omega) (by omega) k4
          have hc4 : W2.cell? ⟨w.heap.size + 1 + 1, 0, none⟩ = some (.int .i64 0) := (v2.cell 0).trans rfl
          have hc5 : W2.cell? ⟨w.heap.size + 1 + 1 + 1, 0, none⟩ = some (.bool false) := (v3.cell 0).trans rfl
          have hc6 : W2.cell? ⟨w.heap.size + 1 + 1 + 1 + 1, 0, none⟩ = some (.int .i64 0) := (v4.cell 0).trans rfl
          have hf4 := v2.frozen 0
          have hf5 := v3.frozen 0
          have hf6 := v4.frozen 0
          have hKD2 : W2.heap[D]? = some (.deferred (some [])) := (hKB.2 D (by omega) (by omega)).trans hK6
          gi_wp2
          refine ⟨(((KeepsOthers.setCell _ _ _).trans (KeepsOthers.setCell _ _ _)).trans (KeepsOthers.setCell _ _ _)).from _, rfl, hRS2, ?_, ?_, ?_, ?_, ?_, ((hB2.setCell (by dsimp only; omega) _).setCell (by dsimp only; omega) _).setCell (by dsimp only; omega) _⟩
          · go_simp
          · go_simp
          · go_simp
          · exact (Below.heap_setCell _ _ _ _ (by dsimp only; omega)).trans ((Below.heap_setCell _ _ _ _ (by dsimp only; omega)).trans ((Below.heap_setCell _ _ _ _ (by dsimp only; omega)).trans hKD2))
          · simp [World.setCell]; omega
      case done2 =>
        rintro D2 ys2 W2 hD2 hS2 ⟨hKB, hAll2, hB2⟩ hK2
        have hAA2 : ∀ r ∈ rows, r.length = n0 := by rw [← hS2]; exact hAll2
        have HRR : Hid (∀ r ∈ rows, allP p r = true ∧ r.length = n0) := Lib.hid fun r hr => ⟨HAA.out r hr, hAA2 r hr⟩
        have HROK := Lib.hid (HOK'.out hAA2)
        clear hAll2 hAA2
        have hW2s := hKB.1
        have j7 := hKB.blk (by omega) (by omega) k7
        have j1 := hKB.blk (by omega) (by omega) k1
        have j2 := hKB.blk (by omega) (by omega) k2
        have j3 := hKB.blk (by omega) (by omega) k3
        have j4 := hKB.blk (by omega) (by omega) k4
        have hKD : W2.heap[D]? = some (.deferred (some [])) := (hKB.2 D (by omega) (by omega)).trans hK6
        have hDW2 : D2 < W2.heap.size := (Array.getElem?_eq_some_iff.1 hK2).1
        have hc7 : W2.drew.cell? ⟨w1.heap.size, 0, none⟩ = some (.int .i64 p) := (j7.cell 0).trans rfl
        have hc1 : W2.drew.cell? ⟨w.heap.size + 1, 0, none⟩ = some (.slice (some ⟨b, off, none⟩) m c) := (j1.cell 0).trans rfl
        have hcb : W2.drew.cell? ⟨b, off, none⟩ = some (.slice A0 n0 c0) := (hKB.cell (by omega) (by omega)).trans hcell0
        have hba : Below W2.drew.heap.size W2.drew (W2.drew.alloc (.cells #[.slice (some ⟨b, off, none⟩) m c] 25)) := bbox _
        have hc7a := (hba.cell (p := ⟨w1.heap.size, 0, none⟩) (by show w1.heap.size < W2.heap.size; omega)).trans hc7
        have hc1a := (hba.cell (p := ⟨w.heap.size + 1, 0, none⟩) (by show w.heap.size + 1 < W2.heap.size; omega)).trans hc1
        have hcba := (hba.cell (p := ⟨b, off, none⟩) (by show b < W2.heap.size; omega)).trans hcb
        have hcm : (W2.drew.alloc (.cells #[.slice (some ⟨b, off, none⟩) m c] 25)).cell? ⟨W2.heap.size, 0, none⟩ = some (.slice (some ⟨b, off, none⟩) m c) := ((Blk.new W2.drew 25 #[.slice (some ⟨b, off, none⟩) m c]).cell 0).trans rfl
        have hMd : Mat W2.drew lo W2.drew.heap.size (some ⟨b, off, none⟩) m rows := (hM.below hB2).more hB2.size
        have hMa := hMd.upto hba
        have hK2n := Lib.hid hK2
        have hKDn := Lib.hid hKD
        have hB2n := Lib.hid hB2
        have hm1 : (0 : Int) < (m : Int) := by omega
        have hm2 : 0 < m := by omega
        clear hK2 hKD hS2 hKB hB2 hMd
        gi_wp2
        refine wpIn_wide.2 ?_
        go_region_held3 (fun w' => w'.cell? ⟨w1.heap.size, 0, none⟩ = some (.int .i64 p) ∧ w'.cell? ⟨w.heap.size + 1, 0, none⟩ = some (.slice (some ⟨b, off, none⟩) m c) ∧ w'.cell? ⟨b, off, none⟩ = some (.slice A0 n0 c0))
          (first | exact ⟨hc7, hc1, hcb⟩ | exact ⟨hc7a, hc1a, hcba⟩ | exact ⟨hc7b, hc1b, hcbb⟩)
          (first
            | (go_at_call 153; refine (each_any (some ⟨b, off, none⟩) m c _).mono ?_; rintro e w' ⟨rfl, rfl⟩)
            | (go_at_call 152; refine (sum_ok p n0 W2.heap.size m c lo (some ⟨b, off, none⟩) rows _ hp hn6 (by omega) hcm hMa HRR.out).mono ?_; rintro e w5 ⟨⟨A5, c5, rfl, hown5⟩, hb5⟩
               have hI5 := hown5.ints
               have hba5 := hba.trans (hb5.mono hba.size)
               have hc7b := (hba5.cell (p := ⟨w1.heap.size, 0, none⟩) (by show w1.heap.size < W2.heap.size; omega)).trans hc7
               have hc1b := (hba5.cell (p := ⟨w.heap.size + 1, 0, none⟩) (by show w.heap.size + 1 < W2.heap.size; omega)).trans hc1
               have hcbb := (hba5.cell (p := ⟨b, off, none⟩) (by show b < W2.heap.size; omega)).trans hcb)
            | (go_at_call 154; refine (one_any A5 n0 c5 (plusL p n0 rows) _ hI5 (by omega)).mono ?_; rintro e w' ⟨rfl, rfl⟩))
        all_goals
          first
            | (rename_i hk; refine hk _ _ ?_; clear hk)
            | (rename_i hk _; refine hk _ _ ?_; clear hk)
            | (rename_i hk _ _; refine hk _ _ ?_; clear hk)
            | (rename_i hk _ _ _; refine hk _ _ ?_; clear hk)
            | (rename_i hk _ _ _ _; refine hk _ _ ?_; clear hk)
            | (rename_i hk _ _ _ _ _; refine hk _ _ ?_; clear hk)
            | (rename_i hk _ _ _ _ _ _; refine hk _ _ ?_; clear hk)
            | (rename_i hk _ _ _ _ _ _ _; refine hk _ _ ?_; clear hk)
          have i2 : Blk w5 (w.heap.size + 1 + 1) 3 #[.int .i64 0] := (Blk.drew j2).below hba5 (by show _ < W2.heap.size; omega)
          have i3 : Blk w5 (w.heap.size + 1 + 1 + 1) 4 #[.bool false] := (Blk.drew j3).below hba5 (by show _ < W2.heap.size; omega)
          have i4 : Blk w5 (w.heap.size + 1 + 1 + 1 + 1) 36 #[.int .i64 0] := (Blk.drew j4).below hba5 (by show _ < W2.heap.size; omega)
          have hKE : w5.heap[D2]? = some (.deferred (some [])) := (hba5.block D2 hDW2).trans hK2n.out
          have hKDE : w5.heap[D]? = some (.deferred (some [])) := (hba5.block D (by show _ < W2.heap.size; omega)).trans hKDn.out
          have hB5 : Below w.heap.size w w5 := hB2n.out.drew.trans (hba5.mono hB2n.out.size)
          have hd4 : w5.cell? ⟨w.heap.size + 1 + 1, 0, none⟩ = some (.int .i64 0) := (i2.cell 0).trans rfl
          have hd5 : w5.cell? ⟨w.heap.size + 1 + 1 + 1, 0, none⟩ = some (.bool false) := (i3.cell 0).trans rfl
          have hd6 : w5.cell? ⟨w.heap.size + 1 + 1 + 1 + 1, 0, none⟩ = some (.int .i64 0) := (i4.cell 0).trans rfl
          have hf4 := i2.frozen 0
          have hf5 := i3.frozen 0
          have hf6 := i4.frozen 0
          clear hc7 hc1 hcb hc7a hc1a hcba hc7b hc1b hcbb
          gi_wp2
          have hbl5 := hba5.size
          have hbs5 : W2.heap.size ≤ w5.heap.size := hbl5
          refine leave32 (u := (oneR (plusL p n0 rows)).1) (v := (oneR (plusL p n0 rows)).2) (x := 0) (D := D) (D2 := D2) (B := w.heap.size) (W0 := w) rfl rfl rfl rfl (fun w h => by go_simp) (fun w h => by go_simp) (fun w h => by go_simp) (by omega) (by omega) (by omega) ?_ ?_ ?_ ?_ ?_ ?_ (by omega) (fun w' hb => ⟨by rw [HROK.out], hb⟩)
          · exact (Below.heap_setCell _ _ _ _ (by dsimp only; omega)).trans ((Below.heap_setCell _ _ _ _ (by dsimp only; omega)).trans ((Below.heap_setCell _ _ _ _ (by dsimp only; omega)).trans hKDE))
          · exact (Below.heap_setCell _ _ _ _ (by dsimp only; omega)).trans ((Below.heap_setCell _ _ _ _ (by dsimp only; omega)).trans ((Below.heap_setCell _ _ _ _ (by dsimp only; omega)).trans hKE))
          · go_simp
          · go_simp
          · go_simp
          · exact ((hB5.setCell (by dsimp only; omega) _).setCell (by dsimp only; omega) _).setCell (by dsimp only; omega) _
      case stop2 =>
        rintro D2 cc pre W2 hD2 _ ⟨rfl, hrs, h4, h5, h6, hKD, hsz2, hB2⟩ hK2
        subst hrs
        gi_wp2
        refine leave32 (u := 0) (v := false) (x := 2) (D := D) (D2 := D2) (B := w.heap.size) (W0 := w) rfl rfl rfl rfl (fun w h => by go_simp) (fun w h => by go_simp) (fun w h => by go_simp) (by omega) (by omega) (by omega) hKD hK2 h4 h5 h6 hB2 (by omega) (fun w' hb => ⟨rfl, hb⟩)
  case stop =>
    rintro D cc pre W hD _ ⟨rfl, hrs, h4, h5, h6, hB⟩ hK
    subst hrs
    gi_wp2
    refine leave31 (u := 0) (v := false) (x := 9) (D := D) (B := w.heap.size) (W0 := w) rfl rfl rfl rfl (fun w h => by go_simp) (fun w h => by go_simp) (fun w h => by go_simp) (by omega) (by omega) hK h4 h5 h6 hB (by omega) (fun w' hb => ⟨rfl, hb⟩)
theorem pwanted_all (p : Int) (A : Option Addr) (m c lo : Nat) (rows : List (List Int)) (w : World) (hp64 : -9223372036854775808 ≤ p ∧ p ≤ 9223372036854775807) (hM : Mat w lo w.heap.size A m rows) (hm : m ≤ 17592186044416) :
    Calls Try.prog 85 #[.agg #[.int .i64 p], .slice A m c] w (WanP (wanR p rows) w) := by
  by_cases hok : okP p = true
  · exact pwan_yes p A m c lo rows w hok hM hm
  · have hokf : okP p = false := by simpa using hok
    rw [wanR_field hokf]
    exact pwan_field p A m c w hp64 hokf
end Go.Proofs.Ytoblofilaegnaaa
