/-
  What code's cells hands back where all known values are elements. Conditions: the list of cells reads as its values and marks.
-/
import Derived.Test.YtoblofilaegnaaaKnown
import Derived.Test.YtoblofilaegnaaaShares3
import Derived.Laws.ResultCell
namespace Go.Proofs.Ytoblofilaegnaaa
open Go.RowKit Go.Shelf
set_option linter.unusedVariables false
attribute [local go_sem] Oper.semAt_some

theorem results_cell3 {fn : Func} {p q r : Tmp} {tp tq tr : TypeId} (h : fn.results = #[.cell p tp, .cell q tq, .cell r tr]) (tmps : Array Value) (P : Program) (w : World) :
    (results fn tmps).run P w =
      ((asAddr (tmps.getD p undef)).run P w).andThen fun a w₁ => ((loadVar tp a).run P w₁).andThen fun u w₂ => ((asAddr (tmps.getD q undef)).run P w₂).andThen fun b w₃ => ((loadVar tq b).run P w₃).andThen fun v w₄ =>
        ((asAddr (tmps.getD r undef)).run P w₄).andThen fun c w₅ => ((loadVar tr c).run P w₅).andThen fun x w₆ => .ok (.tuple #[u, v, x]) w₆ := by
  simp only [results, h]
  simp [Sem.run_bind, Result.andThen]

theorem KeepsB.setGs {n₁ gs : Nat} {W W' : World} (h : KeepsB n₁ gs W W') (o : Nat) (v : Value) : KeepsB n₁ gs W (W'.setCell ⟨gs, o, none⟩ v) :=
  ⟨by have := h.1; simpa [World.setCell] using this, fun k hk hne => (Below.heap_setCell W' ⟨gs, o, none⟩ v k hne).trans (h.2 k hk hne)⟩

/-- Four new blocks. -/
theorem blk4 (w : World) (ta tb tc td : TypeId) (ca cb cc cd : Array Value) :
    Blk ((((w.alloc (.cells ca ta)).alloc (.cells cb tb)).alloc (.cells cc tc)).alloc (.cells cd td)) w.heap.size ta ca ∧ Blk ((((w.alloc (.cells ca ta)).alloc (.cells cb tb)).alloc (.cells cc tc)).alloc (.cells cd td)) (w.heap.size + 1) tb cb ∧
    Blk ((((w.alloc (.cells ca ta)).alloc (.cells cb tb)).alloc (.cells cc tc)).alloc (.cells cd td)) (w.heap.size + 1 + 1) tc cc ∧ Blk ((((w.alloc (.cells ca ta)).alloc (.cells cb tb)).alloc (.cells cc tc)).alloc (.cells cd td)) (w.heap.size + 1 + 1 + 1) td cd := by
  refine ⟨(((Blk.new w ta ca).alloc _).alloc _).alloc _, ((Blk.new1 w _ tb cb).alloc _).alloc _, ?_, ?_⟩
  · have := (Blk.new1 (w.alloc (.cells ca ta)) (.cells cb tb) tc cc).alloc (.cells cd td)
    rwa [World.size_alloc] at this
  · have := Blk.new1 ((w.alloc (.cells ca ta)).alloc (.cells cb tb)) (.cells cc tc) td cd
    rwa [World.size_alloc, World.size_alloc] at this
/-- Three new blocks. -/
theorem blk3 (w : World) (ta tb tc : TypeId) (ca cb cc : Array Value) :
    Blk (((w.alloc (.cells ca ta)).alloc (.cells cb tb)).alloc (.cells cc tc)) w.heap.size ta ca ∧ Blk (((w.alloc (.cells ca ta)).alloc (.cells cb tb)).alloc (.cells cc tc)) (w.heap.size + 1) tb cb ∧
    Blk (((w.alloc (.cells ca ta)).alloc (.cells cb tb)).alloc (.cells cc tc)) (w.heap.size + 1 + 1) tc cc := by
  refine ⟨((Blk.new w ta ca).alloc _).alloc _, (Blk.new1 w _ tb cb).alloc _, ?_⟩
  have := Blk.new1 (w.alloc (.cells ca ta)) (.cells cb tb) tc cc
  rwa [World.size_alloc] at this

set_option maxRecDepth 100000 in
/-- The three results lie in cells; the mark is taken. -/
theorem leave3 {n : Nat} {fn : Func} {a b c : Nat} {p q r : Tmp} {u v x : Int} {tp tq tr : TypeId} {R : Ending → World → Prop} {tmps : Array Value} {D : Nat} {W W0 : World} {B : Nat} (h : fn.results = #[.cell p tp, .cell q tq, .cell r tr])
    (hp : tmps.getD p undef = .pointer (some ⟨a, 0, none⟩)) (hq : tmps.getD q undef = .pointer (some ⟨b, 0, none⟩)) (hr : tmps.getD r undef = .pointer (some ⟨c, 0, none⟩))
    (hlp : ∀ w : World, w.cell? ⟨a, 0, none⟩ = some (.int .i64 u) → (loadVar tp ⟨a, 0, none⟩).run Try.prog w = .ok (.int .i64 u) w)
    (hlq : ∀ w : World, w.cell? ⟨b, 0, none⟩ = some (.int .i64 v) → (loadVar tq ⟨b, 0, none⟩).run Try.prog w = .ok (.int .i64 v) w)
    (hlr : ∀ w : World, w.cell? ⟨c, 0, none⟩ = some (.int .i64 x) → (loadVar tr ⟨c, 0, none⟩).run Try.prog w = .ok (.int .i64 x) w)
    (hD : a < D ∧ b < D ∧ c < D) (hBD : W0.heap.size ≤ D) (hK : W.heap[D]? = some (.deferred (some []))) (ha : W.cell? ⟨a, 0, none⟩ = some (.int .i64 u)) (hb : W.cell? ⟨b, 0, none⟩ = some (.int .i64 v)) (hc : W.cell? ⟨c, 0, none⟩ = some (.int .i64 x))
    (hB : Below B W0 W) (hB0 : B ≤ W0.heap.size) (hR : ∀ w', Below B W0 w' → R (.returned (.tuple #[.int .i64 u, .int .i64 v, .int .i64 x])) w') :
    bodyPostM Fence.wide n Try.prog fn R .ret { tmps := tmps, defers := [{ target := .collected D, args := #[] }] } W := by
  refine ⟨by simp, .inl ⟨_, _, rfl, run_takeDeferred hK, ?_⟩⟩
  have hk : ∀ (o : Obj) (k : Nat), k < D → (W.putObj D o).cell? ⟨k, 0, none⟩ = W.cell? ⟨k, 0, none⟩ := fun o k hk => World.cell?_of_block (World.putObj_heap_other (by show k ≠ D; omega))
  refine ⟨.tuple #[.int .i64 u, .int .i64 v, .int .i64 x], ?_, hR _ (hB.trans (belowK_b (w := W0) hB0 W D _ _ (by omega) hK rfl rfl))⟩
  rw [results_cell3 h, hp, hq, hr]
  show ((loadVar tp ⟨a, 0, none⟩).run Try.prog _).andThen _ = _
  rw [hlp _ ((hk _ a hD.1).trans ha)]
  show ((loadVar tq ⟨b, 0, none⟩).run Try.prog _).andThen _ = _
  rw [hlq _ ((hk _ b hD.2.1).trans hb)]
  show ((loadVar tr ⟨c, 0, none⟩).run Try.prog _).andThen _ = _
  rw [hlr _ ((hk _ c hD.2.2).trans hc)]
  rfl

set_option maxRecDepth 100000 in
set_option maxHeartbeats 4000000 in
theorem cells_ok (p : Int) (A : Option Addr) (m c : Nat) (vs : List Int) (bs : List Bool) (w : World) (hok : okP p = true) (h : Cel w w.heap.size A m vs bs) (hm : m ≤ 32) (hmp : (m : Int) < p) (hk : knOk p vs bs) :
    Calls Try.prog 145 #[.agg #[.int .i64 p], .slice A m c] w fun e w' => e = .returned (.tuple #[.int .i64 p, .int .i64 (knL vs bs).length, .int .i64 0]) ∧ Below w.heap.size w w' := by
  have hp := okP_pos hok
  have HO := Lib.hid hok
  have HKN := Lib.hid hk
  have hl := h.1
  have hmi : ¬ ((32 : Int) < (m : Int)) := by omega
  have hmiN : ¬ 32 < m := by omega
  have hmpi : ¬ (p ≤ (m : Int)) := by omega
  clear hok hk
  refine (callsIn_wide (n := 5)).1 ?_
  refine callsIn_of_wp_marks Try.func145 rfl trivial ?_ rfl
  simp only [Try.ntmps145, List.size_toArray, List.length_cons, List.length_nil, Nat.reduceAdd, Nat.reduceSub, Array.replicate_succ, Array.replicate_zero, List.push_toArray, List.append_toArray, List.nil_append, List.cons_append]
  have hw0 : Below w.heap.size w ((((w.alloc (.cells #[.int .i64 p] 24)).alloc (.cells #[.int .i64 0] 126)).alloc (.cells #[.int .i64 0] 3)).alloc (.cells #[.int .i64 0] 36)) := ballocs (ballocs (ballocs (bbox _) _) _) _
  have hB4 := blk4 w 24 126 3 36 #[.int .i64 p] #[.int .i64 0] #[.int .i64 0] #[.int .i64 0]
  gi_wp2_with (first
    | (refine ⟨trivial, ?_⟩; gi_at_call 118; refine (callsIn_wide.2 (of_yes p _ HO.out)).mono ?_; rintro e w1 ⟨rfl, hb1⟩
       have hF1 := hB4.1.below hb1 hB4.1.lt
       have hcF1 : (w1.alloc (.cells #[.int .i64 p] 126)).cell? ⟨w.heap.size, 0, none⟩ = some (.int .i64 p) := ((hF1.alloc _).cell 0).trans rfl
       have hR4 := hB4.2.1.below hb1 hB4.2.1.lt
       have hR5 := hB4.2.2.1.below hb1 hB4.2.2.1.lt
       have hR6 := hB4.2.2.2.below hb1 hB4.2.2.2.lt
       have hw1 := bnext hw0 hb1
       have hsz1 : w.heap.size + 4 ≤ w1.heap.size := by have := hb1.size; simp at this; omega
       clear hB4 hb1)
    | (refine ⟨trivial, ?_⟩; gi_at_call 149; refine (callsIn_wide.2 (known_any A m c _)).mono ?_; rintro e w' ⟨rfl, rfl⟩))
  obtain ⟨W4, hW4⟩ : ∃ W4, ((w1.alloc (.cells #[.int .i64 p] 126)).alloc (.cells #[.int .i64 0] 3)).alloc (.cells #[.slice A m c] 77) = W4 := ⟨_, rfl⟩
  have hsz : W4.heap.size = w1.heap.size + 3 := by rw [← hW4]; simp
  have hB3 := blk3 w1 126 3 77 #[.int .i64 p] #[.int .i64 0] #[.slice A m c]
  rw [hW4] at hB3
  obtain ⟨bP, bN, bL⟩ := hB3
  have hB0 : Below w.heap.size w W4 := by rw [← hW4]; exact ballocs (ballocs (ballocs hw1 _) _) _
  have hB14 : Below w1.heap.size w1 W4 := by rw [← hW4]; exact ballocs (ballocs (bbox _) _) _
  have bR4 := hR4.below hB14 hR4.lt
  have bR5 := hR5.below hB14 hR5.lt
  have bR6 := hR6.below hB14 hR6.lt
  have hC4 : Cel W4 (w1.heap.size + 1) A m vs bs := (h.below hB0).more (by omega)
  rw [hW4]
  clear hW4 hcF1 hF1 hR4 hR5 hR6 hw0 hw1 hB14
  refine wpIn_rangeFunc_ownG (α := KnElt vs bs) rfl (by omega) (gf := 173) (lb := #[.pointer (some ⟨w1.heap.size + 1 + 1, 0, none⟩)]) rfl trivial (enters_of Try.func173 (by kernel_rfl) rfl)
    (encs := fun y : KnElt vs bs => #[Value.int .i64 y.1.1, Value.int .i64 y.1.2]) (Kp := KeepsB (w1.heap.size + 3) (w1.heap.size + 1)) (S := fun ys => eltsOf ys = knL vs bs) (Sp := fun pre => ∃ k, eltsOf pre = (knL vs bs).take k) (N := (knL vs bs).length) (w0 := W4)
    (fun l J Jx W hW hJ _ hY h0 => known1_in _ (by omega) l (w1.heap.size + 1 + 1) (w1.heap.size + 3) (w1.heap.size + 1) m A c vs bs (by omega) J Jx hJ hY W (by have := hW.size; omega) (by omega) (by omega) (by omega) ((hW.cell (p := ⟨w1.heap.size + 1 + 1, 0, none⟩) (by simp; omega)).trans ((bL.cell 0).trans rfl)) (hC4.below (hW.mono (by omega))) h0)
    KeepsB.trans (KeepsB.put (by omega)) (Below.refl _ _) (fun _ => rfl)
    (fun pre W => KeepsB (w1.heap.size + 3) (w1.heap.size + 1) W4 W ∧ (W.cell? ⟨w1.heap.size + 1, 0, none⟩ = some (.int .i64 (pre.length : Int)) ∧ W.frozen? ⟨w1.heap.size + 1, 0, none⟩ = false) ∧ Below w.heap.size w W)
    (fun _ _ _ => False)
    (OwnFrom.and (ownFrom_keepsB (by omega) (by omega)) (OwnFrom.and (Own.from (fun s A B row hs hg hr => ⟨cell_kept hs.1 hg hr, (frozen_kept hs.1 hg hr).trans hs.2⟩) _) (ownFrom_below (Nat.le_refl _) (by omega))))
    (fun _ _ _ _ _ hs _ _ => hs)
    ⟨KeepsB.refl _ _ _, ⟨(bN.cell 0).trans rfl, bN.frozen 0⟩, hB0⟩
    (fun y => { tmps := #[.agg #[.int .i64 p], .slice A m c, .pointer (some ⟨w.heap.size, 0, none⟩), undef, .pointer (some ⟨w.heap.size + 1, 0, none⟩), .pointer (some ⟨w.heap.size + 1 + 1, 0, none⟩), .pointer (some ⟨w.heap.size + 1 + 1 + 1, 0, none⟩), .pointer (some ⟨w1.heap.size, 0, none⟩), .bool true, .pointer (some ⟨w1.heap.size + 1, 0, none⟩), undef, .int .i64 y.1.2, .tuple #[.int .i64 p, .bool true], .agg #[.int .i64 p], .tuple #[.int .i64 p, .bool true], .int .i64 p, .bool true, .bool true, .bool false, .slice A m c, .int .i64 m, .bool (decide ((32 : Int) < (m : Int))), .bool (decide ((32 : Int) < (m : Int))), .slice A m c, .int .i64 m, .pointer (some ⟨w.heap.size, 0, none⟩), .int .i64 p, .bool (decide (p ≤ (m : Int))), .bool (decide ((32 : Int) < (m : Int)) || decide (p ≤ (m : Int))), .slice A m c, .func (.func 173) #[] #[.pointer (some ⟨w1.heap.size + 1 + 1, 0, none⟩)], .int .i64 y.1.1, .int .i64 y.1.2, undef, undef, undef, undef, undef, undef, undef, undef], defers := [] }) ?assign ?body ?done ?stop
  case assign =>
    intro l y W K hK
    gi_wp2
    exact hK
  case body =>
    rintro l pre y W ⟨hKB, ⟨hcn, hfn⟩, hB⟩ hlt
    have hd : 1 ≤ 5 - 1 - 1 := by omega
    have hcp : W.cell? ⟨w1.heap.size, 0, none⟩ = some (.int .i64 p) := ((hKB.blk (by omega) (by omega) bP).cell 0).trans rfl
    have HIN : Hid (inP p y.1.2 = true) := Lib.hid (inP_iff.2 (HKN.out y.1 y.2))
    have hkl := knL_len vs bs
    have hnw : IntKind.i64.wrap ((pre.length : Int) + 1) = (pre.length : Int) + 1 := IntWalk.i64_in _ (by omega)
    gi_wp2_with (refine ⟨trivial, ?_⟩; gi_at_call 123; refine (CallsIn.inRound l (callsIn_wide.2 (has_any p y.1.2 _))).mono ?_; rintro e w' ⟨rfl, rfl⟩; rw [HIN.out])
    have hpl : ((pre ++ [y]).length : Int) = (pre.length : Int) + 1 := by simp
    exact ⟨(KeepsOthers.setCell _ _ _).from _, (KeepsB.refl _ _ _).setGs 0 _, hKB.setGs 0 _, ⟨(World.cell?_setCell_same' _ _ _ (by rw [hcn]; rfl)).trans (by rw [hpl]), (World.frozen?_setCell _ _ _ _).trans hfn⟩, hB.setCell (p := ⟨w1.heap.size + 1, 0, none⟩) (by simp; omega) _⟩
  case done =>
    rintro D ys W hD hS ⟨hKB, ⟨hcn, hfn⟩, hB⟩ hK
    have hcp : W.cell? ⟨w1.heap.size, 0, none⟩ = some (.int .i64 p) := ((hKB.blk (by omega) (by omega) bP).cell 0).trans rfl
    have gR4 := hKB.blk (by omega) (by omega) bR4
    have gR5 := hKB.blk (by omega) (by omega) bR5
    have gR6 := hKB.blk (by omega) (by omega) bR6
    have hc4 := (gR4.cell 0).trans rfl
    have hc5 := (gR5.cell 0).trans rfl
    have hc6 := (gR6.cell 0).trans rfl
    have hf4 := gR4.frozen 0
    have hf5 := gR5.frozen 0
    have hf6 := gR6.frozen 0
    have hmx : Try.prog.follows .mixedOrders = true := by kernel_rfl
    have hyl : (ys.length : Int) = ((knL vs bs).length : Int) := by rw [← hS, eltsOf_len]
    gi_wp2
    gi_region_with_o (fail)
    all_goals gi_wp2
    all_goals
      refine leave3 (u := p) (v := ((knL vs bs).length : Int)) (x := 0) (B := w.heap.size) (W0 := w) rfl rfl rfl rfl (fun w h => by go_simp) (fun w h => by go_simp) (fun w h => by go_simp) (by omega) (by omega) ?_ ?_ ?_ ?_ ?_ (by omega) (fun w' hb => ⟨rfl, hb⟩)
      · repeat' first | exact hK | refine (Below.heap_setCell _ _ _ _ (by dsimp only; omega)).trans ?_
      · go_simp
      · go_simp
      · go_simp
      · repeat' first | exact hB | refine Below.drew ?_ | refine Below.setCell ?_ (by dsimp only; omega) _
  case stop =>
    rintro D cc pre W _ _ hh _
    exact hh.elim
end Go.Proofs.Ytoblofilaegnaaa
