/-
  Words for memory and contracts of small functions of the second form. Conditions: those of each lemma.
-/
import Derived.Test.YtmcgnpdfpfgfpaaGreatDoorGBas
import Derived.Test.YtmcgnpdfpfgfpaaGreatDoorGSha
import Derived.Laws.ResultCell
import Derived.Test.YtmcgnpdfpfgfpaaGreatDoorGPol
import Derived.Deep.QuietTactic
import Derived.BigQuiet
import Derived.Deep.RegionHeld3
/-! Code1 -/
namespace Go.Proofs.YtmcgnpdfpfgfpaaGreatDoor
open Go.RowKit Go.Shelf
set_option linter.unusedVariables false
attribute [local go_sem] Oper.semAt_some

theorem results_cell3 {fn : Func} {p q r : Tmp} {tp tq tr : TypeId} (h : fn.results = #[.cell p tp, .cell q tq, .cell r tr]) (tmps : Array Value) (P : Program) (w : World) :
    (results fn tmps).run P w =
      ((asAddr (tmps.getD p undef)).run P w).andThen fun a w₁ => ((loadVar tp a).run P w₁).andThen fun u w₂ => ((asAddr (tmps.getD q undef)).run P w₂).andThen fun b w₃ => ((loadVar tq b).run P w₃).andThen fun v w₄ =>
        ((asAddr (tmps.getD r undef)).run P w₄).andThen fun c w₅ => ((loadVar tr c).run P w₅).andThen fun x w₆ => .ok (.tuple #[u, v, x]) w₆ := by
  simp only [results, h]
  simp [Sem.run_bind, Result.andThen]

theorem KeepsB.setGs {n₁ gs : Nat} {W W' : World} (h : KeepsB n₁ gs W W') (o : Nat) (v : Value) : KeepsB n₁ gs W (W'.setCell ⟨gs, o, none⟩ v) :=
  ⟨by have := h.1; simpa [World.setCell] using this, fun k hk hne => (Below.heap_setCell W' ⟨gs, o, none⟩ v k hne).trans (h.2 k hk hne)⟩

/-- Four new blocks. -/
theorem blk4 (w : World) (ta tb tc td : TypeId) (ca cb cc cd : Array Value) :
    Blk ((((w.alloc (.cells ca ta)).alloc (.cells cb tb)).alloc (.cells cc tc)).alloc (.cells cd td)) w.heap.size ta ca ∧ Blk ((((w.alloc (.cells ca ta)).alloc (.cells cb tb)).alloc (.cells cc tc)).alloc (.cells cd td)) (w.heap.size + 1) tb cb ∧
    Blk ((((w.alloc (.cells ca ta)).alloc (.cells cb tb)).alloc (.cells cc tc)).alloc (.cells cd td)) (w.heap.size + 1 + 1) tc cc ∧ Blk ((((w.alloc (.cells ca ta)).alloc (.cells cb tb)).alloc (.cells cc tc)).alloc (.cells cd td)) (w.heap.size + 1 + 1 + 1) td cd := by
  refine ⟨(((Blk.new w ta ca).alloc _).alloc _).alloc _, ((Blk.new1 w _ tb cb).alloc _).alloc _, ?_, ?_⟩
  · have := (Blk.new1 (w.alloc (.cells ca ta)) (.cells cb tb) tc cc).alloc (.cells cd td)
    rwa [World.size_alloc] at this
  · have := Blk.new1 ((w.alloc (.cells ca ta)).alloc (.cells cb tb)) (.cells cc tc) td cd
    rwa [World.size_alloc, World.size_alloc] at this
/-- Three new blocks. -/
theorem blk3 (w : World) (ta tb tc : TypeId) (ca cb cc : Array Value) :
    Blk (((w.alloc (.cells ca ta)).alloc (.cells cb tb)).alloc (.cells cc tc)) w.heap.size ta ca ∧ Blk (((w.alloc (.cells ca ta)).alloc (.cells cb tb)).alloc (.cells cc tc)) (w.heap.size + 1) tb cb ∧
    Blk (((w.alloc (.cells ca ta)).alloc (.cells cb tb)).alloc (.cells cc tc)) (w.heap.size + 1 + 1) tc cc := by
  refine ⟨((Blk.new w ta ca).alloc _).alloc _, (Blk.new1 w _ tb cb).alloc _, ?_⟩
  have := Blk.new1 (w.alloc (.cells ca ta)) (.cells cb tb) tc cc
  rwa [World.size_alloc] at this

set_option maxRecDepth 100000 in
/-- The three results lie in cells; the mark is taken. -/
theorem leave3 {n : Nat} {fn : Func} {a b c : Nat} {p q r : Tmp} {u v x : Int} {tp tq tr : TypeId} {R : Ending → World → Prop} {tmps : Array Value} {D : Nat} {W W0 : World} {B : Nat} (h : fn.results = #[.cell p tp, .cell q tq, .cell r tr])
    (hp : tmps.getD p undef = .pointer (some ⟨a, 0, none⟩)) (hq : tmps.getD q undef = .pointer (some ⟨b, 0, none⟩)) (hr : tmps.getD r undef = .pointer (some ⟨c, 0, none⟩))
    (hlp : ∀ w : World, w.cell? ⟨a, 0, none⟩ = some (.int .i64 u) → (loadVar tp ⟨a, 0, none⟩).run Tryz.prog w = .ok (.int .i64 u) w)
    (hlq : ∀ w : World, w.cell? ⟨b, 0, none⟩ = some (.int .i64 v) → (loadVar tq ⟨b, 0, none⟩).run Tryz.prog w = .ok (.int .i64 v) w)
    (hlr : ∀ w : World, w.cell? ⟨c, 0, none⟩ = some (.int .i64 x) → (loadVar tr ⟨c, 0, none⟩).run Tryz.prog w = .ok (.int .i64 x) w)
    (hD : a < D ∧ b < D ∧ c < D) (hBD : W0.heap.size ≤ D) (hK : W.heap[D]? = some (.deferred (some []))) (ha : W.cell? ⟨a, 0, none⟩ = some (.int .i64 u)) (hb : W.cell? ⟨b, 0, none⟩ = some (.int .i64 v)) (hc : W.cell? ⟨c, 0, none⟩ = some (.int .i64 x))
    (hB : Below B W0 W) (hB0 : B ≤ W0.heap.size) (hR : ∀ w', Below B W0 w' → R (.returned (.tuple #[.int .i64 u, .int .i64 v, .int .i64 x])) w') :
    bodyPostM Fence.wide n Tryz.prog fn R .ret { tmps := tmps, defers := [{ target := .collected D, args := #[] }] } W := by
  refine ⟨by simp, .inl ⟨_, _, rfl, run_takeDeferred hK, ?_⟩⟩
  have hk : ∀ (o : Obj) (k : Nat), k < D → (W.putObj D o).cell? ⟨k, 0, none⟩ = W.cell? ⟨k, 0, none⟩ := fun o k hk => World.cell?_of_block (World.putObj_heap_other (by show k ≠ D; omega))
  refine ⟨.tuple #[.int .i64 u, .int .i64 v, .int .i64 x], ?_, hR _ (hB.trans (belowK_b (w := W0) hB0 W D _ _ (by omega) hK rfl rfl))⟩
  rw [results_cell3 h, hp, hq, hr]
  show ((loadVar tp ⟨a, 0, none⟩).run Tryz.prog _).andThen _ = _
  rw [hlp _ ((hk _ a hD.1).trans ha)]
  show ((loadVar tq ⟨b, 0, none⟩).run Tryz.prog _).andThen _ = _
  rw [hlq _ ((hk _ b hD.2.1).trans hb)]
  show ((loadVar tr ⟨c, 0, none⟩).run Tryz.prog _).andThen _ = _
  rw [hlr _ ((hk _ c hD.2.2).trans hc)]
  rfl

set_option maxRecDepth 100000 in
set_option maxHeartbeats 4000000 in
theorem cells_ok (p : Int) (A : Option Addr) (m c : Nat) (vs : List Int) (bs : List Bool) (w : World) (hok : okP p = true) (h : Cel w w.heap.size A m vs bs) (hm : m ≤ 32) (hmp : (m : Int) < p) (hk : knOk p vs bs) :
    Calls Tryz.prog 93 #[.agg #[.int .i64 p], .slice A m c] w fun e w' => e = .returned (.tuple #[.int .i64 p, .int .i64 (knL vs bs).length, .int .i64 0]) ∧ Below w.heap.size w w' := by
  have hp := okP_pos hok
  have HO := Lib.hid hok
  have HKN := Lib.hid hk
  have hl := h.1
  have hmi : ¬ ((32 : Int) < (m : Int)) := by omega
  have hmiN : ¬ 32 < m := by omega
  have hmpi : ¬ (p ≤ (m : Int)) := by omega
  clear hok hk
  refine (callsIn_wide (n := 5)).1 ?_
  refine callsIn_of_wp_marks Tryz.func93 rfl trivial ?_ rfl
  simp only [Tryz.ntmps93, List.size_toArray, List.length_cons, List.length_nil, Nat.reduceAdd, Nat.reduceSub, Array.replicate_succ, Array.replicate_zero, List.push_toArray, List.append_toArray, List.nil_append, List.cons_append]
  have hw0 : Below w.heap.size w ((((w.alloc (.cells #[.int .i64 p] 44)).alloc (.cells #[.int .i64 0] 104)).alloc (.cells #[.int .i64 0] 3)).alloc (.cells #[.int .i64 0] 40)) := ballocs (ballocs (ballocs (bbox _) _) _) _
  have hB4 := blk4 w 44 104 3 40 #[.int .i64 p] #[.int .i64 0] #[.int .i64 0] #[.int .i64 0]
  gi_wp2_with (first
    | (refine ⟨trivial, ?_⟩; gi_at_call 39; refine (callsIn_wide.2 (of_yes p _ HO.out)).mono ?_; rintro e w1 ⟨rfl, hb1⟩
       have hF1 := hB4.1.below hb1 hB4.1.lt
       have hcF1 : (w1.alloc (.cells #[.int .i64 p] 104)).cell? ⟨w.heap.size, 0, none⟩ = some (.int .i64 p) := ((hF1.alloc _).cell 0).trans rfl
       have hR4 := hB4.2.1.below hb1 hB4.2.1.lt
       have hR5 := hB4.2.2.1.below hb1 hB4.2.2.1.lt
       have hR6 := hB4.2.2.2.below hb1 hB4.2.2.2.lt
       have hw1 := bnext hw0 hb1
       have hsz1 : w.heap.size + 4 ≤ w1.heap.size := by have := hb1.size; simp at this; omega
       clear hB4 hb1)
    | (refine ⟨trivial, ?_⟩; gi_at_call 120; refine (callsIn_wide.2 (known_any A m c _)).mono ?_; rintro e w' ⟨rfl, rfl⟩))
  obtain ⟨W4, hW4⟩ : ∃ W4, ((w1.alloc (.cells #[.int .i64 p] 104)).alloc (.cells #[.int .i64 0] 3)).alloc (.cells #[.slice A m c] 83) = W4 := ⟨_, rfl⟩
  have hsz : W4.heap.size = w1.heap.size + 3 := by rw [← hW4]; simp
  have hB3 := blk3 w1 104 3 83 #[.int .i64 p] #[.int .i64 0] #[.slice A m c]
  rw [hW4] at hB3
  obtain ⟨bP, bN, bL⟩ := hB3
  have hB0 : Below w.heap.size w W4 := by rw [← hW4]; exact ballocs (ballocs (ballocs hw1 _) _) _
  have hB14 : Below w1.heap.size w1 W4 := by rw [← hW4]; exact ballocs (ballocs (bbox _) _) _
  have bR4 := hR4.below hB14 hR4.lt
  have bR5 := hR5.below hB14 hR5.lt
  have bR6 := hR6.below hB14 hR6.lt
  have hC4 : Cel W4 (w1.heap.size + 1) A m vs bs := (h.below hB0).more (by omega)
  rw [hW4]
  clear hW4 hcF1 hF1 hR4 hR5 hR6 hw0 hw1 hB14
  refine wpIn_rangeFunc_ownG (α := KnElt vs bs) rfl (by omega) (gf := 137) (lb := #[.pointer (some ⟨w1.heap.size + 1 + 1, 0, none⟩)]) rfl trivial (enters_of Tryz.func137 (by kernel_rfl) rfl)
    (encs := fun y : KnElt vs bs => #[Value.int .i64 y.1.1, Value.int .i64 y.1.2]) (Kp := KeepsB (w1.heap.size + 3) (w1.heap.size + 1)) (S := fun ys => eltsOf ys = knL vs bs) (Sp := fun pre => ∃ k, eltsOf pre = (knL vs bs).take k) (N := (knL vs bs).length) (w0 := W4)
    (fun l J Jx W hW hJ _ hY h0 => known1_in _ (by omega) l (w1.heap.size + 1 + 1) (w1.heap.size + 3) (w1.heap.size + 1) m A c vs bs (by omega) J Jx hJ hY W (by have := hW.size; omega) (by omega) (by omega) (by omega) ((hW.cell (p := ⟨w1.heap.size + 1 + 1, 0, none⟩) (by simp; omega)).trans ((bL.cell 0).trans rfl)) (hC4.below (hW.mono (by omega))) h0)
    KeepsB.trans (KeepsB.put (by omega)) (Below.refl _ _) (fun _ => rfl)
    (fun pre W => KeepsB (w1.heap.size + 3) (w1.heap.size + 1) W4 W ∧ (W.cell? ⟨w1.heap.size + 1, 0, none⟩ = some (.int .i64 (pre.length : Int)) ∧ W.frozen? ⟨w1.heap.size + 1, 0, none⟩ = false) ∧ Below w.heap.size w W)
    (fun _ _ _ => False)
    (OwnFrom.and (ownFrom_keepsB (by omega) (by omega)) (OwnFrom.and (Own.from (fun s A B row hs hg hr => ⟨cell_kept hs.1 hg hr, (frozen_kept hs.1 hg hr).trans hs.2⟩) _) (ownFrom_below (Nat.le_refl _) (by omega))))
    (fun _ _ _ _ _ hs _ _ => hs)
    ⟨KeepsB.refl _ _ _, ⟨(bN.cell 0).trans rfl, bN.frozen 0⟩, hB0⟩
    (fun y => { tmps := #[.agg #[.int .i64 p], .slice A m c, .pointer (some ⟨w.heap.size, 0, none⟩), undef, .pointer (some ⟨w.heap.size + 1, 0, none⟩), .pointer (some ⟨w.heap.size + 1 + 1, 0, none⟩), .pointer (some ⟨w.heap.size + 1 + 1 + 1, 0, none⟩), .pointer (some ⟨w1.heap.size, 0, none⟩), .bool true, .pointer (some ⟨w1.heap.size + 1, 0, none⟩), undef, .int .i64 y.1.2, .tuple #[.int .i64 p, .bool true], .agg #[.int .i64 p], .tuple #[.int .i64 p, .bool true], .int .i64 p, .bool true, .bool true, .bool false, .slice A m c, .int .i64 m, .bool (decide ((32 : Int) < (m : Int))), .bool (decide ((32 : Int) < (m : Int))), .slice A m c, .int .i64 m, .pointer (some ⟨w.heap.size, 0, none⟩), .int .i64 p, .bool (decide (p ≤ (m : Int))), .bool (decide ((32 : Int) < (m : Int)) || decide (p ≤ (m : Int))), .slice A m c, .func (.func 137) #[] #[.pointer (some ⟨w1.heap.size + 1 + 1, 0, none⟩)], .int .i64 y.1.1, .int .i64 y.1.2, undef, undef, undef, undef, undef, undef, undef, undef], defers := [] }) ?assign ?body ?done ?stop
  case assign =>
    intro l y W K hK
    gi_wp2
    exact hK
  case body =>
    rintro l pre y W ⟨hKB, ⟨hcn, hfn⟩, hB⟩ hlt
    have hd : 1 ≤ 5 - 1 - 1 := by omega
    have hcp : W.cell? ⟨w1.heap.size, 0, none⟩ = some (.int .i64 p) := ((hKB.blk (by omega) (by omega) bP).cell 0).trans rfl
    have HIN : Hid (inP p y.1.2 = true) := Lib.hid (inP_iff.2 (HKN.out y.1 y.2))
    have hkl := knL_len vs bs
    have hnw : IntKind.i64.wrap ((pre.length : Int) + 1) = (pre.length : Int) + 1 := IntWalk.i64_in _ (by omega)
    gi_wp2_with (refine ⟨trivial, ?_⟩; gi_at_call 82; refine (CallsIn.inRound l (callsIn_wide.2 (has_any p y.1.2 _))).mono ?_; rintro e w' ⟨rfl, rfl⟩; rw [HIN.out])
    have hpl : ((pre ++ [y]).length : Int) = (pre.length : Int) + 1 := by simp
    exact ⟨(KeepsOthers.setCell _ _ _).from _, (KeepsB.refl _ _ _).setGs 0 _, hKB.setGs 0 _, ⟨(World.cell?_setCell_same' _ _ _ (by rw [hcn]; rfl)).trans (by rw [hpl]), (World.frozen?_setCell _ _ _ _).trans hfn⟩, hB.setCell (p := ⟨w1.heap.size + 1, 0, none⟩) (by simp; omega) _⟩
  case done =>
    rintro D ys W hD hS ⟨hKB, ⟨hcn, hfn⟩, hB⟩ hK
    have hcp : W.cell? ⟨w1.heap.size, 0, none⟩ = some (.int .i64 p) := ((hKB.blk (by omega) (by omega) bP).cell 0).trans rfl
    have gR4 := hKB.blk (by omega) (by omega) bR4
    have gR5 := hKB.blk (by omega) (by omega) bR5
    have gR6 := hKB.blk (by omega) (by omega) bR6
    have hc4 := (gR4.cell 0).trans rfl
    have hc5 := (gR5.cell 0).trans rfl
    have hc6 := (gR6.cell 0).trans rfl
    have hf4 := gR4.frozen 0
    have hf5 := gR5.frozen 0
    have hf6 := gR6.frozen 0
    have hmx : Tryz.prog.follows .mixedOrders = true := by kernel_rfl
    have hyl : (ys.length : Int) = ((knL vs bs).length : Int) := by rw [← hS, eltsOf_len]
    gi_wp2
    gi_region_with_o (fail)
    all_goals gi_wp2
    all_goals
      refine leave3 (u := p) (v := ((knL vs bs).length : Int)) (x := 0) (B := w.heap.size) (W0 := w) rfl rfl rfl rfl (fun w h => by go_simp) (fun w h => by go_simp) (fun w h => by go_simp) (by omega) (by omega) ?_ ?_ ?_ ?_ ?_ (by omega) (fun w' hb => ⟨rfl, hb⟩)
      · repeat' first | exact hK | refine (Below.heap_setCell _ _ _ _ (by dsimp only; omega)).trans ?_
      · go_simp
      · go_simp
      · go_simp
      · repeat' first | exact hB | refine Below.drew ?_ | refine Below.setCell ?_ (by dsimp only; omega) _
  case stop =>
    rintro D cc pre W _ _ hh _
    exact hh.elim
end Go.Proofs.YtmcgnpdfpfgfpaaGreatDoor

/-! Code2 -/
namespace Go.Proofs.YtmcgnpdfpfgfpaaGreatDoor
open Go.RowKit Go.Shelf
set_option linter.unusedVariables false
attribute [local go_sem] Oper.semAt_some

theorem wpListIn_append_share {F : Fence} {m0 : Nat} {w : World} {ops : Array Oper} {rest : List Oper} {o : Oper} {a : Act} {Q : Exit → Act → World → Prop} (hgd : o.guard = none) (s x : Operand) (t : TypeId)
    (ho : o.op = .call { callee := .builtin .append, args := #[s, x], argTypes := #[t, t] })
    (ht : Tryz.prog.underlying t = some (.slice 135)) (base : Nat) (A : Option Addr) (n c : Nat) (us ys : List Int) (hs : a.eval s = .slice A n c) (hown : OwnS w base A n c us ys)
    (b : Nat) (c2 : Nat) (u y : Int) (hx : a.eval x = .slice (some ⟨b, 0, none⟩) 1 c2) (h0 : w.cell? ⟨b, 0, none⟩ = some (.int .i64 u)) (h1 : w.cell? ⟨b, 1, none⟩ = some (.int .i64 y)) (hn : n ≤ 1000000) (hbase : base ≤ w.heap.size)
    (h : ∀ A' c' w', OwnS w' base A' (n + 1) c' (us ++ [u]) (ys ++ [y]) → w.grownBy w' (Value.slice A n c).ownBlock → Below base w w' → wpListIn F m0 Tryz.prog ops Q rest (a.put o.dst (.slice A' (n + 1) c')) w') : wpListIn F m0 Tryz.prog ops Q (o :: rest) a w := by
  obtain ⟨i, hi, hz, hsize, hby⟩ := info_parts info_share
  have hl : us.length = ys.length := by rw [hown.1, hown.2.1]
  refine wpListIn_append_own w hgd s x t ho base 135 i _ 2 16 ht hi hz hsize hby rfl (by omega) (.slice A n c) n (shV us ys) hs hown.2.2 ⟨b, 0, none⟩ 1 c2 [.int .i64 u, .int .i64 y] hx rfl (fun j v hj => ?_)
    (fun v hv => by
      simp only [List.mem_cons, List.not_mem_nil, or_false] at hv
      rcases hv with rfl | rfl <;> rfl) (by unfold maxLen; omega) (by omega) hbase ?_
  · match j, hj with
    | 0, hj => simp at hj; subst hj; exact h0
    | 1, hj => simp at hj; subst hj; exact h1
    | j + 2, hj => simp at hj
  · intro v' w' hown' hg hat
    rw [← shV_snoc u y us ys hl] at hown'
    have hb : Below base w w' := (Below.refl base w).grown hg hbase (fun k hk => (World.ownsRow.lt hown.2.2 k hk).1)
    rcases hown'.2 with ⟨hv, hn0⟩ | ⟨g, cap, cur, hv, _⟩
    · omega
    · rw [hv] at hown' ⊢
      exact h _ cap w' ⟨by simp [hown.1], by simp [hown.2.1], hown'⟩ hg hb

/-- What the call itself made lies on where a block that holds no cells turns. -/
theorem OwnS.others {w w' : World} {base n c : Nat} {A : Option Addr} {us ys : List Int} (h : OwnS w base A n c us ys) {row : Option Nat} (hg : w.grownBy w' row) (hr : ∀ r, row = some r → ∃ o : Obj, w.heap[r]? = some o ∧ o.isCells = false) : OwnS w' base A n c us ys := by
  refine ⟨h.1, h.2.1, World.ownsRow.kept h.2.2 hg ?_⟩
  rcases h.2.2.2 with ⟨h0, _⟩ | ⟨g, cap, cur, hv, hgb, hh, _⟩
  · left
    rw [h0]; rfl
  · right
    rw [hv]
    intro e
    obtain ⟨o, ho, hc⟩ := hr g e.symm
    rw [hh] at ho
    injection ho with ho
    subst ho
    cases hc
/-- A store into another block. -/
theorem OwnS.set_ {w : World} {base n c : Nat} {A : Option Addr} {us ys : List Int} (h : OwnS w base A n c us ys) {p : Addr} (hp : p.block < base) (v : Value) : OwnS (w.setCell p v) base A n c us ys := by
  refine ⟨h.1, h.2.1, World.ownsRow.kept (row := some p.block) h.2.2 ⟨rfl, rfl, rfl, by simp [World.setCell], fun k hk hne => Below.heap_setCell w p v k (fun e => hne (by rw [e]))⟩ ?_⟩
  right
  intro e
  have := (World.ownsRow.lt h.2.2 p.block e).1
  omega
theorem KeepsB.belowAt {n₁ gs : Nat} {W A C : World} (h : KeepsB n₁ gs W A) (hb : Below n₁ A C) : KeepsB n₁ gs W C := ⟨Nat.le_trans h.1 hb.size, fun k hk hne => (hb.block k hk).trans (h.2 k hk hne)⟩
theorem KeepsOthers.ofGrown {W W' : World} {row : Option Nat} (hg : W.grownBy W' row) (hrow : ∀ j, row = some j → ∃ o : Obj, W.heap[j]? = some o ∧ o.isCells = true) : KeepsOthers W W' :=
  KeepsOthers.of_grownBy hg fun j o e ho => by
    obtain ⟨o', ho', hc⟩ := hrow j e
    rw [ho] at ho'
    injection ho' with e
    rw [e]; exact hc
theorem OwnS.cellsRow {w : World} {base n c : Nat} {A : Option Addr} {us ys : List Int} (h : OwnS w base A n c us ys) : ∀ j, (Value.slice A n c).ownBlock = some j → ∃ o : Obj, w.heap[j]? = some o ∧ o.isCells = true := by
  intro j e
  rcases h.2.2.2 with ⟨h0, _⟩ | ⟨g, cap, cur, hv, hgb, hh, _⟩
  · rw [h0] at e; cases e
  · rw [hv] at e
    injection e with e
    subst e
    exact ⟨_, hh, rfl⟩

set_option maxRecDepth 100000 in
set_option maxHeartbeats 4000000 in
theorem first_ok (A : Option Addr) (m c k : Nat) (vs : List Int) (bs : List Bool) (w : World) (h : Cel w w.heap.size A m vs bs) (hm : m ≤ 32) (hk : k ≤ 1000) :
    Calls Tryz.prog 95 #[.slice A m c, .int .i64 k] w fun e w' => (∃ A' c', e = .returned (.slice A' ((knL vs bs).take k).length c') ∧ OwnS w' w.heap.size A' ((knL vs bs).take k).length c' (ptK ((knL vs bs).take k)) (vlK ((knL vs bs).take k))) ∧ Below w.heap.size w w' := by
  have hl := h.1
  refine (callsIn_wide (n := 5)).1 ?_
  refine callsIn_of_wp_marks Tryz.func95 rfl trivial ?_ rfl
  simp only [Tryz.ntmps95, List.size_toArray, List.length_cons, List.length_nil, Nat.reduceAdd, Nat.reduceSub, Array.replicate_succ, Array.replicate_zero, List.push_toArray, List.append_toArray, List.nil_append, List.cons_append]
  gi_wp2_with (refine ⟨trivial, ?_⟩; gi_at_call 120; refine (callsIn_wide.2 (known_any A m c _)).mono ?_; rintro e w' ⟨rfl, rfl⟩)
  obtain ⟨W4, hW4⟩ : ∃ W4, ((w.alloc (.cells #[.int .i64 k] 3)).alloc (.cells #[.slice none 0 0] 27)).alloc (.cells #[.slice A m c] 83) = W4 := ⟨_, rfl⟩
  have hsz : W4.heap.size = w.heap.size + 3 := by rw [← hW4]; simp
  have hB3 := blk3 w 3 27 83 #[.int .i64 k] #[.slice none 0 0] #[.slice A m c]
  rw [hW4] at hB3
  obtain ⟨bK, bO, bL⟩ := hB3
  have hB0 : Below w.heap.size w W4 := by rw [← hW4]; exact ballocs (ballocs (bbox _) _) _
  have hC4 : Cel W4 (w.heap.size + 1) A m vs bs := (h.below hB0).more (by omega)
  rw [hW4]
  clear hW4
  refine wpIn_rangeFunc_ownG (α := KnElt vs bs) rfl (by omega) (gf := 137) (lb := #[.pointer (some ⟨w.heap.size + 1 + 1, 0, none⟩)]) rfl trivial (enters_of Tryz.func137 (by kernel_rfl) rfl)
    (encs := fun y : KnElt vs bs => #[Value.int .i64 y.1.1, Value.int .i64 y.1.2]) (Kp := KeepsB (w.heap.size + 3) (w.heap.size + 1)) (S := fun ys => eltsOf ys = knL vs bs) (Sp := fun pre => ∃ k, eltsOf pre = (knL vs bs).take k) (N := (knL vs bs).length) (w0 := W4)
    (fun l J Jx W hW hJ _ hY h0 => known1_in _ (by omega) l (w.heap.size + 1 + 1) (w.heap.size + 3) (w.heap.size + 1) m A c vs bs (by omega) J Jx hJ hY W (by have := hW.size; omega) (by omega) (by omega) (by omega) ((hW.cell (p := ⟨w.heap.size + 1 + 1, 0, none⟩) (by simp; omega)).trans ((bL.cell 0).trans rfl)) (hC4.below (hW.mono (by omega))) h0)
    KeepsB.trans (KeepsB.put (by omega)) (Below.refl _ _) (fun _ => rfl)
    (fun pre W => KeepsB (w.heap.size + 3) (w.heap.size + 1) W4 W ∧ (∃ L lc, W.cell? ⟨w.heap.size + 1, 0, none⟩ = some (.slice L pre.length lc) ∧ W.frozen? ⟨w.heap.size + 1, 0, none⟩ = false ∧ OwnS W (w.heap.size + 3) L pre.length lc (ptK (eltsOf pre)) (vlK (eltsOf pre))) ∧ pre.length ≤ k ∧ Below w.heap.size w W)
    (fun cc pre W => cc = .exit 0 ∧ KeepsB (w.heap.size + 3) (w.heap.size + 1) W4 W ∧ (∃ L lc, W.cell? ⟨w.heap.size + 1, 0, none⟩ = some (.slice L k lc) ∧ OwnS W (w.heap.size + 3) L k lc (ptK ((eltsOf pre).take k)) (vlK ((eltsOf pre).take k))) ∧ pre.length = k + 1 ∧ Below w.heap.size w W)
    (fun s W W' row hs hg hr => by
      obtain ⟨h1, ⟨L, lc, h2, h3, h4⟩, h5, h6⟩ := hs
      have hr2 : ∀ r, row = some r → ∃ o : Obj, W.heap[r]? = some o ∧ o.isCells = false := fun r e => (hr r e).2
      exact ⟨ownFrom_keepsB (β := Unit) (by omega) (by omega) () W W' row h1 hg hr, ⟨L, lc, cell_kept h2 hg hr2, (frozen_kept h2 hg hr2).trans h3, h4.others hg hr2⟩, h5, ownFrom_below (β := Unit) (Nat.le_refl _) (by omega) () W W' row h6 hg hr⟩)
    (fun cc s W W' row hs hg hr => by
      obtain ⟨h0, h1, ⟨L, lc, h2, h4⟩, h5, h6⟩ := hs
      have hr2 : ∀ r, row = some r → ∃ o : Obj, W.heap[r]? = some o ∧ o.isCells = false := fun r e => (hr r e).2
      exact ⟨h0, ownFrom_keepsB (β := Unit) (by omega) (by omega) () W W' row h1 hg hr, ⟨L, lc, cell_kept h2 hg hr2, h4.others hg hr2⟩, h5, ownFrom_below (β := Unit) (Nat.le_refl _) (by omega) () W W' row h6 hg hr⟩)
    ⟨KeepsB.refl _ _ _, ⟨none, 0, (bO.cell 0).trans rfl, bO.frozen 0, OwnS.nil_⟩, Nat.zero_le _, hB0⟩
    (fun y => { tmps := #[.slice A m c, .int .i64 k, undef, .pointer (some ⟨w.heap.size, 0, none⟩), .slice none 0 0, .pointer (some ⟨w.heap.size + 1, 0, none⟩), .int .i64 y.1.1, .int .i64 y.1.2, .slice A m c, .func (.func 137) #[] #[.pointer (some ⟨w.heap.size + 1 + 1, 0, none⟩)], .int .i64 y.1.1, .int .i64 y.1.2, undef, undef, undef, undef, undef, undef, undef, undef, undef, undef, undef], defers := [] }) ?assign ?body ?done ?stop
  case assign =>
    intro l y W K hK
    gi_wp2
    exact hK
  case body =>
    rintro l pre y W ⟨hKB, ⟨L, lc, hcO, hfO, hO⟩, hlen, hB⟩ hlt
    have hd : 1 ≤ 5 - 1 - 1 := by omega
    have hcK : W.cell? ⟨w.heap.size, 0, none⟩ = some (.int .i64 k) := ((hKB.blk (by omega) (by omega) bK).cell 0).trans rfl
    have hkl := knL_len vs bs
    have hWs := hKB.1
    by_cases hq : pre.length = k
    · have hqi : (pre.length : Int) = (k : Int) := by omega
      have HT : Hid ((eltsOf (pre ++ [y])).take k = eltsOf pre) := Lib.hid (by rw [eltsOf_snoc, List.take_left' (by rw [eltsOf_len]; exact hq)])
      gi_wp2
      exact ⟨KeepsFrom.refl _ _, rfl, hKB, ⟨L, lc, by rw [hcO, hq], by rw [HT.out, ← hq]; exact hO⟩, by simp [hq], hB⟩
    · have hqi : ¬ ((pre.length : Int) = (k : Int)) := by omega
      have hOa := hO.belowAll (bbox (.cells #[.int .i64 y.1.1, .int .i64 y.1.2] 135))
      have hNa := Blk.new W 135 #[.int .i64 y.1.1, .int .i64 y.1.2]
      have hBa : Below (w.heap.size + 3) W (W.alloc (.cells #[.int .i64 y.1.1, .int .i64 y.1.2] 135)) := (Below.refl _ W).alloc (by omega) _
      gi_wp2_with (gi_at_builtin; refine wpListIn_append_share rfl _ _ 27 rfl Tryz.underlying27 (w.heap.size + 3) L pre.length lc (ptK (eltsOf pre)) (vlK (eltsOf pre)) rfl hOa W.heap.size 1 y.1.1 y.1.2 rfl ((hNa.cell 0).trans rfl) ((hNa.cell 1).trans rfl) (by omega) (by have := hBa.size; omega) ?_; intro L2 lc2 W2 hO2 hg2 hb2; have hcO2 : W2.cell? ⟨w.heap.size + 1, 0, none⟩ = some (.slice L pre.length lc) := ((hBa.trans hb2).cell (p := ⟨w.heap.size + 1, 0, none⟩) (by show w.heap.size + 1 < w.heap.size + 3; omega)).trans hcO; have hfO2 : W2.frozen? ⟨w.heap.size + 1, 0, none⟩ = false := (World.frozen?_of_block (a := ⟨w.heap.size + 1, 0, none⟩) ((hBa.trans hb2).block (w.heap.size + 1) (by omega))).trans hfO)
      have hpl : (pre ++ [y]).length = pre.length + 1 := by simp
      have hBn := (hBa.trans hb2)
      refine ⟨(((KeepsOthers.alloc W _).trans (KeepsOthers.ofGrown hg2 hOa.cellsRow)).trans (KeepsOthers.setCell _ _ _)).from _, ((KeepsB.refl _ _ W).belowAt hBn).setGs 0 _, (hKB.belowAt hBn).setGs 0 _, ⟨L2, lc2, (World.cell?_setCell_same' _ _ _ (by rw [hcO2]; rfl)).trans (by rw [hpl]), (World.frozen?_setCell _ _ _ _).trans hfO2, ?_⟩, by rw [hpl]; omega, (hB.trans (hBn.mono (by omega))).setCell (p := ⟨w.heap.size + 1, 0, none⟩) (by simp) _⟩
      rw [hpl, eltsOf_snoc]
      have h1 : ptK (eltsOf pre ++ [y.1]) = ptK (eltsOf pre) ++ [y.1.1] := by simp [ptK]
      have h2 : vlK (eltsOf pre ++ [y.1]) = vlK (eltsOf pre) ++ [y.1.2] := by simp [vlK]
      rw [h1, h2]
      exact hO2.set_ (p := ⟨w.heap.size + 1, 0, none⟩) (by simp) _
  case done =>
    rintro D ys W hD hS ⟨hKB, ⟨L, lc, hcO, hfO, hO⟩, hlen, hB⟩ hK
    have hyl : (knL vs bs).length = ys.length := by rw [← hS, eltsOf_len]
    have htk : (knL vs bs).take k = knL vs bs := List.take_of_length_le (by omega)
    gi_wp2
    refine ⟨by simp, .inl ⟨_, _, rfl, run_takeDeferred hK, ?_⟩⟩
    refine ⟨_, results_tmp rfl _ _ _, ⟨L, lc, ?_, ?_⟩, hB.trans (belowK_b (w := w) (Nat.le_refl _) W D _ _ (by omega) hK rfl rfl)⟩
    · rw [htk, hyl]; rfl
    · rw [htk, hyl, ← hS]
      exact (hO.others (grownBy_putObj' W D _) (fun r e => by cases e; exact ⟨_, hK, rfl⟩)).base (by omega)
  case stop =>
    rintro D cc pre W hD ⟨q, hq⟩ ⟨rfl, hKB, ⟨L, lc, hcO, hO⟩, hlen, hB⟩ hK
    have hpl : ((knL vs bs).take q).length = k + 1 := by rw [← hq, eltsOf_len]; exact hlen
    rw [List.length_take] at hpl
    have hkl2 : ((knL vs bs).take k).length = k := by rw [List.length_take]; omega
    have htk : (eltsOf pre).take k = (knL vs bs).take k := by rw [hq, List.take_take, Nat.min_eq_left (by omega)]
    rw [htk] at hO
    gi_wp2
    refine ⟨by simp, .inl ⟨_, _, rfl, run_takeDeferred hK, ?_⟩⟩
    refine ⟨_, results_tmp rfl _ _ _, ⟨L, lc, ?_, ?_⟩, hB.trans (belowK_b (w := w) (Nat.le_refl _) W D _ _ (by omega) hK rfl rfl)⟩
    · rw [hkl2]; rfl
    · rw [hkl2]
      exact (hO.others (grownBy_putObj' W D _) (fun r e => by cases e; exact ⟨_, hK, rfl⟩)).base (by omega)
end Go.Proofs.YtmcgnpdfpfgfpaaGreatDoor

/-! Fill -/
namespace Go.Proofs.YtmcgnpdfpfgfpaaGreatDoor
open Go.RowKit
set_option linter.unusedVariables false

set_option maxRecDepth 100000 in
set_option maxHeartbeats 1600000 in
theorem fill_ok (p : Int) (A : Option Addr) (m c k : Nat) (vs : List Int) (bs : List Bool) (w : World) (hok : okP p = true) (h : Cel w w.heap.size A m vs bs) (hm : m ≤ 32) (hmp : (m : Int) < p) (hkn : knOk p vs bs) (hk : 1 ≤ k) (hkm : k ≤ m) (hkl : k ≤ (knL vs bs).length) :
    Calls Tryz.prog 64 #[.agg #[.int .i64 p], .slice A m c, .int .i64 k] w fun e w' =>
      (∃ R A' c', e = .returned (.tuple #[.slice A' R.length c', .int .i64 0]) ∧ OwnI w' w.heap.size 3 A' R.length c' R ∧ Through p (ptK ((knL vs bs).take k)) (vlK ((knL vs bs).take k)) R) ∧ Below w.heap.size w w' := by
  have HO := Lib.hid hok
  have HKN := Lib.hid hkn
  have hlen : ((knL vs bs).take k).length = k := by rw [List.length_take]; omega
  have hvl := h.1
  have HPA : Hid (allP p (ptK ((knL vs bs).take k)) = true) := Lib.hid (by rw [ptK_take]; exact take_allP (ptK_allP vs bs (by rw [hvl]; exact hmp)) k)
  have HVA : Hid (allP p (vlK ((knL vs bs).take k)) = true) := Lib.hid (by rw [vlK_take]; exact take_allP (vlK_allP hkn) k)
  have HPD : Hid (∀ i j, i < j → j < k → (ptK ((knL vs bs).take k)).getD i 0 ≠ (ptK ((knL vs bs).take k)).getD j 0) := Lib.hid fun i j h1 h2 => by
    rw [ptK_take]
    exact ((ptK_apart vs bs).take k) i j h1 (by rw [List.length_take, ptK_len]; omega)
  obtain ⟨q, hq⟩ : ∃ q, (knL vs bs).length = q := ⟨_, rfl⟩
  have hkq : ¬ ((q : Int) < (k : Int)) := by omega
  have hkqN : ¬ q < k := by omega
  have hk1 : ¬ ((k : Int) < 1) := by omega
  have hk1N : ¬ k < 1 := by omega
  have hkmi : ¬ ((m : Int) < (k : Int)) := by omega
  have hkmiN : ¬ m < k := by omega
  have hb0 : Below w.heap.size w (w.alloc (.cells #[.int .i64 p] 44)) := bbox _
  have hF0 := Blk.new w 44 #[.int .i64 p]
  have hS0 := h.upto hb0
  have HQ := Lib.hid hq
  clear hok hkn hq hkl
  obtain ⟨l, HL⟩ : ∃ l, Hid ((knL vs bs).take k = l) := ⟨_, Lib.hid rfl⟩
  rw [HL.out] at HPA HVA HPD hlen
  rw [HL.out]
  go_enter Tryz.func64, Tryz.ntmps64
  go_wp2_with (go_at_call 93; (refine (cells_ok p A m c vs bs _ HO.out hS0 hm hmp HKN.out).mono ?_); rintro e w1 ⟨rfl, hb1⟩
               rw [HQ.out]
               have hbb1 := bnext hb0 hb1
               have hF1 := hF0.below hb1 hF0.lt
               have hS1 := hS0.upto hb1)
  have hcF1 : w1.drew.cell? ⟨w.heap.size, 0, none⟩ = some (.int .i64 p) := (hF1.cell 0).trans rfl
  have hSd : Cel w1.drew w1.drew.heap.size A m vs bs := hS1
  have hB0 : Below w1.heap.size w1 w1.drew := (Below.refl _ w1).drew
  have HFF : Hid (∀ wx, Below w1.heap.size w1 wx → wx.cell? ⟨w.heap.size, 0, none⟩ = some (.int .i64 p)) := Lib.hid fun wx hx => ((hF1.below hx hF1.lt).cell 0).trans rfl
  go_region_held3 (fun w' => w'.cell? ⟨w.heap.size, 0, none⟩ = some (.int .i64 p)) (first | exact hcF1 | exact HFF.out _ hC2 | exact HFF.out _ hC3)
    (first
      | (go_at_call 95; (with_reducible refine (first_ok A m c k vs bs _ hSd hm (by omega)).mono ?_); rintro e w2 ⟨⟨A2, c2, rfl, hoS⟩, hb2⟩
         rw [HL.out, hlen] at hoS
         rw [HL.out, hlen]
         have hC2 := bnext hB0 hb2
         have hSh := hoS.sh
         have hcap := hoS.cap)
      | (go_at_call 94; (with_reducible refine (interp_ok p A2 k c2 (ptK l) (vlK l) _ HO.out hSh HPA.out HVA.out (by omega) HPD.out).mono ?_); rintro e w3 ⟨⟨R, A3, c3, rfl, hown3, hT⟩, hb3⟩
         have HT := Lib.hid hT
         have hC3 := bnext hC2 hb3
         clear hT))
  go_wp2
  go_ret2
  exact ⟨⟨R, A3, c3, rfl, hown3.base (by have := hbb1.size; have := hC2.size; omega), HT.out⟩, bnext hbb1 hC3⟩

end Go.Proofs.YtmcgnpdfpfgfpaaGreatDoor
