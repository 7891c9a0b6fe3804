/-
  What parity's Wanted and residue's One hand back for queries that add up to a unit list. Conditions: the rows read as their numbers, all of them elements, of one length.
-/
import Derived.Test.YtoblofilaegnaaaSum
import Derived.Test.YtoblofilaegnaaaAns
import Derived.Test.YtoblofilaegnaaaPar1
import Derived.Laws.ResultCell
import Derived.Deep.RegionHeld3
namespace Go.Proofs.Ytoblofilaegnaaa
open Go.RowKit Go.Shelf
set_option linter.unusedVariables false
attribute [local go_sem] Oper.semAt_some

/-- residue's One of a unit list. -/
theorem one_ok (A : Option Addr) (n c i : Nat) (w : World) {B : Nat} (h : Ints w B A n (spikeL n i 1)) (hi : i < n) (hn : n ≤ 65536) :
    Calls Try.prog 154 #[.slice A n c] w fun e w' => e = .returned (.tuple #[.int .i64 i, .bool true]) ∧ w = w' := by
  go_enter Try.func154, Try.ntmps154
  go_wp2
  go_loopw [4, 5, 10] (fun x f v wr => ∃ k : Nat, k ≤ n ∧ v = .int .i64 k ∧ wr = w ∧ ((k ≤ i ∧ x = .int .i64 0 ∧ f = .bool false) ∨ (i < k ∧ x = .int .i64 i ∧ f = .bool true))) (fun _ _ v _ => n - (intOf v).toNat)
  case atStart => exact ⟨0, Nat.zero_le _, rfl, rfl, .inl ⟨Nat.zero_le _, rfl, rfl⟩⟩
  case round =>
    obtain ⟨k, hk, rfl, rfl, hc⟩ := hrel
    by_cases hlt : k < n
    · obtain ⟨b, off, rfl, hb, hcell⟩ := h.2 (by omega)
      have hck := hcell k hlt
      rw [spikeL_at _ _ _ _ hlt] at hck
      clear hcell
      have hk0 : (0 : Int) ≤ (k : Int) := by omega
      have hk1 : (k : Int) < (n : Int) := by omega
      rcases hc with ⟨h1, rfl, rfl⟩ | ⟨h1, rfl, rfl⟩
      · by_cases hki : i = k
        · subst hki
          rw [if_pos rfl] at hck
          go_wp2
          go_roundw
          case rel => exact ⟨i + 1, by omega, by go_num, trivial, .inr ⟨by omega, rfl, rfl⟩⟩
          case measure => simp [intOf]; omega
        · rw [if_neg hki] at hck
          go_wp2
          go_roundw
          case rel => exact ⟨k + 1, by omega, by go_num, trivial, .inl ⟨by omega, rfl, rfl⟩⟩
          case measure => simp [intOf]; omega
      · rw [if_neg (by omega)] at hck
        go_wp2
        go_roundw
        case rel => exact ⟨k + 1, by omega, by go_num, trivial, .inr ⟨by omega, rfl, rfl⟩⟩
        case measure => simp [intOf]; omega
    · rcases hc with ⟨h1, rfl, rfl⟩ | ⟨h1, rfl, rfl⟩
      · omega
      · go_wp2
        go_ret2
        exact ⟨rfl, rfl⟩

theorem blk5 (w : World) (ta tb tc td te : TypeId) (ca cb cc cd ce : Array Value) : ∃ W, ((((w.alloc (.cells ca ta)).alloc (.cells cb tb)).alloc (.cells cc tc)).alloc (.cells cd td)).alloc (.cells ce te) = W ∧ W.heap.size = w.heap.size + 5 ∧ Below w.heap.size w W ∧
    Blk W w.heap.size ta ca ∧ Blk W (w.heap.size + 1) tb cb ∧ Blk W (w.heap.size + 1 + 1) tc cc ∧ Blk W (w.heap.size + 1 + 1 + 1) td cd ∧ Blk W (w.heap.size + 1 + 1 + 1 + 1) te ce := by
  refine ⟨_, rfl, by simp, ballocs (ballocs (ballocs (ballocs (bbox _) _) _) _) _, ((((Blk.new w ta ca).alloc _).alloc _).alloc _).alloc _, (((Blk.new1 w _ tb cb).alloc _).alloc _).alloc _, ?_, ?_, ?_⟩
  · have := ((Blk.new1 (w.alloc (.cells ca ta)) (.cells cb tb) tc cc).alloc (.cells cd td)).alloc (.cells ce te)
    rwa [World.size_alloc] at this
  · have := (Blk.new1 ((w.alloc (.cells ca ta)).alloc (.cells cb tb)) (.cells cc tc) td cd).alloc (.cells ce te)
    rwa [World.size_alloc, World.size_alloc] at this
  · have := Blk.new1 (((w.alloc (.cells ca ta)).alloc (.cells cb tb)).alloc (.cells cc tc)) (.cells cd td) te ce
    rwa [World.size_alloc, World.size_alloc, World.size_alloc] at this

theorem results_cell3' {fn : Func} {p q r : Tmp} {tp tq tr : TypeId} (h : fn.results = #[.cell p tp, .cell q tq, .cell r tr]) (tmps : Array Value) (P : Program) (w : World) :
    (results fn tmps).run P w =
      ((asAddr (tmps.getD p undef)).run P w).andThen fun a w₁ => ((loadVar tp a).run P w₁).andThen fun u w₂ => ((asAddr (tmps.getD q undef)).run P w₂).andThen fun b w₃ => ((loadVar tq b).run P w₃).andThen fun v w₄ =>
        ((asAddr (tmps.getD r undef)).run P w₄).andThen fun c w₅ => ((loadVar tr c).run P w₅).andThen fun x w₆ => .ok (.tuple #[u, v, x]) w₆ := by
  simp only [results, h]
  simp [Sem.run_bind, Result.andThen]

set_option maxRecDepth 100000 in
/-- The three results lie in cells; two marks are taken. -/
theorem leave32 {n : Nat} {fn : Func} {a b c : Nat} {p q r : Tmp} {u x : Int} {v : Bool} {tp tq tr : TypeId} {R : Ending → World → Prop} {tmps : Array Value} {D D2 : Nat} {W W0 : World} {B : Nat} (h : fn.results = #[.cell p tp, .cell q tq, .cell r tr])
    (hp : tmps.getD p undef = .pointer (some ⟨a, 0, none⟩)) (hq : tmps.getD q undef = .pointer (some ⟨b, 0, none⟩)) (hr : tmps.getD r undef = .pointer (some ⟨c, 0, none⟩))
    (hlp : ∀ w : World, w.cell? ⟨a, 0, none⟩ = some (.int .i64 u) → (loadVar tp ⟨a, 0, none⟩).run Try.prog w = .ok (.int .i64 u) w)
    (hlq : ∀ w : World, w.cell? ⟨b, 0, none⟩ = some (.bool v) → (loadVar tq ⟨b, 0, none⟩).run Try.prog w = .ok (.bool v) w)
    (hlr : ∀ w : World, w.cell? ⟨c, 0, none⟩ = some (.int .i64 x) → (loadVar tr ⟨c, 0, none⟩).run Try.prog w = .ok (.int .i64 x) w)
    (hD : a < D ∧ b < D ∧ c < D) (hDD : D < D2) (hBD : W0.heap.size ≤ D) (hK : W.heap[D]? = some (.deferred (some []))) (hK2 : W.heap[D2]? = some (.deferred (some []))) (ha : W.cell? ⟨a, 0, none⟩ = some (.int .i64 u)) (hb : W.cell? ⟨b, 0, none⟩ = some (.bool v)) (hc : W.cell? ⟨c, 0, none⟩ = some (.int .i64 x))
    (hB : Below B W0 W) (hB0 : B ≤ W0.heap.size) (hR : ∀ w', Below B W0 w' → R (.returned (.tuple #[.int .i64 u, .bool v, .int .i64 x])) w') :
    bodyPostM Fence.wide n Try.prog fn R .ret { tmps := tmps, defers := [{ target := .collected D2, args := #[] }, { target := .collected D, args := #[] }] } W := by
  have hK' : ∀ o : Obj, (W.putObj D2 o).heap[D]? = some (.deferred (some [])) := fun o => (World.putObj_heap_other (by omega)).trans hK
  refine ⟨by simp, .inl ⟨_, _, rfl, run_takeDeferred hK2, ⟨by simp, .inl ⟨_, _, rfl, run_takeDeferred (hK' _), ?_⟩⟩⟩⟩
  have hk : ∀ (o o' : Obj) (k : Nat), k < D → ((W.putObj D2 o).putObj D o').cell? ⟨k, 0, none⟩ = W.cell? ⟨k, 0, none⟩ := fun o o' k hk =>
    (World.cell?_of_block (World.putObj_heap_other (by show k ≠ D; omega))).trans (World.cell?_of_block (World.putObj_heap_other (by show k ≠ D2; omega)))
  have hB2 : Below B W0 (W.putObj D2 (.deferred none)) := hB.trans (belowK_b (w := W0) hB0 W D2 _ _ (by omega) hK2 rfl rfl)
  refine ⟨.tuple #[.int .i64 u, .bool v, .int .i64 x], ?_, hR _ (hB2.trans (belowK_b (w := W0) hB0 _ D _ _ (by omega) (hK' _) rfl rfl))⟩
  rw [results_cell3' h, hp, hq, hr]
  show ((loadVar tp ⟨a, 0, none⟩).run Try.prog _).andThen _ = _
  rw [hlp _ ((hk _ _ a hD.1).trans ha)]
  show ((loadVar tq ⟨b, 0, none⟩).run Try.prog _).andThen _ = _
  rw [hlq _ ((hk _ _ b hD.2.1).trans hb)]
  show ((loadVar tr ⟨c, 0, none⟩).run Try.prog _).andThen _ = _
  rw [hlr _ ((hk _ _ c hD.2.2).trans hc)]
  rfl

theorem KeepsOthers.ofBelow {W W' : World} (hb : Below W.heap.size W W') : KeepsOthers W W' := KeepsOthers.ofGrown (row := none) ⟨hb.os, hb.tape, hb.output, hb.size, fun i hi _ => hb.block i hi⟩ (fun j e => by cases e)
theorem KeepsB.ofBelow {n₁ gs : Nat} {W W' : World} (hb : Below W.heap.size W W') (hn : n₁ ≤ W.heap.size) : KeepsB n₁ gs W W' := ⟨hb.size, fun k hk _ => hb.block k (by omega)⟩

set_option maxRecDepth 100000 in
set_option maxHeartbeats 8000000 in
theorem wanted_ok (p : Int) (A : Option Addr) (m c n i lo : Nat) (rows : List (List Int)) (w : World) (hok : okP p = true) (hM : Mat w lo w.heap.size A m rows) (hm : 1 ≤ m ∧ m ≤ 1000) (hr : ∀ r ∈ rows, allP p r = true ∧ r.length = n) (hn : n ≤ 65536) (hi : i < n) (hsp : plusL p n rows = spikeL n i 1) :
    Calls Try.prog 85 #[.agg #[.int .i64 p], .slice A m c] w fun e w' => e = .returned (.tuple #[.int .i64 i, .bool true, .int .i64 0]) ∧ Below w.heap.size w w' := by
  have hp := okP_pos hok
  have HO := Lib.hid hok
  have HR := Lib.hid hr
  have HSP := Lib.hid hsp
  have HM := Lib.hid hM.len
  clear hok hr hsp
  obtain ⟨wx, hwx, hszx, hbx, x0, x1, x2, x3, x4⟩ := blk5 w 24 25 3 4 36 #[.int .i64 p] #[.slice A m c] #[.int .i64 0] #[.bool false] #[.int .i64 0]
  have hcx0 : wx.cell? ⟨w.heap.size, 0, none⟩ = some (.int .i64 p) := (x0.cell 0).trans rfl
  refine (callsIn_wide (n := 5)).1 ?_
  refine callsIn_of_wp_marks Try.func85 rfl trivial ?_ rfl
  simp only [Try.ntmps85, List.size_toArray, List.length_cons, List.length_nil, Nat.reduceAdd, Nat.reduceSub, Array.replicate_succ, Array.replicate_zero, List.push_toArray, List.append_toArray, List.nil_append, List.cons_append]
  gi_wp2_with (first
    | (refine ⟨trivial, ?_⟩; gi_at_call 118; refine (callsIn_wide.2 (of_yes p _ HO.out)).mono ?_; rintro e w1 ⟨rfl, hb1⟩
       have hw1 := hbx.trans (hb1.mono hbx.size)
       have y1 := x1.below hb1 x1.lt
       have y2 := x2.below hb1 x2.lt
       have y3 := x3.below hb1 x3.lt
       have y4 := x4.below hb1 x4.lt
       have hcR1 : (w1.alloc (.cells #[.int .i64 p] 126)).cell? ⟨w.heap.size + 1, 0, none⟩ = some (.slice A m c) := ((y1.alloc _).cell 0).trans rfl
       have hsz1 := hb1.size
       rw [hszx] at hsz1
       clear hb1)
    | (refine ⟨trivial, ?_⟩; gi_at_call 153; refine (callsIn_wide.2 (each_any A m c _)).mono ?_; rintro e w' ⟨rfl, rfl⟩))
  obtain ⟨W4, hW4⟩ : ∃ W4, (w1.alloc (.cells #[.int .i64 p] 126)).alloc (.cells #[.slice A m c] 25) = W4 := ⟨_, rfl⟩
  have hsz : W4.heap.size = w1.heap.size + 2 := by rw [← hW4]; simp
  have bP : Blk W4 w1.heap.size 126 #[.int .i64 p] := by rw [← hW4]; exact (Blk.new w1 _ _).alloc _
  have bL : Blk W4 (w1.heap.size + 1) 25 #[.slice A m c] := by rw [← hW4]; exact Blk.new1 w1 _ _ _
  have hB0 : Below w.heap.size w W4 := by rw [← hW4]; exact ballocs (ballocs hw1 _) _
  have hB14 : Below w1.heap.size w1 W4 := by rw [← hW4]; exact ballocs (bbox _) _
  have z1 := y1.below hB14 y1.lt
  have z2 := y2.below hB14 y2.lt
  have z3 := y3.below hB14 y3.lt
  have z4 := y4.below hB14 y4.lt
  have hM4 : Mat W4 lo w.heap.size A m rows := hM.below hB0
  rw [hW4]
  clear hW4 hcR1 y1 y2 y3 y4 hw1 hB14 x0 x1 x2 x3 x4 hcx0 hwx hbx
  refine wpIn_rangeFunc_ownG (α := RowElt W4 w.heap.size rows) rfl (by omega) (gf := 174) (lb := #[.pointer (some ⟨w1.heap.size + 1, 0, none⟩)]) rfl trivial (enters_of Try.func174 (by kernel_rfl) rfl)
    (encs := fun y : RowElt W4 w.heap.size rows => #[Value.slice y.1.1.1 y.1.1.2.1 y.1.1.2.2]) (Kp := KeepsB (w1.heap.size + 2) w.heap.size) (S := fun ys => rowsOf ys = rows) (Sp := fun pre => ∃ k, rowsOf pre = rows.take k) (N := rows.length) (w0 := W4)
    (fun l J Jx W hW hJ _ hY h0 => each1_in _ (by omega) l (w1.heap.size + 1) (w1.heap.size + 2) w.heap.size m lo w.heap.size A c rows W4 (by omega) J Jx hY W hW (by omega) (by omega) (by omega) (by omega) (by omega) ((hW.cell (p := ⟨w1.heap.size + 1, 0, none⟩) (by show w1.heap.size + 1 < W4.heap.size; omega)).trans ((bL.cell 0).trans rfl)) hM4 h0)
    KeepsB.trans (KeepsB.put (by omega)) (Below.refl _ _) (fun _ => rfl)
    (fun pre W => KeepsB (w1.heap.size + 2) w.heap.size W4 W ∧ Below w.heap.size w W)
    (fun cc pre W => False)
    (OwnFrom.and (ownFrom_keepsB (by omega) (by omega)) (ownFrom_below (Nat.le_refl _) (by omega)))
    (fun cc s W W' row hs hg hr => hs.elim)
    ⟨KeepsB.refl _ _ _, hB0⟩
    (fun y => { tmps := #[.agg #[.int .i64 p], .slice A m c, .pointer (some ⟨w.heap.size, 0, none⟩), .pointer (some ⟨w.heap.size + 1, 0, none⟩), .pointer (some ⟨w.heap.size + 1 + 1, 0, none⟩), .pointer (some ⟨w.heap.size + 1 + 1 + 1, 0, none⟩), .pointer (some ⟨w.heap.size + 1 + 1 + 1 + 1, 0, none⟩), .pointer (some ⟨w1.heap.size, 0, none⟩), .bool true, .slice y.1.1.1 y.1.1.2.1 y.1.1.2.2, undef, undef, undef, .tuple #[.int .i64 p, .bool true], .agg #[.int .i64 p], .tuple #[.int .i64 p, .bool true], .int .i64 p, .bool true, .bool true, .bool false, .slice A m c, .func (.func 174) #[] #[.pointer (some ⟨w1.heap.size + 1, 0, none⟩)], .slice y.1.1.1 y.1.1.2.1 y.1.1.2.2, undef, undef, undef, undef, undef, undef, undef, undef, undef, undef, undef, undef, undef, undef, undef, undef, undef, undef, undef, undef, undef, undef, undef, undef, undef, undef, undef, undef, undef, undef, undef], defers := [] }) ?assign ?body ?done ?stop
  case assign =>
    intro l y W K hK
    gi_wp2
    exact hK
  case body =>
    rintro l pre ⟨⟨⟨A1, n1, c1⟩, row⟩, hI1, hn1, hmem⟩ W ⟨hKB, hB⟩ hlt
    dsimp only at hI1 hn1 hmem
    have hd : 1 ≤ 5 - 1 - 1 := by omega
    have hrow := HR.out row hmem
    have hcp : W.cell? ⟨w1.heap.size, 0, none⟩ = some (.int .i64 p) := ((hKB.blk (by omega) (by omega) bP).cell 0).trans rfl
    have hWs := hKB.1
    have hIW : Ints W W.heap.size A1 n1 row := (hI1.keepsB hKB (by omega) (by omega)).more (by omega)
    have HA := Lib.hid hrow.1
    clear hrow
    gi_wp2_with (refine ⟨trivial, ?_⟩; gi_at_call 119; refine (CallsIn.inRound l (callsIn_wide.2 (all_any p A1 n1 c1 row _ hIW (by omega)))).mono ?_; rintro e W5 ⟨rfl, hb5⟩; rw [HA.out])
    exact ⟨(KeepsOthers.ofBelow hb5).from _, KeepsB.ofBelow hb5 (by omega), hKB.trans (KeepsB.ofBelow hb5 (by omega)), hB.trans (hb5.mono hB.size)⟩
  case done =>
    rintro D ys W hD hS ⟨hKB, hB⟩ hK
    have hWs := hKB.1
    have gP := hKB.blk (by omega) (by omega) bP
    have g1 := hKB.blk (by omega) (by omega) z1
    have g2 := hKB.blk (by omega) (by omega) z2
    have g3 := hKB.blk (by omega) (by omega) z3
    have g4 := hKB.blk (by omega) (by omega) z4
    have hc1 : W.cell? ⟨w.heap.size + 1, 0, none⟩ = some (.slice A m c) := (g1.cell 0).trans rfl
    have hDW : D < W.heap.size := (Array.getElem?_eq_some_iff.1 hK).1
    have hm0 : ¬ ((m : Int) = 0) := by omega
    have hKn := Lib.hid hK
    have hBn := Lib.hid hB
    clear hK hB hKB hS
    gi_wp2_with (refine ⟨trivial, ?_⟩; gi_at_call 153; refine (callsIn_wide.2 (each_any A m c _)).mono ?_; rintro e w' ⟨rfl, rfl⟩)
    obtain ⟨W6, hW6⟩ : ∃ W6, W.alloc (.cells #[.slice A m c] 25) = W6 := ⟨_, rfl⟩
    have hsz6 : W6.heap.size = W.heap.size + 1 := by rw [← hW6]; simp
    have bL6 : Blk W6 W.heap.size 25 #[.slice A m c] := by rw [← hW6]; exact Blk.new _ _ _
    have hB6w : Below W.heap.size W W6 := by rw [← hW6]; exact bbox _
    have hB6 : Below w.heap.size w W6 := hBn.out.trans (hB6w.mono hBn.out.size)
    have hM6 : Mat W6 lo w.heap.size A m rows := hM.below hB6
    have k7 := gP.below hB6w gP.lt
    have k1 := g1.below hB6w g1.lt
    have k2 := g2.below hB6w g2.lt
    have k3 := g3.below hB6w g3.lt
    have k4 := g4.below hB6w g4.lt
    have hK6 : W6.heap[D]? = some (.deferred (some [])) := (hB6w.block D hDW).trans hKn.out
    rw [hW6]
    clear hW6 hc1 gP g1 g2 g3 g4 hBn hKn
    obtain ⟨b, off, A0, n0, c0, rfl, _, hb0, hcell0, hn0, hI0, _⟩ := hM6.at_ (j := 0) (by omega)
    have hrow0 := HR.out _ (getD_mem2 (d := []) (k := 0) (by rw [HM.out]; omega))
    obtain rfl : n0 = n := by rw [← hI0.len]; exact hrow0.2
    rw [Nat.add_zero] at hcell0
    clear hrow0 hI0
    refine wpIn_rangeFunc_ownG (α := RowElt W6 w.heap.size rows) rfl (by omega) (gf := 174) (lb := #[.pointer (some ⟨W.heap.size, 0, none⟩)]) rfl trivial (enters_of Try.func174 (by kernel_rfl) rfl)
      (encs := fun y : RowElt W6 w.heap.size rows => #[Value.slice y.1.1.1 y.1.1.2.1 y.1.1.2.2]) (Kp := KeepsB (W.heap.size + 1) w.heap.size) (S := fun ys => rowsOf ys = rows) (Sp := fun pre => ∃ k, rowsOf pre = rows.take k) (N := rows.length) (w0 := W6)
      (fun l J Jx W2 hW hJ _ hY h0 => each1_in _ (by omega) l W.heap.size (W.heap.size + 1) w.heap.size m lo w.heap.size (some ⟨b, off, none⟩) c rows W6 (by omega) J Jx hY W2 hW (by omega) (by omega) (by omega) (by omega) (by omega) ((hW.cell (p := ⟨W.heap.size, 0, none⟩) (by show W.heap.size < W6.heap.size; omega)).trans ((bL6.cell 0).trans rfl)) hM6 h0)
      KeepsB.trans (KeepsB.put (by omega)) (Below.refl _ _) (fun _ => rfl)
      (fun pre W2 => KeepsB (W.heap.size + 1) w.heap.size W6 W2 ∧ Below w.heap.size w W2)
      (fun cc pre W2 => False)
      (OwnFrom.and (ownFrom_keepsB (by omega) (by omega)) (ownFrom_below (Nat.le_refl _) (by omega)))
      (fun cc s W2 W' row hs hg hr => hs.elim)
      ⟨KeepsB.refl _ _ _, hB6⟩
      (fun y => { tmps := #[.agg #[.int .i64 p], .slice (some ⟨b, off, none⟩) m c, .pointer (some ⟨w.heap.size, 0, none⟩), .pointer (some ⟨w.heap.size + 1, 0, none⟩), .pointer (some ⟨w.heap.size + 1 + 1, 0, none⟩), .pointer (some ⟨w.heap.size + 1 + 1 + 1, 0, none⟩), .pointer (some ⟨w.heap.size + 1 + 1 + 1 + 1, 0, none⟩), .pointer (some ⟨w1.heap.size, 0, none⟩), .bool true, undef, .slice y.1.1.1 y.1.1.2.1 y.1.1.2.2, undef, undef, .tuple #[.int .i64 p, .bool true], .agg #[.int .i64 p], .tuple #[.int .i64 p, .bool true], .int .i64 p, .bool true, .bool true, .bool false, .slice (some ⟨b, off, none⟩) m c, .func (.func 174) #[] #[.pointer (some ⟨w1.heap.size + 1, 0, none⟩)], undef, undef, undef, undef, undef, .slice (some ⟨b, off, none⟩) m c, .int .i64 m, .bool false, .slice (some ⟨b, off, none⟩) m c, .func (.func 174) #[] #[.pointer (some ⟨W.heap.size, 0, none⟩)], .slice y.1.1.1 y.1.1.2.1 y.1.1.2.2, undef, undef, undef, undef, undef, undef, undef, undef, undef, undef, undef, undef, undef, undef, undef, undef, undef, undef, undef, undef, undef], defers := [] }) ?assign2 ?body2 ?done2 ?stop2
    case assign2 =>
      intro l y W2 K hK
      gi_wp2
      exact hK
    case body2 =>
      rintro l pre ⟨⟨⟨A1, n1, c1⟩, row⟩, hI1, hn1, hmem⟩ W2 ⟨hKB, hB2⟩ hlt
      dsimp only at hI1 hn1 hmem
      have hd : 1 ≤ 5 - 1 - 1 := by omega
      have hrow := HR.out row hmem
      obtain rfl : n1 = n0 := by rw [← hI1.len]; exact hrow.2
      have hcp : W2.cell? ⟨w.heap.size + 1, 0, none⟩ = some (.slice (some ⟨b, off, none⟩) m c) := ((hKB.blk (by omega) (by omega) k1).cell 0).trans rfl
      have hcr : W2.cell? ⟨b, off, none⟩ = some (.slice A0 n1 c0) := (hKB.cell (by omega) (by omega)).trans hcell0
      have hm1 : (0 : Int) < (m : Int) := by omega
      clear hrow
      gi_wp2
      exact ⟨(KeepsOthers.ofBelow (Below.refl _ _)).from _, KeepsB.refl _ _ _, hKB, hB2⟩
    case done2 =>
      rintro D2 ys2 W2 hD2 hS2 ⟨hKB, hB2⟩ hK2
      have hW2s := hKB.1
      have j7 := hKB.blk (by omega) (by omega) k7
      have j1 := hKB.blk (by omega) (by omega) k1
      have j2 := hKB.blk (by omega) (by omega) k2
      have j3 := hKB.blk (by omega) (by omega) k3
      have j4 := hKB.blk (by omega) (by omega) k4
      have hKD : W2.heap[D]? = some (.deferred (some [])) := (hKB.2 D (by omega) (by omega)).trans hK6
      have hDW2 : D2 < W2.heap.size := (Array.getElem?_eq_some_iff.1 hK2).1
      have hc7 : W2.drew.cell? ⟨w1.heap.size, 0, none⟩ = some (.int .i64 p) := (j7.cell 0).trans rfl
      have hc1 : W2.drew.cell? ⟨w.heap.size + 1, 0, none⟩ = some (.slice (some ⟨b, off, none⟩) m c) := (j1.cell 0).trans rfl
      have hcb : W2.drew.cell? ⟨b, off, none⟩ = some (.slice A0 n0 c0) := (hKB.cell (by omega) (by omega)).trans hcell0
      have hba : Below W2.drew.heap.size W2.drew (W2.drew.alloc (.cells #[.slice (some ⟨b, off, none⟩) m c] 25)) := bbox _
      have hc7a := (hba.cell (p := ⟨w1.heap.size, 0, none⟩) (by show w1.heap.size < W2.heap.size; omega)).trans hc7
      have hc1a := (hba.cell (p := ⟨w.heap.size + 1, 0, none⟩) (by show w.heap.size + 1 < W2.heap.size; omega)).trans hc1
      have hcba := (hba.cell (p := ⟨b, off, none⟩) (by show b < W2.heap.size; omega)).trans hcb
      have hcm : (W2.drew.alloc (.cells #[.slice (some ⟨b, off, none⟩) m c] 25)).cell? ⟨W2.heap.size, 0, none⟩ = some (.slice (some ⟨b, off, none⟩) m c) := ((Blk.new W2.drew 25 #[.slice (some ⟨b, off, none⟩) m c]).cell 0).trans rfl
      have hMd : Mat W2.drew lo W2.drew.heap.size (some ⟨b, off, none⟩) m rows := (hM.below hB2).more hB2.size
      have hMa := hMd.upto hba
      have hK2n := Lib.hid hK2
      have hKDn := Lib.hid hKD
      have hB2n := Lib.hid hB2
      have hm1 : (0 : Int) < (m : Int) := by omega
      have hm2 : 0 < m := by omega
      clear hK2 hKD hS2 hKB hB2 hMd
      gi_wp2
      refine wpIn_wide.2 ?_
      go_region_held3 (fun w' => w'.cell? ⟨w1.heap.size, 0, none⟩ = some (.int .i64 p) ∧ w'.cell? ⟨w.heap.size + 1, 0, none⟩ = some (.slice (some ⟨b, off, none⟩) m c) ∧ w'.cell? ⟨b, off, none⟩ = some (.slice A0 n0 c0))
        (first | exact ⟨hc7, hc1, hcb⟩ | exact ⟨hc7a, hc1a, hcba⟩ | exact ⟨hc7b, hc1b, hcbb⟩)
        (first
          | (go_at_call 153; refine (each_any (some ⟨b, off, none⟩) m c _).mono ?_; rintro e w' ⟨rfl, rfl⟩)
          | (go_at_call 152; refine (sum_ok p n0 W2.heap.size m c lo (some ⟨b, off, none⟩) rows _ hp (by omega) (by omega) hcm hMa HR.out).mono ?_; rintro e w5 ⟨⟨A5, c5, rfl, hown5⟩, hb5⟩
             rw [HSP.out] at hown5
             have hI5 := hown5.ints
             have hba5 := hba.trans (hb5.mono hba.size)
             have hc7b := (hba5.cell (p := ⟨w1.heap.size, 0, none⟩) (by show w1.heap.size < W2.heap.size; omega)).trans hc7
             have hc1b := (hba5.cell (p := ⟨w.heap.size + 1, 0, none⟩) (by show w.heap.size + 1 < W2.heap.size; omega)).trans hc1
             have hcbb := (hba5.cell (p := ⟨b, off, none⟩) (by show b < W2.heap.size; omega)).trans hcb)
          | (go_at_call 154; refine (one_ok A5 n0 c5 i _ hI5 hi (by omega)).mono ?_; rintro e w' ⟨rfl, rfl⟩))
      all_goals
        first
          | (rename_i hk; refine hk _ _ ?_; clear hk)
          | (rename_i hk _; refine hk _ _ ?_; clear hk)
          | (rename_i hk _ _; refine hk _ _ ?_; clear hk)
          | (rename_i hk _ _ _; refine hk _ _ ?_; clear hk)
          | (rename_i hk _ _ _ _; refine hk _ _ ?_; clear hk)
          | (rename_i hk _ _ _ _ _; refine hk _ _ ?_; clear hk)
          | (rename_i hk _ _ _ _ _ _; refine hk _ _ ?_; clear hk)
          | (rename_i hk _ _ _ _ _ _ _; refine hk _ _ ?_; clear hk)
        have i2 : Blk w5 (w.heap.size + 1 + 1) 3 #[.int .i64 0] := (Blk.drew j2).below hba5 (by show _ < W2.heap.size; omega)
        have i3 : Blk w5 (w.heap.size + 1 + 1 + 1) 4 #[.bool false] := (Blk.drew j3).below hba5 (by show _ < W2.heap.size; omega)
        have i4 : Blk w5 (w.heap.size + 1 + 1 + 1 + 1) 36 #[.int .i64 0] := (Blk.drew j4).below hba5 (by show _ < W2.heap.size; omega)
        have hKE : w5.heap[D2]? = some (.deferred (some [])) := (hba5.block D2 hDW2).trans hK2n.out
        have hKDE : w5.heap[D]? = some (.deferred (some [])) := (hba5.block D (by show _ < W2.heap.size; omega)).trans hKDn.out
        have hB5 : Below w.heap.size w w5 := hB2n.out.drew.trans (hba5.mono hB2n.out.size)
        have hd4 : w5.cell? ⟨w.heap.size + 1 + 1, 0, none⟩ = some (.int .i64 0) := (i2.cell 0).trans rfl
        have hd5 : w5.cell? ⟨w.heap.size + 1 + 1 + 1, 0, none⟩ = some (.bool false) := (i3.cell 0).trans rfl
        have hd6 : w5.cell? ⟨w.heap.size + 1 + 1 + 1 + 1, 0, none⟩ = some (.int .i64 0) := (i4.cell 0).trans rfl
        have hf4 := i2.frozen 0
        have hf5 := i3.frozen 0
        have hf6 := i4.frozen 0
        clear hc7 hc1 hcb hc7a hc1a hcba hc7b hc1b hcbb
        gi_wp2
        have hbl5 := hba5.size
        have hbs5 : W2.heap.size ≤ w5.heap.size := hbl5
        refine leave32 (u := (i : Int)) (v := true) (x := 0) (D := D) (D2 := D2) (B := w.heap.size) (W0 := w) rfl rfl rfl rfl (fun w h => by go_simp) (fun w h => by go_simp) (fun w h => by go_simp) (by omega) (by omega) (by omega) ?_ ?_ ?_ ?_ ?_ ?_ (by omega) (fun w' hb => ⟨rfl, hb⟩)
        · exact (Below.heap_setCell _ _ _ _ (by dsimp only; omega)).trans ((Below.heap_setCell _ _ _ _ (by dsimp only; omega)).trans ((Below.heap_setCell _ _ _ _ (by dsimp only; omega)).trans hKDE))
        · exact (Below.heap_setCell _ _ _ _ (by dsimp only; omega)).trans ((Below.heap_setCell _ _ _ _ (by dsimp only; omega)).trans ((Below.heap_setCell _ _ _ _ (by dsimp only; omega)).trans hKE))
        · go_simp
        · go_simp
        · go_simp
        · exact ((hB5.setCell (by dsimp only; omega) _).setCell (by dsimp only; omega) _).setCell (by dsimp only; omega) _
    case stop2 =>
      rintro D2 cc pre W2 hD2 _ hF
      exact hF.elim
  case stop =>
    rintro D cc pre W hD _ hF
    exact hF.elim
end Go.Proofs.Ytoblofilaegnaaa
