/-
  What code's first hands back: the shares of the first known cells. Conditions: the list of cells reads as its values and marks, few.
-/
import Derived.Test.YtoblofilaegnaaaCode1
namespace Go.Proofs.Ytoblofilaegnaaa
open Go.RowKit Go.Shelf
set_option linter.unusedVariables false
attribute [local go_sem] Oper.semAt_some

theorem wpListIn_append_share {F : Fence} {m0 : Nat} {w : World} {ops : Array Oper} {rest : List Oper} {o : Oper} {a : Act} {Q : Exit → Act → World → Prop} (hgd : o.guard = none) (s x : Operand) (t : TypeId)
    (ho : o.op = .call { callee := .builtin .append, args := #[s, x], argTypes := #[t, t] })
    (ht : Try.prog.underlying t = some (.slice 52)) (base : Nat) (A : Option Addr) (n c : Nat) (us ys : List Int) (hs : a.eval s = .slice A n c) (hown : OwnS w base A n c us ys)
    (b : Nat) (c2 : Nat) (u y : Int) (hx : a.eval x = .slice (some ⟨b, 0, none⟩) 1 c2) (h0 : w.cell? ⟨b, 0, none⟩ = some (.int .i64 u)) (h1 : w.cell? ⟨b, 1, none⟩ = some (.int .i64 y)) (hn : n ≤ 1000000) (hbase : base ≤ w.heap.size)
    (h : ∀ A' c' w', OwnS w' base A' (n + 1) c' (us ++ [u]) (ys ++ [y]) → w.grownBy w' (Value.slice A n c).ownBlock → Below base w w' → wpListIn F m0 Try.prog ops Q rest (a.put o.dst (.slice A' (n + 1) c')) w') : wpListIn F m0 Try.prog ops Q (o :: rest) a w := by
  obtain ⟨i, hi, hz, hsize, hby⟩ := info_parts info_share
  have hl : us.length = ys.length := by rw [hown.1, hown.2.1]
  refine wpListIn_append_own w hgd s x t ho base 52 i _ 2 16 ht hi hz hsize hby rfl (by omega) (.slice A n c) n (shV us ys) hs hown.2.2 ⟨b, 0, none⟩ 1 c2 [.int .i64 u, .int .i64 y] hx rfl (fun j v hj => ?_)
    (fun v hv => by
      simp only [List.mem_cons, List.not_mem_nil, or_false] at hv
      rcases hv with rfl | rfl <;> rfl) (by unfold maxLen; omega) (by omega) hbase ?_
  · match j, hj with
    | 0, hj => simp at hj; subst hj; exact h0
    | 1, hj => simp at hj; subst hj; exact h1
    | j + 2, hj => simp at hj
  · intro v' w' hown' hg hat
    rw [← shV_snoc u y us ys hl] at hown'
    have hb : Below base w w' := (Below.refl base w).grown hg hbase (fun k hk => (World.ownsRow.lt hown.2.2 k hk).1)
    rcases hown'.2 with ⟨hv, hn0⟩ | ⟨g, cap, cur, hv, _⟩
    · omega
    · rw [hv] at hown' ⊢
      exact h _ cap w' ⟨by simp [hown.1], by simp [hown.2.1], hown'⟩ hg hb

/-- What the call itself made lies on where a block that holds no cells turns. -/
theorem OwnS.others {w w' : World} {base n c : Nat} {A : Option Addr} {us ys : List Int} (h : OwnS w base A n c us ys) {row : Option Nat} (hg : w.grownBy w' row) (hr : ∀ r, row = some r → ∃ o : Obj, w.heap[r]? = some o ∧ o.isCells = false) : OwnS w' base A n c us ys := by
  refine ⟨h.1, h.2.1, World.ownsRow.kept h.2.2 hg ?_⟩
  rcases h.2.2.2 with ⟨h0, _⟩ | ⟨g, cap, cur, hv, hgb, hh, _⟩
  · left
    rw [h0]; rfl
  · right
    rw [hv]
    intro e
    obtain ⟨o, ho, hc⟩ := hr g e.symm
    rw [hh] at ho
    injection ho with ho
    subst ho
    cases hc
/-- A store into another block. -/
theorem OwnS.set_ {w : World} {base n c : Nat} {A : Option Addr} {us ys : List Int} (h : OwnS w base A n c us ys) {p : Addr} (hp : p.block < base) (v : Value) : OwnS (w.setCell p v) base A n c us ys := by
  refine ⟨h.1, h.2.1, World.ownsRow.kept (row := some p.block) h.2.2 ⟨rfl, rfl, rfl, by simp [World.setCell], fun k hk hne => Below.heap_setCell w p v k (fun e => hne (by rw [e]))⟩ ?_⟩
  right
  intro e
  have := (World.ownsRow.lt h.2.2 p.block e).1
  omega
theorem KeepsB.belowAt {n₁ gs : Nat} {W A C : World} (h : KeepsB n₁ gs W A) (hb : Below n₁ A C) : KeepsB n₁ gs W C := ⟨Nat.le_trans h.1 hb.size, fun k hk hne => (hb.block k hk).trans (h.2 k hk hne)⟩
theorem KeepsOthers.ofGrown {W W' : World} {row : Option Nat} (hg : W.grownBy W' row) (hrow : ∀ j, row = some j → ∃ o : Obj, W.heap[j]? = some o ∧ o.isCells = true) : KeepsOthers W W' :=
  KeepsOthers.of_grownBy hg fun j o e ho => by
    obtain ⟨o', ho', hc⟩ := hrow j e
    rw [ho] at ho'
    injection ho' with e
    rw [e]; exact hc
theorem OwnS.cellsRow {w : World} {base n c : Nat} {A : Option Addr} {us ys : List Int} (h : OwnS w base A n c us ys) : ∀ j, (Value.slice A n c).ownBlock = some j → ∃ o : Obj, w.heap[j]? = some o ∧ o.isCells = true := by
  intro j e
  rcases h.2.2.2 with ⟨h0, _⟩ | ⟨g, cap, cur, hv, hgb, hh, _⟩
  · rw [h0] at e; cases e
  · rw [hv] at e
    injection e with e
    subst e
    exact ⟨_, hh, rfl⟩

set_option maxRecDepth 100000 in
set_option maxHeartbeats 4000000 in
theorem first_ok (A : Option Addr) (m c k : Nat) (vs : List Int) (bs : List Bool) (w : World) (h : Cel w w.heap.size A m vs bs) (hm : m ≤ 32) (hk : k ≤ 1000) :
    Calls Try.prog 146 #[.slice A m c, .int .i64 k] w fun e w' => (∃ A' c', e = .returned (.slice A' ((knL vs bs).take k).length c') ∧ OwnS w' w.heap.size A' ((knL vs bs).take k).length c' (ptK ((knL vs bs).take k)) (vlK ((knL vs bs).take k))) ∧ Below w.heap.size w w' := by
  have hl := h.1
  refine (callsIn_wide (n := 5)).1 ?_
  refine callsIn_of_wp_marks Try.func146 rfl trivial ?_ rfl
  simp only [Try.ntmps146, List.size_toArray, List.length_cons, List.length_nil, Nat.reduceAdd, Nat.reduceSub, Array.replicate_succ, Array.replicate_zero, List.push_toArray, List.append_toArray, List.nil_append, List.cons_append]
  gi_wp2_with (refine ⟨trivial, ?_⟩; gi_at_call 149; refine (callsIn_wide.2 (known_any A m c _)).mono ?_; rintro e w' ⟨rfl, rfl⟩)
  obtain ⟨W4, hW4⟩ : ∃ W4, ((w.alloc (.cells #[.int .i64 k] 3)).alloc (.cells #[.slice none 0 0] 50)).alloc (.cells #[.slice A m c] 77) = W4 := ⟨_, rfl⟩
  have hsz : W4.heap.size = w.heap.size + 3 := by rw [← hW4]; simp
  have hB3 := blk3 w 3 50 77 #[.int .i64 k] #[.slice none 0 0] #[.slice A m c]
  rw [hW4] at hB3
  obtain ⟨bK, bO, bL⟩ := hB3
  have hB0 : Below w.heap.size w W4 := by rw [← hW4]; exact ballocs (ballocs (bbox _) _) _
  have hC4 : Cel W4 (w.heap.size + 1) A m vs bs := (h.below hB0).more (by omega)
  rw [hW4]
  clear hW4
  refine wpIn_rangeFunc_ownG (α := KnElt vs bs) rfl (by omega) (gf := 173) (lb := #[.pointer (some ⟨w.heap.size + 1 + 1, 0, none⟩)]) rfl trivial (enters_of Try.func173 (by kernel_rfl) rfl)
    (encs := fun y : KnElt vs bs => #[Value.int .i64 y.1.1, Value.int .i64 y.1.2]) (Kp := KeepsB (w.heap.size + 3) (w.heap.size + 1)) (S := fun ys => eltsOf ys = knL vs bs) (Sp := fun pre => ∃ k, eltsOf pre = (knL vs bs).take k) (N := (knL vs bs).length) (w0 := W4)
    (fun l J Jx W hW hJ _ hY h0 => known1_in _ (by omega) l (w.heap.size + 1 + 1) (w.heap.size + 3) (w.heap.size + 1) m A c vs bs (by omega) J Jx hJ hY W (by have := hW.size; omega) (by omega) (by omega) (by omega) ((hW.cell (p := ⟨w.heap.size + 1 + 1, 0, none⟩) (by simp; omega)).trans ((bL.cell 0).trans rfl)) (hC4.below (hW.mono (by omega))) h0)
    KeepsB.trans (KeepsB.put (by omega)) (Below.refl _ _) (fun _ => rfl)
    (fun pre W => KeepsB (w.heap.size + 3) (w.heap.size + 1) W4 W ∧ (∃ L lc, W.cell? ⟨w.heap.size + 1, 0, none⟩ = some (.slice L pre.length lc) ∧ W.frozen? ⟨w.heap.size + 1, 0, none⟩ = false ∧ OwnS W (w.heap.size + 3) L pre.length lc (ptK (eltsOf pre)) (vlK (eltsOf pre))) ∧ pre.length ≤ k ∧ Below w.heap.size w W)
    (fun cc pre W => cc = .exit 0 ∧ KeepsB (w.heap.size + 3) (w.heap.size + 1) W4 W ∧ (∃ L lc, W.cell? ⟨w.heap.size + 1, 0, none⟩ = some (.slice L k lc) ∧ OwnS W (w.heap.size + 3) L k lc (ptK ((eltsOf pre).take k)) (vlK ((eltsOf pre).take k))) ∧ pre.length = k + 1 ∧ Below w.heap.size w W)
    (fun s W W' row hs hg hr => by
      obtain ⟨h1, ⟨L, lc, h2, h3, h4⟩, h5, h6⟩ := hs
      have hr2 : ∀ r, row = some r → ∃ o : Obj, W.heap[r]? = some o ∧ o.isCells = false := fun r e => (hr r e).2
      exact ⟨ownFrom_keepsB (β := Unit) (by omega) (by omega) () W W' row h1 hg hr, ⟨L, lc, cell_kept h2 hg hr2, (frozen_kept h2 hg hr2).trans h3, h4.others hg hr2⟩, h5, ownFrom_below (β := Unit) (Nat.le_refl _) (by omega) () W W' row h6 hg hr⟩)
    (fun cc s W W' row hs hg hr => by
      obtain ⟨h0, h1, ⟨L, lc, h2, h4⟩, h5, h6⟩ := hs
      have hr2 : ∀ r, row = some r → ∃ o : Obj, W.heap[r]? = some o ∧ o.isCells = false := fun r e => (hr r e).2
      exact ⟨h0, ownFrom_keepsB (β := Unit) (by omega) (by omega) () W W' row h1 hg hr, ⟨L, lc, cell_kept h2 hg hr2, h4.others hg hr2⟩, h5, ownFrom_below (β := Unit) (Nat.le_refl _) (by omega) () W W' row h6 hg hr⟩)
    ⟨KeepsB.refl _ _ _, ⟨none, 0, (bO.cell 0).trans rfl, bO.frozen 0, OwnS.nil_⟩, Nat.zero_le _, hB0⟩
    (fun y => { tmps := #[.slice A m c, .int .i64 k, undef, .pointer (some ⟨w.heap.size, 0, none⟩), .slice none 0 0, .pointer (some ⟨w.heap.size + 1, 0, none⟩), .int .i64 y.1.1, .int .i64 y.1.2, .slice A m c, .func (.func 173) #[] #[.pointer (some ⟨w.heap.size + 1 + 1, 0, none⟩)], .int .i64 y.1.1, .int .i64 y.1.2, undef, undef, undef, undef, undef, undef, undef, undef, undef, undef, undef], defers := [] }) ?assign ?body ?done ?stop
  case assign =>
    intro l y W K hK
    gi_wp2
    exact hK
  case body =>
    rintro l pre y W ⟨hKB, ⟨L, lc, hcO, hfO, hO⟩, hlen, hB⟩ hlt
    have hd : 1 ≤ 5 - 1 - 1 := by omega
    have hcK : W.cell? ⟨w.heap.size, 0, none⟩ = some (.int .i64 k) := ((hKB.blk (by omega) (by omega) bK).cell 0).trans rfl
    have hkl := knL_len vs bs
    have hWs := hKB.1
    by_cases hq : pre.length = k
    · have hqi : (pre.length : Int) = (k : Int) := by omega
      have HT : Hid ((eltsOf (pre ++ [y])).take k = eltsOf pre) := Lib.hid (by rw [eltsOf_snoc, List.take_left' (by rw [eltsOf_len]; exact hq)])
      gi_wp2
      exact ⟨KeepsFrom.refl _ _, rfl, hKB, ⟨L, lc, by rw [hcO, hq], by rw [HT.out, ← hq]; exact hO⟩, by simp [hq], hB⟩
    · have hqi : ¬ ((pre.length : Int) = (k : Int)) := by omega
      have hOa := hO.belowAll (bbox (.cells #[.int .i64 y.1.1, .int .i64 y.1.2] 52))
      have hNa := Blk.new W 52 #[.int .i64 y.1.1, .int .i64 y.1.2]
      have hBa : Below (w.heap.size + 3) W (W.alloc (.cells #[.int .i64 y.1.1, .int .i64 y.1.2] 52)) := (Below.refl _ W).alloc (by omega) _
      gi_wp2_with (gi_at_builtin; refine wpListIn_append_share rfl _ _ 50 rfl Try.underlying50 (w.heap.size + 3) L pre.length lc (ptK (eltsOf pre)) (vlK (eltsOf pre)) rfl hOa W.heap.size 1 y.1.1 y.1.2 rfl ((hNa.cell 0).trans rfl) ((hNa.cell 1).trans rfl) (by omega) (by have := hBa.size; omega) ?_; intro L2 lc2 W2 hO2 hg2 hb2; have hcO2 : W2.cell? ⟨w.heap.size + 1, 0, none⟩ = some (.slice L pre.length lc) := ((hBa.trans hb2).cell (p := ⟨w.heap.size + 1, 0, none⟩) (by show w.heap.size + 1 < w.heap.size + 3; omega)).trans hcO; have hfO2 : W2.frozen? ⟨w.heap.size + 1, 0, none⟩ = false := (World.frozen?_of_block (a := ⟨w.heap.size + 1, 0, none⟩) ((hBa.trans hb2).block (w.heap.size + 1) (by omega))).trans hfO)
      have hpl : (pre ++ [y]).length = pre.length + 1 := by simp
      have hBn := (hBa.trans hb2)
      refine ⟨(((KeepsOthers.alloc W _).trans (KeepsOthers.ofGrown hg2 hOa.cellsRow)).trans (KeepsOthers.setCell _ _ _)).from _, ((KeepsB.refl _ _ W).belowAt hBn).setGs 0 _, (hKB.belowAt hBn).setGs 0 _, ⟨L2, lc2, (World.cell?_setCell_same' _ _ _ (by rw [hcO2]; rfl)).trans (by rw [hpl]), (World.frozen?_setCell _ _ _ _).trans hfO2, ?_⟩, by rw [hpl]; omega, (hB.trans (hBn.mono (by omega))).setCell (p := ⟨w.heap.size + 1, 0, none⟩) (by simp) _⟩
      rw [hpl, eltsOf_snoc]
      have h1 : ptK (eltsOf pre ++ [y.1]) = ptK (eltsOf pre) ++ [y.1.1] := by simp [ptK]
      have h2 : vlK (eltsOf pre ++ [y.1]) = vlK (eltsOf pre) ++ [y.1.2] := by simp [vlK]
      rw [h1, h2]
      exact hO2.set_ (p := ⟨w.heap.size + 1, 0, none⟩) (by simp) _
  case done =>
    rintro D ys W hD hS ⟨hKB, ⟨L, lc, hcO, hfO, hO⟩, hlen, hB⟩ hK
    have hyl : (knL vs bs).length = ys.length := by rw [← hS, eltsOf_len]
    have htk : (knL vs bs).take k = knL vs bs := List.take_of_length_le (by omega)
    gi_wp2
    refine ⟨by simp, .inl ⟨_, _, rfl, run_takeDeferred hK, ?_⟩⟩
    refine ⟨_, results_tmp rfl _ _ _, ⟨L, lc, ?_, ?_⟩, hB.trans (belowK_b (w := w) (Nat.le_refl _) W D _ _ (by omega) hK rfl rfl)⟩
    · rw [htk, hyl]; rfl
    · rw [htk, hyl, ← hS]
      exact (hO.others (grownBy_putObj' W D _) (fun r e => by cases e; exact ⟨_, hK, rfl⟩)).base (by omega)
  case stop =>
    rintro D cc pre W hD ⟨q, hq⟩ ⟨rfl, hKB, ⟨L, lc, hcO, hO⟩, hlen, hB⟩ hK
    have hpl : ((knL vs bs).take q).length = k + 1 := by rw [← hq, eltsOf_len]; exact hlen
    rw [List.length_take] at hpl
    have hkl2 : ((knL vs bs).take k).length = k := by rw [List.length_take]; omega
    have htk : (eltsOf pre).take k = (knL vs bs).take k := by rw [hq, List.take_take, Nat.min_eq_left (by omega)]
    rw [htk] at hO
    gi_wp2
    refine ⟨by simp, .inl ⟨_, _, rfl, run_takeDeferred hK, ?_⟩⟩
    refine ⟨_, results_tmp rfl _ _ _, ⟨L, lc, ?_, ?_⟩, hB.trans (belowK_b (w := w) (Nat.le_refl _) W D _ _ (by omega) hK rfl rfl)⟩
    · rw [hkl2]; rfl
    · rw [hkl2]
      exact (hO.others (grownBy_putObj' W D _) (fun r e => by cases e; exact ⟨_, hK, rfl⟩)).base (by omega)
end Go.Proofs.Ytoblofilaegnaaa
