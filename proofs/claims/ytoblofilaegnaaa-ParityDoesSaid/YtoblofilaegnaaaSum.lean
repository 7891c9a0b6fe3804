/-
  What parity's sum hands back: the rows of an iterator over a matrix added up. Conditions: the rows read as their numbers, all of them elements, of one length.
-/
import Derived.Test.YtoblofilaegnaaaEach
import Derived.Test.YtoblofilaegnaaaAddT
import Derived.Test.YtoblofilaegnaaaUnitV
import Derived.Test.YtoblofilaegnaaaPlain
namespace Go.Proofs.Ytoblofilaegnaaa
open Go.RowKit Go.Shelf
set_option linter.unusedVariables false
attribute [local go_sem] Oper.semAt_some

theorem wpListIn_make_full {F : Fence} {m0 : Nat} {P : Program} (w : World) {ops : Array Oper} {rest : List Oper} {o : Oper} {a : Act} {Q : Exit → Act → World → Prop}
    (hg : o.guard = none) (l c : Operand) (t : TypeId) (hop : o.op = Op.makeSlice t l c)
    (base : Nat) (e : TypeId) (i : TypeInfo) (z : Value) (size : Nat) (h1 : P.underlying t = some (.slice e)) (h2 : P.info? e = some i) (h3 : i.zero = some z) (h4 : i.size = size)
    (kl kc : IntKind) (L C : Int) (n : Nat) (hl : a.eval l = .int kl L) (hc : a.eval c = .int kc C) (hL : L = (n : Int)) (hC : C = (n : Int)) (b2 : i.bytes * n ≤ 281474976710656) (b3 : n ≤ maxLen) (b4 : base ≤ w.heap.size)
    (hK : ∀ w', w'.ownsRow base e size (.slice (some ⟨w.heap.size, 0, none⟩) n n) n (madeCells z.cells (n * size)).toList → w.grownBy w' none → wpListIn F m0 P ops Q rest (a.put o.dst (.slice (some ⟨w.heap.size, 0, none⟩) n n)) w') :
    wpListIn F m0 P ops Q (o :: rest) a w := by
  refine wpListIn_plain hg fun K hK' => ?_
  obtain ⟨w', hrun, r1, r2⟩ := run_make_full (P := P) w base t e i z size h1 h2 h3 h4 kl kc n b2 b3 b4
  subst hL
  subst hC
  unfold Oper.wpIn
  refine ⟨?_, ?_⟩
  · simp [Oper.about, hop]
  · rw [Oper.semAt_plain F _ _ (by rw [hop]; intro c hc'; cases hc')]
    simp [execOp, hop, hl, hc, hrun, Result.andThen]
    exact hK' _ _ (hK w' r1 r2)

/-- What the call itself made lies on where a block that holds no cells turns. -/
theorem OwnI.others {w w' : World} {base n c : Nat} {e : TypeId} {A : Option Addr} {xs : List Int} (h : OwnI w base e A n c xs) {row : Option Nat} (hg : w.grownBy w' row) (hr : ∀ r, row = some r → ∃ o : Obj, w.heap[r]? = some o ∧ o.isCells = false) : OwnI w' base e A n c xs := by
  refine World.ownsRow.kept h hg ?_
  rcases h.2 with ⟨h0, _⟩ | ⟨g, cap, cur, hv, hgb, hh, _⟩
  · left
    rw [h0]; rfl
  · right
    rw [hv]
    intro e
    obtain ⟨o, ho, hc⟩ := hr g e.symm
    rw [hh] at ho
    injection ho with ho
    subst ho
    cases hc
theorem OwnI.isRow {w : World} {base n c : Nat} {e : TypeId} {g : Nat} {xs : List Int} (h : OwnI w base e (some ⟨g, 0, none⟩) n c xs) : ∃ o : Obj, w.heap[g]? = some o ∧ o.isCells = true := by
  rcases h.2 with ⟨h0, _⟩ | ⟨g', cap, cur, hv, hgb, hh, _⟩
  · cases h0
  · injection hv with hv
    injection hv with hv
    injection hv with hv _ _
    subst hv
    exact ⟨_, hh, rfl⟩
theorem KeepsOthers.ofGrown {W W' : World} {row : Option Nat} (hg : W.grownBy W' row) (hrow : ∀ j, row = some j → ∃ o : Obj, W.heap[j]? = some o ∧ o.isCells = true) : KeepsOthers W W' :=
  KeepsOthers.of_grownBy hg fun j o e ho => by
    obtain ⟨o', ho', hc⟩ := hrow j e
    rw [ho] at ho'
    injection ho' with e
    rw [e]; exact hc
theorem KeepsB.step {n₁ g : Nat} {W W' : World} (h : Step g W W') (hn : n₁ ≤ W.heap.size) : KeepsB n₁ g W W' := KeepsB.grown h hn
theorem Ints.keepsB {n₁ g B n : Nat} {W W' : World} {A : Option Addr} {xs : List Int} (h : Ints W B A n xs) (hk : KeepsB n₁ g W W') (hB : B ≤ n₁) (hg : B ≤ g) : Ints W' B A n xs :=
  h.keep fun p hp => World.cell?_of_block (hk.2 p.block (by omega) (by omega))

set_option maxRecDepth 100000 in
set_option maxHeartbeats 4000000 in
theorem sum_ok (p : Int) (n Bs m cap lo : Nat) (A : Option Addr) (rows : List (List Int)) (w : World) (hp : 2 ≤ p ∧ p ≤ 65521) (hn : n ≤ 17592186044416) (hm : m ≤ 17592186044416) (hBs : w.cell? ⟨Bs, 0, none⟩ = some (.slice A m cap)) (hM : Mat w lo w.heap.size A m rows) (hr : ∀ r ∈ rows, allP p r = true ∧ r.length = n) :
    Calls Try.prog 152 #[.int .i64 p, .int .i64 n, .func (.func 174) #[] #[.pointer (some ⟨Bs, 0, none⟩)]] w fun e w' =>
      (∃ A' c', e = .returned (.slice A' n c') ∧ OwnI w' w.heap.size 3 A' n c' (plusL p n rows)) ∧ Below w.heap.size w w' := by
  obtain ⟨i0, hi0, hz0, hz1, hz2⟩ := info_parts info_int
  have HR := Lib.hid hr
  have hBl : Bs < w.heap.size := World.block_lt_of_cell? w _ hBs
  clear hr
  have hbx : Below w.heap.size w (w.alloc (.cells #[.int .i64 p] 126)) := bbox _
  have hFx := Blk.new w 126 #[.int .i64 p]
  refine (callsIn_wide (n := 5)).1 ?_
  refine callsIn_of_wp_marks Try.func152 rfl trivial ?_ rfl
  simp only [Try.ntmps152, List.size_toArray, List.length_cons, List.length_nil, Nat.reduceAdd, Nat.reduceSub, Array.replicate_succ, Array.replicate_zero, List.push_toArray, List.append_toArray, List.nil_append, List.cons_append]
  gi_wp2_with (gi_at_make; refine wpListIn_make_full _ rfl _ _ 22 rfl (w.heap.size + 1) 3 i0 (.int .i64 0) 1 Try.underlying22 hi0 hz0 hz1 .i64 .i64 n n n rfl rfl rfl rfl (by rw [hz2]; omega) (by unfold maxLen; omega) (by simp) ?_; intro w2 hown hgr; rw [made_zeros, World.size_alloc] at hown; have hown2 : OwnI w2 (w.heap.size + 1) 3 (some ⟨w.heap.size + 1, 0, none⟩) n n (List.replicate n 0) := hown; have hb2 := hbx.grown hgr hbx.size (fun k hk => by cases hk); have hF2 := hFx.grown hgr (by simp); clear hown hgr)
  have hg2 : w.heap.size + 1 < w2.heap.size := (World.ownsRow.lt hown2 _ rfl).2
  obtain ⟨W4, hW4⟩ : ∃ W4, w2.alloc (.cells #[.slice (some ⟨w.heap.size + 1, 0, none⟩) n n] 22) = W4 := ⟨_, rfl⟩
  have hsz : W4.heap.size = w2.heap.size + 1 := by rw [← hW4]; simp
  have bF : Blk W4 w.heap.size 126 #[.int .i64 p] := by rw [← hW4]; exact hF2.alloc _
  have bO : Blk W4 w2.heap.size 22 #[.slice (some ⟨w.heap.size + 1, 0, none⟩) n n] := by rw [← hW4]; exact Blk.new _ _ _
  have hB0 : Below w.heap.size w W4 := by rw [← hW4]; exact ballocs hb2 _
  have hown4 : OwnI W4 (w.heap.size + 1) 3 (some ⟨w.heap.size + 1, 0, none⟩) n n (List.replicate n 0) := by rw [← hW4]; exact hown2.alloc _
  have hM4 : Mat W4 lo w.heap.size A m rows := hM.below hB0
  have hBs4 : W4.cell? ⟨Bs, 0, none⟩ = some (.slice A m cap) := (hB0.cell (p := ⟨Bs, 0, none⟩) hBl).trans hBs
  have HM := Lib.hid hM.len
  clear hM hBs hF2 hb2 hbx hFx hown2
  rw [hW4]
  clear hW4
  refine wpIn_rangeFunc_ownG (α := RowElt W4 w.heap.size rows) rfl (by omega) (gf := 174) (lb := #[.pointer (some ⟨Bs, 0, none⟩)]) rfl trivial (enters_of Try.func174 (by kernel_rfl) rfl)
    (encs := fun y : RowElt W4 w.heap.size rows => #[Value.slice y.1.1.1 y.1.1.2.1 y.1.1.2.2]) (Kp := KeepsB (w2.heap.size + 1) (w.heap.size + 1)) (S := fun ys => rowsOf ys = rows) (Sp := fun pre => ∃ k, rowsOf pre = rows.take k) (N := rows.length) (w0 := W4)
    (fun l J Jx W hW hJ _ hY h0 => each1_in _ (by omega) l Bs (w2.heap.size + 1) (w.heap.size + 1) m lo w.heap.size A cap rows W4 hm J Jx hY W hW (by omega) (by omega) (by omega) (by omega) (by omega) ((hW.cell (p := ⟨Bs, 0, none⟩) (by show Bs < W4.heap.size; omega)).trans hBs4) hM4 h0)
    KeepsB.trans (KeepsB.put (by omega)) (Below.refl _ _) (fun _ => rfl)
    (fun pre W => KeepsB (w2.heap.size + 1) (w.heap.size + 1) W4 W ∧ OwnI W (w.heap.size + 1) 3 (some ⟨w.heap.size + 1, 0, none⟩) n n (plusL p n (rowsOf pre)) ∧ Below w.heap.size w W)
    (fun cc pre W => False)
    (fun s W W' row hs hg hr => by
      obtain ⟨h1, h2, h3⟩ := hs
      have hr2 : ∀ r, row = some r → ∃ o : Obj, W.heap[r]? = some o ∧ o.isCells = false := fun r e => (hr r e).2
      exact ⟨ownFrom_keepsB (β := Unit) (by omega) (by omega) () W W' row h1 hg hr, h2.others hg hr2, ownFrom_below (β := Unit) (Nat.le_refl _) (by omega) () W W' row h3 hg hr⟩)
    (fun cc s W W' row hs hg hr => hs.elim)
    ⟨KeepsB.refl _ _ _, hown4, hB0⟩
    (fun y => { tmps := #[.int .i64 p, .int .i64 n, .func (.func 174) #[] #[.pointer (some ⟨Bs, 0, none⟩)], .pointer (some ⟨w.heap.size, 0, none⟩), undef, undef, .slice none 0 0, .pointer (some ⟨w2.heap.size, 0, none⟩), .slice y.1.1.1 y.1.1.2.1 y.1.1.2.2, .int .i64 n, .slice (some ⟨w.heap.size + 1, 0, none⟩) n n, .func (.func 174) #[] #[.pointer (some ⟨Bs, 0, none⟩)], .slice y.1.1.1 y.1.1.2.1 y.1.1.2.2, undef, undef, undef, undef, undef], defers := [] }) ?assign ?body ?done ?stop
  case assign =>
    intro l y W K hK
    gi_wp2
    exact hK
  case body =>
    rintro l pre ⟨⟨⟨A1, n1, c1⟩, row⟩, hI1, hn1, hmem⟩ W ⟨hKB, hO, hB⟩ hlt
    dsimp only at hI1 hn1 hmem
    have hd : 1 ≤ 5 - 1 - 1 := by omega
    have hrow := HR.out row hmem
    obtain rfl : n1 = n := by rw [← hI1.len]; exact hrow.2
    have hcF : W.cell? ⟨w.heap.size, 0, none⟩ = some (.int .i64 p) := ((hKB.blk (by omega) (by omega) bF).cell 0).trans rfl
    have hcO : W.cell? ⟨w2.heap.size, 0, none⟩ = some (.slice (some ⟨w.heap.size + 1, 0, none⟩) n1 n1) := ((hKB.blk (by omega) (by omega) bO).cell 0).trans rfl
    have hWs := hKB.1
    have hIW : Ints W w.heap.size A1 n1 row := hI1.keepsB hKB (by omega) (by omega)
    have HA := Lib.hid hrow.1
    have HLG : Hid (∀ b off s, A1 = some ⟨b, off, s⟩ → 0 < n1 → b ≠ w.heap.size + 1) := Lib.hid fun b off s e h0 => by
      subst e
      have := hIW.lt h0
      omega
    have HPA : Hid (allP p (plusL p n1 (rowsOf pre)) = true) := Lib.hid (plusL_all hp.1 _ _)
    have HS : Hid (∀ z : RowElt W4 w.heap.size rows, z.1.2 = row → plusL p n1 (rowsOf (pre ++ [z])) = zipI (timesP p 1) (plusL p n1 (rowsOf pre)) row) := Lib.hid fun z e => by rw [rowsOf_snoc, plusL_snoc, e]
    clear hrow
    gi_wp2_with (refine ⟨trivial, ?_⟩; gi_at_call 127; refine (CallsIn.inRound l (callsIn_wide.2 (addTimes_any p 1 (w.heap.size + 1) n1 n1 c1 A1 (plusL p n1 (rowsOf pre)) row _ hp (by omega) hO hIW HLG.out HPA.out HA.out (by omega)))).mono ?_; rintro e W5 ⟨rfl, hO5, hS5⟩)
    have hB5 := Step.below hB hS5 hB.size (by omega)
    refine ⟨(KeepsOthers.ofGrown hS5 (fun j e => by cases e; exact hO.isRow)).from _, KeepsB.step hS5 (by omega), hKB.trans (KeepsB.step hS5 (by omega)), ?_, hB5⟩
    exact Eq.mpr (congrArg (OwnI W5 (w.heap.size + 1) 3 (some ⟨w.heap.size + 1, 0, none⟩) n1 n1) (HS.out ⟨((A1, n1, c1), row), hI1, hn1, hmem⟩ rfl)) hO5
  case done =>
    rintro D ys W hD hS ⟨hKB, hO, hB⟩ hK
    have hcO : W.cell? ⟨w2.heap.size, 0, none⟩ = some (.slice (some ⟨w.heap.size + 1, 0, none⟩) n n) := ((hKB.blk (by omega) (by omega) bO).cell 0).trans rfl
    gi_wp2
    refine ⟨by simp, .inl ⟨_, _, rfl, run_takeDeferred hK, ?_⟩⟩
    refine ⟨_, results_tmp rfl _ _ _, ⟨some ⟨w.heap.size + 1, 0, none⟩, n, rfl, ?_⟩, hB.trans (belowK_b (w := w) (Nat.le_refl _) W D _ _ (by omega) hK rfl rfl)⟩
    rw [← hS]
    exact (hO.others (grownBy_putObj' W D _) (fun r e => by cases e; exact ⟨_, hK, rfl⟩)).base (by omega)
  case stop =>
    rintro D cc pre W hD _ hF
    exact hF.elim
end Go.Proofs.Ytoblofilaegnaaa
