/-
  Words for memory and contracts of small functions of the second form. Conditions: those of each lemma.
-/
import Derived.Test.YtnjdjcgandfnfaaDoorKnown
import Derived.Test.YtnjdjcgandfnfaaDoorDeck
import Derived.Test.YtnjdjcgandfnfaaDoorGRef
import Derived.Test.YtnjdjcgandfnfaaDoorOrder
import Derived.Test.YtnjdjcgandfnfaaDoorPlain
import Derived.Deep.RegionLaw
import Derived.Deep.DeepCutAuto
/-! CellsO -/
namespace Go.Proofs.YtnjdjcgandfnfaaDoor
open Go.RowKit
set_option linter.unusedVariables false

/-- The cells of cells. -/
def celV : List Int → List Bool → List Value
  | u :: us, y :: ys => .int .i64 u :: .bool y :: celV us ys
  | _, _ => []
theorem celV_len : ∀ (us : List Int) (ys : List Bool), us.length = ys.length → (celV us ys).length = us.length * 2
  | [], [], _ => rfl
  | _ :: us, _ :: ys, h => by
    have := celV_len us ys (by simpa using h)
    simp only [celV, List.length_cons, this]; omega
theorem celV_snoc (u : Int) (y : Bool) : ∀ (us : List Int) (ys : List Bool), us.length = ys.length → celV (us ++ [u]) (ys ++ [y]) = celV us ys ++ [.int .i64 u, .bool y]
  | [], [], _ => rfl
  | _ :: us, _ :: ys, h => by
    have := celV_snoc u y us ys (by simpa using h)
    simp only [List.cons_append, celV, this]
theorem celV_at : ∀ (us : List Int) (ys : List Bool), us.length = ys.length → ∀ j, j < us.length → (celV us ys)[j * 2]? = some (.int .i64 (us.getD j 0)) ∧ (celV us ys)[j * 2 + 1]? = some (.bool (ys.getD j false))
  | [], [], _, j, hj => by simp at hj
  | u :: us, y :: ys, h, j, hj => by
    cases j with
    | zero => exact ⟨rfl, rfl⟩
    | succ j =>
      have := celV_at us ys (by simpa using h) j (by simpa using hj)
      simp only [celV, List.getD_cons_succ]
      rw [show (j + 1) * 2 = j * 2 + 1 + 1 by omega]
      exact this
theorem celV_set (v : Int) : ∀ (us : List Int) (ys : List Bool), us.length = ys.length → ∀ j, j < us.length → (celV us ys).set (j * 2) (.int .i64 v) = celV (us.set j v) ys
  | [], [], _, j, hj => by simp at hj
  | u :: us, y :: ys, h, j, hj => by
    cases j with
    | zero => rfl
    | succ j =>
      have := celV_set v us ys (by simpa using h) j (by simpa using hj)
      rw [show (j + 1) * 2 = (j * 2) + 1 + 1 by omega]
      simp only [celV, List.set_cons_succ, this]
theorem celV_setB (b : Bool) : ∀ (us : List Int) (ys : List Bool), us.length = ys.length → ∀ j, j < us.length → (celV us ys).set (j * 2 + 1) (.bool b) = celV us (ys.set j b)
  | [], [], _, j, hj => by simp at hj
  | u :: us, y :: ys, h, j, hj => by
    cases j with
    | zero => rfl
    | succ j =>
      have := celV_setB b us ys (by simpa using h) j (by simpa using hj)
      rw [show (j + 1) * 2 + 1 = (j * 2 + 1) + 1 + 1 by omega]
      simp only [celV, List.set_cons_succ, this]

theorem info_cell : (Tryd.prog.info? 59).map (fun i => (i.zero, i.size, i.bytes)) = some (some (.agg #[.int .i64 0, .bool false]), 2, 16) := by kernel_rfl

/-- A row of cells that the call itself made. -/
def OwnC (w : World) (base : Nat) (A : Option Addr) (n c : Nat) (us : List Int) (ys : List Bool) : Prop := us.length = n ∧ ys.length = n ∧ w.ownsRow base 59 2 (.slice A n c) n (celV us ys)
section
variable {w w' : World} {base n c : Nat} {A : Option Addr} {us : List Int} {ys : List Bool}
theorem OwnC.nil_ : OwnC w base none 0 0 [] [] := ⟨rfl, rfl, World.ownsRow_nil _ _ _ _⟩
theorem OwnC.belowAll (h : OwnC w base A n c us ys) (hb : Below w.heap.size w w') : OwnC w' base A n c us ys := by
  refine ⟨h.1, h.2.1, h.2.2.1, ?_⟩
  rcases h.2.2.2 with h0 | ⟨g, cap, cur, hv, hg, hh, r⟩
  · exact .inl h0
  · refine .inr ⟨g, cap, cur, hv, hg, ?_, r⟩
    rw [hb.block g (World.ownsRow.lt h.2.2 g (by rw [hv]; rfl)).2]; exact hh
theorem OwnC.cel (h : OwnC w base A n c us ys) : Cel w w.heap.size A n us ys := by
  refine ⟨h.1, h.2.1, fun hn => ?_⟩
  obtain ⟨g, cap, hv, h1, h2⟩ := World.ownsRow.form h.2.2 hn
  injection hv with hA
  subst hA
  refine ⟨g, 0, rfl, h2, fun j hj => ?_⟩
  have hs := celV_at us ys (by rw [h.1, h.2.1]) j (by rw [h.1]; exact hj)
  have c1 := World.ownsRow.cellAt h.2.2 (j * 2) (by omega)
  have c2 := World.ownsRow.cellAt h.2.2 (j * 2 + 1) (by omega)
  rw [Nat.zero_add]
  exact ⟨c1.trans hs.1, c2.trans hs.2⟩
theorem OwnC.step {g : Nat} (h : OwnC w base A n c us ys) (hs : Step g w w') (hg : g < base) : OwnC w' base A n c us ys := by
  refine ⟨h.1, h.2.1, World.ownsRow.kept h.2.2 hs ?_⟩
  right
  intro e
  have := (World.ownsRow.lt h.2.2 g e).1
  omega
theorem OwnC.lower {base' : Nat} (h : OwnC w base A n c us ys) (hb : base' ≤ base) : OwnC w base' A n c us ys := by
  refine ⟨h.1, h.2.1, h.2.2.1, ?_⟩
  rcases h.2.2.2 with h0 | ⟨g, cap, cur, hv, hg, r⟩
  · exact .inl h0
  · exact .inr ⟨g, cap, cur, hv, by omega, r⟩
theorem OwnC.form (h : OwnC w base A n c us ys) (hn : 0 < n) : ∃ g, A = some ⟨g, 0, none⟩ ∧ base ≤ g ∧ g < w.heap.size := by
  obtain ⟨g, cap, hv, h1, h2⟩ := World.ownsRow.form h.2.2 hn
  injection hv with hA
  exact ⟨g, hA, h1, h2⟩
theorem OwnC.frozenAt {g : Nat} (h : OwnC w base (some ⟨g, 0, none⟩) n c us ys) (j : Nat) : w.frozen? ⟨g, j, none⟩ = false := World.ownsRow.frozenAt h.2.2 j
theorem OwnC.cellAt {g : Nat} (h : OwnC w base (some ⟨g, 0, none⟩) n c us ys) {j : Nat} (hj : j < n) : w.cell? ⟨g, j * 2, none⟩ = some (.int .i64 (us.getD j 0)) ∧ w.cell? ⟨g, j * 2 + 1, none⟩ = some (.bool (ys.getD j false)) := by
  have hs := celV_at us ys (by rw [h.1, h.2.1]) j (by rw [h.1]; exact hj)
  exact ⟨(World.ownsRow.cellAt h.2.2 (j * 2) (by omega)).trans hs.1, (World.ownsRow.cellAt h.2.2 (j * 2 + 1) (by omega)).trans hs.2⟩
theorem OwnC.stored {g : Nat} (h : OwnC w base (some ⟨g, 0, none⟩) n c us ys) {j : Nat} (hj : j < n) (v : Int) : OwnC (w.setCell ⟨g, j * 2, none⟩ (.int .i64 v)) base (some ⟨g, 0, none⟩) n c (us.set j v) ys := by
  refine ⟨by rw [List.length_set]; exact h.1, h.2.1, ?_⟩
  have := (World.ownsRow.stored h.2.2 (j * 2) (.int .i64 v)).1
  rw [celV_set v us ys (by rw [h.1, h.2.1]) j (by rw [h.1]; exact hj)] at this
  exact this
theorem OwnC.storedB {g : Nat} (h : OwnC w base (some ⟨g, 0, none⟩) n c us ys) {j : Nat} (hj : j < n) (b : Bool) : OwnC (w.setCell ⟨g, j * 2 + 1, none⟩ (.bool b)) base (some ⟨g, 0, none⟩) n c us (ys.set j b) := by
  refine ⟨h.1, by rw [List.length_set]; exact h.2.1, ?_⟩
  have := (World.ownsRow.stored h.2.2 (j * 2 + 1) (.bool b)).1
  rw [celV_setB b us ys (by rw [h.1, h.2.1]) j (by rw [h.1]; exact hj)] at this
  exact this
end

/-- One more cell. -/
theorem wpList_append_cell {w : World} {ops : Array Oper} {rest : List Oper} {o : Oper} {a : Act} {Q : Exit → Act → World → Prop} (hgd : o.guard = none) (s x : Operand) (t : TypeId)
    (ho : o.op = .call { callee := .builtin .append, args := #[s, x], argTypes := #[t, t] })
    (ht : Tryd.prog.underlying t = some (.slice 59)) (base : Nat) (A : Option Addr) (n c : Nat) (us : List Int) (ys : List Bool) (hs : a.eval s = .slice A n c) (hown : OwnC w base A n c us ys)
    (b : Nat) (c2 : Nat) (u : Int) (y : Bool) (hx : a.eval x = .slice (some ⟨b, 0, none⟩) 1 c2) (h0 : w.cell? ⟨b, 0, none⟩ = some (.int .i64 u)) (h1 : w.cell? ⟨b, 1, none⟩ = some (.bool y)) (hn : n ≤ 1000000) (hbase : base ≤ w.heap.size)
    (h : ∀ A' c' w', OwnC w' base A' (n + 1) c' (us ++ [u]) (ys ++ [y]) → Below base w w' → wpList Tryd.prog ops Q rest (a.put o.dst (.slice A' (n + 1) c')) w') : wpList Tryd.prog ops Q (o :: rest) a w := by
  obtain ⟨i, hi, hz, hsize, hby⟩ := info_parts info_cell
  have hl : us.length = ys.length := by rw [hown.1, hown.2.1]
  refine wpList_append_any w hgd s x t ho base 59 i _ 2 16 ht hi hz hsize hby rfl (by omega) (.slice A n c) n (celV us ys) hs hown.2.2 (b + 1) (some ⟨b, 0, none⟩) 1 c2 [.int .i64 u, .bool y] hx
    ⟨rfl, fun _ => ⟨_, rfl, Nat.lt_succ_self b, fun j v hj => ?_⟩⟩ (fun v hv => by
      simp only [List.mem_cons, List.not_mem_nil, or_false] at hv
      rcases hv with rfl | rfl <;> rfl) (by unfold maxLen; omega) (by omega) hbase ?_
  · match j, hj with
    | 0, hj =>
      simp at hj; subst hj; exact h0
    | 1, hj =>
      simp at hj; subst hj; exact h1
    | j + 2, hj => simp at hj
  · intro v' w' hown' hg hat
    rw [← celV_snoc u y us ys hl] at hown'
    have hb : Below base w w' := (Below.refl base w).grown hg hbase (fun k hk => (World.ownsRow.lt hown.2.2 k hk).1)
    rcases hown'.2 with ⟨hv, hn0⟩ | ⟨g, cap, cur, hv, _⟩
    · omega
    · rw [hv] at hown' ⊢
      exact h _ cap w' ⟨by simp [hown.1], by simp [hown.2.1], hown'⟩ hb

/-! How many are known. -/
theorem knF_all : ∀ (vs : List Int) (i : Int), (knF i vs (List.replicate vs.length true)).length = vs.length
  | [], i => by simp [knF]
  | v :: vs, i => by
    have := knF_all vs (i + 1)
    simp only [List.length_cons, List.replicate_succ, knF, if_true, this]
theorem knL_all (vs : List Int) : (knL vs (List.replicate vs.length true)).length = vs.length := knF_all vs 1
theorem knF_less (v : Int) : ∀ (vs : List Int) (bs : List Bool) (i : Int) (j : Nat), vs.length = bs.length → (knF i vs bs).length ≤ (knF i (vs.set j v) (bs.set j false)).length + 1
  | [], [], i, j, _ => by simp [knF]
  | u :: vs, c :: bs, i, 0, h => by
    simp only [List.set_cons_zero, knF]
    cases c <;> simp
  | u :: vs, c :: bs, i, j + 1, h => by
    have := knF_less v vs bs (i + 1) j (by simpa using h)
    simp only [List.set_cons_succ, knF]
    cases c
    · simpa using this
    · simp; omega
theorem knL_less (v : Int) {vs : List Int} {bs : List Bool} (h : vs.length = bs.length) (j : Nat) : (knL vs bs).length ≤ (knL (vs.set j v) (bs.set j false)).length + 1 := knF_less v vs bs 1 j h
theorem setB_getD (l : List Bool) (j i : Nat) (b : Bool) : (l.set j b).getD i false = if i = j ∧ j < l.length then b else l.getD i false := by
  rw [List.getD_eq_getElem?_getD, List.getD_eq_getElem?_getD, List.getElem?_set]
  by_cases h1 : j = i
  · subst h1
    by_cases h2 : j < l.length
    · simp [h2]
    · simp [h2]
  · have h3 : ¬ (i = j ∧ j < l.length) := fun h => h1 h.1.symm
    rw [if_neg h1, if_neg h3]
theorem setI_getD (l : List Int) (j i : Nat) (b : Int) : (l.set j b).getD i 0 = if i = j ∧ j < l.length then b else l.getD i 0 := by
  rw [List.getD_eq_getElem?_getD, List.getD_eq_getElem?_getD, List.getElem?_set]
  by_cases h1 : j = i
  · subst h1
    by_cases h2 : j < l.length
    · simp [h2]
    · simp [h2]
  · have h3 : ¬ (i = j ∧ j < l.length) := fun h => h1 h.1.symm
    rw [if_neg h1, if_neg h3]
end Go.Proofs.YtnjdjcgandfnfaaDoor

/-! MCells -/
namespace Go.Proofs.YtnjdjcgandfnfaaDoor
open Go.RowKit
set_option linter.unusedVariables false

theorem OwnI.set_ {w : World} {base n c : Nat} {e : TypeId} {A : Option Addr} {xs : List Int} (h : OwnI w base e A n c xs) {p : Addr} (hp : p.block < base) (v : Value) : OwnI (w.setCell p v) base e A n c xs := by
  refine h.kept (row := some p.block) ⟨rfl, rfl, rfl, by simp [World.setCell], fun k hk hne => Below.heap_setCell w p v k (fun e => hne (by rw [e]))⟩ ?_
  right
  intro e
  have := h.row p.block e
  omega

/-- What Cells leaves. -/
def MCellsPost (g : Nat) (A : Option Addr) (n c : Nat) (xs : List Int) (p : Int) (cs : List Int) (N sil : Nat) (w : World) (e : Ending) (w' : World) : Prop :=
  ∃ (A' : Option Addr) (c' : Nat) (vs : List Int) (bs : List Bool) (q' : Nat), e = .returned (.slice A' N c') ∧ OwnC w' w.heap.size A' N c' vs bs ∧ Hid (∀ j, j < N → bs.getD j false = true → vs.getD j 0 = valueP p ((j : Int) + 1) cs) ∧ Hid (N ≤ (knL vs bs).length + sil) ∧ Deck w' g A n c xs q' ∧ Step g w w'

set_option maxRecDepth 100000 in
set_option maxHeartbeats 3200000 in
theorem mcells_ok (g : Nat) (A : Option Addr) (n c : Nat) (xs : List Int) (q : Nat) (p : Int) (C : Option Addr) (m cc : Nat) (cs : List Int) (N sil : Nat) (w : World) (h : Deck w g A n c xs q) (hok : okP p = true) (hC : Ints w w.heap.size C m cs) (hca : allP p cs = true) (hmc : m ≤ cc) (hm : m ≤ 512) (hN : N ≤ 32) (hNp : (N : Int) < p) (hsil : sil ≤ 32) :
    Calls Tryd.prog 14 #[.pointer (some ⟨g, 0, none⟩), .agg #[.int .i64 p], .slice C m cc, .int .i64 N, .int .i64 0, .int .i64 sil] w (MCellsPost g A n c xs p cs N sil w) := by
  have hp := okP_pos hok
  have HO := Lib.hid hok
  have HC := Lib.hid hca
  have hg := h.1.lt
  have hb0 : Below w.heap.size w (w.alloc (.cells #[.int .i64 p] 24)) := bbox _
  have hC0 := hC.upto hb0
  have hD0 := h.belowAll hb0
  clear hok hca
  go_enter Tryd.func14, Tryd.ntmps14
  go_wp2_with (go_at_call 29; (refine (rencode_ok p C m cc N cs _ HO.out hC0 HC.out hmc hm hN hNp).mono ?_); rintro e w1 ⟨⟨A1, c1, rfl, hown1⟩, hb1⟩
               have hbb1 := bnext hb0 hb1
               have hI1 := hown1.ints
               have hD1 := hD0.belowAll hb1)
  obtain ⟨wv, HW⟩ : ∃ wv, Hid (valsP p cs (ptsL N) = wv) := ⟨_, Lib.hid rfl⟩
  have HWL : Hid (wv.length = N) := Lib.hid (by rw [← HW.out, valsP_len, ptsL_len])
  have HWV : Hid (∀ j, j < N → wv.getD j 0 = valueP p ((j : Int) + 1) cs) := Lib.hid fun j hj => by rw [← HW.out, valsP_at p cs _ (by rw [ptsL_len]; exact hj), ptsL_at hj]
  rw [HW.out] at hI1
  clear hown1 HW
  have hg1 : g < w1.heap.size := hD1.1.lt
  go_loopw [15, 29] (fun s i wz => ∃ (k : Nat) (L : Option Addr) (lc : Nat), k ≤ N ∧ s = .slice L k lc ∧ i = .int .i64 k ∧ Hid (OwnC wz w1.heap.size L k lc (wv.take k) (List.replicate k true)) ∧ Below w1.heap.size w1 wz) (fun _ i _ => N - (intOf i).toNat)
  case atStart => exact ⟨0, none, 0, Nat.zero_le _, rfl, rfl, Lib.hid OwnC.nil_, Below.refl _ _⟩
  case round =>
    obtain ⟨k, L, lc, hk, rfl, rfl, HS, hbz⟩ := hrel
    by_cases hlt : k < N
    · obtain ⟨b1, o1, rfl, hb1', hc1⟩ := hI1.2 (by omega)
      have hcx := (hbz.cell (p := ⟨b1, o1 + k, none⟩) hb1').trans (hc1 k hlt)
      clear hc1
      have HT := Lib.hid (take_succ_getD wv k (by rw [HWL.out]; exact hlt))
      have HRP : Hid (List.replicate (k + 1) true = List.replicate k true ++ [true]) := Lib.hid (List.replicate_succ' ..)
      obtain ⟨x, HX⟩ : ∃ x, Hid (wv.getD k 0 = x) := ⟨_, Lib.hid rfl⟩
      rw [HX.out] at hcx HT
      have hk0 : (0 : Int) ≤ (k : Int) := by omega
      have hkN : (k : Int) < (N : Int) := by omega
      have hbza := hbz.alloc hbz.size (.cells #[.int .i64 x, .bool true] 59)
      have hoA := HS.out.belowAll (bbox (.cells #[.int .i64 x, .bool true] 59))
      have hN9 := Blk.new wr 59 #[.int .i64 x, .bool true]
      go_wp2_with ((at_builtin; refine wpList_append_cell rfl _ _ 25 rfl Tryd.underlying25 w1.heap.size L k lc (wv.take k) (List.replicate k true) rfl hoA wr.heap.size 1 x true rfl ((hN9.cell 0).trans rfl) ((hN9.cell 1).trans rfl) (by omega) hbza.size ?_; intro L2 lc2 w10 hS10 hb10; have hbz10 := hbza.trans hb10))
      go_roundw
      case rel => exact ⟨k + 1, L2, lc2, by omega, rfl, by go_num, Lib.hid (by rw [HT.out, HRP.out]; exact hS10), hbz10⟩
      case measure => simp [intOf]; omega
    · obtain rfl : k = N := by omega
      have hS := HS.out
      rw [List.take_of_length_le (by rw [HWL.out]; exact Nat.le_refl _)] at hS
      have hDz := hD1.belowAll hbz
      have hbw := bnext hbb1 hbz
      clear HS
      go_wp2_with (go_at_call 34; (with_reducible refine (order_any g A n c xs q k _ hDz (by omega)).mono ?_); rintro e w8 ⟨A4, c4, ks, q8, rfl, hown8, hord, hD8, hS8⟩
                   have HK := Lib.hid hord
                   have hS8o := hS.step hS8 hg1
                   have hbw8 : Step g w w8 := (Step.of_below hbw).trans hS8
                   have hg8 : g < w8.heap.size := hD8.1.lt
                   have hgr : g < wr.heap.size := hDz.1.lt
                   clear hord)
      have HKL : Hid (ks.length = k) := Lib.hid (order_len HK.out)
      go_loopw [43] (fun i wz => ∃ (j q : Nat) (vs : List Int) (bs : List Bool), j ≤ k ∧ i = .int .i64 j ∧ Hid (OwnC wz w1.heap.size L k lc vs bs) ∧ Hid (∀ j, j < k → bs.getD j false = true → vs.getD j 0 = valueP p ((j : Int) + 1) cs) ∧ Hid (k ≤ (knL vs bs).length + min j sil) ∧ OwnI wz wr.heap.size 3 A4 k c4 ks ∧ Deck wz g A n c xs q ∧ Step g w wz) (fun i _ => k - (intOf i).toNat)
      case atStart => exact ⟨0, q8, wv, List.replicate k true, Nat.zero_le _, rfl, Lib.hid hS8o, Lib.hid (fun j hj _ => HWV.out j hj), Lib.hid (by have := knL_all wv; rw [HWL.out] at this; omega), hown8, hD8, hbw8⟩
      case round =>
        rename_i wy
        obtain ⟨j, q2, vs, bs, hj, rfl, HOC, HV, HCN, hoK, hD, hSt⟩ := hrel
        by_cases hlt2 : j < k
        · have hIk := hoK.ints
          obtain ⟨b2, o2, rfl, hb2, hc2⟩ := hIk.2 (by omega)
          have hcz := hc2 j hlt2
          obtain ⟨z, hz, hzk⟩ := order_at HK.out hlt2
          rw [hz] at hcz
          clear hc2
          have hj0 : (0 : Int) ≤ (j : Int) := by omega
          have hj00 : ¬ ((j : Int) < 0) := by omega
          have hjk : (j : Int) < (k : Int) := by omega
          have h0s : IntKind.i64.wrap (0 + (sil : Int)) = (sil : Int) := by rw [Int.zero_add]; exact IntWalk.i64_in _ (by omega)
          have hsw : IntKind.i64.wrap (sil : Int) = (sil : Int) := IntWalk.i64_in _ (by omega)
          by_cases hjs : j < sil
          · have hjsi : (j : Int) < (sil : Int) := by omega
            obtain ⟨gP, rfl, hgP, hgPl⟩ := hS.form (by omega)
            have hz0 : (0 : Int) ≤ (z : Int) := by omega
            have hzki : (z : Int) < (k : Int) := by omega
            go_wp2_with (go_at_call 13; (refine (next_any g A n c xs q2 9 _ hD (by omega)).mono ?_); rintro e w9 ⟨r, q9, rfl, hr, _, hD9, hS9, hz9⟩
                         have hrb := hr (by omega)
                         have hoC9 := HOC.out.step hS9 hg1
                         have hoK9 := hoK.step hS9 hgr
                         have hSt9 := hSt.trans hS9
                         have hx0 := (hoC9.cellAt hzk).1
                         have hx1 := (hoC9.cellAt hzk).2
                         have hf0 := hoC9.frozenAt (z * 2)
                         have hf1 := hoC9.frozenAt (z * 2 + 1)
                         have hrw : IntKind.i64.wrap (r - 4) = r - 4 := IntWalk.i64_in _ (by omega)
                         have hoCn := (hoC9.stored hzk (r - 4)).storedB hzk false
                         have hoKn := (hoK9.set_ (p := ⟨gP, z * 2, none⟩) (by show gP < _; omega) (.int .i64 (r - 4))).set_ (p := ⟨gP, z * 2 + 1, none⟩) (by show gP < _; omega) (.bool false)
                         have hDn := (hD9.setCell (p := ⟨gP, z * 2, none⟩) (by show g < gP; omega) (.int .i64 (r - 4))).setCell (p := ⟨gP, z * 2 + 1, none⟩) (by show g < gP; omega) (.bool false)
                         have hStn := (hSt9.setNew (p := ⟨gP, z * 2, none⟩) (by have := hbb1.size; show w.heap.size ≤ gP; omega) (.int .i64 (r - 4))).setNew (p := ⟨gP, z * 2 + 1, none⟩) (by have := hbb1.size; show w.heap.size ≤ gP; omega) (.bool false)
                         have hlv : vs.length = bs.length := by rw [hoC9.1, hoC9.2.1]
                         have HCN2 : Hid (k ≤ (knL (vs.set z (r - 4)) (bs.set z false)).length + min (j + 1) sil) := Lib.hid (by have h1 := knL_less (r - 4) hlv z; have h2 := HCN.out; omega)
                         have HV2 : Hid (∀ j, j < k → (bs.set z false).getD j false = true → (vs.set z (r - 4)).getD j 0 = valueP p ((j : Int) + 1) cs) := Lib.hid fun i hi hb => by
                           rw [setB_getD] at hb
                           rw [setI_getD]
                           by_cases hiz : i = z ∧ z < bs.length
                           · rw [if_pos hiz] at hb; cases hb
                           · rw [if_neg hiz] at hb
                             rw [if_neg (by rw [hlv]; exact hiz)]
                             exact HV.out i hi hb
                         clear hr hz9)
            go_roundw
            case rel => exact ⟨j + 1, q9, _, _, by omega, by go_num, Lib.hid hoCn, HV2, HCN2, hoKn, hDn, hStn⟩
            case measure => simp [intOf]; omega
          · have hjsi : ¬ ((j : Int) < (sil : Int)) := by omega
            go_wp2
            go_roundw
            case rel => exact ⟨j + 1, q2, vs, bs, by omega, by go_num, HOC, HV, Lib.hid (by have := HCN.out; omega), hoK, hD, hSt⟩
            case measure => simp [intOf]; omega
        · obtain rfl : j = k := by omega
          go_wp2
          go_ret
          exact ⟨L, lc, vs, bs, q2, rfl, HOC.out.lower hbb1.size, HV, Lib.hid (by have := HCN.out; omega), hD, hSt⟩
end Go.Proofs.YtnjdjcgandfnfaaDoor

/-! MCellsW -/
namespace Go.Proofs.YtnjdjcgandfnfaaDoor
open Go.RowKit
set_option linter.unusedVariables false

theorem Step.undrewW {g : Nat} {a b : World} (h : Step g a.drew b) : Step g a b := by
  obtain ⟨h1, h2, h3, h4, h5⟩ : World.grownBy a.drew b (some g) := h
  exact ⟨h1, h2, h3, h4, h5⟩
theorem set_allPW {p : Int} {l : List Int} (h : allP p l = true) (j : Nat) {v : Int} (hv : 0 ≤ v ∧ v < p) : allP p (l.set j v) = true := allP_iff.2 fun x hx => by
  rcases List.mem_or_eq_of_mem_set hx with h1 | h1
  · exact allP_iff.1 h x h1
  · rw [h1]; exact hv

/-- What Cells leaves. -/
def MCWPost (g : Nat) (A : Option Addr) (n c : Nat) (xs : List Int) (p : Int) (cs : List Int) (N nw sil : Nat) (w : World) (e : Ending) (w' : World) : Prop :=
  ∃ (A' : Option Addr) (c' : Nat) (vs : List Int) (bs : List Bool) (q' : Nat), e = .returned (.slice A' N c') ∧ OwnC w' w.heap.size A' N c' vs bs ∧ Hid (knOk p vs bs) ∧ Hid ((wrL p cs (knL vs bs)).length ≤ nw) ∧ Hid (N ≤ (knL vs bs).length + sil) ∧ Deck w' g A n c xs q' ∧ Step g w w'

set_option maxRecDepth 100000 in
set_option maxHeartbeats 3200000 in
theorem mcellsW_ok (g : Nat) (A : Option Addr) (n c : Nat) (xs : List Int) (q : Nat) (p : Int) (C : Option Addr) (m cc : Nat) (cs : List Int) (N nw sil : Nat) (w : World) (h : Deck w g A n c xs q) (hok : okP p = true) (hC : Ints w w.heap.size C m cs) (hca : allP p cs = true) (hmc : m ≤ cc) (hm : m ≤ 512) (hN : N ≤ 32) (hNp : (N : Int) < p) (hwr : nw ≤ 32) (hsil : sil ≤ 32) :
    Calls Tryd.prog 14 #[.pointer (some ⟨g, 0, none⟩), .agg #[.int .i64 p], .slice C m cc, .int .i64 N, .int .i64 nw, .int .i64 sil] w (MCWPost g A n c xs p cs N nw sil w) := by
  have hp := okP_pos hok
  have HO := Lib.hid hok
  have HC := Lib.hid hca
  have hg := h.1.lt
  have hb0 : Below w.heap.size w (w.alloc (.cells #[.int .i64 p] 24)) := bbox _
  have hC0 := hC.upto hb0
  have hD0 := h.belowAll hb0
  have hF0 := Blk.new w 24 #[.int .i64 p]
  clear hok hca
  go_enter Tryd.func14, Tryd.ntmps14
  go_wp2_with (go_at_call 29; (refine (rencode_ok p C m cc N cs _ HO.out hC0 HC.out hmc hm hN hNp).mono ?_); rintro e w1 ⟨⟨A1, c1, rfl, hown1⟩, hb1⟩
               have hbb1 := bnext hb0 hb1
               have hI1 := hown1.ints
               have hD1 := hD0.belowAll hb1
               have hF1 := hF0.below hb1 hF0.lt)
  obtain ⟨wv, HW⟩ : ∃ wv, Hid (valsP p cs (ptsL N) = wv) := ⟨_, Lib.hid rfl⟩
  have HWL : Hid (wv.length = N) := Lib.hid (by rw [← HW.out, valsP_len, ptsL_len])
  have HWV : Hid (∀ j, j < N → wv.getD j 0 = valueP p ((j : Int) + 1) cs) := Lib.hid fun j hj => by rw [← HW.out, valsP_at p cs _ (by rw [ptsL_len]; exact hj), ptsL_at hj]
  have HWA : Hid (allP p wv = true) := Lib.hid (by rw [← HW.out]; exact valsP_allP hp.1 _ _)
  rw [HW.out] at hI1
  clear hown1 HW
  have hg1 : g < w1.heap.size := hD1.1.lt
  have hwl1 : w.heap.size < w1.heap.size := hF1.lt
  go_loopw [15, 29] (fun s i wz => ∃ (k : Nat) (L : Option Addr) (lc : Nat), k ≤ N ∧ s = .slice L k lc ∧ i = .int .i64 k ∧ Hid (OwnC wz w1.heap.size L k lc (wv.take k) (List.replicate k true)) ∧ Below w1.heap.size w1 wz) (fun _ i _ => N - (intOf i).toNat)
  case atStart => exact ⟨0, none, 0, Nat.zero_le _, rfl, rfl, Lib.hid OwnC.nil_, Below.refl _ _⟩
  case round =>
    obtain ⟨k, L, lc, hk, rfl, rfl, HS, hbz⟩ := hrel
    by_cases hlt : k < N
    · obtain ⟨b1, o1, rfl, hb1', hc1⟩ := hI1.2 (by omega)
      have hcx := (hbz.cell (p := ⟨b1, o1 + k, none⟩) hb1').trans (hc1 k hlt)
      clear hc1
      have HT := Lib.hid (take_succ_getD wv k (by rw [HWL.out]; exact hlt))
      have HRP : Hid (List.replicate (k + 1) true = List.replicate k true ++ [true]) := Lib.hid (List.replicate_succ' ..)
      obtain ⟨x, HX⟩ : ∃ x, Hid (wv.getD k 0 = x) := ⟨_, Lib.hid rfl⟩
      rw [HX.out] at hcx HT
      have hk0 : (0 : Int) ≤ (k : Int) := by omega
      have hkN : (k : Int) < (N : Int) := by omega
      have hbza := hbz.alloc hbz.size (.cells #[.int .i64 x, .bool true] 59)
      have hoA := HS.out.belowAll (bbox (.cells #[.int .i64 x, .bool true] 59))
      have hN9 := Blk.new wr 59 #[.int .i64 x, .bool true]
      go_wp2_with ((at_builtin; refine wpList_append_cell rfl _ _ 25 rfl Tryd.underlying25 w1.heap.size L k lc (wv.take k) (List.replicate k true) rfl hoA wr.heap.size 1 x true rfl ((hN9.cell 0).trans rfl) ((hN9.cell 1).trans rfl) (by omega) hbza.size ?_; intro L2 lc2 w10 hS10 hb10; have hbz10 := hbza.trans hb10))
      go_roundw
      case rel => exact ⟨k + 1, L2, lc2, by omega, rfl, by go_num, Lib.hid (by rw [HT.out, HRP.out]; exact hS10), hbz10⟩
      case measure => simp [intOf]; omega
    · obtain rfl : k = N := by omega
      have hS := HS.out
      rw [List.take_of_length_le (by rw [HWL.out]; exact Nat.le_refl _)] at hS
      have hDz := hD1.belowAll hbz
      have hbw := bnext hbb1 hbz
      have hFz := hF1.below hbz hF1.lt
      clear HS
      go_wp2_with (go_at_call 34; (with_reducible refine (order_any g A n c xs q k _ hDz (by omega)).mono ?_); rintro e w8 ⟨A4, c4, ks, q8, rfl, hown8, hord, hD8, hS8⟩
                   have HK := Lib.hid hord
                   have hS8o := hS.step hS8 hg1
                   have HF8 := Lib.hid (Step.block hS8 hFz (by omega))
                   have hbw8 : Step g w w8 := (Step.of_below hbw).trans hS8
                   have hg8 : g < w8.heap.size := hD8.1.lt
                   have hgr : g < wr.heap.size := hDz.1.lt
                   clear hord)
      have HKL : Hid (ks.length = k) := Lib.hid (order_len HK.out)
      go_loopw [43] (fun i wz => ∃ (j q : Nat) (vs : List Int) (bs : List Bool), j ≤ k ∧ i = .int .i64 j ∧ Hid (OwnC wz w1.heap.size L k lc vs bs) ∧ Hid (knOk p vs bs ∧ (j ≤ nw → allP p vs = true)) ∧ Hid ((wrL p cs (knL vs bs)).length ≤ min j nw) ∧ Hid (k ≤ (knL vs bs).length + min (j - nw) sil) ∧ OwnI wz wr.heap.size 3 A4 k c4 ks ∧ Deck wz g A n c xs q ∧ Step g w wz ∧ Hid (Blk wz w.heap.size 24 #[.int .i64 p])) (fun i _ => k - (intOf i).toNat)
      case atStart => exact ⟨0, q8, wv, List.replicate k true, Nat.zero_le _, rfl, Lib.hid hS8o, Lib.hid ⟨knOk_all HWA.out, fun _ => HWA.out⟩, Lib.hid (by rw [word_right (fun j hj => HWV.out j (by rw [← HWL.out]; exact hj))]; exact Nat.zero_le _), Lib.hid (by have := knL_all wv; rw [HWL.out] at this; omega), hown8, hD8, hbw8, HF8⟩
      case round =>
        rename_i wy
        obtain ⟨j, q2, vs, bs, hj, rfl, HOC, HV, HWR, HCN, hoK, hD, hSt, HFB⟩ := hrel
        by_cases hlt2 : j < k
        · have hIk := hoK.ints
          obtain ⟨b2, o2, rfl, hb2, hc2⟩ := hIk.2 (by omega)
          have hcz := hc2 j hlt2
          obtain ⟨z, hz, hzk⟩ := order_at HK.out hlt2
          rw [hz] at hcz
          clear hc2
          have hj0 : (0 : Int) ≤ (j : Int) := by omega
          have hjk : (j : Int) < (k : Int) := by omega
          obtain ⟨ws, hws⟩ : ∃ ws, nw + sil = ws := ⟨_, rfl⟩
          have h0s : (nw : Int) + (sil : Int) = (ws : Int) := by omega
          have HWS := Lib.hid hws
          have hws64 : ws ≤ 64 := by omega
          clear hws
          have hlv : vs.length = bs.length := by rw [HOC.out.1, HOC.out.2.1]
          by_cases hjw : j < nw
          · have hjwi : (j : Int) < (nw : Int) := by omega
            obtain ⟨gP, rfl, hgP, hgPl⟩ := hS.form (by omega)
            have hz0 : (0 : Int) ≤ (z : Int) := by omega
            have hzki : (z : Int) < (k : Int) := by omega
            have hxin := allP_getD (HV.out.2 (by omega)) (k := z) (by rw [HOC.out.1]; exact hzk)
            obtain ⟨x, hx⟩ : ∃ x, vs.getD z 0 = x := ⟨_, rfl⟩
            rw [hx] at hxin
            have hx0 := (HOC.out.cellAt hzk).1
            rw [hx] at hx0
            have hp0 : wr.cell? ⟨w.heap.size, 0, none⟩ = some (.int .i64 p) := (HFB.out.cell 0).trans rfl
            have hgw : w.heap.size ≠ gP := by have := hbb1.size; have : w.heap.size < w1.heap.size := hF1.lt; omega
            have hgg : g ≠ w.heap.size := by omega
            have hDd := hD.drew
            have hpw : IntKind.i64.wrap (p - 1) = p - 1 := IntWalk.i64_in _ (by omega)
            have hxw : IntKind.i64.wrap (x + 1) = x + 1 := IntWalk.i64_in _ (by omega)
            have HX := Lib.hid hx
            have hpn0 : ¬ p = 0 := by omega
            clear hx
            go_upto_region 12 with fail
            have HP64 : p ≤ 65521 := hp.2
            go_region_law (first
              | (go_simp; go_at_call 13; (with_reducible refine (next_any g A n c xs q2 (p - 1) _ hDd (by omega)).mono ?_); rintro e w9 ⟨r, q9, rfl, hr, _, hD9, hS9, hz9⟩
                 have hr2 : 0 ≤ r ∧ r < p := by
                   by_cases h1 : 1 ≤ p - 1
                   · have := hr (by omega); omega
                   · omega
                 have hS9 := Step.undrewW hS9
                 have hoC9 := HOC.out.step hS9 hg1
                 have hoK9 := hoK.step hS9 hgr
                 have hSt9 := hSt.trans hS9
                 have hF9 := Step.block hS9 HFB.out (by omega)
                 have hp9 : w9.cell? ⟨w.heap.size, 0, none⟩ = some (.int .i64 p) := (hF9.cell 0).trans rfl
                 have hx9 := (hoC9.cellAt hzk).1
                 rw [HX.out] at hx9
                 have hf9 := hoC9.frozenAt (z * 2)
                 have hrw : IntKind.i64.wrap (x + 1 + r) = x + 1 + r := IntWalk.i64_in _ (by omega)
                 have htm : (x + 1 + r).tmod p = (x + 1 + r) % p := Int.tmod_eq_emod_of_nonneg (by omega)
                 obtain ⟨y, hy⟩ : ∃ y, (x + 1 + r) % p = y := ⟨_, rfl⟩
                 have hyb : 0 ≤ y ∧ y < p := by rw [← hy]; exact ⟨Int.emod_nonneg _ (by omega), Int.emod_lt_of_pos _ (by omega)⟩
                 rw [hy] at htm
                 have HCn := Lib.hid (hoC9.stored hzk y)
                 have HKn := Lib.hid (hoK9.set_ (p := ⟨gP, z * 2, none⟩) (by show gP < _; omega) (.int .i64 y))
                 have HDn := Lib.hid (hD9.setCell (p := ⟨gP, z * 2, none⟩) (by show g < gP; omega) (.int .i64 y))
                 have HSn := Lib.hid (hSt9.setNew (p := ⟨gP, z * 2, none⟩) (by have := hbb1.size; show w.heap.size ≤ gP; omega) (.int .i64 y))
                 have HFn := Lib.hid (hF9.far (p := ⟨gP, z * 2, none⟩) (by show w.heap.size ≠ gP; omega) (.int .i64 y))
                 have HCN2 : Hid (k ≤ (knL (vs.set z y) bs).length + min (j + 1 - nw) sil) := Lib.hid (by have h1 := knF_setL y vs bs 1 z; have h2 := HCN.out; unfold knL at h2 ⊢; omega)
                 have HWR2 : Hid ((wrL p cs (knL (vs.set z y) bs)).length ≤ min (j + 1) nw) := Lib.hid (by have h1 := wrF_set (p := p) (P := cs) y vs bs 1 z; have h2 := HWR.out; unfold knL at h2 ⊢; omega)
                 have HV2 : Hid (knOk p (vs.set z y) bs ∧ (j + 1 ≤ nw → allP p (vs.set z y) = true)) := Lib.hid ⟨knOk_set HV.out.1 hlv z hyb, fun _ => set_allPW (HV.out.2 (by omega)) z hyb⟩
                 clear hr hz9 hD9 hS9 hoC9 hoK9 hSt9 hF9 hy))
            all_goals go_wp2
            all_goals go_roundw
            all_goals first
              | exact ⟨j + 1, q9, _, _, by omega, by go_num, HCn, HV2, HWR2, HCN2, HKn.out.drewN 0, HDn.out, HSn.out, HFn⟩
              | (simp [intOf]; omega)
          · have hjwi : ¬ (j : Int) < (nw : Int) := by omega
            by_cases hjs : j < ws
            · have hjsi : (j : Int) < (ws : Int) := by omega
              obtain ⟨gP, rfl, hgP, hgPl⟩ := hS.form (by omega)
              have hz0 : (0 : Int) ≤ (z : Int) := by omega
              have hzki : (z : Int) < (k : Int) := by omega
              go_wp2_with (go_at_call 13; (refine (next_any g A n c xs q2 9 _ hD (by omega)).mono ?_); rintro e w9 ⟨r, q9, rfl, hr, _, hD9, hS9, hz9⟩
                           have hrb := hr (by omega)
                           have hoC9 := HOC.out.step hS9 hg1
                           have hoK9 := hoK.step hS9 hgr
                           have hSt9 := hSt.trans hS9
                           have hx0 := (hoC9.cellAt hzk).1
                           have hx1 := (hoC9.cellAt hzk).2
                           have hf0 := hoC9.frozenAt (z * 2)
                           have hf1 := hoC9.frozenAt (z * 2 + 1)
                           have hrw : IntKind.i64.wrap (r - 4) = r - 4 := IntWalk.i64_in _ (by omega)
                           have hoCn := (hoC9.stored hzk (r - 4)).storedB hzk false
                           have hoKn := (hoK9.set_ (p := ⟨gP, z * 2, none⟩) (by show gP < _; omega) (.int .i64 (r - 4))).set_ (p := ⟨gP, z * 2 + 1, none⟩) (by show gP < _; omega) (.bool false)
                           have hDn := (hD9.setCell (p := ⟨gP, z * 2, none⟩) (by show g < gP; omega) (.int .i64 (r - 4))).setCell (p := ⟨gP, z * 2 + 1, none⟩) (by show g < gP; omega) (.bool false)
                           have hStn := (hSt9.setNew (p := ⟨gP, z * 2, none⟩) (by have := hbb1.size; show w.heap.size ≤ gP; omega) (.int .i64 (r - 4))).setNew (p := ⟨gP, z * 2 + 1, none⟩) (by have := hbb1.size; show w.heap.size ≤ gP; omega) (.bool false)
                           have HFn := Lib.hid (((Step.block hS9 HFB.out (by omega)).far (p := ⟨gP, z * 2, none⟩) (by show w.heap.size ≠ gP; omega) (.int .i64 (r - 4))).far (p := ⟨gP, z * 2 + 1, none⟩) (by show w.heap.size ≠ gP; omega) (.bool false))
                           have HCN2 : Hid (k ≤ (knL (vs.set z (r - 4)) (bs.set z false)).length + min (j + 1 - nw) sil) := Lib.hid (by have h1 := knL_less (r - 4) hlv z; have h2 := HCN.out; have h3 := HWS.out; omega)
                           have HWR2 : Hid ((wrL p cs (knL (vs.set z (r - 4)) (bs.set z false))).length ≤ min (j + 1) nw) := Lib.hid (by have h1 := wrF_silent (p := p) (P := cs) (r - 4) vs bs 1 z; have h2 := HWR.out; unfold knL at h2 ⊢; omega)
                           have HV2 : Hid (knOk p (vs.set z (r - 4)) (bs.set z false) ∧ (j + 1 ≤ nw → allP p (vs.set z (r - 4)) = true)) := Lib.hid ⟨knOk_silent HV.out.1 hlv z _, fun h => absurd h (by omega)⟩
                           clear hr hz9)
              go_roundw
              case rel => exact ⟨j + 1, q9, _, _, by omega, by go_num, Lib.hid hoCn, HV2, HWR2, HCN2, hoKn, hDn, hStn, HFn⟩
              case measure => simp [intOf]; omega
            · have hjsi : ¬ ((j : Int) < (ws : Int)) := by omega
              go_wp2
              go_roundw
              case rel => exact ⟨j + 1, q2, vs, bs, by omega, by go_num, HOC, Lib.hid ⟨HV.out.1, fun h => absurd h (by omega)⟩, Lib.hid (by have := HWR.out; omega), Lib.hid (by have := HCN.out; omega), hoK, hD, hSt, HFB⟩
              case measure => simp [intOf]; omega
        · obtain rfl : j = k := by omega
          go_wp2
          go_ret
          exact ⟨L, lc, vs, bs, q2, rfl, HOC.out.lower hbb1.size, Lib.hid HV.out.1, Lib.hid (by have := HWR.out; omega), Lib.hid (by have := HCN.out; omega), hD, hSt⟩
end Go.Proofs.YtnjdjcgandfnfaaDoor

/-! Big -/
namespace Go.Proofs.YtnjdjcgandfnfaaDoor
open Go.RowKit
set_option linter.unusedVariables false

theorem known_sorted (i j : Nat) (hij : i ≤ j) (hj : j < 9) : knownL.getD i 0 ≤ knownL.getD j 0 := by
  have h : ∀ a : Fin 9, ∀ b : Fin 9, a.1 ≤ b.1 → knownL.getD a.1 0 ≤ knownL.getD b.1 0 := by decide
  exact h ⟨i, by omega⟩ ⟨j, hj⟩ hij

def BigPost (g : Nat) (A : Option Addr) (n c : Nat) (xs : List Int) (least : Int) (w : World) (e : Ending) (w' : World) : Prop :=
  ∃ (p : Int) (q' : Nat), e = .returned (.agg #[.int .i64 p]) ∧ isKnown p ∧ least < p ∧ Deck w' g A n c xs q' ∧ Step g w w'

set_option maxRecDepth 100000 in
set_option maxHeartbeats 800000 in
theorem big_any (g : Nat) (A : Option Addr) (n c : Nat) (xs : List Int) (q : Nat) (least : Int) (w : World) (h : Deck w g A n c xs q) (hl : 0 ≤ least ∧ least ≤ 60000) :
    Calls Tryd.prog 12 #[.pointer (some ⟨g, 0, none⟩), .int .i64 least] w (BigPost g A n c xs least w) := by
  have hg := h.1.lt
  have hR0 := Blk.new w 24 #[.int .i64 0]
  have hL0 := Blk.new (w.alloc (.cells #[.int .i64 0] 24)) 3 #[Value.int .i64 2, .int .i64 3, .int .i64 5, .int .i64 7, .int .i64 11, .int .i64 13, .int .i64 17, .int .i64 257, .int .i64 65521]
  rw [World.size_alloc] at hL0
  go_enter Tryd.func12, Tryd.ntmps12
  go_wp2
  go_loop [5] (fun v => ∃ i m : Nat, i + m = 9 ∧ 1 ≤ m ∧ v = .slice (some ⟨w.heap.size + 1, i, none⟩) m m) (fun v => sliceLen v)
  case atStart => exact ⟨0, 9, rfl, by omega, rfl⟩
  case round =>
    obtain ⟨i, m, him, hm, rfl⟩ := hrel
    have hcl := (hL0.cell i).trans (known_cell (j := i) (by omega))
    obtain ⟨v, HV⟩ : ∃ v, Hid (knownL.getD i 0 = v) := ⟨_, Lib.hid rfl⟩
    rw [HV.out] at hcl
    by_cases hv : v ≤ least
    · have hi8 : i < 8 := by
        rcases Nat.lt_or_ge i 8 with h1 | h1
        · exact h1
        · exfalso
          obtain rfl : i = 8 := by omega
          have : (65521 : Int) = v := HV.out
          omega
      obtain ⟨m1, hm1⟩ : ∃ m1 : Nat, (m : Int) - 1 = m1 := ⟨m - 1, by omega⟩
      have hmm : (1 : Int) ≤ (m : Int) := by omega
      have hmm2 : (1 : Int) < (m : Int) := by omega
      go_wp2
      go_round
      case rel => exact ⟨i + 1, m - 1, by omega, by omega, rfl⟩
      case measure => simp [sliceLen]; omega
    · have hvl : least < v := by omega
      go_wp2_with (go_at_call 13; refine (next_any g A n c xs q m _ ((h.alloc _).alloc _) (by omega)).mono ?_; rintro e w1 ⟨r, q', rfl, hr, hr0, hD, hS, hz⟩
                   obtain ⟨j, rfl⟩ : ∃ j : Nat, r = j := ⟨r.toNat, by have := hr (by omega); omega⟩
                   have hj : j < m := by have := hr (by omega); omega
                   have hcl1 := ((Step.block hS hL0 (by omega)).cell (i + j)).trans (known_cell (j := i + j) (by omega))
                   have hbf := Step.block hS (hR0.alloc _) (by omega)
                   have hcf : w1.cell? ⟨w.heap.size, 0, none⟩ = some (.int .i64 0) := (hbf.cell 0).trans rfl
                   have hff := hbf.frozen 0
                   obtain ⟨p0, hp0, HK⟩ : ∃ p0, knownL.getD (i + j) 0 = p0 ∧ Hid (isKnown p0 ∧ least < p0) := ⟨_, rfl, Lib.hid ⟨known_of (by omega), by have := known_sorted i (i + j) (by omega) (by omega); rw [HV.out] at this; omega⟩⟩
                   rw [hp0] at hcl1
                   have hj0 : (0 : Int) ≤ (j : Int) := by omega
                   have hjm : (j : Int) < (m : Int) := by omega
                   have hfin : (w1.setCell ⟨w.heap.size, 0, none⟩ (.int .i64 p0)).cell? ⟨w.heap.size, 0, none⟩ = some (.int .i64 p0) := World.cell?_setCell_same' _ _ _ (by rw [hcf]; rfl)
                   clear hr hr0 hz hp0)
      refine bodyPost_ret (v := .agg #[.int .i64 p0]) (by simp [results, Tryd.results12, go_sem, hfin]) rfl ⟨_, q', rfl, HK.out.1, HK.out.2, hD.setCell hg _, ?_⟩
      exact Step.setNew (((Step.of_below (bbox _)).alloc _).trans hS) (Nat.le_refl _) _
end Go.Proofs.YtnjdjcgandfnfaaDoor
