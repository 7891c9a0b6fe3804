/-
  What list's search does at one choice of cells. Conditions: the field is valid, the cells and the choice read as their values.
-/
import Derived.Test.YtmcgnpdfpfgfpaaGreatDoorPlain
import Derived.Test.YtmcgnpdfpfgfpaaGreatDoorGMem
import Derived.Test.YtmcgnpdfpfgfpaaGreatDoorAgrC
import Derived.Test.YtmcgnpdfpfgfpaaGreatDoorItp
import Derived.Test.YtmcgnpdfpfgfpaaGreatDoorMkRows
import Derived.Deep.RegionLaw
import Derived.Deep.RegionHeld3
import Derived.Deep.RegionLawGrows
namespace Go.Proofs.YtmcgnpdfpfgfpaaGreatDoor
open Go.RowKit
set_option linter.unusedVariables false

theorem wpList_append_rowH {P : Program} {w : World} {ops : Array Oper} {rest : List Oper} {o : Oper} {a : Act} {Q : Exit → Act → World → Prop} (hgd : o.guard = none) (s x : Operand) (t : TypeId)
    (ho : o.op = .call { callee := .builtin .append, args := #[s, x], argTypes := #[t, t] })
    (base lo : Nat) (e : TypeId) (i : TypeInfo) (z : Value) (ht : P.underlying t = some (.slice e)) (hi : P.info? e = some i) (hz : i.zero = some z)
    (hsize : i.size = 1) (hby : i.bytes = 24) (hzs : z.cells.size = 1)
    (A : Option Addr) (n c : Nat) (rows : List (List Int)) (hs : a.eval s = .slice A n c) (hown : OwnM w base lo e A n c rows)
    (g c2 : Nat) (A' : Option Addr) (n' c' : Nat) (row : List Int) (hx : a.eval x = .slice (some ⟨g, 0, none⟩) 1 c2) (hcell : w.cell? ⟨g, 0, none⟩ = some (.slice A' n' c')) (hglt : g < w.heap.size)
    (hn' : n' ≤ 17592186044416) (hI : Ints w w.heap.size A' n' row) (hlo : Lo lo A' n') (hap : 0 < n' → ∀ b off s, A' = some ⟨b, off, s⟩ → (Value.slice A n c).ownBlock ≠ some b)
    (N : Nat) (hN : n + 1 = N) (hcap : N ≤ 1099511627776) (hbase : base ≤ w.heap.size)
    (h : ∀ A2 c2 w', OwnM w' base lo e A2 N c2 (rows ++ [row]) → w.grownBy w' (Value.slice A n c).ownBlock → Below base w w' → ((Value.slice A2 N c2).ownBlock = (Value.slice A n c).ownBlock ∨ (Value.slice A2 N c2).ownBlock = some w.heap.size) → wpList P ops Q rest (a.put o.dst (.slice A2 N c2)) w') : wpList P ops Q (o :: rest) a w := by
  subst hN
  obtain ⟨hl, vs, hv, hr⟩ := hown
  refine wpList_append_any w hgd s x t ho base e i z 1 24 ht hi hz hsize hby hzs (by omega) (.slice A n c) n vs hs hv w.heap.size (some ⟨g, 0, none⟩) 1 c2 [.slice A' n' c'] hx ⟨rfl, fun _ => ⟨_, rfl, hglt, fun j u hj => ?_⟩⟩ (fun u hu => by simp at hu; subst hu; rfl) (by unfold maxLen; omega) (by omega) hbase ?_
  · match j, hj with
    | 0, hj => simp at hj; subst hj; simpa [Addr.add] using hcell
  · intro v' w' hown' hg hat
    have hb : Below base w w' := (Below.refl base w).grown hg hbase (fun k hk => (World.ownsRow.lt hv k hk).1)
    rcases hown'.2 with ⟨_, h0⟩ | ⟨g2, cap, cur, rfl, hrest⟩
    · omega
    · refine h _ cap w' (OwnM.snoc (c' := c') ⟨hl, vs, hv, hr⟩ hn' hI hlo hap (fun us hus => ?_) hg hat) hg hb hat
      have : us = vs := by
        rcases hus.2 with ⟨e1, e2⟩ | ⟨g3, cap3, cur3, e3, _, e4, _, _, _, e5⟩
        · rcases hv.2 with ⟨e6, e7⟩ | ⟨g4, cap4, cur4, e8, _⟩
          · have h1 : us.length = 0 := by have := hus.1; omega
            have h2 : vs.length = 0 := by have := hv.1; omega
            rw [List.eq_nil_of_length_eq_zero h1, List.eq_nil_of_length_eq_zero h2]
          · rw [e1] at e8; cases e8
        · rcases hv.2 with ⟨e6, e7⟩ | ⟨g4, cap4, cur4, e8, _, e9, _, _, _, e10⟩
          · rw [e6] at e3; cases e3
          · rw [e3] at e8
            injection e8 with e11 _ e12
            injection e11 with e11
            injection e11 with e11 _ _
            subst e11
            rw [e4] at e9
            injection e9 with e9
            injection e9 with e9
            rw [← e5, ← e10, e9]
      rw [this]; exact hown'

theorem agr_agrK (p : Int) (R : List Int) (l : List (Int × Int)) : agr p R l = agrK p R l := rfl

/-- What stays where one block, and the row that a slice owns, have turned. -/
structure Keep2 (g : Nat) (v : Value) (w w' : World) : Prop where
  os : w'.os = w.os
  tape : w'.tape = w.tape
  output : w'.output = w.output
  size : w.heap.size ≤ w'.heap.size
  block : ∀ b, b < w.heap.size → b ≠ g → v.ownBlock ≠ some b → w'.heap[b]? = w.heap[b]?

/-- The block of a search, and what it has found. -/
structure SrchW (w : World) (g : Nat) (p k agree : Int) (L : Option Addr) (N lc : Nat) (F : Option Addr) (fn fc : Nat) (most : Int) (rows : List (List Int)) : Prop where
  blk : Blk w g 179 #[.int .i64 p, .slice L N lc, .int .i64 k, .int .i64 agree, .slice F fn fc, .int .i64 most]
  own : OwnM w (g + 1) (g + 1) 22 F fn fc rows

section
variable {w w' : World} {g N lc fn fc : Nat} {p k agree most : Int} {L F : Option Addr} {rows : List (List Int)}
theorem SrchW.below (h : SrchW w g p k agree L N lc F fn fc most rows) (hb : Below w.heap.size w w') : SrchW w' g p k agree L N lc F fn fc most rows := ⟨h.blk.below hb h.blk.lt, h.own.belowAll hb⟩
theorem SrchW.drew (h : SrchW w g p k agree L N lc F fn fc most rows) : SrchW w.drew g p k agree L N lc F fn fc most rows := ⟨h.blk.drew, h.own.belowAll (Below.refl w.heap.size w).drew⟩
theorem Keep2.refl {v : Value} (w : World) : Keep2 g v w w := ⟨rfl, rfl, rfl, Nat.le_refl _, fun _ _ _ _ => rfl⟩
theorem Keep2.ofBelow {v : Value} (h : Below w.heap.size w w') : Keep2 g v w w' := ⟨h.os, h.tape, h.output, h.size, fun b hb _ _ => h.block b hb⟩
theorem Keep2.trans {v v2 : Value} {w2 : World} (h : Keep2 g v w w') (h2 : Keep2 g v2 w' w2) (hv : v2.ownBlock = v.ownBlock ∨ ∃ b, v2.ownBlock = some b ∧ w.heap.size ≤ b) : Keep2 g v w w2 :=
  ⟨h2.os.trans h.os, h2.tape.trans h.tape, h2.output.trans h.output, Nat.le_trans h.size h2.size, fun b hb hg ho => by
    rw [h2.block b (Nat.lt_of_lt_of_le hb h.size) hg (fun e => by
      rcases hv with h3 | ⟨b2, h3, h4⟩
      · exact ho (by rw [← h3]; exact e)
      · rw [h3] at e
        injection e with e
        omega)]
    exact h.block b hb hg ho⟩
theorem Keep2.grown {v v2 : Value} {w2 : World} (h : Keep2 g v w w') (h2 : w'.grownBy w2 v2.ownBlock) (hv : v2.ownBlock = v.ownBlock ∨ ∃ b, v2.ownBlock = some b ∧ w.heap.size ≤ b) : Keep2 g v w w2 :=
  h.trans (v2 := v2) ⟨h2.os, h2.tape, h2.output, h2.size, fun b hb _ ho => h2.block b hb (fun e => ho e.symm)⟩ hv
theorem Keep2.set {v : Value} (h : Keep2 g v w w') (o : Nat) (u : Value) : Keep2 g v w (w'.setCell ⟨g, o, none⟩ u) :=
  have hs : Step g w' (w'.setCell ⟨g, o, none⟩ u) := (Step.refl g w').set o u
  ⟨hs.os.trans h.os, hs.tape.trans h.tape, hs.output.trans h.output, Nat.le_trans h.size hs.size, fun b hb hg ho => by
    rw [World.grownBy.block hs b (Nat.lt_of_lt_of_le hb h.size) (fun e => by injection e with e; exact hg e)]
    exact h.block b hb hg ho⟩
theorem Keep2.below {v : Value} {base : Nat} (h : Keep2 g v w w') (hb : base ≤ w.heap.size) (hg : base ≤ g) (hv : ∀ b, v.ownBlock = some b → base ≤ b) : Below base w w' :=
  ⟨h.os, h.tape, h.output, h.size, fun b hlt => h.block b (by omega) (by omega) (fun e => by have := hv b e; omega)⟩
end

/-- What a search of some choices leaves. -/
def LsPost (g : Nat) (p : Int) (k agree : Nat) (L : Option Addr) (N lc : Nat) (F : Option Addr) (fn fc : Nat) (rows : List (List Int)) (vs : List Int) (bs : List Bool) (us ys : List Int) (j most : Nat) (w : World) (e : Ending) (w' : World) : Prop :=
  e = .returned (.tuple #[]) ∧ ∃ (F' : Option Addr) (fn' fc' : Nat) (mo : Int) (new : List (List Int)), SrchW w' g p k agree L N lc F' fn' fc' mo (rows ++ new) ∧ LsNew p vs bs k agree us ys j new ∧ new.length ≤ most ∧
    Keep2 g (.slice F fn fc) w w' ∧ ((Value.slice F' fn' fc').ownBlock = (Value.slice F fn fc).ownBlock ∨ ∃ b, (Value.slice F' fn' fc').ownBlock = some b ∧ w.heap.size ≤ b)

set_option maxRecDepth 100000 in
set_option maxHeartbeats 4000000 in
theorem look_ok (g : Nat) (p : Int) (k agree : Nat) (L : Option Addr) (N lc : Nat) (F : Option Addr) (fn fc : Nat) (most : Int) (rows : List (List Int)) (vs : List Int) (bs : List Bool) (C : Option Addr) (cc : Nat) (us ys : List Int) (j : Nat) (w : World) (hok : okP p = true)
    (hW : SrchW w g p k agree L N lc F fn fc most rows) (hL : Cel w w.heap.size L N vs bs) (hN : N ≤ 10) (hNp : (N : Int) < p) (hkn : knOk p vs bs) (hC : Sh w w.heap.size C k us ys) (hk : k ≤ 10) (hu : allP p us = true) (hy : allP p ys = true) (hd : Apart2 us) (hfn : rows.length ≤ 1000000000000) :
    Calls Tryz.prog 126 #[.pointer (some ⟨g, 0, none⟩), .slice C k cc] w (LsPost g p k agree L N lc F fn fc rows vs bs us ys j 1 w) := by
  obtain ⟨i9, hi9, hy0, hy1, hy2⟩ := info_parts info_row
  have HO := Lib.hid hok
  have HU := Lib.hid hu
  have HY := Lib.hid hy
  have HD := Lib.hid hd
  have HKN := Lib.hid hkn
  have hc0 : w.cell? ⟨g, 0, none⟩ = some (.int .i64 p) := (hW.blk.cell 0).trans rfl
  clear hok hu hy hkn
  go_enter Tryz.func126, Tryz.ntmps126
  go_upto_region 2 with (go_at_call 94; refine (interp_ok p C k cc us ys _ HO.out hC HU.out HY.out (by omega) (fun a b h1 h2 => HD.out a b h1 (by rw [hC.1]; exact h2))).mono ?_; rintro e w1 ⟨⟨R, A1, c1, rfl, hown1, hTh⟩, hb1⟩)
  have hW1 := hW.below hb1
  have hL1 := hL.upto hb1
  have hI1 := hown1.ints
  have hRl : R.length ≤ k := by have := hTh.ln; rw [hC.1] at this; exact this
  have hRc := hown1.cap
  have HT := Lib.hid hTh
  have hs1 : w1.drew.cell? ⟨g, 0, none⟩ = some (.int .i64 p) ∧ w1.drew.cell? ⟨g, 1, none⟩ = some (.slice L N lc) := ⟨(hW1.blk.cell 0).trans rfl, (hW1.blk.cell 1).trans rfl⟩
  obtain ⟨ag, hag2⟩ : ∃ ag, agr p R (knL vs bs) = ag := ⟨_, rfl⟩
  have HAG := Lib.hid hag2
  clear hag2 hTh
  go_cut [6] (fun s6 wx => s6 = .int .i64 ag ∧ Below w1.heap.size w1 wx)
  case first =>
    go_region_held3 (fun w' => w'.cell? ⟨g, 0, none⟩ = some (.int .i64 p) ∧ w'.cell? ⟨g, 1, none⟩ = some (.slice L N lc)) (first | exact hs1 | exact hs2)
      (first
        | (go_at_call 139; (refine (agree_code_ok p L A1 N lc R.length c1 vs bs R _ HO.out (show Cel w1.drew w1.drew.heap.size L N vs bs from hL1) (by omega) hNp HKN.out (show Ints w1.drew w1.drew.heap.size A1 R.length R from hI1) HT.out.al hRc (by omega)).mono ?_); rintro e w2 ⟨rfl, hb2⟩
           rw [HAG.out]
           have hb2' : Below w1.heap.size w1 w2 := (Below.refl w1.heap.size w1).drew.trans hb2
           have hs2 : w2.cell? ⟨g, 0, none⟩ = some (.int .i64 p) ∧ w2.cell? ⟨g, 1, none⟩ = some (.slice L N lc) := ⟨((hW1.blk.below hb2' hW1.blk.lt).cell 0).trans rfl, ((hW1.blk.below hb2' hW1.blk.lt).cell 1).trans rfl⟩))
    all_goals go_wp2
    all_goals go_meet
    all_goals exact ⟨rfl, hb2'⟩
  case rest =>
  obtain ⟨rfl, hb2⟩ := hcut
  obtain ⟨w2, hw2⟩ : ∃ v, v = wc := ⟨_, rfl⟩
  subst hw2
  have hW2 := hW1.below hb2
  have hown2 := hown1.belowAll hb2
  have hbb2 := bnext hb1 hb2
  have hc5 : w2.cell? ⟨g, 5, none⟩ = some (.int .i64 most) := (hW2.blk.cell 5).trans rfl
  have hz5 := hW2.blk.frozen 5
  obtain ⟨mx, hmx⟩ : ∃ mx, (if most < (ag : Int) then (ag : Int) else most) = mx := ⟨_, rfl⟩
  go_upto_region 4 with fail
  have hb3 : SrchW (w2.setCell ⟨g, 5, none⟩ (.int .i64 mx)) g p k agree L N lc F fn fc mx rows := ⟨hW2.blk.set_ 5 (.int .i64 mx), hW2.own.step ((Step.refl g w2).set 5 _) (by omega) (by omega)⟩
  have hK3 : Keep2 g (.slice F fn fc) w (w2.setCell ⟨g, 5, none⟩ (.int .i64 mx)) := (Keep2.ofBelow hbb2).set 5 _
  have hI3 : Ints (w2.setCell ⟨g, 5, none⟩ (.int .i64 mx)) (w2.setCell ⟨g, 5, none⟩ (.int .i64 mx)).heap.size A1 R.length R := (hown2.step ((Step.refl g w2).set 5 (.int .i64 mx)) hW.blk.lt).ints
  have hrow3 := hown2.row
  have hgw : g < w.heap.size := hW.blk.lt
  have hFr := hW.own.row
  have hsz3 : w.heap.size ≤ (w2.setCell ⟨g, 5, none⟩ (.int .i64 mx)).heap.size := hK3.size
  clear hc5 hz5 hW2 hown2 hown1 hW1 hL1 hI1 hs1 hb1 hb2 hbb2 hmx hc0
  generalize w2.setCell ⟨g, 5, none⟩ (.int .i64 mx) = w3 at *
  have hc3 : w3.cell? ⟨g, 3, none⟩ = some (.int .i64 agree) := (hb3.blk.cell 3).trans rfl
  by_cases hge : agree ≤ ag
  · have hgei : (agree : Int) ≤ (ag : Int) := by omega
    have hc4 : w3.cell? ⟨g, 4, none⟩ = some (.slice F fn fc) := (hb3.blk.cell 4).trans rfl
    have HNW : Hid (LsNew p vs bs k agree us ys j [R]) := Lib.hid (LsNew.leaf HO.out HT.out HU.out HD.out hC.1 j _ (by rw [← agr_agrK, HAG.out, if_pos hge]))
    go_upto_region 6 with (
      at_builtin
      refine (?_ : Hid _).out)
    refine Lib.hid ?_
    have hMa := hb3.own.belowAll (bbox (.cells #[.slice A1 R.length c1] 22))
    have hBa := hb3.blk.alloc (.cells #[.slice A1 R.length c1] 22)
    have hIa := hI3.upto (bbox (.cells #[.slice A1 R.length c1] 22))
    have hKa : Keep2 g (.slice F fn fc) w (w3.alloc (.cells #[.slice A1 R.length c1] 22)) := hK3.trans (Keep2.ofBelow (v := .slice F fn fc) (bbox _)) (.inl rfl)
    have hcl : (w3.alloc (.cells #[.slice A1 R.length c1] 22)).cell? ⟨w3.heap.size, 0, none⟩ = some (.slice A1 R.length c1) := by rw [World.cell?_alloc_at _ _ _ _ rfl]; rfl
    have hfl := hb3.own.len
    refine wpList_append_rowH rfl _ _ 45 rfl (g + 1) (g + 1) 22 i9 _ Tryz.underlying45 hi9 hy0 hy1 hy2 rfl F fn fc rows rfl hMa w3.heap.size 1 A1 R.length c1 R rfl hcl (by simp) (by omega) hIa
      (fun h0 b off s e => by have := hrow3 b (by rw [e]; rfl); omega) (fun h0 b off s e e2 => by have h1 := hrow3 b (by rw [e]; rfl); have h2 := (hFr b e2).2; omega) (fn + 1) rfl (by omega) (by simp; omega) ?_
    intro F4 fc4 w4 hown4 hgr4 hb4 hab4
    have hB4 := hBa.below hb4 (by omega)
    have hc44 : w4.cell? ⟨g, 4, none⟩ = some (.slice F fn fc) := (hB4.cell 4).trans rfl
    have hz44 := hB4.frozen 4
    have hK4 := hKa.grown hgr4 (.inl rfl)
    go_wp2
    go_end0
    refine ⟨rfl, F4, fn + 1, fc4, mx, [R], ⟨hB4.set_ 4 (.slice F4 (fn + 1) fc4), hown4.step ((Step.refl g w4).set 4 _) (by omega) (by omega)⟩, HNW.out, by simp, hK4.set 4 _, ?_⟩
    rcases hab4 with h1 | h1
    · exact .inl h1
    · exact .inr ⟨_, h1, by simp; omega⟩
  · have hgei : ¬ (agree : Int) ≤ (ag : Int) := by omega
    have HNW : Hid (LsNew p vs bs k agree us ys j []) := Lib.hid (LsNew.leaf HO.out HT.out HU.out HD.out hC.1 j _ (by rw [← agr_agrK, HAG.out, if_neg hge]))
    go_wp2
    go_end0
    exact ⟨rfl, F, fn, fc, mx, [], by rw [List.append_nil]; exact hb3, HNW.out, by simp, hK3, .inl rfl⟩
end Go.Proofs.YtmcgnpdfpfgfpaaGreatDoor
