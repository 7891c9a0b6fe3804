/-
  Words for memory and contracts of small functions of the second form. Conditions: those of each lemma.
-/
import Derived.Test.YtmcgnpdfpfgfpaaGreatDoorLead2
import Derived.Test.YtmcgnpdfpfgfpaaGreatDoorPlain
import Derived.Test.YtmcgnpdfpfgfpaaGreatDoorGBas
import Derived.Deep.RegionLaw
import Derived.Outline
/-! Lead3 -/
namespace Go.Proofs.YtmcgnpdfpfgfpaaGreatDoor
open Go.RowKit
set_option linter.unusedVariables false

/-- A step of the reduction. -/
theorem lead_any (base gs : Nat) (p : Int) (c : Nat) (R : Option Addr) (n cap : Nat) (bs : List (Nat × Nat)) (m : List (List Int)) (lead : List Nat) (k : Nat) (w : World)
    (h : RedW w base gs p c R n cap bs m lead) (hok : okP p = true) (hI : RInv p k lead m) (he : Elts p (c + 1) m) (hk : k < c) (hc : c ≤ 32) (hn : n ≤ 32) :
    Calls Tryz.prog 184 #[.pointer (some ⟨gs, 0, none⟩), .int .i64 k] w (LeadPost base gs p c R n cap k m w) := by
  have hrn : lead.length ≤ n := by rw [← h.ln]; exact hI.rm
  rcases find_row m k lead.length (n - lead.length) with h1 | ⟨i, h1, h2, h3, h4⟩
  · exact lead_no base gs p c R n cap bs m lead k lead.length w h hI he hk hc hn (Lib.hid rfl) hrn (Lib.hid fun q hq1 hq2 => h1 q hq1 (by omega))
  · exact lead_yes base gs p c R n cap bs m lead k lead.length i w h hok hI he hk hc hn (Lib.hid rfl) h1 (by omega) h3 (Lib.hid h4)
end Go.Proofs.YtmcgnpdfpfgfpaaGreatDoor

/-! Reduce -/
namespace Go.Proofs.YtmcgnpdfpfgfpaaGreatDoor
open Go.RowKit
set_option linter.unusedVariables false

/-- A part of a list of numbers. -/
theorem Ints.sub_ {w : World} {B : Nat} {A : Option Addr} {n cap : Nat} {xs : List Int} (h : Ints w B A n xs) (hcap : n ≤ cap) (l m : Nat) (hl : l + m ≤ n) : Ints w B (if cap = l then A else A.map (·.add (l * 1))) m ((xs.drop l).take m) := by
  refine ⟨by rw [List.length_take, List.length_drop, h.1]; omega, fun h0 => ?_⟩
  obtain ⟨b, off, e1, hb, hc⟩ := h.2 (by omega)
  subst e1
  rw [if_neg (by omega)]
  refine ⟨b, off + l, by simp [Addr.add], hb, fun j hj => ?_⟩
  rw [Nat.add_assoc, hc (l + j) (by omega), List.getD_eq_getElem?_getD, List.getD_eq_getElem?_getD, List.getElem?_take, if_pos hj, List.getElem?_drop]

theorem info_rowR : (Tryz.prog.info? 22).map (fun i => (i.zero, i.size, i.bytes)) = some (some (.slice none 0 0), 1, 24) := by kernel_rfl
theorem Reads.box1 (W : World) (v : Value) (t : TypeId) : Reads (W.alloc (.cells #[v] t)) (W.heap.size + 1) 1 (some ⟨W.heap.size, 0, none⟩) 1 [v] :=
  ⟨rfl, fun _ => ⟨_, rfl, Nat.lt_succ_self _, fun j u hj => by
    match j, hj with
    | 0, hj =>
      simp at hj
      subst hj
      have : Addr.add ⟨W.heap.size, 0, none⟩ 0 = ⟨W.heap.size, 0, none⟩ := rfl
      rw [this, World.cell?_alloc_at _ _ _ _ rfl]; rfl⟩⟩

theorem take_snoc_row (l : List (List Int)) (k : Nat) (h : k < l.length) : l.take (k + 1) = l.take k ++ [l.getD k []] := by
  rw [List.take_add_one, List.getElem?_eq_getElem h, List.getD_eq_getElem?_getD, List.getElem?_eq_getElem h]; rfl

/-- One row more, and the slice of the rows stored. -/
theorem RedW.pushed {W w7 : World} {base gs q cap b cr : Nat} {p : Int} {c : Nat} {R : Option Addr} {bs : List (Nat × Nat)} {m : List (List Int)} {lead : List Nat} {row : List Int} {v' : Value}
    (h : RedW W base gs p c R q cap bs m lead) (hrow : OwnI W base 3 (some ⟨b, 0, none⟩) (c + 1) cr row) (hbn : ∀ j, j < m.length → (bs.getD j (0, 0)).1 ≠ b)
    (hown : w7.ownsRow base 22 1 v' (q + 1) (rowV (c + 1) bs ++ [.slice (some ⟨b, 0, none⟩) (c + 1) cr])) (hg : W.grownBy w7 (Value.slice R q cap).ownBlock) (hbW : base ≤ W.heap.size) :
    ∃ R' cap', v' = .slice R' (q + 1) cap' ∧ (w7.cell? ⟨gs, 2, none⟩ = some (.slice R q cap) ∧ w7.frozen? ⟨gs, 2, none⟩ = false) ∧ RedW (w7.setCell ⟨gs, 2, none⟩ v') base gs p c R' (q + 1) cap' (bs ++ [(b, cr)]) (m ++ [row]) lead ∧ Below base W (w7.setCell ⟨gs, 2, none⟩ v') := by
  have hRg : (Value.slice R q cap).ownBlock ≠ some gs := own_blk_ne h.out h.blk (fun e => types3.1 e.symm)
  have hR : ∀ (g n d : Nat) (xs : List Int), OwnI W base 3 (some ⟨g, 0, none⟩) n d xs → (Value.slice R q cap).ownBlock ≠ some g := fun g n d xs hx e => by
    rcases h.out.2 with ⟨hv, _⟩ | ⟨g2, cp, cur, hv, _⟩
    · rw [hv] at e; cases e
    · injection hv with hv1 hv2 hv3
      have ho := h.out
      rw [hv1] at ho e
      have e2 : some g2 = some g := e
      injection e2 with e2
      exact own_ne hx ho (fun e => types3.2.2 e.symm) e2.symm
  have hbg : b ≠ gs := fun e => own_blk_ne hrow h.blk (fun e => types3.2.1 e.symm) (by rw [← e]; rfl)
  have hk : Blk w7 gs _ _ := h.blk.grown hg (fun e => hRg e.symm)
  have hrk := h.rws.kept hg (fun j hj => hR _ _ _ _ (h.rws.own j hj))
  have hrow7 := hrow.kept hg (.inr (fun e => hR b _ _ _ hrow (by rw [← e]; rfl)))
  have hs := hrk.snoc hrow7 hbn
  have hS := (Step.refl gs w7).set 2 v'
  rcases hown.2 with ⟨hv, h0⟩ | ⟨g, cap', cur, hv, h1, h2⟩
  · omega
  · subst hv
    refine ⟨_, cap', rfl, ⟨(hk.cell 2).trans (redC_2 _ _ _ _ _), hk.frozen 2⟩, ⟨?_, ?_, ?_, ?_, h.lo⟩, ?_⟩
    · have := hk.set_ 2 (.slice (some ⟨g, 0, none⟩) (q + 1) cap')
      rwa [redC_set_rows] at this
    · rw [rowV_snoc]
      exact World.ownsRow.kept hown hS (.inr (own_blk_ne hown hk (fun e => types3.1 e.symm)))
    · refine hs.kept hS (fun j hj e => ?_)
      injection e with e
      exact own_blk_ne (hs.own j hj) hk (fun e => types3.2.1 e.symm) (by rw [e]; rfl)
    · rw [List.length_append, h.ln]; rfl
    · exact ((Below.refl base W).grown hg hbW (fun k hk => (World.ownsRow.lt h.out k hk).1)).setCell h.lo _

/-- Equations as a value. -/
abbrev eqV (p : Int) (r c : Nat) (C : Option Addr) (nc cc : Nat) (D : Option Addr) (nd cd : Nat) : Value := .agg #[.int .i64 p, .int .i64 r, .int .i64 c, .slice C nc cc, .slice D nd cd]
abbrev eqC (p : Int) (r c : Nat) (C : Option Addr) (nc cc : Nat) (D : Option Addr) (nd cd : Nat) : Array Value := #[.int .i64 p, .int .i64 r, .int .i64 c, .slice C nc cc, .slice D nd cd]

theorem ldL_nil : ldL [] = List.replicate 32 0 := by decide
theorem redC_new (p c : Int) : redC p c (.slice none 0 0) 0 (ldL []) = #[.int .i64 p, .int .i64 c, .slice none 0 0, .int .i64 0, .int .i64 0, .int .i64 0, .int .i64 0, .int .i64 0, .int .i64 0, .int .i64 0, .int .i64 0, .int .i64 0, .int .i64 0, .int .i64 0, .int .i64 0, .int .i64 0, .int .i64 0, .int .i64 0, .int .i64 0, .int .i64 0, .int .i64 0, .int .i64 0, .int .i64 0, .int .i64 0, .int .i64 0, .int .i64 0, .int .i64 0, .int .i64 0, .int .i64 0, .int .i64 0, .int .i64 0, .int .i64 0, .int .i64 0, .int .i64 0, .int .i64 0, .int .i64 0] := by
  rw [ldL_nil]; simp only [redC, List.replicate, List.map_cons, List.map_nil, List.append_toArray, List.cons_append, List.nil_append]

set_option maxHeartbeats 800000 in
set_option maxRecDepth 100000 in
theorem reduce_ok (p : Int) (r c nc : Nat) (C : Option Addr) (cc : Nat) (D : Option Addr) (cd : Nat) (cells right : List Int) (w : World) (h : EqOk p r c cells right) (hnc : Hid (r * c = nc)) (hC : Ints w w.heap.size C nc cells) (hD : Ints w w.heap.size D r right) (hcc : nc ≤ cc) :
    Calls Tryz.prog 180 #[eqV p r c C nc cc D r cd] w (fun e w' => ∃ R cap bs m lead, e = .returned (.pointer (some ⟨w.heap.size + 1, 0, none⟩)) ∧ RedW w' (w.heap.size + 1) (w.heap.size + 1) p c R r cap bs m lead ∧ Red p c (augM r c cells right) m lead ∧ Below w.heap.size w w') := by
  obtain ⟨i0, hi0, hz0, hz1, hz2⟩ := info_parts info_int
  obtain ⟨i1, hi1, hy0, hy1, hy2⟩ := info_parts info_rowR
  have hle : r * c ≤ 32 * 32 := Nat.mul_le_mul h.r32 h.c32
  have hnc2 : nc ≤ 1024 := by rw [hnc.out] at hle; exact hle
  have hr32 := h.r32
  have hc32 := h.c32
  have H := Lib.hid h
  clear h hle
  go_enter Tryz.func180, Tryz.ntmps180
  go_wp2
  rw [← redC_new]
  have HR0 : Hid (RedW ((w.alloc (.cells (eqC p r c C nc cc D r cd) 237)).alloc (.cells (redC p c (.slice none 0 0) 0 (ldL [])) 265)) (w.heap.size + 1) (w.heap.size + 1) p c none 0 0 [] ((augM r c cells right).take 0) []) :=
    Lib.hid ⟨by
      have h := Blk.new (w.alloc (.cells (eqC p r c C nc cc D r cd) 237)) 265 (redC p c (.slice none 0 0) 0 (ldL []))
      rwa [show (w.alloc (.cells (eqC p r c C nc cc D r cd) 237)).heap.size = w.heap.size + 1 by simp] at h, World.ownsRow_nil _ _ _ _, Rws.nil_, rfl, Nat.le_refl _⟩
  go_loopw [16] (fun v wr => ∃ (q : Nat) (R : Option Addr) (cap : Nat) (bs : List (Nat × Nat)), q ≤ r ∧ v = .int .i64 q ∧ Hid (RedW wr (w.heap.size + 1) (w.heap.size + 1) p c R q cap bs ((augM r c cells right).take q) []) ∧ Hid (Blk wr w.heap.size 237 (eqC p r c C nc cc D r cd)) ∧ Below w.heap.size w wr) (fun v _ => r - (intOf v).toNat)
  case atStart => exact ⟨0, none, 0, [], Nat.zero_le _, rfl, HR0, Lib.hid ((Blk.new w _ _).alloc _), ballocs (bbox _) _⟩
  case round =>
    obtain ⟨q, R, cap, bs, hq, rfl, HR, HB, hb⟩ := hrel
    by_cases hlt : q < r
    · have hb2 : wr.cell? ⟨w.heap.size, 2, none⟩ = some (.int .i64 c) := (HB.out.cell 2).trans rfl
      have hb3 : wr.cell? ⟨w.heap.size, 3, none⟩ = some (.slice C nc cc) := (HB.out.cell 3).trans rfl
      have hb4 : wr.cell? ⟨w.heap.size, 4, none⟩ = some (.slice D r cd) := (HB.out.cell 4).trans rfl
      have hg2 : wr.cell? ⟨w.heap.size + 1, 2, none⟩ = some (.slice R q cap) := (HR.out.blk.cell 2).trans (redC_2 _ _ _ _ _)
      have hgf := HR.out.blk.frozen 2
      have hrle := row_le (c := c) hlt
      rw [hnc.out] at hrle
      obtain ⟨l, hl⟩ : ∃ l, q * c = l := ⟨_, rfl⟩
      rw [hl] at hrle
      have hw1 : (q : Int) * (c : Int) = (l : Int) := by rw [← hl]; simp
      have hw2 : ((q : Int) + 1) * (c : Int) = ((l + c : Nat) : Int) := by rw [← hl, Int.add_mul]; simp
      have HI := Lib.hid ((hC.upto hb).sub_ hcc l c hrle)
      have HRow : Hid ((augM r c cells right).getD q [] = (cells.drop l).take c ++ [right.getD q 0]) := Lib.hid (by rw [← hl]; exact augM_at _ _ _ _ hlt)
      obtain ⟨yq, hyq⟩ : ∃ y, right.getD q 0 = y := ⟨_, rfl⟩
      rw [hyq] at HRow
      obtain ⟨rw0, hrw0⟩ : ∃ z, (cells.drop l).take c = z := ⟨_, rfl⟩
      rw [hrw0] at HRow HI
      obtain ⟨bD, oD, hDe, hbD, hcD⟩ := (hD.upto hb).2 (by omega)
      subst hDe
      have hcq := hcD q hlt
      rw [hyq] at hcq
      have h1 : (q : Int) < (r : Int) := by omega
      have h0 : (0 : Int) ≤ (q : Int) := by omega
      clear hcD hrw0 hyq hl
      have hl2 := HR.out.blk.lt
      obtain ⟨A4, hA4, HI4⟩ : ∃ A4 : Option Addr, (if cc = l then C else Option.map (fun x => x.add l) C) = A4 ∧ Hid (Ints wr wr.heap.size A4 (l + c - l) rw0) := by
        refine ⟨_, rfl, ?_⟩
        have := HI
        rwa [Nat.mul_one, show c = l + c - l by omega] at this
      go_wp2_with (at_builtin; refine (?_ : Hid _).out)
      refine Lib.hid ?_
      refine wpList_append_ints rfl _ _ 22 rfl wr.heap.size 3 i0 _ Tryz.underlying22 hi0 hz0 hz1 hz2 rfl none 0 0 [] rfl OwnI.nil_ _ A4 (l + c - l) (cc - l) rw0 rfl HI4.out c (by omega) rw0 rfl (by omega) (Nat.le_refl _) ?_
      intro A5 c5 w5 hown5 hg5 hb5 hor5
      have hc2 : w5.cell? ⟨w.heap.size + 1, 2, none⟩ = some (.slice R q cap) := (hb5.cell (by show w.heap.size + 1 < _; omega)).trans hg2
      have hc4 : w5.cell? ⟨w.heap.size, 4, none⟩ = some (.slice (some ⟨bD, oD, none⟩) r cd) := (hb5.cell (by show w.heap.size < _; omega)).trans hb4
      have hcy : w5.cell? ⟨bD, oD + q, none⟩ = some (.int .i64 yq) := (hb5.cell hbD).trans hcq
      have HR5 := Lib.hid (HR.out.below hb5)
      have HBx5 := Lib.hid (HB.out.below hb5 (by omega))
      have hf5 := HR5.out.blk.frozen 2
      have hbb := hb.trans (hb5.mono (by omega))
      have HO5 := Lib.hid hown5
      have HS5 := hb5.size
      have HW := Lib.hid (rfl : wr.heap.size = wr.heap.size)
      obtain ⟨B0, hB0⟩ : ∃ B0, wr.heap.size = B0 := ⟨_, rfl⟩
      rw [hB0] at HO5 HS5 hl2
      have HBN : Hid (∀ j, j < q → (bs.getD j (0, 0)).1 < B0) := Lib.hid fun j hj => by
        rw [← hB0]; exact (HR.out.rws.row (by rw [List.length_take, augM_len]; omega)).2
      have HBB := Lib.hid hbb
      have HK : Hid (∀ w', Below B0 w5 w' → RedW w' (w.heap.size + 1) (w.heap.size + 1) p c R q cap bs ((augM r c cells right).take q) []) := Lib.hid fun w' hw => HR.out.below (hb5.trans (by rw [hB0]; exact hw))
      have HKB : Hid (∀ w', Below B0 w5 w' → Blk w' w.heap.size 237 (eqC p r c C nc cc (some ⟨bD, oD, none⟩) r cd) ∧ Below w.heap.size w w') := Lib.hid fun w' hw => ⟨HBx5.out.below hw (by omega), hbb.trans (hw.mono (by omega))⟩
      clear hown5 hg5 hb5 hor5 hb2 hb3 hb4 hg2 hgf hcq hA4 HI4 HI hrle hw1 hw2 hB0 HW HR HB hb hbb hbD
      have hx2 : w5.drew.cell? ⟨w.heap.size + 1, 2, none⟩ = some (.slice R q cap) := hc2
      have hx4 : w5.drew.cell? ⟨w.heap.size, 4, none⟩ = some (.slice (some ⟨bD, oD, none⟩) r cd) := hc4
      have hxy : w5.drew.cell? ⟨bD, oD + q, none⟩ = some (.int .i64 yq) := hcy
      have hxa : (w5.alloc (.cells #[.int .i64 yq] 3)).cell? ⟨w.heap.size + 1, 2, none⟩ = some (.slice R q cap) := (World.cell?_alloc_lt _ _ _ (by show w.heap.size + 1 < w5.heap.size; omega)).trans hc2
      go_wp2_with fail
      go_region_law (first
        | (refine step_append_own (w := w5.drew.alloc (.cells #[.int .i64 yq] 3)) rfl (.tmp 37) (.tmp 43) 22 rfl B0 3 i0 _ Tryz.underlying22 hi0 hz0 hz1 hz2 rfl A5 c c5 rw0 (HO5.out.drew.alloc _) (by simp [Act.eval]) w5.heap.size 1 yq (by simp [Act.eval]) (Ints.oneAt _ yq _ w5.heap.size (by simp)) (by omega) (le_alloc HS5 _) ?_
           intro A6 c6 w6 hown6 hb6
           obtain ⟨b6, rfl, hb6l, hb6h⟩ := hown6.form (by omega)
           have hb56 : Below B0 w5 w6 := ((Below.refl _ _).drew.alloc HS5 _).trans hb6
           have hd2 : w6.cell? ⟨w.heap.size + 1, 2, none⟩ = some (.slice R q cap) := (hb56.cell (by show w.heap.size + 1 < _; omega)).trans hc2
           have hda : (w6.alloc (.cells #[.slice (some ⟨b6, 0, none⟩) (c + 1) c6] 22)).cell? ⟨w.heap.size + 1, 2, none⟩ = some (.slice R q cap) := (World.cell?_alloc_lt _ _ _ (by show w.heap.size + 1 < w6.heap.size; omega)).trans hd2
           have HO6 := Lib.hid hown6
           have HB6 := Lib.hid hb56
           clear hown6 hb6 hb56)
        | (refine step_append_any (w := w6.alloc (.cells #[.slice (some ⟨b6, 0, none⟩) (c + 1) c6] 22)) rfl (.tmp 36) (.tmp 45) 45 rfl (w.heap.size + 1) 22 i1 _ 1 24 Tryz.underlying45 hi1 hy0 hy1 hy2 rfl (by omega) (.slice R q cap) q (rowV (c + 1) bs) (by simp [Act.eval]) (World.ownsRow.alloc (HK.out _ HB6.out).out _) (w6.heap.size + 1) (some ⟨w6.heap.size, 0, none⟩) 1 1 [.slice (some ⟨b6, 0, none⟩) (c + 1) c6] (by simp [Act.eval]) (Reads.box1 _ _ _) (fun u hu => by simp at hu; subst hu; rfl) (by unfold maxLen; omega) (by omega) (le_alloc (by omega) _) ?_
           intro v' w7 hown7 hg7 hor7
           obtain ⟨R', cap', rfl, ⟨hc7, hf7⟩, HR7, hb7⟩ := RedW.pushed (HK.out _ (HB6.out.trans ((Below.refl _ _).alloc (Nat.le_trans HS5 HB6.out.size) (.cells #[.slice (some ⟨b6, 0, none⟩) (c + 1) c6] 22)))) ((HO6.out.base (by omega)).alloc _) (fun j hj => by have := HBN.out j (by rw [List.length_take, augM_len] at hj; omega); omega) hown7 hg7 (le_alloc (by omega) _)
           have HR8 := Lib.hid HR7
           have HB8 := Lib.hid (HB6.out.trans ((Below.refl _ _).alloc (Nat.le_trans HS5 HB6.out.size) (.cells #[.slice (some ⟨b6, 0, none⟩) (c + 1) c6] 22)))
           have HB9 := Lib.hid hb7
           clear hown7 hg7 hor7 HR7 hb7))
      all_goals go_wp2
      all_goals go_roundw
      all_goals first
        | exact ⟨⟨q + 1, R', cap', bs ++ [(b6, c6)], by omega, by go_num, Lib.hid (by rw [take_snoc_row _ _ (by rw [augM_len]; exact hlt), HRow.out]; exact HR8.out), Lib.hid ((HKB.out _ HB8.out).1.below HB9.out (Nat.lt_succ_self _)), (HKB.out _ HB8.out).2.trans (HB9.out.mono (Nat.le_succ _))⟩, by simp [intOf]; omega⟩
        | exact ⟨q + 1, R', cap', bs ++ [(b6, c6)], by omega, by go_num, Lib.hid (by rw [take_snoc_row _ _ (by rw [augM_len]; exact hlt), HRow.out]; exact HR8.out), Lib.hid ((HKB.out _ HB8.out).1.below HB9.out (Nat.lt_succ_self _)), (HKB.out _ HB8.out).2.trans (HB9.out.mono (Nat.le_succ _))⟩
        | (simp [intOf]; omega)
    · obtain rfl : q = r := by omega
      have hb2 : wr.cell? ⟨w.heap.size, 2, none⟩ = some (.int .i64 c) := (HB.out.cell 2).trans rfl
      have HR1 := HR.out
      rw [show (augM q c cells right).take q = augM q c cells right from List.take_of_length_le (by rw [augM_len]; exact Nat.le_refl _)] at HR1
      have HR2 := Lib.hid HR1
      have hsz : w.heap.size + 1 ≤ wr.heap.size := Nat.le_of_lt HR1.blk.lt
      clear HR1 HR HR0
      go_wp2
      go_loopw [52] (fun v wx => ∃ (k : Nat) (bs : List (Nat × Nat)) (m : List (List Int)) (lead : List Nat), k ≤ c ∧ v = .int .i64 k ∧ Hid (RedW wx (w.heap.size + 1) (w.heap.size + 1) p c R q cap bs m lead) ∧ Hid (RInv p k lead m) ∧ Hid (Elts p (c + 1) m) ∧ Hid (∀ z, Ker p (c + 1) (augM q c cells right) z ↔ Ker p (c + 1) m z) ∧ Below w.heap.size w wx) (fun v _ => c - (intOf v).toNat)
      case atStart => exact ⟨0, bs, _, [], Nat.zero_le _, rfl, HR2, Lib.hid (RInv.start _ _), Lib.hid H.out.elts, Lib.hid fun z => Iff.rfl, hb⟩
      case round =>
        rename_i wo _
        obtain ⟨k, bs, m, lead, hk, rfl, HR, HI, HE, HZ, hb⟩ := hrel
        by_cases hlt : k < c
        · go_wp2_with (go_at_call 184; refine (lead_any _ _ p c R q cap bs m lead k _ HR.out H.out.ok HI.out HE.out hlt hc32 hr32).mono ?_; rintro e w8 ⟨bs8, m8, lead8, rfl, h8, hI8, hE8, hZ8, hb8⟩
                       have HR8 := Lib.hid h8
                       have HI8 := Lib.hid hI8
                       have HE8 := Lib.hid hE8
                       have HZ8 : Hid (∀ z, Ker p (c + 1) (augM q c cells right) z ↔ Ker p (c + 1) m8 z) := Lib.hid fun z => (HZ.out z).trans (hZ8 z)
                       clear h8 hI8 hE8 hZ8)
          go_roundw
          case rel => exact ⟨k + 1, bs8, m8, lead8, by omega, by go_num, HR8, HI8, HE8, HZ8, hb.trans (hb8.mono (Nat.le_succ _))⟩
          case measure => simp [intOf]; omega
        · obtain rfl : k = c := by omega
          go_wp2
          go_ret
          exact ⟨R, cap, bs, m, lead, rfl, HR.out, ⟨HI.out, by rw [HR.out.ln, augM_len], HE.out, HZ.out⟩, hb⟩
end Go.Proofs.YtmcgnpdfpfgfpaaGreatDoor

/-! SCheck -/
namespace Go.Proofs.YtmcgnpdfpfgfpaaGreatDoor
open Go.RowKit
set_option linter.unusedVariables false

set_option maxRecDepth 100000 in
theorem scheck_ok (p : Int) (r c nc : Nat) (C : Option Addr) (cc : Nat) (D : Option Addr) (cd : Nat) (cells right : List Int) (w : World) (h : EqOk p r c cells right) (hnc : Hid (r * c = nc)) (hC : Ints w w.heap.size C nc cells) (hD : Ints w w.heap.size D r right) :
    Calls Tryz.prog 179 #[eqV p r c C nc cc D r cd] w fun e w' => e = .returned (.int .i64 0) ∧ Below w.heap.size w w' := by
  have HO := Lib.hid h.ok
  have HA := Lib.hid h.ac
  have HR := Lib.hid h.ar
  have h1 : ¬ (r : Int) < 0 := by omega
  have h2 : ¬ (32 : Int) < (r : Int) := by have := h.r32; omega
  have h3 : ¬ (c : Int) < 0 := by omega
  have h4 : ¬ (32 : Int) < (c : Int) := by have := h.c32; omega
  have hle : r * c ≤ 32 * 32 := Nat.mul_le_mul h.r32 h.c32
  have hnc2 : nc ≤ 1024 := by rw [hnc.out] at hle; exact hle
  have hr32 := h.r32
  have hprod : (r : Int) * (c : Int) = (nc : Int) := by rw [← Int.natCast_mul, hnc.out]
  have hB := Blk.new w 237 (eqC p r c C nc cc D r cd)
  have hb0 : Below w.heap.size w (w.alloc (.cells (eqC p r c C nc cc D r cd) 237)) := bbox _
  clear h hle
  go_enter Tryz.func179, Tryz.ntmps179
  go_wp2_with (first
    | (go_at_call 39; refine (of_yes p _ HO.out).mono ?_; rintro e w1 ⟨rfl, hb1⟩
       have hbb1 := bnext hb0 hb1
       have hB1 := hB.below hb1 hB.lt
       have hc1 : w1.cell? ⟨w.heap.size, 1, none⟩ = some (.int .i64 r) := (hB1.cell 1).trans rfl
       have hc2 : w1.cell? ⟨w.heap.size, 2, none⟩ = some (.int .i64 c) := (hB1.cell 2).trans rfl
       have hc3 : w1.cell? ⟨w.heap.size, 3, none⟩ = some (.slice C nc cc) := (hB1.cell 3).trans rfl
       have hc4 : w1.cell? ⟨w.heap.size, 4, none⟩ = some (.slice D r cd) := (hB1.cell 4).trans rfl
       clear hb1)
    | (go_at_call 47; (with_reducible refine (all_any p C nc cc cells w1 (hC.upto hbb1) (by omega)).mono ?_); rintro e w2 ⟨rfl, hb2⟩; rw [HA.out]
       have hbb2 := bnext hbb1 hb2
       have hB2 := hB1.below hb2 hB1.lt
       have hc5 : w2.cell? ⟨w.heap.size, 4, none⟩ = some (.slice D r cd) := (hB2.cell 4).trans rfl
       clear hb2)
    | (go_at_call 47; (with_reducible refine (all_any p D r cd right w2 (hD.upto hbb2) (by omega)).mono ?_); rintro e w3 ⟨rfl, hb3⟩; rw [HR.out]
       have hbb3 := bnext hbb2 hb3
       clear hb3))
  go_ret
  exact ⟨rfl, hbb3⟩

/-- Valid equations as a value, and the lists that it leads to. -/
structure EqW (w : World) (p : Int) (r c nc : Nat) (C : Option Addr) (cc : Nat) (D : Option Addr) (cd : Nat) (cells right : List Int) : Prop where
  ok : EqOk p r c cells right
  ln : r * c = nc
  hC : Ints w w.heap.size C nc cells
  hD : Ints w w.heap.size D r right
  cap : nc ≤ cc
theorem EqW.upto {w w' : World} {p : Int} {r c nc cc cd : Nat} {C D : Option Addr} {cells right : List Int} (h : EqW w p r c nc C cc D cd cells right) (hb : Below w.heap.size w w') : EqW w' p r c nc C cc D cd cells right :=
  ⟨h.ok, h.ln, h.hC.upto hb, h.hD.upto hb, h.cap⟩
end Go.Proofs.YtmcgnpdfpfgfpaaGreatDoor
