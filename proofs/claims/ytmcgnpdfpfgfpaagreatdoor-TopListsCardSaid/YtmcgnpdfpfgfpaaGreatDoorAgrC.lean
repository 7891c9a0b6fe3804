/-
  What code's Agree hands back where all known values are elements. Conditions: the lists read as their numbers, the cells as their values and marks.
-/
import Derived.Test.YtmcgnpdfpfgfpaaGreatDoorGCod
import Derived.Test.YtmcgnpdfpfgfpaaGreatDoorPDegK
import Derived.Test.YtmcgnpdfpfgfpaaGreatDoorGUni
import Derived.Test.YtmcgnpdfpfgfpaaGreatDoorPlain
import Derived.Deep.QuietTactic
import Derived.BigQuiet
import Derived.Deep.RegionHeld3
namespace Go.Proofs.YtmcgnpdfpfgfpaaGreatDoor
open Go.RowKit Go.Shelf
set_option linter.unusedVariables false
attribute [local go_sem] Oper.semAt_some

/-- How many of the known cells have the value of a polynomial. -/
def agr (p : Int) (cs : List Int) (l : List (Int × Int)) : Nat := (l.filter fun e => valueP p e.1 cs == e.2).length
theorem agr_snoc (p : Int) (cs : List Int) (l : List (Int × Int)) (e : Int × Int) : agr p cs (l ++ [e]) = agr p cs l + if valueP p e.1 cs = e.2 then 1 else 0 := by
  unfold agr
  rw [List.filter_append, List.length_append]
  by_cases h : valueP p e.1 cs = e.2 <;> simp [h]
theorem agr_le (p : Int) (cs : List Int) (l : List (Int × Int)) : agr p cs l ≤ l.length := List.length_filter_le _ _
theorem KeepsOthers.ofBelow {W W' : World} (h : Below W.heap.size W W') : KeepsOthers W W' := ⟨h.size, fun k o hk _ => (h.block k (Array.getElem?_eq_some_iff.1 hk).1).trans hk⟩
set_option maxRecDepth 100000 in
set_option maxHeartbeats 4000000 in
theorem agree_code_ok (p : Int) (A C : Option Addr) (m c n cc : Nat) (vs : List Int) (bs : List Bool) (cs : List Int) (w : World) (hok : okP p = true) (h : Cel w w.heap.size A m vs bs) (hm : m ≤ 32) (hmp : (m : Int) < p) (hk : knOk p vs bs) (hC : Ints w w.heap.size C n cs) (hca : allP p cs = true) (hnc : n ≤ cc) (hn : n ≤ 512) :
    Calls Tryz.prog 139 #[.agg #[.int .i64 p], .slice A m c, .slice C n cc] w fun e w' => e = .returned (.tuple #[.int .i64 (agr p cs (knL vs bs)), .int .i64 0]) ∧ Below w.heap.size w w' := by
  have hp := okP_pos hok
  have HO := Lib.hid hok
  have HKN := Lib.hid hk
  have HCA := Lib.hid hca
  have hl := h.1
  clear hok hk hca
  refine (callsIn_wide (n := 8)).1 ?_
  refine callsIn_of_wp_marks Tryz.func139 rfl trivial ?_ rfl
  simp only [Tryz.ntmps139, List.size_toArray, List.length_cons, List.length_nil, Nat.reduceAdd, Nat.reduceSub, Array.replicate_succ, Array.replicate_zero, List.push_toArray, List.append_toArray, List.nil_append, List.cons_append]
  have hw0 : Below w.heap.size w ((w.alloc (.cells #[.int .i64 p] 44)).alloc (.cells #[.slice C n cc] 22)) := ballocs (bbox _) _
  have hF0 := (Blk.new w 44 #[.int .i64 p]).alloc (.cells #[.slice C n cc] 22)
  have hS0 := Blk.new1 w (.cells #[.int .i64 p] 44) 22 #[.slice C n cc]
  have hCe0 := h.upto hw0
  gi_wp2_with (first
    | (refine ⟨trivial, ?_⟩; gi_at_call 93; refine (callsIn_wide.2 (cells_ok p A m c vs bs _ HO.out hCe0 hm hmp HKN.out)).mono ?_; rintro e w1 ⟨rfl, hb1⟩
       have hw1 := bnext hw0 hb1
       have hF1 := hF0.below hb1 hF0.lt
       have hS1 := hS0.below hb1 hS0.lt
       have hF1a := hF1.alloc (.cells #[.int .i64 p] 104)
       have hS1a := hS1.alloc (.cells #[.int .i64 p] 104)
       have hcF1 : (w1.alloc (.cells #[.int .i64 p] 104)).cell? ⟨w.heap.size, 0, none⟩ = some (.int .i64 p) := (hF1a.cell 0).trans rfl
       have hcS1 : (w1.alloc (.cells #[.int .i64 p] 104)).cell? ⟨w.heap.size + 1, 0, none⟩ = some (.slice C n cc) := (hS1a.cell 0).trans rfl
       have hw1a := ballocs hw1 (.cells #[.int .i64 p] 104)
       have hC1 := hC.upto hw1a
       have bP1 := Blk.new w1 104 #[.int .i64 p])
    | (refine ⟨trivial, ?_⟩; gi_at_call 169; refine (callsIn_wide.2 (pdeg_ok p C n cc cs _ HO.out hC1 HCA.out hnc hn)).mono ?_; rintro e w2 ⟨rfl, hb2⟩
       have hw2 := bnext hw1a hb2
       have hF2 := hF1a.below hb2 hF1a.lt
       have hS2 := hS1a.below hb2 hS1a.lt
       have bP2 := bP1.below hb2 bP1.lt)
    | (refine ⟨trivial, ?_⟩; gi_at_call 120; refine (callsIn_wide.2 (known_any A m c _)).mono ?_; rintro e w' ⟨rfl, rfl⟩))
  obtain ⟨W4, hW4⟩ : ∃ W4, (w2.alloc (.cells #[.int .i64 0] 3)).alloc (.cells #[.slice A m c] 83) = W4 := ⟨_, rfl⟩
  have hsz : W4.heap.size = w2.heap.size + 2 := by rw [← hW4]; simp
  have bN : Blk W4 w2.heap.size 3 #[.int .i64 0] := by rw [← hW4]; exact (Blk.new w2 3 #[.int .i64 0]).alloc _
  have bL : Blk W4 (w2.heap.size + 1) 83 #[.slice A m c] := by rw [← hW4]; exact Blk.new1 w2 _ _ _
  have hB24 : Below w2.heap.size w2 W4 := by rw [← hW4]; exact ballocs (bbox _) _
  have hB0 := bnext hw2 hB24
  have bF := hF2.below hB24 hF2.lt
  have bS := hS2.below hB24 hS2.lt
  have bP := bP2.below hB24 bP2.lt
  have hlS := hS2.lt
  have hlP := bP2.lt
  have hC4 : Cel W4 w2.heap.size A m vs bs := (h.below hB0).more (by have := hw2.size; omega)
  rw [hW4]
  clear hW4 hcF1 hcS1 hF1 hS1 hF1a hS1a bP1 hF2 hS2 bP2 hC1 hw0 hF0 hS0 hCe0
  refine wpIn_rangeFunc_ownG (α := KnElt vs bs) rfl (by omega) (gf := 137) (lb := #[.pointer (some ⟨w2.heap.size + 1, 0, none⟩)]) rfl trivial (enters_of Tryz.func137 (by kernel_rfl) rfl)
    (encs := fun y : KnElt vs bs => #[Value.int .i64 y.1.1, Value.int .i64 y.1.2]) (Kp := KeepsB (w2.heap.size + 2) w2.heap.size) (S := fun ys => eltsOf ys = knL vs bs) (Sp := fun pre => ∃ k, eltsOf pre = (knL vs bs).take k) (N := (knL vs bs).length) (w0 := W4)
    (fun l J Jx W hW hJ _ hY h0 => known1_in _ (by omega) l (w2.heap.size + 1) (w2.heap.size + 2) w2.heap.size m A c vs bs (by omega) J Jx hJ hY W (by have := hW.size; omega) (by omega) (by omega) (by omega) ((hW.cell (p := ⟨w2.heap.size + 1, 0, none⟩) (by simp; omega)).trans ((bL.cell 0).trans rfl)) (hC4.below (hW.mono (by omega))) h0)
    KeepsB.trans (KeepsB.put (by omega)) (Below.refl _ _) (fun _ => rfl)
    (fun pre W => KeepsB (w2.heap.size + 2) w2.heap.size W4 W ∧ (W.cell? ⟨w2.heap.size, 0, none⟩ = some (.int .i64 (agr p cs (eltsOf pre) : Int)) ∧ W.frozen? ⟨w2.heap.size, 0, none⟩ = false) ∧ Below w.heap.size w W)
    (fun _ _ _ => False)
    (OwnFrom.and (ownFrom_keepsB (by omega) (by omega)) (OwnFrom.and (Own.from (fun s A B row hs hg hr => ⟨cell_kept hs.1 hg hr, (frozen_kept hs.1 hg hr).trans hs.2⟩) _) (ownFrom_below (Nat.le_refl _) (by have := hB0.size; omega))))
    (fun _ _ _ _ _ hs _ _ => hs)
    ⟨KeepsB.refl _ _ _, ⟨(bN.cell 0).trans rfl, bN.frozen 0⟩, hB0⟩
    (fun y => { tmps := #[.agg #[.int .i64 p], .slice A m c, .slice C n cc, .pointer (some ⟨w.heap.size, 0, none⟩), undef, .pointer (some ⟨w.heap.size + 1, 0, none⟩), .int .i64 0, .int .i64 0, .pointer (some ⟨w1.heap.size, 0, none⟩), .int .i64 ((knL vs bs).length : Int), .int .i64 0, .int .i64 ((tn cs n : Nat) - 1 : Int), .int .i64 0, .pointer (some ⟨w2.heap.size, 0, none⟩), .int .i64 y.1.1, .int .i64 y.1.2, .tuple #[.int .i64 p, .int .i64 ((knL vs bs).length : Int), .int .i64 0], .agg #[.int .i64 p], .slice A m c, .tuple #[.int .i64 p, .int .i64 ((knL vs bs).length : Int), .int .i64 0], .int .i64 p, .int .i64 ((knL vs bs).length : Int), .int .i64 0, .int .i64 0, .bool false, undef, .tuple #[.int .i64 ((tn cs n : Nat) - 1 : Int), .int .i64 0], .agg #[.int .i64 p], .slice C n cc, .tuple #[.int .i64 ((tn cs n : Nat) - 1 : Int), .int .i64 0], .int .i64 ((tn cs n : Nat) - 1 : Int), .int .i64 0, .int .i64 0, .bool false, undef, .slice A m c, .func (.func 137) #[] #[.pointer (some ⟨w2.heap.size + 1, 0, none⟩)], .int .i64 y.1.1, .int .i64 y.1.2, undef, undef, undef, undef, undef, undef, undef, undef, undef], defers := [] }) ?assign ?body ?done ?stop
  case assign =>
    intro l y W K hK
    gi_wp2
    exact hK
  case body =>
    rintro l pre y W ⟨hKB, ⟨hcn, hfn⟩, hB⟩ hlt
    have hd : 1 ≤ 8 - 1 - 1 := by omega
    have hcp : W.cell? ⟨w1.heap.size, 0, none⟩ = some (.int .i64 p) := ((hKB.blk (by omega) (by omega) bP).cell 0).trans rfl
    have hcs : W.cell? ⟨w.heap.size + 1, 0, none⟩ = some (.slice C n cc) := ((hKB.blk (by omega) (by omega) bS).cell 0).trans rfl
    have hxb : 0 ≤ y.1.1 ∧ y.1.1 < p := by
      obtain ⟨j, h1, _, h3⟩ := knL_of y.2
      rw [h3]
      show 0 ≤ (j : Int) + 1 ∧ (j : Int) + 1 < p
      omega
    have hCW := hC.upto hB
    have hal := agr_le p cs (eltsOf pre)
    rw [eltsOf_len] at hal
    have hkl := knL_len vs bs
    obtain ⟨d, HD⟩ : ∃ d, Hid (agr p cs (eltsOf pre) = d) := ⟨_, Lib.hid rfl⟩
    rw [HD.out] at hcn hal
    have hdw : IntKind.i64.wrap ((d : Int) + 1) = (d : Int) + 1 := IntWalk.i64_in _ (by omega)
    have HSN := Lib.hid (agr_snoc p cs (eltsOf pre) y.1)
    obtain ⟨v, HV⟩ : ∃ v, Hid (valueP p y.1.1 cs = v) := ⟨_, Lib.hid rfl⟩
    rw [HV.out, HD.out] at HSN
    have hWs := hKB.1
    by_cases hev : v = y.1.2
    · have hevb : (v == y.1.2) = true := by simp [hev]
      gi_wp2_with (refine ⟨trivial, ?_⟩; gi_at_call 117; refine (CallsIn.inRound l (callsIn_wide.2 (value_any p y.1.1 C n cc cs _ hp hxb hCW HCA.out (by omega)))).mono ?_; rintro e w5 ⟨rfl, hb5⟩; rw [HV.out]; have hcn5 : w5.cell? ⟨w2.heap.size, 0, none⟩ = some (.int .i64 d) := (hb5.cell (p := ⟨w2.heap.size, 0, none⟩) (by show w2.heap.size < W.heap.size; omega)).trans hcn; have hfn5 : w5.frozen? ⟨w2.heap.size, 0, none⟩ = false := (World.frozen?_of_block (a := ⟨w2.heap.size, 0, none⟩) (hb5.block w2.heap.size (by omega))).trans hfn)
      refine ⟨((KeepsOthers.ofBelow hb5).trans (KeepsOthers.setCell _ _ _)).from _, ((KeepsB.refl _ _ W).belowAt (hb5.mono (by omega))).setGs 0 _, (hKB.belowAt (hb5.mono (by omega))).setGs 0 _, ⟨(World.cell?_setCell_same' _ _ _ (by rw [hcn5]; rfl)).trans ?_, (World.frozen?_setCell _ _ _ _).trans hfn5⟩, (bnext hB hb5).setCell (p := ⟨w2.heap.size, 0, none⟩) (by have := hB0.size; show w.heap.size ≤ w2.heap.size; omega) _⟩
      rw [eltsOf_snoc, HSN.out, if_pos hev]; rfl
    · have hevb : (v == y.1.2) = false := by simpa using hev
      gi_wp2_with (refine ⟨trivial, ?_⟩; gi_at_call 117; refine (CallsIn.inRound l (callsIn_wide.2 (value_any p y.1.1 C n cc cs _ hp hxb hCW HCA.out (by omega)))).mono ?_; rintro e w5 ⟨rfl, hb5⟩; rw [HV.out]; have hcn5 : w5.cell? ⟨w2.heap.size, 0, none⟩ = some (.int .i64 d) := (hb5.cell (p := ⟨w2.heap.size, 0, none⟩) (by show w2.heap.size < W.heap.size; omega)).trans hcn; have hfn5 : w5.frozen? ⟨w2.heap.size, 0, none⟩ = false := (World.frozen?_of_block (a := ⟨w2.heap.size, 0, none⟩) (hb5.block w2.heap.size (by omega))).trans hfn)
      refine ⟨(KeepsOthers.ofBelow hb5).from _, (KeepsB.refl _ _ W).belowAt (hb5.mono (by omega)), hKB.belowAt (hb5.mono (by omega)), ⟨hcn5.trans ?_, hfn5⟩, bnext hB hb5⟩
      rw [eltsOf_snoc, HSN.out, if_neg hev]; rfl
  case done =>
    rintro D ys W hD hS ⟨hKB, ⟨hcn, hfn⟩, hB⟩ hK
    rw [hS] at hcn
    gi_wp2
    refine ⟨by simp, .inl ⟨_, _, rfl, run_takeDeferred hK, ?_⟩⟩
    exact ⟨_, results_tmp2 rfl _ _ _, rfl, hB.trans (belowK_b (w := w) (Nat.le_refl _) W D _ _ (by have := hB0.size; omega) hK rfl rfl)⟩
  case stop =>
    rintro D cc' pre W _ _ hh _
    exact hh.elim
end Go.Proofs.YtmcgnpdfpfgfpaaGreatDoor
