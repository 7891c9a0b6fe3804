/-
  What Decode hands back: the record whose rows these are. Conditions: the record has 37 bytes for each of 1 to 4 rows of 40 numbers.
-/
import Derived.Test.YtmcgnpdfpfgfpaaGreatDoorLDecA
import Derived.Test.YtmcgnpdfpfgfpaaGreatDoorGLay
import Derived.Test.YtmcgnpdfpfgfpaaGreatDoorGMHs
namespace Go.Proofs.YtmcgnpdfpfgfpaaGreatDoor
open Go.RowKit Go.Shelf
set_option linter.unusedVariables false
attribute [local go_sem] Oper.semAt_some

/-- The first bytes of a record that were put together. -/
def byF (s : ByteArray) (ks : List Nat) : List UInt8 := ks.map fun k => s.data.toList.getD k 0
set_option maxRecDepth 100000 in
/-- Two results in cells: a text and a number. -/
theorem leave2s {n : Nat} {fn : Func} {a b : Nat} {p q : Tmp} {u : ByteArray} {v : Int} {tp tq : TypeId} {R : Ending → World → Prop} {tmps : Array Value} {D : Nat} {W W0 : World} {B : Nat} (h : fn.results = #[.cell p tp, .cell q tq])
    (hp : tmps.getD p undef = .pointer (some ⟨a, 0, none⟩)) (hq : tmps.getD q undef = .pointer (some ⟨b, 0, none⟩))
    (hlp : ∀ w : World, w.cell? ⟨a, 0, none⟩ = some (.string u) → (loadVar tp ⟨a, 0, none⟩).run Tryz.prog w = .ok (.string u) w)
    (hlq : ∀ w : World, w.cell? ⟨b, 0, none⟩ = some (.int .i64 v) → (loadVar tq ⟨b, 0, none⟩).run Tryz.prog w = .ok (.int .i64 v) w)
    (hD : a < D ∧ b < D) (hBD : W0.heap.size ≤ D) (hK : W.heap[D]? = some (.deferred (some []))) (ha : W.cell? ⟨a, 0, none⟩ = some (.string u)) (hb : W.cell? ⟨b, 0, none⟩ = some (.int .i64 v))
    (hB : Below B W0 W) (hB0 : B ≤ W0.heap.size) (hR : ∀ w', Below B W0 w' → R (.returned (.tuple #[.string u, .int .i64 v])) w') :
    bodyPostM Fence.wide n Tryz.prog fn R .ret { tmps := tmps, defers := [{ target := .collected D, args := #[] }] } W := by
  refine ⟨by simp, .inl ⟨_, _, rfl, run_takeDeferred hK, ?_⟩⟩
  have hk : ∀ (o : Obj) (k : Nat), k < D → (W.putObj D o).cell? ⟨k, 0, none⟩ = W.cell? ⟨k, 0, none⟩ := fun o k hk => World.cell?_of_block (World.putObj_heap_other (by show k ≠ D; omega))
  refine ⟨.tuple #[.string u, .int .i64 v], ?_, hR _ (hB.trans (belowK_b (w := W0) hB0 W D _ _ (by omega) hK rfl rfl))⟩
  have hres : ∀ (tmps : Array Value) (P : Program) (w : World), (results fn tmps).run P w =
      ((asAddr (tmps.getD p undef)).run P w).andThen fun a w₁ => ((loadVar tp a).run P w₁).andThen fun u w₂ => ((asAddr (tmps.getD q undef)).run P w₂).andThen fun b w₃ => ((loadVar tq b).run P w₃).andThen fun v w₄ => .ok (.tuple #[u, v]) w₄ := fun tmps P w => by
    simp only [results, h]
    simp [Sem.run_bind, Result.andThen]
  rw [hres, hp, hq]
  show ((loadVar tp ⟨a, 0, none⟩).run Tryz.prog _).andThen _ = _
  rw [hlp _ ((hk _ a hD.1).trans ha)]
  show ((loadVar tq ⟨b, 0, none⟩).run Tryz.prog _).andThen _ = _
  rw [hlq _ ((hk _ b hD.2).trans hb)]
  rfl
theorem byF_all (s : ByteArray) : byF s (List.range s.size) = s.data.toList := by
  unfold byF
  refine List.ext_getElem (by rw [List.length_map, List.length_range, Array.length_toList]; rfl) fun j h1 h2 => ?_
  rw [List.getElem_map, List.getElem_range, List.getD_eq_getElem?_getD, List.getElem?_eq_getElem h2]; rfl

set_option maxRecDepth 100000 in
set_option maxHeartbeats 8000000 in
theorem ldec_ok (slots : Nat) (A : Option Addr) (c L : Nat) (s : ByteArray) (w : World) {lo : Nat} (h1 : 1 ≤ slots) (h2 : slots ≤ 4) (hL : s.size = L) (hs : slots * 37 = L) (hM : Mat w lo w.heap.size A slots ((List.range slots).map (rowF (elsF s slots)))) :
    Calls Tryz.prog 16 #[.agg #[.int .i64 257], .int .i64 40, .int .i64 L, .slice A slots c] w fun e w' => e = .returned (.tuple #[.string s, .int .i64 0]) ∧ Below w.heap.size w w' := by
  obtain ⟨i0, hi0, hz0, hz1, hz2⟩ := info_parts info_int
  obtain ⟨N, hN⟩ : ∃ N, slots * 40 = N := ⟨_, rfl⟩
  have HL := Lib.hid hL
  have HS := Lib.hid hs
  have HN := Lib.hid hN
  have hL0 : ¬ (L : Int) < 0 := by omega
  have hL1 : ¬ (1024 : Int) < (L : Int) := by omega
  have hLN : L ≤ N := by omega
  have hN1 : N ≤ 160 := by omega
  have hN0 : 1 ≤ L := by omega
  have HEL : Hid ((elsF s slots).length = N) := Lib.hid (by rw [← hN]; exact elsF_len (by rw [hL, hs]))
  have hne : ((slots : Int) != (slots : Int)) = false := by simp
  clear hL hs hN
  have hB3 := blk3 w 44 9 40 #[.int .i64 257] #[.string ⟨#[]⟩] #[.int .i64 0]
  have hb3 : Below w.heap.size w (((w.alloc (.cells #[.int .i64 257] 44)).alloc (.cells #[.string ⟨#[]⟩] 9)).alloc (.cells #[.int .i64 0] 40)) := ballocs (ballocs (bbox _) _) _
  have hsz3 : (((w.alloc (.cells #[.int .i64 257] 44)).alloc (.cells #[.string ⟨#[]⟩] 9)).alloc (.cells #[.int .i64 0] 40)).heap.size = w.heap.size + 3 := by simp
  obtain ⟨bF, bS, bE⟩ := hB3
  refine (callsIn_wide (n := 9)).1 ?_
  refine callsIn_of_wp_marks Tryz.func16 rfl trivial ?_ rfl
  simp only [Tryz.ntmps16, List.size_toArray, List.length_cons, List.length_nil, Nat.reduceAdd, Nat.reduceSub, Array.replicate_succ, Array.replicate_zero, List.push_toArray, List.append_toArray, List.nil_append, List.cons_append]
  refine wpIn_wide.2 ?_
  go_upto_region 4 with (go_at_call 39; refine (of_yes 257 _ (by decide)).mono ?_; rintro e w4 ⟨rfl, hb4⟩
                         have bS4 := bS.below hb4 bS.lt
                         have bE4 := bE.below hb4 bE.lt
                         have hbw4 := bnext hb3 hb4
                         have hsz4 : w.heap.size + 3 ≤ w4.heap.size := by have := hb4.size; omega
                         clear bF bS bE hb3 hb4 hsz3)
  have hb5 := bbox (w0 := w4) (.cells #[.int .i64 257] 104)
  have hP5 := Blk.new w4 104 #[.int .i64 257]
  have bS5 := bS4.below hb5 bS4.lt
  have bE5 := bE4.below hb5 bE4.lt
  have hbw5 := bnext hbw4 hb5
  obtain ⟨w5, hw5⟩ : ∃ x : World, w4.alloc (.cells #[.int .i64 257] 104) = x := ⟨_, rfl⟩
  rw [hw5] at hb5 hP5 bS5 bE5 hbw5
  rw [hw5]
  have hs5 : w5.heap.size = w4.heap.size + 1 := by rw [← hw5]; simp
  clear hw5 hb5 bS4 bE4 hbw4
  obtain ⟨gp, hgp⟩ : ∃ g, w4.heap.size = g := ⟨_, rfl⟩
  rw [hgp] at hP5 hs5 hsz4
  rw [hgp]
  clear hgp
  have hp5 : w5.cell? ⟨gp, 0, none⟩ = some (.int .i64 257) := (hP5.cell 0).trans rfl
  go_upto_region 9 with (first
    | (go_at_call 40; refine (wide_ok 40 _ (by omega) (by omega)).mono ?_; rintro e w2 ⟨rfl, rfl⟩)
    | (go_at_call 41; refine (needed_ok slots L _ h1 h2 HS.out.symm).mono ?_; rintro e w2 ⟨rfl, rfl⟩))
  go_wp2_with fail
  go_loopw [12, 51] (fun v12 v51 wx => ∃ (k : Nat) (E : Option Addr) (ec : Nat), k ≤ slots ∧ v12 = .slice E (k * 40) ec ∧ v51 = .int .i64 k ∧ OwnI wx w5.heap.size 3 E (k * 40) ec ((elsF s slots).take (k * 40)) ∧ Below w5.heap.size w5 wx) (fun _ v51 _ => slots - (intOf v51).toNat)
  case atStart => exact ⟨0, none, 0, Nat.zero_le _, rfl, rfl, OwnI.nil_, Below.refl _ _⟩
  case round =>
  obtain ⟨k, E, ec, hk, rfl, rfl, hE, hbx⟩ := hrel
  have hbwx := bnext hbw5 hbx
  have hPx := hP5.below hbx hP5.lt
  have hpx : wr.cell? ⟨gp, 0, none⟩ = some (.int .i64 257) := (hPx.cell 0).trans rfl
  by_cases hkn : k < slots
  · have hki : (k : Int) < (slots : Int) := by omega
    have hk0 : (0 : Int) ≤ (k : Int) := by omega
    obtain ⟨b, off, A1, n1, c1, rfl, _, hbl, hcell0, hn1, hI0, _⟩ := hM.at_ hkn
    have hcell := (hbwx.cell (p := ⟨b, off + k, none⟩) hbl).trans hcell0
    rw [rowsF_getD _ _ hkn] at hI0
    have hlr : (rowF (elsF s slots) k).length = 40 := by unfold rowF; rw [List.length_take, List.length_drop, HEL.out]; have := HN.out; omega
    obtain rfl : n1 = 40 := by rw [← hI0.len, hlr]
    have hI : Ints wr wr.heap.size A1 40 (rowF (elsF s slots) k) := hI0.upto hbwx
    have HAL := Lib.hid (rowF_all s slots k)
    have HTK := Lib.hid (rowF_take (elsF s slots) k)
    obtain ⟨q, hq⟩ : ∃ q, k * 40 = q := ⟨_, rfl⟩
    obtain ⟨q2, hq2⟩ : ∃ q2, (k + 1) * 40 = q2 := ⟨_, rfl⟩
    have hqq : q + 40 = q2 := by omega
    have hqN : q2 ≤ 160 := by omega
    have HQ2 := Lib.hid hq2
    rw [hq, hq2] at HTK
    rw [hq] at hE ⊢
    clear hq hq2 hcell0 hlr hI0
    go_wp2_with (first
      | (go_at_call 47; refine (all_any 257 A1 40 c1 _ _ hI (by omega)).mono ?_; rintro e w6 ⟨rfl, hb6⟩; rw [HAL.out]
         have hE6 := hE.belowAll hb6
         have hI6 := hI.upto hb6
         have hb6x := bnext hbx hb6)
      | (at_builtin
         refine wpList_append_ints rfl _ _ 22 rfl w5.heap.size 3 i0 _ Tryz.underlying22 hi0 hz0 hz1 hz2 rfl E q ec _ rfl hE6 _ _ 40 c1 _ rfl hI6 q2 hqq _ rfl (by omega) hb6x.size ?_
         intro E7 e7 w7 hown7 hgr7 hb7 hab7))
    go_roundw
    case rel => exact ⟨k + 1, E7, e7, by omega, by rw [HQ2.out], by go_num, by rw [HQ2.out, ← HTK.out]; exact hown7, hb6x.trans hb7⟩
    case measure => simp [intOf]; omega
  · obtain rfl : slots = k := by omega
    rw [HN.out, List.take_of_length_le (by rw [HEL.out]; exact Nat.le_refl _)] at hE
    rw [HN.out]
    obtain ⟨hNe, hg⟩ := own_shape hE
    obtain ⟨gE, rfl⟩ := hg (by omega)
    have hgE := World.ownsRow.lt hE gE rfl
    have hLe : (L : Int) ≤ (ec : Int) := by omega
    have hcl : ¬ (ec : Int) = (L : Int) := by have := HS.out; have := HN.out; omega
    have hcl2 : ¬ ec = L := by omega
    have hLL : IntKind.i64.wrap ((L : Int) * 1) = (L : Int) := by rw [IntWalk.i64_in _ (by omega)]; omega
    have hAL := bbox (w0 := wr) (.cells #[.slice none 0 0] 103)
    have hN1 := Blk.new wr 103 #[.slice none 0 0]
    have hE1 := hE.belowAll hAL
    have hbx1 := hbx.alloc hbx.size (.cells #[.slice none 0 0] 103)
    have hHE1 := Lib.hid hE1
    have hHN1 := Lib.hid hN1
    have hHB1 := Lib.hid hbx1
    clear hE1 hN1 hbx1 hAL
    go_wp2_with (first
      | (go_at_call 48; refine (digits_ok _).mono ?_; rintro e w2 ⟨rfl, rfl⟩)
      | (go_at_call 49; refine (chunk_any (some ⟨gE, 0, none⟩) L ec 1 _ (by omega) (by omega)).mono ?_; rintro e w6 ⟨rfl, hw6⟩))
    have hE1 := hHE1.out
    have hN1 := hHN1.out
    have hbx1 := hHB1.out
    obtain ⟨gs, hgs⟩ : ∃ g, wr.heap.size = g := ⟨_, rfl⟩
    rw [hgs] at hN1 hgE
    rw [show ((1 : Nat) : Int) = 1 from rfl] at hw6
    have hN6 : Blk w6 gs 103 #[.slice none 0 0] := by rw [hw6]; exact (hN1.alloc _).alloc _
    have hE6 : OwnI w6 w5.heap.size 3 (some ⟨gE, 0, none⟩) N ec (elsF s slots) := by rw [hw6]; exact (hE1.belowAll (bbox _)).belowAll (bbox _)
    have hb56 : Below w5.heap.size w5 w6 := by rw [hw6]; exact (hbx1.alloc hbx1.size _).alloc (hbx1.alloc hbx1.size _).size _
    have hbw6 := bnext hbw5 hb56
    have hsz6 : w6.heap.size = gs + 3 := by rw [hw6]; simp [hgs]
    have hP6 := hP5.below hb56 hP5.lt
    have bS6 := bS5.below hb56 bS5.lt
    have bE6 := bE5.below hb56 bE5.lt
    have hgsl : w5.heap.size ≤ gs := by have := hbx.size; omega
    have hC1 : w6.cell? ⟨gs + 1, 0, none⟩ = some (.slice (some ⟨gE, 0, none⟩) L ec) := by
      have h := (Blk.new (wr.alloc (.cells #[.slice none 0 0] 103)) 22 #[.slice (some ⟨gE, 0, none⟩) L ec]).alloc (.cells #[.int .i64 1] 3)
      rw [World.size_alloc, hgs] at h
      rw [hw6]; exact (h.cell 0).trans rfl
    have hC2 : w6.cell? ⟨gs + 2, 0, none⟩ = some (.int .i64 1) := by
      have h := Blk.new ((wr.alloc (.cells #[.slice none 0 0] 103)).alloc (.cells #[.slice (some ⟨gE, 0, none⟩) L ec] 22)) 3 #[.int .i64 1]
      rw [World.size_alloc, World.size_alloc, hgs] at h
      rw [hw6]; exact (h.cell 0).trans rfl
    rw [← hw6]
    clear hw6 hE1 hN1 hbx1 hHE1 hHN1 hHB1 hE hbx hb56 hbw5 hP5 bS5 bE5 hPx hbwx
    rw [hgs]
    have hcE : ∀ y, y < L → w6.cell? ⟨gE, y, none⟩ = some (.int .i64 ((s.data.toList.getD y 0).toNat : Int)) := fun y hy => by
      obtain ⟨b', o', e', _, hc'⟩ := hE6.ints.2 (by omega)
      injection e' with e'
      injection e' with e1 e2 e3
      subst e1 e2
      have := hc' y (by omega)
      rw [Nat.zero_add, elsF_byte (by rw [HL.out]; exact hy)] at this
      exact this
    have HCE := Lib.hid hcE
    clear hcE
    refine (wpIn_wide (n := 9)).1 ?_
    refine rangeH (α := {k : Nat // k < L}) rfl (by omega) (gf := 83) (lb := #[.pointer (some ⟨gs + 1, 0, none⟩), .pointer (some ⟨gs + 2, 0, none⟩)]) rfl trivial (enters_of Tryz.func83 (by kernel_rfl) rfl)
      (encs := fun y : {k : Nat // k < L} => #[.slice (some ⟨gE, 0 + y.1 * 1, none⟩) 1 1]) (Kp := KeepsB (gs + 3) gs) (S := fun ys => ys.map (·.1) = List.range L) (Sp := fun pre => True) (N := L) (w0 := w6)
      (fun l J Jx W hW hJ _ hY h0 => (chunk1_in _ (by omega) l (gs + 1) (gs + 2) (gs + 3) gs L 1 ec gE 0 (by omega) (by omega) (by omega) (by omega) (fun ks W => ∃ ys, ys.map (·.1) = ks ∧ J ys W) (fun ks W => ∃ ys, ys.map (·.1) = ks ∧ Jx ys W)
        (fun s W W' row hs hg hr => by obtain ⟨ys, e, h⟩ := hs; exact ⟨ys, e, hJ _ W W' row h hg hr⟩)
        (fun k W hj hk => by
          obtain ⟨ys, e, h⟩ := hj
          obtain ⟨fn, tmps, assign, body, hy, hR⟩ := hY ys ⟨k, hk⟩ W h (by have := congrArg List.length e; rw [List.length_map, List.length_range] at this; omega)
          refine ⟨fn, tmps, assign, body, hy, hR.mono ?_⟩
          rintro e2 W2 (⟨rfl, hJ2, hk2⟩ | ⟨rfl, hJx2⟩)
          · exact .inl ⟨rfl, ⟨_, by rw [List.map_append, e]; rfl, hJ2⟩, hk2⟩
          · exact .inr ⟨rfl, ⟨_, by rw [List.map_append, e]; rfl, hJx2⟩⟩) W (by omega) (by omega) (by omega) (by omega) (by rw [Nat.mul_one]; exact (hW.cell (p := ⟨gs + 1, 0, none⟩) (by show gs + 1 < _; omega)).trans hC1) ((hW.cell (p := ⟨gs + 2, 0, none⟩) (by show gs + 2 < _; omega)).trans hC2) ⟨[], rfl, h0⟩).mono (by
        rintro e W' ⟨hv, ⟨ys, e1, h⟩ | ⟨k, ys, e1, h⟩⟩
        · exact ⟨hv, .inl ⟨_, e1, h⟩⟩
        · exact ⟨hv, .inr ⟨_, trivial, h⟩⟩))
      KeepsB.trans (KeepsB.put (by omega)) (Below.refl _ _) (fun _ => rfl)
      (fun pre W => KeepsB (gs + 3) gs w6 W ∧ (∃ A c, W.cell? ⟨gs, 0, none⟩ = some (.slice A pre.length c) ∧ W.frozen? ⟨gs, 0, none⟩ = false ∧ OwnY W (gs + 3) A pre.length c (byF s (pre.map (·.1)))) ∧ Below w.heap.size w W)
      (fun cc pre W => False)
      (fun s W W' row hs hg hr => by
        obtain ⟨h1, ⟨A, c, h2, h3, h4⟩, h5⟩ := hs
        have hr2 : ∀ r, row = some r → ∃ o : Obj, W.heap[r]? = some o ∧ o.isCells = false := fun r e => (hr r e).2
        exact ⟨ownFrom_keepsB (β := Unit) (by omega) (by omega) () W W' row h1 hg hr, ⟨A, c, cell_kept h2 hg hr2, (frozen_kept h2 hg hr2).trans h3, own_others h4 hg hr2⟩, ownFrom_below (β := Unit) (Nat.le_refl _) (by omega) () W W' row h5 hg hr⟩)
      (fun cc s W W' row hs hg hr => hs.elim)
      ⟨KeepsB.refl _ _ _, ⟨none, 0, (hN6.cell 0).trans rfl, hN6.frozen 0, World.ownsRow_nil _ _ _ _⟩, hbw6⟩
      ?a1 ?assign ?body ?done ?stop (KeepsB.refl _ _)
    case assign =>
      intro l y W K hK
      gi_wp2
      exact hK
    case done =>
      rintro D ys W hD hS ⟨hKB, ⟨A1, c1, hc, hf, hO⟩, hB⟩ hK
      have hyl : ys.length = L := by have := congrArg List.length hS; rwa [List.length_map, List.length_range] at this
      have hbs : byF s (ys.map (·.1)) = s.data.toList := by rw [hS, ← HL.out]; exact byF_all s
      rw [hyl] at hc hO
      rw [hbs] at hO
      have hcv : (convert 103 9 (.slice A1 L c1)).run Tryz.prog W = .ok (.string s) W := run_string_own hO 103 9 Tryz.underlying103 Tryz.underlying5 Tryz.underlying9 (by omega)
      have bSW := hKB.blk (by omega) (by omega) bS6
      have bEW := hKB.blk (by omega) (by omega) bE6
      have hz0 : W.cell? ⟨w.heap.size + 1, 0, none⟩ = some (.string ⟨#[]⟩) := (bSW.cell 0).trans rfl
      have hz1 : W.cell? ⟨w.heap.size + 1 + 1, 0, none⟩ = some (.int .i64 0) := (bEW.cell 0).trans rfl
      have hf0 := bSW.frozen 0
      have hf1 := bEW.frozen 0
      have hZ : Ints W (gs + 3) (some ⟨gE, L, none⟩) (N - L) (List.replicate (N - L) 0) := by
        refine ⟨by simp, fun h0 => ⟨gE, L, rfl, by omega, fun j hj => ?_⟩⟩
        obtain ⟨b', o', e', _, hc'⟩ := hE6.ints.2 (by omega)
        injection e' with e'
        injection e' with e1 e2 e3
        subst e1 e2
        have h3 := hc' (L + j) (by omega)
        have h4 : ((elsF s slots).drop L).getD j 0 = 0 := by
          have h5 := elsF_tail (s := s) (slots := slots) (by rw [HL.out, HS.out])
          rw [HS.out] at h5
          rw [h5, List.getD_eq_getElem?_getD, List.getElem?_replicate]
          split <;> rfl
        rw [List.getD_eq_getElem?_getD, List.getElem?_drop, ← List.getD_eq_getElem?_getD] at h4
        rw [h4, Nat.zero_add] at h3
        rw [List.getD_eq_getElem?_getD, List.getElem?_replicate, if_pos hj]
        exact (hKB.cell (b := gE) (o := L + j) (by omega) (by omega)).trans h3
      go_wp2_with (go_at_call 51; refine (containsZ_ok _ _ _ _ hZ (by omega)).mono ?_; rintro e w7 ⟨rfl, rfl⟩)
      refine leave2s (u := s) (v := 0) (B := w.heap.size) (W0 := w) rfl rfl rfl (fun w h => by go_simp) (fun w h => by go_simp) (by omega) (by omega) ?_ ?_ ?_ ?_ (Nat.le_refl _) (fun w' hb => ⟨rfl, hb⟩)
      · refine (Below.heap_setCell _ _ _ _ (by dsimp only; omega)).trans ?_
        exact (Below.heap_setCell _ _ _ _ (by dsimp only; omega)).trans hK
      · go_simp
      · go_simp
      · exact (hB.setCell (p := ⟨w.heap.size + 1, 0, none⟩) (by show w.heap.size ≤ w.heap.size + 1; omega) _).setCell (p := ⟨w.heap.size + 1 + 1, 0, none⟩) (by show w.heap.size ≤ w.heap.size + 1 + 1; omega) _
    case stop =>
      rintro D cc pre W hD _ hh _
      exact hh.elim
    case body =>
      rintro l pre ⟨y, hy⟩ W hlW ⟨rL, hrL⟩ ⟨hKB, ⟨A1, c1, hc, hf, hO⟩, hB⟩ hlt
      have hWl : gs + 3 ≤ W.heap.size := by have := hKB.1; omega
      have hcEW := (hKB.cell (b := gE) (o := y) (by omega) (by omega)).trans (HCE.out y hy)
      have hpW : W.cell? ⟨gp, 0, none⟩ = some (.int .i64 257) := (hKB.cell (b := gp) (o := 0) (by omega) (by omega)).trans ((hP6.cell 0).trans rfl)
      obtain ⟨u, hu⟩ : ∃ u, s.data.toList.getD y 0 = u := ⟨_, rfl⟩
      rw [hu] at hcEW
      have HU := Lib.hid hu
      have hu256 : (u.toNat : Int) < 256 := by have := u.toNat_lt; omega
      have hu255 : ¬ (255 : Int) < (u.toNat : Int) := by omega
      have hu0 : (0 : Int) ≤ (u.toNat : Int) := by omega
      clear hu
      have hrL1 : ((W.alloc (.cells #[.int .i64 0] 3)).alloc (.cells #[.slice (some ⟨gE, y, none⟩) 1 1] 22)).heap[l]? = some (.loop rL) := by
        have hl := (Array.getElem?_eq_some_iff.1 hrL).1
        rw [Below.heap_alloc _ _ l (by rw [World.size_alloc]; omega), Below.heap_alloc _ _ l hl]; exact hrL
      have bX := (Blk.new W 3 #[.int .i64 0]).alloc (.cells #[.slice (some ⟨gE, y, none⟩) 1 1] 22)
      have bW := Blk.new1 W (.cells #[.int .i64 0] 3) 22 #[.slice (some ⟨gE, y, none⟩) 1 1]
      have hb1 : Below W.heap.size W ((W.alloc (.cells #[.int .i64 0] 3)).alloc (.cells #[.slice (some ⟨gE, y, none⟩) 1 1] 22)) := ballocs (bbox _) _
      have hsz1 : ((W.alloc (.cells #[.int .i64 0] 3)).alloc (.cells #[.slice (some ⟨gE, y, none⟩) 1 1] 22)).heap.size = W.heap.size + 2 := by simp
      gi_wp2_with (refine ⟨trivial, ?_⟩; gi_at_call 50; refine (CallsIn.inRound l (callsIn_wide.2 (bwd_any (some ⟨gE, y, none⟩) 1 1 _))).mono ?_; rintro e w' ⟨rfl, rfl⟩)
      obtain ⟨W1, hW1⟩ : ∃ x : World, (W.alloc (.cells #[.int .i64 0] 3)).alloc (.cells #[.slice (some ⟨gE, y, none⟩) 1 1] 22) = x := ⟨_, rfl⟩
      rw [hW1] at hrL1 bX bW hb1 hsz1
      rw [hW1]
      clear hW1
      have hcE1 := (hb1.cell (p := ⟨gE, y, none⟩) (by show gE < _; omega)).trans hcEW
      refine rangeN (l₀ := l) (r₀ := rL) rfl hrL1 (by omega) (gf := 84) (lb := #[.pointer (some ⟨W.heap.size + 1, 0, none⟩)]) rfl trivial (enters_of Tryz.func84 (by kernel_rfl) rfl)
        (encs := fun _ : Unit => #[.int .i64 0, .int .i64 (u.toNat : Int)]) (Kp := KeepsB (W.heap.size + 2) W.heap.size) (S := fun ys => ys = [()]) (Sp := fun _ => True) (N := 1) (w0 := W1)
        (SeqStopsK.inRound (F := Fence.wide) l (fun l2 J Jx X hX _ _ hY h0 => bwd1_in _ (by omega) l2 (W.heap.size + 1) (W.heap.size + 2) W.heap.size gE y 1 (u.toNat : Int) J Jx hY X (by omega) (by omega) (by omega) (by omega) ((hX.cell (p := ⟨W.heap.size + 1, 0, none⟩) (by show W.heap.size + 1 < _; omega)).trans ((bW.cell 0).trans rfl)) ((hX.cell (p := ⟨gE, y, none⟩) (by show gE < _; omega)).trans hcE1) h0))
        KeepsB.trans (KeepsB.put (by omega)) (Below.refl _ _) (fun _ => rfl)
        (fun pre' X => (X.cell? ⟨W.heap.size, 0, none⟩ = some (.int .i64 (if pre'.length = 0 then 0 else (u.toNat : Int))) ∧ X.frozen? ⟨W.heap.size, 0, none⟩ = false) ∧ Below W.heap.size W X)
        (fun _ _ _ => False)
        (fun s X X' row hs hg hr => by
          obtain ⟨⟨k2, k3⟩, k4⟩ := hs
          have hr2 : ∀ r, row = some r → ∃ o : Obj, X.heap[r]? = some o ∧ o.isCells = false := fun r e => (hr r e).2
          exact ⟨⟨cell_kept k2 hg hr2, (frozen_kept k2 hg hr2).trans k3⟩, ownFrom_below (β := Unit) (Nat.le_refl _) (by omega) () X X' row k4 hg hr⟩)
        (fun cc s W W' row hs hg hr => hs.elim)
        ⟨⟨(bX.cell 0).trans rfl, bX.frozen 0⟩, hb1⟩
        ?a2 ?assign2 ?body2 ?done2 ?stop2 (KeepsB.refl _ _)
      case assign2 =>
        intro l2 x X K hK
        gi_wp2
        exact hK
      case stop2 =>
        rintro cc pre' X _ hh
        exact hh.elim
      case body2 =>
        rintro l2 pre' u' X _ _ ⟨⟨k2, k3⟩, k4⟩ hlt2
        obtain rfl : pre' = [] := by cases pre' with
          | nil => rfl
          | cons _ _ => simp at hlt2
        have k2 : X.cell? ⟨W.heap.size, 0, none⟩ = some (.int .i64 0) := k2
        have hpX := (k4.cell (p := ⟨gp, 0, none⟩) (by show gp < _; omega)).trans hpW
        gi_wp2
        refine ⟨(KeepsOthers.setCell _ _ _).from _, (KeepsB.refl _ _ X).setGs 0 _, ⟨World.cell?_setCell_same' _ _ _ (by rw [k2]; rfl), (World.frozen?_setCell _ _ _ _).trans k3⟩, k4.setCell (p := ⟨W.heap.size, 0, none⟩) (Nat.le_refl _) _⟩
      case done2 =>
        rintro ys X rfl ⟨⟨k2, k3⟩, k4⟩
        have k2 : X.cell? ⟨W.heap.size, 0, none⟩ = some (.int .i64 (u.toNat : Int)) := k2
        have hcX := (k4.cell (p := ⟨gs, 0, none⟩) (by show gs < _; omega)).trans hc
        have hfX := (k4.frozen (p := ⟨gs, 0, none⟩) (by show gs < _; omega)).trans hf
        have hOX : OwnY X (gs + 3) A1 pre.length c1 (byF s (pre.map (·.1))) := own_below hO k4
        have hNa := Blk.new X 5 #[.int .u8 (u.toNat : Int)]
        have hOa : OwnY (X.alloc (.cells #[.int .u8 (u.toNat : Int)] 5)) (gs + 3) A1 pre.length c1 (byF s (pre.map (·.1))) := own_below hOX (bbox _)
        have hbXn : Below (gs + 3) W (X.alloc (.cells #[.int .u8 (u.toNat : Int)] 5)) := (k4.alloc k4.size _).mono hWl
        gi_wp2_with (gi_at_builtin; refine wpListIn_append_byte rfl _ _ 103 rfl Tryz.underlying103 (gs + 3) A1 pre.length c1 (byF s (pre.map (·.1))) rfl hOa X.heap.size 1 u rfl ((hNa.cell 0).trans rfl) (by omega) (by have := hbXn.size; omega) ?_; intro A2 c2 X2 hO2 hg2 hb2; have hc2 : X2.cell? ⟨gs, 0, none⟩ = some (.slice A1 pre.length c1) := ((hbXn.trans hb2).cell (p := ⟨gs, 0, none⟩) (by show gs < gs + 3; omega)).trans hc; have hf2 : X2.frozen? ⟨gs, 0, none⟩ = false := ((hbXn.trans hb2).frozen (p := ⟨gs, 0, none⟩) (by show gs < gs + 3; omega)).trans hf)
        have hpl : (pre ++ [(⟨y, hy⟩ : {k : Nat // k < L})]).length = pre.length + 1 := by simp
        have hmp : byF s ((pre ++ [(⟨y, hy⟩ : {k : Nat // k < L})]).map (·.1)) = byF s (pre.map (·.1)) ++ [u] := by unfold byF; simp [← HU.out]
        have hbn := hbXn.trans hb2
        have hKO : KeepsOthers W (X2.setCell ⟨gs, 0, none⟩ (.slice A2 (pre.length + 1) c2)) := ((KeepsOthers.trans ⟨k4.size, fun k o hk _ => (k4.block k (Array.getElem?_eq_some_iff.1 hk).1).trans hk⟩ (KeepsOthers.alloc X _)).trans (KeepsOthers.ofGrown hg2 (own_cells hOa))).trans (KeepsOthers.setCell _ _ _)
        refine ⟨hKO.from _, ((KeepsB.refl _ _ W).belowAt hbn).setGs 0 _, (hKB.belowAt hbn).setGs 0 _, ⟨A2, c2, (World.cell?_setCell_same' _ _ _ (by rw [hc2]; rfl)).trans (by rw [hpl]), (World.frozen?_setCell _ _ _ _).trans hf2, ?_⟩, (hB.trans (hbn.mono (by omega))).setCell (p := ⟨gs, 0, none⟩) (by show w.heap.size ≤ gs; omega) _⟩
        rw [hpl, hmp]
        exact own_step hO2 ((Step.refl gs X2).set 0 _) (by omega)
end Go.Proofs.YtmcgnpdfpfgfpaaGreatDoor
