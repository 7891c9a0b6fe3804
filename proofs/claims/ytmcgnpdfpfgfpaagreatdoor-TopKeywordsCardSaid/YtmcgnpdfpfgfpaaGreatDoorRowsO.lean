/-
  The rows of a record. Conditions: the record has 37 bytes for each of 1 to 4 rows of 40 numbers.
-/
import Derived.Test.YtmcgnpdfpfgfpaaGreatDoorGEnt
import Derived.Test.YtmcgnpdfpfgfpaaGreatDoorGLay
import Derived.Test.YtmcgnpdfpfgfpaaGreatDoorGCod
import Derived.Test.YtmcgnpdfpfgfpaaGreatDoorGCrv
import Derived.Test.YtmcgnpdfpfgfpaaGreatDoorGen
import Derived.Test.YtmcgnpdfpfgfpaaGreatDoorRowR
import Derived.Test.YtmcgnpdfpfgfpaaGreatDoorGUni
import Derived.Laws.IdiomStrings
namespace Go.Proofs.YtmcgnpdfpfgfpaaGreatDoor
open Go.RowKit Go.Shelf
set_option linter.unusedVariables false
attribute [local go_sem] Oper.semAt_some

theorem wpAny_start {P : Program} {ops : Array Oper} {Q : Exit → Act → World → Prop} {md : Region.Mode} {S : World → Prop} {n : Nat} {a : Act} {w : World} (hS : S w) (h : HeadInv md ops n (Array.replicate ops.size false) → S w → wpM P md ops Q S n ops.size (Array.replicate ops.size false) a w) : wpAny P md ops Q ops.size (Array.replicate ops.size false) a w :=
  wpAny_of_M _ _ _ _ (h ⟨by simp, fun j oj _ hl => (by rw [getD_replicate_false] at hl; cases hl), fun t _ ht => getD_in (by simpa using ht) (getD_replicate_false _ _)⟩ hS)
/-- Row k of a record. -/
def rowF (L : List Int) (k : Nat) : List Int := (L.drop (k * 40)).take 40
/-- The numbers of a record. -/
def elsF (s : ByteArray) (slots : Nat) : List Int := s.data.toList.map (fun b => (b.toNat : Int)) ++ List.replicate (slots * 3) 0

theorem bytes_of (w : World) (s : ByteArray) : ∃ (cap : Nat) (W5 : World), (convert 9 103 (.string s)).run Tryz.prog w = .ok (.slice (some ⟨w.heap.size, 0, none⟩) s.size cap) W5 ∧ Below w.heap.size w W5 ∧ w.heap.size < W5.heap.size ∧ ∀ j, j < s.size → W5.cell? ⟨w.heap.size, j, none⟩ = some (.int .u8 ((s.data.toList.getD j 0).toNat : Int)) := by
  refine ⟨_, _, run_bytes_of_string (P := Tryz.prog) w 9 103 5 s Tryz.underlying9 Tryz.underlying103 Tryz.underlying5, ?_, ?_, fun j hj => ?_⟩
  · exact (below_drewN (Below.refl w.heap.size w) 1 : Below w.heap.size w w.drew).alloc (Nat.le_refl _) _
  · simp
  · have h1 := cell_of_row (w.drew.alloc (.cells (bytesRow s (grownCap w s.size 0 5)) 5 ((bytesRow s (grownCap w s.size 0 5)).size, (bytesRow s (grownCap w s.size 0 5)).size + 1))) w.heap.size j _ _ _ (heap_alloc_new w.drew _)
    rw [h1, bytesRow_at s _ j hj, List.getD_eq_getElem?_getD]
    have hl : j < s.data.toList.length := by rw [Array.length_toList]; exact hj
    rw [List.getElem?_eq_getElem hl]
    simp

/-- The first i numbers of a record, and room. -/
def lstF (s : ByteArray) (N i : Nat) : List Int := (s.data.toList.take i).map (fun b => (b.toNat : Int)) ++ List.replicate (N - i) 0
theorem lstF_len {s : ByteArray} {i : Nat} (hi : i ≤ s.size) : ((s.data.toList.take i).map (fun b => (b.toNat : Int))).length = i := by
  have h : s.data.toList.length = s.size := by rw [Array.length_toList]; rfl
  rw [List.length_map, List.length_take, h]
  exact Nat.min_eq_left hi
theorem lstF_room {s : ByteArray} {N i : Nat} (hi : i < N) : lstF s N i = (s.data.toList.take i).map (fun b => (b.toNat : Int)) ++ 0 :: List.replicate (N - (i + 1)) 0 := by
  unfold lstF
  rw [← List.replicate_succ, show N - (i + 1) + 1 = N - i by omega]
theorem lstF_next {s : ByteArray} {N i : Nat} (hi : i < s.size) : (s.data.toList.take i).map (fun b => (b.toNat : Int)) ++ ((s.data.toList.getD i 0).toNat : Int) :: List.replicate (N - (i + 1)) 0 = lstF s N (i + 1) := by
  have h : s.data.toList.length = s.size := by rw [Array.length_toList]; rfl
  unfold lstF
  rw [List.take_succ_eq_append_getElem (by omega), List.map_append, List.getD_eq_getElem?_getD, List.getElem?_eq_getElem (show i < s.data.toList.length by omega)]
  simp

theorem lstF_all {s : ByteArray} {slots : Nat} (h : s.size = slots * 37) : lstF s (slots * 40) (slots * 37) = elsF s slots := by
  have h2 : s.data.toList.length = s.size := by rw [Array.length_toList]; rfl
  unfold lstF elsF
  rw [List.take_of_length_le (by omega), show slots * 40 - slots * 37 = slots * 3 by omega]
theorem elsF_len {s : ByteArray} {slots : Nat} (h : s.size = slots * 37) : (elsF s slots).length = slots * 40 := by
  have h2 : s.data.toList.length = s.size := by rw [Array.length_toList]; rfl
  unfold elsF
  rw [List.length_append, List.length_map, List.length_replicate, h2]; omega
theorem BlkI.stretch {w : World} {g k slots : Nat} {l : List Int} (h : BlkI w g l) (hl : l.length = slots * 40) (hk : k < slots) : Ints w w.heap.size (some ⟨g, k * 40, none⟩) 40 (rowF l k) := by
  have hr : (rowF l k).length = 40 := by unfold rowF; rw [List.length_take, List.length_drop]; omega
  refine ⟨hr, fun _ => ⟨g, k * 40, rfl, h.lt, fun j hj => ?_⟩⟩
  rw [h.at_ (show k * 40 + j < l.length by omega)]
  unfold rowF
  rw [List.getD_eq_getElem?_getD, List.getD_eq_getElem?_getD, List.getElem?_take, if_pos hj, List.getElem?_drop]

set_option maxRecDepth 100000 in
set_option maxHeartbeats 4000000 in
theorem rowsO_ok (slots : Nat) (s : ByteArray) (w : World) (h1 : 1 ≤ slots) (h2 : slots ≤ 4) (hs : s.size = slots * 37) :
    Calls Tryz.prog 42 #[.int .i64 257, .int .i64 40, .string s] w fun e w' => ∃ A c, e = .returned (.slice A slots c) ∧ OwnR w' w.heap.size w.heap.size A slots c ((List.range slots).map (rowF (elsF s slots))) ∧ Below w.heap.size w w' := by
  obtain ⟨L, hL⟩ : ∃ L, slots * 37 = L := ⟨_, rfl⟩
  obtain ⟨N, hN⟩ : ∃ N, slots * 40 = N := ⟨_, rfl⟩
  have hNw : IntKind.i64.wrap ((slots : Int) * 40) = (N : Int) := by rw [IntWalk.i64_in _ (by omega)]; omega
  have HSZ := Lib.hid hs
  have hsz : s.size = L := by omega
  have hLN : L ≤ N := by omega
  have hNl : N ≤ 160 := by omega
  have HL := Lib.hid hL
  have HN := Lib.hid hN
  clear hs hL hN
  refine (callsIn_wide (n := 5)).1 ?_
  refine callsIn_of_wp_marks Tryz.func42 rfl trivial ?_ rfl
  simp only [Tryz.ntmps42, List.size_toArray, List.length_cons, List.length_nil, Nat.reduceAdd, Nat.reduceSub, Array.replicate_succ, Array.replicate_zero, List.push_toArray, List.append_toArray, List.nil_append, List.cons_append]
  refine wpIn_wide.2 ?_
  go_upto_region 2 with (first
    | (go_at_call 41; refine (needed_ok slots L _ h1 h2 HL.out.symm).mono ?_; rintro e w2 ⟨rfl, rfl⟩)
    | (at_make
       refine wpList_make_room rfl _ _ 22 rfl Tryz.underlying22 .i64 .i64 N rfl rfl (by omega) ?_
       intro w4 hB4 hb4))
  obtain ⟨cap5, W5, hcv, hb5, hlt5, hby⟩ := bytes_of w4 s
  have HBY := Lib.hid hby
  have hbw5 := bnext hb4 hb5
  have hB5 := hB4.below hb5
  rw [hsz] at hcv
  have hlt4 := hB4.lt
  clear hby hB4
  go_wp2_with fail
  obtain ⟨gb, hgb⟩ : ∃ g, w4.heap.size = g := ⟨_, rfl⟩
  rw [hgb] at hlt5 HBY hb5
  rw [hgb]
  have hb0g : w.heap.size < gb := by rw [← hgb]; exact hlt4
  clear hlt4 hgb hcv
  rw [hsz] at HBY
  go_loopw [7, 24] (fun v7 v24 wx => ∃ i : Nat, i ≤ L ∧ v7 = .slice (some ⟨w.heap.size, 0, none⟩) i N ∧ v24 = .int .i64 i ∧ BlkI wx w.heap.size (lstF s N i) ∧ Below w.heap.size w wx ∧ Hid (Step w.heap.size W5 wx)) (fun _ v24 _ => L - (intOf v24).toNat)
  case atStart => exact ⟨0, Nat.zero_le _, rfl, rfl, by unfold lstF; rw [List.take_zero]; exact hB5, hbw5, Lib.hid ⟨rfl, rfl, rfl, Nat.le_refl _, fun _ _ _ => rfl⟩⟩
  case round =>
  clear hB5 hbw5 hb5
  obtain ⟨i, hi, rfl, rfl, hB, hbx, HS⟩ := hrel
  by_cases hin : i < L
  · have hii : (i : Int) < (L : Int) := by omega
    have hi0 : (0 : Int) ≤ (i : Int) := by omega
    have hcy := (World.cell?_of_block (a := ⟨gb, i, none⟩) (World.grownBy.block HS.out gb hlt5 (by intro e; injection e; omega))).trans (HBY.out i hin)
    obtain ⟨u, hu⟩ : ∃ u, s.data.toList.getD i 0 = u := ⟨_, rfl⟩
    rw [hu] at hcy
    have HU := Lib.hid hu
    obtain ⟨y, hy⟩ : ∃ y : Nat, u.toNat = y := ⟨_, rfl⟩
    have hy256 : y < 256 := by rw [← hy]; exact u.toNat_lt
    rw [hy] at hcy
    have HY := Lib.hid hy
    clear hu hy
    obtain ⟨wo, hwo⟩ : ∃ x : World, x = wr := ⟨_, rfl⟩
    subst hwo
    go_upto_region 7 with (go_at_call 48; refine (digits_ok _).mono ?_; rintro e w2 ⟨rfl, rfl⟩)
    have HBW := Lib.hid hB
    clear hB
    go_loopw [7, 10, 32] (fun v7 v10 v32 wx => ∃ (k : Nat) (x : Int), k ≤ 1 ∧ v7 = .slice (some ⟨w.heap.size, 0, none⟩) (i + k) N ∧ v10 = .int .i64 x ∧ (k = 0 → x = (y : Int)) ∧ v32 = .int .i64 k ∧ BlkI wx w.heap.size (lstF s N (i + k)) ∧ Below w.heap.size w wx ∧ Hid (Step w.heap.size W5 wx)) (fun _ _ v32 _ => 1 - (intOf v32).toNat)
    case atStart => exact ⟨0, y, by omega, rfl, rfl, fun _ => rfl, rfl, HBW.out, hbx, HS⟩
    case round =>
    clear HBW hbx HS
    obtain ⟨k, x, hk, rfl, rfl, hx, rfl, hB, hbx, HS⟩ := hrel
    by_cases hk0 : k < 1
    · obtain rfl : k = 0 := by omega
      obtain rfl : x = (y : Int) := hx rfl
      simp only [Nat.add_zero] at hB ⊢
      have hbo := bbox (w0 := wr) (.cells #[.int .i64 (y : Int)] 3)
      have hB2 := hB.below hbo
      rw [lstF_room (by omega)] at hB2
      have hNo := Blk.new wr 3 #[.int .i64 (y : Int)]
      have hLL : ((s.data.toList.take i).map (fun b => (b.toNat : Int))).length = i := lstF_len (by omega)
      have HNX := Lib.hid (lstF_next (s := s) (N := N) (i := i) (by omega))
      rw [HU.out, HY.out] at HNX
      have hbo2 := hbx.alloc hbx.size (.cells #[.int .i64 (y : Int)] 3)
      have HSo := Lib.hid (HS.out.alloc (.cells #[.int .i64 (y : Int)] 3))
      have hym : ((y : Int)).tmod 257 = (y : Int) := by rw [Int.tmod_eq_emod_of_nonneg (by omega)]; omega
      go_wp2_with (at_builtin
                   refine wpList_append_in rfl _ _ 22 rfl Tryz.underlying22 i N _ _ 0 (y : Int) hB2 hLL rfl (by omega) wr.heap.size 1 rfl ((hNo.cell 0).trans rfl) (Nat.le_refl _) ?_
                   intro w8 hB8 hS8 hb8)
      go_roundw
      case rel => exact ⟨1, _, by omega, rfl, rfl, fun h => absurd h (by omega), by first | rfl | go_num, by rw [← HNX.out]; exact hB8, hbo2.trans hb8, Lib.hid (HSo.out.trans hS8)⟩
      case measure => simp [intOf]
    · obtain rfl : k = 1 := by omega
      go_wp2
      go_roundw
      case rel => exact ⟨i + 1, by omega, rfl, by go_num, hB, hbx, HS⟩
      case measure => simp [intOf]; omega
  · obtain rfl : L = i := by omega
    have hLi : ¬ (L : Int) < (L : Int) := by omega
    go_upto_region 13 with fail
    have hAL := bbox (w0 := wr) (.cells #[.slice none 0 0] 45)
    have hN1 := Blk.new wr 45 #[.slice none 0 0]
    have hB1 := hB.below hAL
    have hbx1 := hbx.alloc hbx.size (.cells #[.slice none 0 0] 45)
    go_wp2_with (go_at_call 49; refine (chunk_any (some ⟨w.heap.size, 0, none⟩) N N 40 _ (by omega) (by omega)).mono ?_; rintro e w6 ⟨rfl, hw6⟩)
    have HB1 := Lib.hid hB1
    have hltw := hB.lt
    have hLs : Hid (L = s.size) := Lib.hid hsz.symm
    obtain ⟨gs, hgs⟩ : ∃ g, wr.heap.size = g := ⟨_, rfl⟩
    rw [hgs] at hN1
    rw [show ((40 : Nat) : Int) = 40 from rfl] at hw6
    have hN6 : Blk w6 gs 45 #[.slice none 0 0] := by rw [hw6]; exact (hN1.alloc _).alloc _
    have hBX : BlkI w6 w.heap.size (lstF s N L) := by rw [hw6]; exact (HB1.out.below (bbox _)).below (bbox _)
    have hbw6 : Below w.heap.size w w6 := by rw [hw6]; exact (hbx1.alloc hbx1.size _).alloc (hbx1.alloc hbx1.size _).size _
    have hsz6 : w6.heap.size = gs + 3 := by rw [hw6]; simp [hgs]
    have hC1 : w6.cell? ⟨gs + 1, 0, none⟩ = some (.slice (some ⟨w.heap.size, 0, none⟩) N N) := by
      have h := (Blk.new (wr.alloc (.cells #[.slice none 0 0] 45)) 22 #[.slice (some ⟨w.heap.size, 0, none⟩) N N]).alloc (.cells #[.int .i64 40] 3)
      rw [World.size_alloc, hgs] at h
      rw [hw6]; exact (h.cell 0).trans rfl
    have hC2 : w6.cell? ⟨gs + 2, 0, none⟩ = some (.int .i64 40) := by
      have h := Blk.new ((wr.alloc (.cells #[.slice none 0 0] 45)).alloc (.cells #[.slice (some ⟨w.heap.size, 0, none⟩) N N] 22)) 3 #[.int .i64 40]
      rw [World.size_alloc, World.size_alloc, hgs] at h
      rw [hw6]; exact (h.cell 0).trans rfl
    rw [hgs] at hltw
    rw [← hw6]
    clear hw6 hN1 HB1 hbx1 hAL hB hbx HS
    rw [hgs]
    refine (wpIn_wide (n := 5)).1 ?_
    refine wpIn_rangeFunc_ownG (α := {k : Nat // k < slots}) rfl (by omega) (gf := 83) (lb := #[.pointer (some ⟨gs + 1, 0, none⟩), .pointer (some ⟨gs + 2, 0, none⟩)]) rfl trivial (enters_of Tryz.func83 (by kernel_rfl) rfl)
      (encs := fun y : {k : Nat // k < slots} => #[.slice (some ⟨w.heap.size, 0 + y.1 * 40, none⟩) 40 40]) (Kp := KeepsB (gs + 3) gs) (S := fun ys => ys.map (·.1) = List.range slots) (Sp := fun pre => True) (N := slots) (w0 := w6)
      (fun l J Jx W hW hJ _ hY h0 => (chunk1_in _ (by omega) l (gs + 1) (gs + 2) (gs + 3) gs slots 40 N w.heap.size 0 (by omega) (by omega) (by omega) (by rw [HN.out]; exact Nat.le_refl _) (fun ks W => ∃ ys, ys.map (·.1) = ks ∧ J ys W) (fun ks W => ∃ ys, ys.map (·.1) = ks ∧ Jx ys W)
        (fun s W W' row hs hg hr => by obtain ⟨ys, e, h⟩ := hs; exact ⟨ys, e, hJ _ W W' row h hg hr⟩)
        (fun k W hj hk => by
          obtain ⟨ys, e, h⟩ := hj
          obtain ⟨fn, tmps, assign, body, hy, hR⟩ := hY ys ⟨k, hk⟩ W h (by have := congrArg List.length e; rw [List.length_map, List.length_range] at this; omega)
          refine ⟨fn, tmps, assign, body, hy, hR.mono ?_⟩
          rintro e2 W2 (⟨rfl, hJ2, hk2⟩ | ⟨rfl, hJx2⟩)
          · exact .inl ⟨rfl, ⟨_, by rw [List.map_append, e]; rfl, hJ2⟩, hk2⟩
          · exact .inr ⟨rfl, ⟨_, by rw [List.map_append, e]; rfl, hJx2⟩⟩) W (by omega) (by omega) (by omega) (by omega) (by rw [HN.out]; exact (hW.cell (p := ⟨gs + 1, 0, none⟩) (by show gs + 1 < _; omega)).trans hC1) ((hW.cell (p := ⟨gs + 2, 0, none⟩) (by show gs + 2 < _; omega)).trans hC2) ⟨[], rfl, h0⟩).mono (by
        rintro e W' ⟨hv, ⟨ys, e1, h⟩ | ⟨k, ys, e1, h⟩⟩
        · exact ⟨hv, .inl ⟨_, e1, h⟩⟩
        · exact ⟨hv, .inr ⟨_, trivial, h⟩⟩))
      KeepsB.trans (KeepsB.put (by omega)) (Below.refl _ _) (fun _ => rfl)
      (fun pre W => KeepsB (gs + 3) gs w6 W ∧ (∃ A c, W.cell? ⟨gs, 0, none⟩ = some (.slice A pre.length c) ∧ W.frozen? ⟨gs, 0, none⟩ = false ∧ OwnR W (gs + 3) (gs + 3) A pre.length c (pre.map fun y => rowF (elsF s slots) y.1)) ∧ Below w.heap.size w W)
      (fun cc pre W => False)
      (fun s W W' row hs hg hr => by
        obtain ⟨h1, ⟨A, c, h2, h3, h4⟩, h5⟩ := hs
        have hr2 : ∀ r, row = some r → ∃ o : Obj, W.heap[r]? = some o ∧ o.isCells = false := fun r e => (hr r e).2
        exact ⟨ownFrom_keepsB (β := Unit) (by omega) (by omega) () W W' row h1 hg hr, ⟨A, c, cell_kept h2 hg hr2, (frozen_kept h2 hg hr2).trans h3, h4.kept hg (NoRow.others hr2)⟩, ownFrom_below (β := Unit) (Nat.le_refl _) (by omega) () W W' row h5 hg hr⟩)
      (fun cc s W W' row hs hg hr => hs.elim)
      ⟨KeepsB.refl _ _ _, ⟨none, 0, (hN6.cell 0).trans rfl, hN6.frozen 0, OwnR.nil_⟩, hbw6⟩
      ?a1 ?assign ?body ?done ?stop
    case assign =>
      intro l y W K hK
      gi_wp2
      exact hK
    case done =>
      rintro D ys W hD hS ⟨hKB, ⟨A, c, hc, hf, hO⟩, hB⟩ hK
      have hyl : ys.length = slots := by have := congrArg List.length hS; rwa [List.length_map, List.length_range] at this
      have hyr : ys.map (fun y => rowF (elsF s slots) y.1) = (List.range slots).map (rowF (elsF s slots)) := by rw [← hS, List.map_map]; rfl
      rw [hyl] at hc hO
      rw [hyr] at hO
      go_wp2
      refine ⟨by simp, .inl ⟨_, _, rfl, run_takeDeferred hK, ?_⟩⟩
      refine ⟨_, results_tmp rfl _ _ _, A, c, rfl, (hO.kept (grownBy_putObj' W D _) (NoRow.others fun r e => by cases e; exact ⟨_, hK, rfl⟩)).weaken (by omega) (by omega), hB.trans (belowK_b (w := w) (Nat.le_refl _) W D _ _ (by omega) hK rfl rfl)⟩
    case stop =>
      rintro D cc pre W hD _ hh _
      exact hh.elim
    case body =>
      rintro l pre ⟨y, hy⟩ W ⟨hKB, ⟨A, c, hc, hf, hO⟩, hB⟩ hlt
      have hmx : Tryz.prog.follows .mixedOrders = true := by kernel_rfl
      have hBW : BlkI W w.heap.size (elsF s slots) := by
        rw [← lstF_all HSZ.out, HN.out, HL.out]
        exact hKB.blk (by omega) (by omega) hBX
      have hI := hBW.stretch (elsF_len HSZ.out) hy
      have hID : Ints W.drew W.drew.heap.size (some ⟨w.heap.size, y * 40, none⟩) 40 (rowF (elsF s slots) y) := hI
      gi_wp2
      refine wpIn_region_any hmx (anyIn_of ?hd ?hrow ?hQ _ _ _ _ ?go)
      case hd =>
        intro o ho c
        simp only [List.mem_toArray, List.mem_cons, List.not_mem_nil, or_false] at ho
        rcases ho with rfl | rfl | rfl | rfl | rfl | rfl <;> exact fun h => by cases h
      case hQ =>
        rintro ⟨a, w, h⟩
        exact h
      case hrow =>
        intro o ho a w row args w' h
        simp only [List.mem_toArray, List.mem_cons, List.not_mem_nil, or_false] at ho
        rcases ho with rfl | rfl | rfl | rfl | rfl | rfl
        case inl => simp only [execOp, Sem.run_bind, Sem.run_pure] at h; unfold Result.andThen at h; split at h <;> simp at h
        case inr.inl => simp only [execOp, Sem.run_pure] at h; cases h
        case inr.inr.inl =>
          simp [go_sem] at h
        case inr.inr.inr.inl => simp only [execOp, Sem.run_bind, Sem.run_pure] at h; unfold Result.andThen at h; split at h <;> simp at h
        case inr.inr.inr.inr.inl => simp [go_sem] at h; unfold Result.andThen at h; split at h <;> simp at h
        case inr.inr.inr.inr.inr => simp only [execOp, Sem.run_bind, Sem.run_pure] at h; unfold Result.andThen at h; split at h <;> simp at h
      case go =>
        have hWl : gs + 3 ≤ W.heap.size := by have := hKB.1; omega
        have hSd : W.drew.cell? ⟨gs, 0, none⟩ = some (.slice A pre.length c) := hc
        refine wpAny_start (S := fun w' => w'.cell? ⟨gs, 0, none⟩ = some (.slice A pre.length c)) (n := 5) hSd (fun inv hS => ?_)
        refine wpM_take (i := 0) (v := ?va0) rfl (by kernel_rfl) (by kernel_rfl) (by kernel_rfl) (fun _ _ _ h => h) (by kernel_rfl) (by kernel_rfl) (of_decide_eq_true (by kernel_rfl)) (by decide) inv (Or.inl ⟨by rfl, ?hya0⟩) hS ?resta0
        case hya0 => (intro w' hSw; (try dsimp only at hSw); go_simp; try with_reducible rfl)
        clear inv
        intro inv
        (try simp only [Act.put, List.setIfInBounds_toArray, List.set_cons_zero, List.set_cons_succ])
        refine wpM_take (i := 1) (v := ?va1) rfl (by kernel_rfl) (by kernel_rfl) (by kernel_rfl) (fun _ _ _ h => h) (by kernel_rfl) (by kernel_rfl) (of_decide_eq_true (by kernel_rfl)) (by decide) inv (Or.inl ⟨by rfl, ?hya1⟩) hS ?resta1
        case hya1 => (intro w' hSw; (try dsimp only at hSw); go_simp; try with_reducible rfl)
        clear inv
        intro inv
        (try simp only [Act.put, List.setIfInBounds_toArray, List.set_cons_zero, List.set_cons_succ])
        refine wpM_one (k := 2) rfl (by kernel_rfl) (by decide) inv (fun K hK => ?_)
        clear inv hS
        go_simp
        go_at_call 78
        refine (clone_any (some ⟨w.heap.size, y * 40, none⟩) 40 40 (rowF (elsF s slots) y) _ hID (by omega)).mono ?_
        rintro e w10 ⟨⟨Y, yc, rfl, hY⟩, hb10⟩
        have hb10' : Below W.heap.size W w10 := ⟨hb10.os, hb10.tape, hb10.output, hb10.size, hb10.block⟩
        have hO10 := hO.belowAll hb10'
        have hc10 : w10.cell? ⟨gs, 0, none⟩ = some (.slice A pre.length c) := (hb10'.cell (p := ⟨gs, 0, none⟩) (by show gs < _; omega)).trans hc
        have hf10 : w10.frozen? ⟨gs, 0, none⟩ = false := (hb10'.frozen (p := ⟨gs, 0, none⟩) (by show gs < _; omega)).trans hf
        have hl10 := hb10'.size
        (try dsimp only)
        refine hK.out _ _ hc10 (fun inv hS => ?_)
        clear hK K
        (try simp only [Act.put, List.setIfInBounds_toArray, List.set_cons_zero, List.set_cons_succ])
        refine wpM_one (k := 3) rfl (by kernel_rfl) (by decide) inv (fun K hK => ?_)
        clear inv hS
        have hbx := bbox (w0 := w10) (.cells #[.slice Y 40 yc] 22)
        have hN11 := Blk.new w10 22 #[.slice Y 40 yc]
        have hO11 := hO10.belowAll hbx
        have hY11 : OwnI _ (gs + 3) 3 Y 40 yc (rowF (elsF s slots) y) := own_base (own_below hY hbx) hWl
        have hc11 : (w10.alloc (.cells #[.slice Y 40 yc] 22)).cell? ⟨gs, 0, none⟩ = some (.slice A pre.length c) := (hbx.cell (p := ⟨gs, 0, none⟩) (by show gs < _; omega)).trans hc10
        have hf11 : (w10.alloc (.cells #[.slice Y 40 yc] 22)).frozen? ⟨gs, 0, none⟩ = false := (hbx.frozen (p := ⟨gs, 0, none⟩) (by show gs < _; omega)).trans hf10
        have hb11 := hb10'.trans (hbx.mono hl10)
        obtain ⟨w11, hw11⟩ : ∃ x : World, w10.alloc (.cells #[.slice Y 40 yc] 22) = x := ⟨_, rfl⟩
        rw [hw11] at hN11 hO11 hY11 hc11 hf11 hb11
        go_simp
        (try rw [hw11])
        clear hw11 hbx
        refine hK.out _ _ hc11 (fun inv hS => ?_)
        clear hK K
        (try simp only [Act.put, List.setIfInBounds_toArray, List.set_cons_zero, List.set_cons_succ])
        refine wpM_one (k := 4) rfl (by kernel_rfl) (by decide) inv (fun K hK => ?_)
        clear inv hS
        have hl11 := hb11.size
        refine step_append_rowR rfl (.tmp 53) (.tmp 56) 45 rfl (gs + 3) (gs + 3) Tryz.underlying45 A pre.length c _ (by first | rfl | simp [Act.eval]) hO11 w10.heap.size 1 Y 40 yc _ (by first | rfl | simp [Act.eval]) ((hN11.cell 0).trans rfl) hN11.lt (by omega) hY11 (by omega) (by omega) ?_
        intro A12 c12 w12 hO12 hg12 hb12
        have hc12 : w12.cell? ⟨gs, 0, none⟩ = some (.slice A pre.length c) := (hb12.cell (p := ⟨gs, 0, none⟩) (by show gs < _; omega)).trans hc11
        have hf12 : w12.frozen? ⟨gs, 0, none⟩ = false := (hb12.frozen (p := ⟨gs, 0, none⟩) (by show gs < _; omega)).trans hf11
        refine hK.out _ _ hc12 (fun inv hS => ?_)
        clear hK K
        (try simp only [Act.put, List.setIfInBounds_toArray, List.set_cons_zero, List.set_cons_succ])
        refine wpM_last rfl (by kernel_rfl) (by kernel_rfl) (fun K hK => ?_)
        clear inv hS
        go_simp
        refine hK.out _ _ ?_
        clear hK K
        have hKO : KeepsOthers W (w12.setCell ⟨gs, 0, none⟩ (.slice A12 (pre.length + 1) c12)) := (KeepsOthers.trans ⟨hb11.size, fun k o hk _ => (hb11.block k (Array.getElem?_eq_some_iff.1 hk).1).trans hk⟩ (KeepsOthers.ofGrown hg12 hO11.cellsRow)).trans (KeepsOthers.setCell _ _ _)
        have hb13 : Below (gs + 3) W w12 := (hb11.mono hWl).trans hb12
        have hKB2 := ((KeepsB.refl (gs + 3) gs W).belowAt hb13).setGs 0 (.slice A12 (pre.length + 1) c12)
        have hpl : (pre ++ [(⟨y, hy⟩ : {k : Nat // k < slots})]).length = pre.length + 1 := by simp
        have hmp : (pre ++ [(⟨y, hy⟩ : {k : Nat // k < slots})]).map (fun y => rowF (elsF s slots) y.1) = pre.map (fun y => rowF (elsF s slots) y.1) ++ [rowF (elsF s slots) y] := by simp
        refine ⟨hKO.from _, hKB2, hKB.trans hKB2, ⟨A12, c12, ?_, (World.frozen?_setCell _ _ _ _).trans hf12, ?_⟩, (hB.trans (hb13.mono (by omega))).setCell (p := ⟨gs, 0, none⟩) (by show w.heap.size ≤ gs; omega) _⟩
        · rw [hpl]; exact World.cell?_setCell_same' _ _ _ (by rw [hc12]; rfl)
        · rw [hpl, hmp]; exact hO12.step ((Step.refl gs w12).set 0 _) (by omega) (by omega)
end Go.Proofs.YtmcgnpdfpfgfpaaGreatDoor
