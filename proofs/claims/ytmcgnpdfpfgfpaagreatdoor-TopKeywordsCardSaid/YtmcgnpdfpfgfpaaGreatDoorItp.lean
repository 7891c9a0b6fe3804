/-
  What poly's Interpolate hands back for different points of the field. Conditions: the list of shares reads as its points and values, all of them elements, few.
-/
import Derived.Test.YtmcgnpdfpfgfpaaGreatDoorPlain
import Derived.Test.YtmcgnpdfpfgfpaaGreatDoorGBas
import Derived.Test.YtmcgnpdfpfgfpaaGreatDoorGPol
import Derived.Deep.RegionHeld3
namespace Go.Proofs.YtmcgnpdfpfgfpaaGreatDoor
open Go.RowKit
open Go.Maps
set_option linter.unusedVariables false

/-- A slice of shares reads as points and values. -/
def Sh (w : World) (B : Nat) (A : Option Addr) (n : Nat) (us ys : List Int) : Prop :=
  us.length = n ∧ ys.length = n ∧ (0 < n → ∃ b off, A = some ⟨b, off, none⟩ ∧ b < B ∧ ∀ j, j < n → w.cell? ⟨b, off + j * 2, none⟩ = some (.int .i64 (us.getD j 0)) ∧ w.cell? ⟨b, off + j * 2 + 1, none⟩ = some (.int .i64 (ys.getD j 0)))

/-- The two cells of a share. -/
def S2 (bs : Nat) (u v : Int) (w : World) : Prop := w.cell? ⟨bs, 0, none⟩ = some (.int .i64 u) ∧ w.cell? ⟨bs, 1, none⟩ = some (.int .i64 v)
theorem S2.drew {bs : Nat} {u v : Int} {w : World} (h : S2 bs u v w) : S2 bs u v w.drew := h
theorem S2.alloc {bs : Nat} {u v : Int} {w : World} (h : S2 bs u v w) (o : Obj) : S2 bs u v (w.alloc o) := by
  have hl : bs < w.heap.size := World.block_lt_of_cell? w _ h.1
  exact ⟨(World.cell?_alloc_lt w o ⟨bs, 0, none⟩ hl).trans h.1, (World.cell?_alloc_lt w o ⟨bs, 1, none⟩ hl).trans h.2⟩
theorem S2.grown {bs : Nat} {u v : Int} {wa wb : World} {row : Option Nat} (h : S2 bs u v wa) (hg : wa.grownBy wb row) (hne : row ≠ some bs) : S2 bs u v wb := by
  have hl : bs < wa.heap.size := World.block_lt_of_cell? wa _ h.1
  have hb := hg.block bs hl (fun e => hne e.symm)
  exact ⟨(World.cell?_of_block (a := ⟨bs, 0, none⟩) hb).trans h.1, (World.cell?_of_block (a := ⟨bs, 1, none⟩) hb).trans h.2⟩

theorem step_append_twoG {P : Program} {ops : Array Oper} {o : Oper} {a : Act} {w : World} {K : Act → World → Prop} {Q : Exit → Act → World → Prop} {E : Prop}
    (hg : o.guard = none) (s x : Operand) (t : TypeId) (hop : o.op = Op.call { callee := Callee.builtin Builtin.append, args := #[s, x], argTypes := #[t, t] })
    (base : Nat) (e : TypeId) (i : TypeInfo) (z : Value) (ht : P.underlying t = some (.slice e)) (hi : P.info? e = some i) (hz : i.zero = some z) (hsize : i.size = 1) (hby : i.bytes = 8) (hzs : z.cells.size = 1)
    (A1 : Option Addr) (n1 c1 : Nat) (xs : List Int) (A2 : Option Addr) (n2 c2 : Nat) (ys : List Int) (hT : Two w base e A1 n1 c1 xs A2 n2 c2 ys) (hs : a.eval s = .slice A1 n1 c1)
    (b : Nat) (c : Nat) (u : Int) (hx : a.eval x = .slice (some ⟨b, 0, none⟩) 1 c) (hI : Ints w w.heap.size (some ⟨b, 0, none⟩) 1 [u]) (hcap : n1 + 1 ≤ 17592186044416) (hbase : base ≤ w.heap.size)
    (hK : ∀ A' c' w', Two w' base e A' (n1 + 1) c' (xs ++ [u]) A2 n2 c2 ys → Below base w w' → w.grownBy w' (Value.slice A1 n1 c1).ownBlock → (∀ b' u', Src w (.slice A1 n1 c1) (.slice A2 n2 c2) b' u' → Src w' (.slice A' (n1 + 1) c') (.slice A2 n2 c2) b' u') → K (a.put o.dst (.slice A' (n1 + 1) c')) w') :
    if Region.wanted o (yielded ops a.tmps) = true then Oper.wp P o a w K Q else E := by
  refine step_append_any (P := P) w hg s x t hop base e i z 1 8 ht hi hz hsize hby hzs (by omega) (.slice A1 n1 c1) n1 (vals xs) hs hT.1 w.heap.size (some ⟨b, 0, none⟩) 1 c (vals [u]) hx hI.reads (vals_one _) (by unfold maxLen; omega) (by omega) hbase ?_
  intro v' w' hown hgr hab
  have hb : Below base w w' := (Below.refl base w).grown hgr hbase hT.1.row
  rcases hown.2 with ⟨_, h0⟩ | ⟨g, cap, cur, rfl, _⟩
  · omega
  · have hown2 : OwnI w' base e (some ⟨g, 0, none⟩) (n1 + 1) cap (xs ++ [u]) := by
      unfold OwnI
      rw [show vals (xs ++ [u]) = vals xs ++ vals [u] by simp [vals]]
      exact hown
    refine hK _ cap w' (hT.first hown2 hgr hab) hb hgr fun b' u' hS => ?_
    obtain ⟨hI', h1, h2⟩ := hS
    refine ⟨hI'.grownAt hgr h1, fun e1 => ?_, h2⟩
    rcases hab with h3 | h3
    · exact h1 (by rw [← h3, e1])
    · rw [h3] at e1
      injection e1 with e1
      have := hI'.lt (by omega)
      omega

set_option maxRecDepth 100000 in
set_option maxHeartbeats 1600000 in
theorem interp_ok (p : Int) (A : Option Addr) (n c : Nat) (us ys : List Int) (w : World) (hok : okP p = true) (h : Sh w w.heap.size A n us ys) (ha : allP p us = true) (hy : allP p ys = true) (hn : n ≤ 100) (hd : ∀ j k, j < k → k < n → us.getD j 0 ≠ us.getD k 0) :
    Calls Tryz.prog 94 #[.agg #[.int .i64 p], .slice A n c] w fun e w' =>
      (∃ R A' c', e = .returned (.tuple #[.slice A' R.length c', .int .i64 0]) ∧ OwnI w' w.heap.size 3 A' R.length c' R ∧ Through p us ys R) ∧ Below w.heap.size w w' := by
  have hp := okP_pos hok
  have HO := Lib.hid hok
  have HA := Lib.hid ha
  have HY := Lib.hid hy
  have HDI := Lib.hid hd
  have HLA := Lib.hid h.1
  have HLY := Lib.hid h.2.1
  have hI := h.2.2
  obtain ⟨i0, hi0, hz0, hz1, hz2⟩ := info_parts info_int
  have HR : Hid (∀ r ∈ [us, ys], allP p r = true ∧ r.length ≤ 512) := Lib.hid fun r hr => by
    simp only [List.mem_cons, List.not_mem_nil, or_false] at hr
    rcases hr with rfl | rfl
    · exact ⟨ha, by rw [h.1]; omega⟩
    · exact ⟨hy, by rw [h.2.1]; omega⟩
  have law : Keyed Tryz.prog 3 := int_keyed Tryz.underlying3
  have zeroE : ∀ w : World, (zeroValue 4).run Tryz.prog w = .ok (.bool false) w := fun w => by kernel_rfl
  have hmm := @run_makeMap Tryz.prog
  clear ha hy hok hd h
  go_enter Tryz.func94, Tryz.ntmps94
  go_wp2
  have hbb0 : Below w.heap.size w (w.alloc (.cells #[.int .i64 p] 44)) := bbox _
  go_loopw [6, 7, 23] (fun r1 r2 i wr => ∃ (k : Nat) (A1 A2 : Option Addr) (c1 c2 : Nat), k ≤ n ∧ r1 = .slice A1 k c1 ∧ r2 = .slice A2 k c2 ∧ i = .int .i64 k ∧ Hid (Two wr (w.alloc (.cells #[.int .i64 p] 44)).heap.size 3 A1 k c1 (us.take k) A2 k c2 (ys.take k)) ∧ Below (w.alloc (.cells #[.int .i64 p] 44)).heap.size (w.alloc (.cells #[.int .i64 p] 44)) wr) (fun _ _ i _ => n - (intOf i).toNat)
  case atStart => exact ⟨0, none, none, 0, 0, Nat.zero_le _, rfl, rfl, rfl, Lib.hid Two.nil_, Below.refl _ _⟩
  case round =>
    obtain ⟨k, A1, A2, c1, c2, hk, rfl, rfl, rfl, HT, hbf⟩ := hrel
    have hb := bnext hbb0 hbf
    by_cases hlt : k < n
    · obtain ⟨b, off, rfl, hbl, hcell⟩ := hI (by omega)
      have hcA := (hb.cell (p := ⟨b, off + k * 2, none⟩) hbl).trans (hcell k hlt).1
      have hcY := (hb.cell (p := ⟨b, off + k * 2 + 1, none⟩) hbl).trans (hcell k hlt).2
      clear hcell
      have HU := Lib.hid (take_succ_getD us k (by rw [HLA.out]; exact hlt))
      have HV := Lib.hid (take_succ_getD ys k (by rw [HLY.out]; exact hlt))
      generalize us.getD k 0 = u at *
      generalize ys.getD k 0 = v at *
      have HTQ : Hid (Two (wr.alloc (.cells #[.int .i64 u, .int .i64 v] 135)) (w.alloc (.cells #[.int .i64 p] 44)).heap.size 3 A1 k c1 (us.take k) A2 k c2 (ys.take k)) := Lib.hid (HT.out.alloc _)
      have HSQ : S2 wr.heap.size u v (wr.alloc (.cells #[.int .i64 u, .int .i64 v] 135)) := ⟨((Blk.new wr _ _).cell 0).trans rfl, ((Blk.new wr _ _).cell 1).trans rfl⟩
      have hbq := ballocs hbf (.cells #[.int .i64 u, .int .i64 v] 135)
      have hn1 : (Value.slice A1 k c1).ownBlock ≠ some wr.heap.size := fun e => by have := (World.ownsRow.lt HT.out.1 _ e).2; omega
      have hn2 : (Value.slice A2 k c2).ownBlock ≠ some wr.heap.size := fun e => by have := (World.ownsRow.lt HT.out.2.1 _ e).2; omega
      go_wp2
      --ARMS
      go_region_held3 (fun w' => w'.cell? ⟨wr.heap.size, 0, none⟩ = some (.int .i64 u) ∧ w'.cell? ⟨wr.heap.size, 1, none⟩ = some (.int .i64 v)) (first | exact HSQ.drew | exact HS8 | exact HSQ | exact HSQ.drew.alloc _ | exact (HSQ.drew.alloc _).alloc _ | exact HS8.alloc _ | exact HS9)
        (first
          | ((refine step_append_twoG (w := (wr.alloc (.cells #[.int .i64 u, .int .i64 v] 135)).drew.alloc (.cells #[.int .i64 u] 3)) rfl (.tmp 27) (.tmp 30) 22 rfl (w.alloc (.cells #[.int .i64 p] 44)).heap.size 3 i0 _ Tryz.underlying22 hi0 hz0 hz1 hz2 rfl A1 k c1 (us.take k) A2 k c2 (ys.take k) (HTQ.out.drew.alloc _) (by simp [Act.eval]) (wr.heap.size + 1) 1 u (by simp [Act.eval]) (Ints.oneAt _ u _ (wr.heap.size + 1) (by simp)) (by omega) (le_alloc hbq.drew.size _) ?_); intro A3 c3 w8 hT8 hb8 hg8 hs8; have HS8 := S2.grown (HSQ.drew.alloc _) hg8 hn1; have hbb8 := (hbq.drew.alloc hbq.drew.size (.cells #[.int .i64 u] 3)).trans hb8)
          | ((refine step_append_twoG (w := ((wr.alloc (.cells #[.int .i64 u, .int .i64 v] 135)).drew.alloc (.cells #[.int .i64 u] 3)).alloc (.cells #[.int .i64 v] 3)) rfl (.tmp 27) (.tmp 30) 22 rfl (w.alloc (.cells #[.int .i64 p] 44)).heap.size 3 i0 _ Tryz.underlying22 hi0 hz0 hz1 hz2 rfl A1 k c1 (us.take k) A2 k c2 (ys.take k) ((HTQ.out.drew.alloc _).alloc _) (by simp [Act.eval]) (wr.heap.size + 1) 1 u (by simp [Act.eval]) ((Ints.oneAt _ u _ (wr.heap.size + 1) (by simp)).upto (bbox _)) (by omega) (le_alloc (le_alloc hbq.drew.size _) _) ?_); intro A3 c3 w8 hT8 hb8 hg8 hs8; have HS8 := S2.grown ((HSQ.drew.alloc _).alloc _) hg8 hn1; have hbb8 := ((hbq.drew.alloc hbq.drew.size (.cells #[.int .i64 u] 3)).alloc (hbq.drew.alloc hbq.drew.size (.cells #[.int .i64 u] 3)).size (.cells #[.int .i64 v] 3)).trans hb8; have hsy := hs8 (wr.heap.size + 1 + 1) v (Src.new HTQ.out.drew (by first | (simp; done) | (simp; omega)) (Ints.oneAt _ v _ (wr.heap.size + 1 + 1) (by simp))))
          | ((refine step_append_twoG (w := ((wr.alloc (.cells #[.int .i64 u, .int .i64 v] 135)).drew.alloc (.cells #[.int .i64 v] 3)).alloc (.cells #[.int .i64 u] 3)) rfl (.tmp 27) (.tmp 30) 22 rfl (w.alloc (.cells #[.int .i64 p] 44)).heap.size 3 i0 _ Tryz.underlying22 hi0 hz0 hz1 hz2 rfl A1 k c1 (us.take k) A2 k c2 (ys.take k) ((HTQ.out.drew.alloc _).alloc _) (by simp [Act.eval]) (wr.heap.size + 1 + 1) 1 u (by simp [Act.eval]) (Ints.oneAt _ u _ (wr.heap.size + 1 + 1) (by simp)) (by omega) (le_alloc (le_alloc hbq.drew.size _) _) ?_); intro A3 c3 w8 hT8 hb8 hg8 hs8; have HS8 := S2.grown ((HSQ.drew.alloc _).alloc _) hg8 hn1; have hbb8 := ((hbq.drew.alloc hbq.drew.size (.cells #[.int .i64 v] 3)).alloc (hbq.drew.alloc hbq.drew.size (.cells #[.int .i64 v] 3)).size (.cells #[.int .i64 u] 3)).trans hb8; have hsy := hs8 (wr.heap.size + 1) v (Src.new HTQ.out.drew (by first | (simp; done) | (simp; omega)) ((Ints.oneAt _ v _ (wr.heap.size + 1) (by simp)).upto (bbox _))))
          | ((refine step_append_twoG (w := w8.alloc (.cells #[.int .i64 v] 3)) rfl (.tmp 32) (.tmp 35) 22 rfl (w.alloc (.cells #[.int .i64 p] 44)).heap.size 3 i0 _ Tryz.underlying22 hi0 hz0 hz1 hz2 rfl A2 k c2 (ys.take k) A3 (k + 1) c3 (us.take k ++ [u]) (hT8.swap.alloc _) (by simp [Act.eval]) w8.heap.size 1 v (by simp [Act.eval]) (Ints.oneAt _ v _ w8.heap.size (by simp)) (by omega) (le_alloc hbb8.size _) ?_); intro A4 c4 w9 hT hb9 hg9 _; have HS9 := S2.grown (HS8.alloc _) hg9 hn2; have hTT := hT.swap; have hbb := (hbb8.alloc hbb8.size _).trans hb9)
          | ((refine step_append_twoG (w := w8) rfl (.tmp 32) (.tmp 35) 22 rfl (w.alloc (.cells #[.int .i64 p] 44)).heap.size 3 i0 _ Tryz.underlying22 hi0 hz0 hz1 hz2 rfl A2 k c2 (ys.take k) A3 (k + 1) c3 (us.take k ++ [u]) hT8.swap (by simp [Act.eval]) (wr.heap.size + 1) 1 v (by simp [Act.eval]) hsy.1 (by omega) hbb8.size ?_); intro A4 c4 w9 hT hb9 hg9 _; have HS9 := S2.grown HS8 hg9 hn2; have hTT := hT.swap; have hbb := hbb8.trans hb9)
          | ((refine step_append_twoG (w := w8) rfl (.tmp 32) (.tmp 35) 22 rfl (w.alloc (.cells #[.int .i64 p] 44)).heap.size 3 i0 _ Tryz.underlying22 hi0 hz0 hz1 hz2 rfl A2 k c2 (ys.take k) A3 (k + 1) c3 (us.take k ++ [u]) hT8.swap (by simp [Act.eval]) (wr.heap.size + 1 + 1) 1 v (by simp [Act.eval]) hsy.1 (by omega) hbb8.size ?_); intro A4 c4 w9 hT hb9 hg9 _; have HS9 := S2.grown HS8 hg9 hn2; have hTT := hT.swap; have hbb := hbb8.trans hb9))
      --END
      all_goals
        go_wp2
        go_roundw
        case rel => exact ⟨k + 1, A3, A4, c3, c4, by omega, rfl, rfl, by go_num, Lib.hid (by rw [HU.out, HV.out]; exact hTT), hbb⟩
        case measure => simp [intOf]; omega
    · have hkn : k = n := by omega
      subst hkn
      have hT := HT.out
      rw [List.take_of_length_le (by rw [HLA.out]; omega), List.take_of_length_le (by rw [HLY.out]; omega)] at hT
      have hJ1 := hT.1.ints
      have hJ2 := hT.2.1.ints
      have hF := (Blk.new w 44 #[.int .i64 p]).below hbf (by simp)
      have hc0 : wr.cell? ⟨w.heap.size, 0, none⟩ = some (.int .i64 p) := (hF.cell 0).trans rfl
      clear HT hI hT hbb0 hbf hF
      go_wp2_with (go_at_call 121; (refine (open_ok p _ 2 2 [us, ys] _ HO.out (by exact Mat.two _ A1 A2 k k c1 c2 us ys 22 _ (by simp) hJ1 hJ2 (by omega) (by omega)) (by omega) HR.out).mono ?_); rintro e w1 ⟨rfl, hb1⟩
                   have hbb1 := bnext (ballocs hb (.cells #[.slice A1 k c1, .slice A2 k c2] 22)) hb1
                   have hK1 := (hJ1.upto (bbox (.cells #[.slice A1 k c1, .slice A2 k c2] 22))).upto hb1
                   have hK2 := (hJ2.upto (bbox (.cells #[.slice A1 k c1, .slice A2 k c2] 22))).upto hb1
                   clear hb1)
      clear hJ1 hJ2 hb hc0
      go_loopw [52] (fun i wx => ∃ (j : Nat) (D : DataW Unit), j ≤ k ∧ i = .int .i64 j ∧ Hid (wx.ownsMap Tryz.prog 3 (plainElem Tryz.prog 4) w1.heap.size j D) ∧ Hid (Unseen D (us.take j)) ∧ Below w1.heap.size w1 wx) (fun i _ => k - (intOf i).toNat)
      case atStart => exact ⟨0, .map [], Nat.zero_le _, rfl, Lib.hid (World.ownsMap_made _ _ _ _), Lib.hid Unseen.start, bbox _⟩
      case round =>
        obtain ⟨j, D, hj, rfl, HM, HU, hbx⟩ := hrel
        by_cases hlt2 : j < k
        · obtain ⟨b1, o1, rfl, hb1, hc1⟩ := hK1.2 (by omega)
          have hcx := (hbx.cell (p := ⟨b1, o1 + j, none⟩) hb1).trans (hc1 j hlt2)
          clear hc1
          have hxe := allP_getD HA.out (k := j) (by rw [HLA.out]; exact hlt2)
          have HTS := Lib.hid (take_succ_getD us j (by rw [HLA.out]; exact hlt2))
          have hnot : us.getD j 0 ∉ us.take j := fun hm => by
            obtain ⟨i, hi, hil, e⟩ := take_mem hm
            exact HDI.out i j hi hlt2 e
          have HUN := Lib.hid (HU.out _ hnot)
          have HUS := Lib.hid (HU.out.step (us.getD j 0))
          clear hnot
          generalize us.getD j 0 = x at *
          have hwf : (Lit.int .i64 x).wf = true := by simp [Lit.wf, IntKind.min, IntKind.max, IntKind.signed, IntKind.bits]; omega
          have hs1 := hbx.size
          go_wp2_with (first
            | (at_lookup
               refine wpList_lookup_own_bool _ rfl _ _ 200 rfl 3 4 law Tryz.underlying200 Tryz.underlying4 (zeroE _) w1.heap.size j D rfl HM.out _ _ rfl (keyOf_int_mk Tryz.underlying3 hwf) ?_
               intro c hat
               have hcf : c = false := by have := HUN.out.symm.trans hat; injection this with this; injection this with this; exact this.symm
               subst hcf)
            | (at_mapUpdate
               refine wpList_mapUpdate_own _ rfl _ _ _ 200 rfl 3 4 law Tryz.underlying200 _ w1.heap.size j D rfl HM.out (by unfold maxLen; omega) _ _ _ rfl rfl (keyOf_int_mk Tryz.underlying3 hwf) _ [] (plainElem_bool Tryz.underlying4 true) ?_
               intro w2 hown2 hgr2
               have hbx2 := hbx.grown hgr2 hs1 (fun g e => by cases e; exact Nat.le_refl _)))
          go_roundw
          case rel => exact ⟨j + 1, _, by omega, by go_num, Lib.hid hown2, Lib.hid (by rw [HTS.out]; exact HUS.out), hbx2⟩
          case measure => simp [intOf]; omega
        · have hjk : j = k := by omega
          subst hjk
          have hL1 := (hK1.upto hbx).upto (bbox (.cells #[.int .i64 1] 3))
          have hL2 := (hK2.upto hbx).upto (bbox (.cells #[.int .i64 1] 3))
          have hbw := bnext hbb1 hbx
          have hbw3 := ballocs hbw (.cells #[.int .i64 1] 3)
          have HS := Lib.hid (Itp.start hp.1 us ys)
          have hN0 : Ints (wr.alloc (.cells #[.int .i64 1] 3)) (wr.alloc (.cells #[.int .i64 1] 3)).heap.size (some ⟨wr.heap.size, 0, none⟩) 1 [1] := Ints.oneAt wr 1 3 _ rfl
          clear hK1 hK2 HM HU hbb1 hbx hmm hbw
          go_wp2
          generalize (wr.alloc (.cells #[.int .i64 1] 3)) = w3 at *
          generalize wr.heap.size = g3 at *
          go_loopw [15, 16, 65] (fun v1 v2 i wz => ∃ (k nn : Nat) (P N : Option Addr) (pc nc : Nat) (poly node : List Int), k ≤ j ∧ nn = k + 1 ∧ k ≤ pc ∧ v1 = .slice P k pc ∧ v2 = .slice N nn nc ∧ i = .int .i64 k ∧ Ints wz wz.heap.size P k poly ∧ Ints wz wz.heap.size N nn node ∧ Hid (Itp p us ys poly node k) ∧ Below w3.heap.size w3 wz) (fun _ _ i _ => j - (intOf i).toNat)
          case atStart => exact ⟨0, 1, none, some ⟨g3, 0, none⟩, 0, 1, [], [1], Nat.zero_le _, rfl, Nat.le_refl _, rfl, rfl, rfl, Ints.nil_, hN0, HS, Below.refl _ _⟩
          case round =>
            rename_i wz
            obtain ⟨k, nn, P, N, pc, nc, poly, node, hkj, hnn, hkpc, rfl, rfl, rfl, hIP, hIN, HI, hbz⟩ := hrel
            have HNN := Lib.hid hnn
            have hnn2 : 0 < nn ∧ nn ≤ 200 := by omega
            clear hnn
            by_cases hlt3 : k < j
            · obtain ⟨b1, o1, rfl, hb1, hc1⟩ := hL1.2 (by omega)
              obtain ⟨b2, o2, rfl, hb2, hc2⟩ := hL2.2 (by omega)
              have hcx := (hbz.cell (p := ⟨b1, o1 + k, none⟩) hb1).trans (hc1 k hlt3)
              have HCY : Hid (∀ wx, Below wr.drew.heap.size wr.drew wx → wx.cell? ⟨b2, o2 + k, none⟩ = some (.int .i64 (ys.getD k 0))) := Lib.hid fun wx hx => ((hbz.drew.trans (hx.mono hbz.size)).cell (p := ⟨b2, o2 + k, none⟩) hb2).trans (hc2 k hlt3)
              have hcy := HCY.out wr.drew (Below.refl _ _)
              have hIPd : Ints wr.drew wr.drew.heap.size P k poly := hIP.drew
              have hINd : Ints wr.drew wr.drew.heap.size N nn node := hIN.drew
              have hbzd := hbz.drew
              clear hc1 hc2
              have hxe := allP_getD HA.out (k := k) (by rw [HLA.out]; exact hlt3)
              have hye := allP_getD HY.out (k := k) (by rw [HLY.out]; exact hlt3)
              have hvn := HI.out.new HO.out HA.out (by rw [HLA.out]; exact hlt3) (fun a b h1 h2 => HDI.out a b h1 (by rw [← HLA.out]; exact h2))
              have HSTEP : Hid (∀ inv, Cong p (valueP p (us.getD k 0) node * inv) 1 → Itp p us ys (addTo p (mulP p (subP p (ys.getD k 0) (valueP p (us.getD k 0) poly)) inv) 0 node (poly ++ List.replicate 1 0) (k + 1)) (rawMul p node [subP p 0 (us.getD k 0), 1]) (k + 1)) :=
                Lib.hid fun inv hv => HI.out.step HO.out HA.out HY.out (by rw [HLA.out]; exact hlt3) (by rw [HLY.out]; exact hlt3) hv
              have HAP := Lib.hid HI.out.ap
              have HAN := Lib.hid HI.out.an
              have hpu := valueP_in hp.1 (us.getD k 0) poly
              obtain ⟨u, HVP⟩ : ∃ u, Hid (valueP p (us.getD k 0) poly = u) := ⟨_, Lib.hid rfl⟩
              obtain ⟨v, HVN⟩ : ∃ v, Hid (valueP p (us.getD k 0) node = v) := ⟨_, Lib.hid rfl⟩
              rw [HVP.out] at hpu
              rw [HVN.out] at hvn
              have HST2 : Hid (∀ inv, Cong p (v * inv) 1 → Itp p us ys (addTo p (mulP p (subP p (ys.getD k 0) u) inv) 0 node (poly ++ List.replicate 1 0) (k + 1)) (rawMul p node [subP p 0 (us.getD k 0), 1]) (k + 1)) := Lib.hid fun inv hv => by
                have := HSTEP.out inv (by rw [HVN.out]; exact hv)
                rwa [HVP.out] at this
              clear HSTEP HI
              generalize us.getD k 0 = x at *
              generalize ys.getD k 0 = y at *
              have hsu := subP_in y u hp.1
              have hk0 : (0 : Int) ≤ (k : Int) := by omega
              have hkj1 : (k : Int) < (j : Int) := by omega
              go_wp2_with fail
              go_region_held3 (fun w' => w'.cell? ⟨b2, o2 + k, none⟩ = some (.int .i64 y)) (first | exact hcy | exact hcy4 | exact hcy5)
                (first
                  | (go_at_call 117; (with_reducible refine (value_any p x P k pc poly wr.drew hp hxe hIPd HAP.out (by omega)).mono ?_); rintro e w4 ⟨rfl, hb4⟩
                     rw [HVP.out]
                     have hcy4 := HCY.out w4 hb4
                     have hIN4 := hINd.upto hb4
                     have hIP4 := hIPd.upto hb4)
                  | (go_at_call 117; (with_reducible refine (value_any p x N nn nc node w4 hp hxe hIN4 HAN.out (by omega)).mono ?_); rintro e w5 ⟨rfl, hb5⟩
                     rw [HVN.out]
                     have hb45 := bnext hb4 hb5
                     have hcy5 := HCY.out w5 hb45
                     have hIN5 := hIN4.upto hb5
                     have hIP5 := hIP4.upto hb5
                     have hbz5 := bnext hbzd hb45)
                  | (go_at_call 122; refine (subP_any p y u _ hp hye hpu).mono ?_; rintro e w' ⟨rfl, rfl⟩)
                  | (go_at_call 123; refine (inv_ok p v _ HO.out hvn).mono ?_; rintro e w' ⟨⟨inv, rfl, hinv, HINV⟩, rfl⟩)
                  | (go_at_call 119; refine (mulP_any p (subP p y u) inv _ hp hsu hinv).mono ?_; rintro e w' ⟨rfl, rfl⟩))
              have hby := mulP_in (subP p y u) inv hp.1
              have HITP := Lib.hid (HST2.out inv HINV.out)
              have hsx := subP_in 0 x hp.1
              obtain ⟨by_, HBY⟩ : ∃ by_, Hid (mulP p (subP p y u) inv = by_) := ⟨_, Lib.hid rfl⟩
              rw [HBY.out] at hby HITP
              rw [HBY.out]
              have HIL := hIP5.len
              have HDR : Hid ((List.replicate nn (0 : Int)).drop k = List.replicate 1 0) := Lib.hid (by rw [HNN.out]; simp)
              have HAZ : Hid (allP p (poly ++ List.replicate 1 0) = true) := Lib.hid (allP_append.2 ⟨HAP.out, allP_iff.2 (by simp; omega)⟩)
              have hkn2 : k ≤ nn := by have := HNN.out; omega
              have hb5w := bnext hbw3 hbz5
              clear hb4 hcy4 hIN4 hIP4 hb5 hb45 hcy5 hcy hcx HCY HST2 hIPd hINd hbzd HVP HVN hIP hIN hbz HIL
              go_wp2_with (first
                | (at_make
                   refine wpList_make_full _ rfl _ _ 22 rfl w3.heap.size 3 i0 (.int .i64 0) 1 Tryz.underlying22 hi0 hz0 hz1 .i64 .i64 _ _ nn rfl rfl (by first | rfl | omega) (by first | rfl | omega) (by rw [hz2]; omega) (by unfold maxLen; omega) hbz5.size ?_
                   intro w6 hown hgr
                   have hown6 : OwnI w6 w3.heap.size 3 (some ⟨w5.heap.size, 0, none⟩) nn nn (List.replicate nn 0) := by rw [zeros_made] at hown; exact hown
                   have hb56 : Below w5.heap.size w5 w6 := (Below.refl _ _).grown hgr (Nat.le_refl _) (fun k hk => by cases hk)
                   clear hown hgr)
                | ((with_reducible refine wpList_copy_ints rfl (.tmp 91) (.tmp 92) 22 rfl 3 Tryz.underlying22 (by rw [hi0]; simp [hz1]) w3.heap.size w5.heap.size w5.heap.size nn _ poly P k pc rfl rfl hown6 (hIP5.below hb56) hkn2 ?_)
                   intro w7 hown7 hS7
                   rw [HDR.out] at hown7
                   have hb57 := Step.below hb56 hS7 hb56.size (Nat.le_refl _))
                | (go_at_call 92; refine (addTimes_at p by_ w5.heap.size 0 nn nn nn nn nn nc N _ node _ hp hby hown7 (by omega) (by omega) (hIN5.below hb57) (fun b off s e hm0 => by obtain ⟨b', off', e', hb', _⟩ := hIN5.2 hm0; rw [e] at e'; injection e' with e'; injection e' with e'; omega) HAZ.out HAN.out (by omega)).mono ?_; rintro e w8 ⟨rfl, hown8, hS8⟩
                   rw [HNN.out] at hown8
                   have hb58 := Step.below hb57 hS8 hb57.size (Nat.le_refl _)
                   have hIN8 := (hIN5.upto hb58).upto (bbox (.cells #[.int .i64 (subP p 0 x), .int .i64 1] 3))
                   have hown9 := hown8.alloc (.cells #[.int .i64 (subP p 0 x), .int .i64 1] 3))
                | (go_at_call 122; refine (subP_any p 0 x _ hp (by omega) hxe).mono ?_; rintro e w' ⟨rfl, rfl⟩)
                | (go_at_call 124; (with_reducible refine (times_ok p N _ nn 2 nc 2 node [subP p 0 x, 1] _ hp hIN8 (by exact Ints.lit w8 _ [subP p 0 x, 1] 3 2 w8.heap.size rfl rfl rfl) HAN.out (allP_iff.2 (by simp; omega)) (by omega) (by omega) (by omega)).mono ?_); rintro e w10 ⟨⟨g10, rfl, hown10⟩, hb10⟩
                   have hown99 := hown9.belowAll hb10
                   have hbz10 := bnext (ballocs (bnext hbz5 hb58) (.cells #[.int .i64 (subP p 0 x), .int .i64 1] 3)) hb10))
              obtain rfl : nn = k + 1 := HNN.out
              go_roundw
              case rel => exact ⟨k + 1, k + 1 + 1, some ⟨w5.heap.size, 0, none⟩, some ⟨g10, 0, none⟩, k + 1, k + 1 + 1, _, _, by omega, rfl, Nat.le_refl _, rfl, rfl, by go_num, hown99.ints, hown10.ints, HITP, hbz10⟩
              case measure => simp [intOf]; omega
            · obtain rfl : k = j := by omega
              have HD := Lib.hid (HI.out.done hp.1 HLA.out HLY.out HY.out)
              have HTL : Hid (tn poly k = (trimL poly).length) := Lib.hid (by rw [trimL_len, hIP.len])
              have hbwz := bnext hbw3 hbz
              clear HI
              go_wp2_with (go_at_call 125; refine (own_any P k pc poly _ hIP hkpc (by omega)).mono ?_; rintro e w4 ⟨⟨A4, c4, rfl, hown4⟩, hb4⟩
                           rw [HTL.out] at hown4
                           rw [HTL.out])
              go_ret2
              exact ⟨⟨trimL poly, A4, c4, rfl, hown4.base hbwz.size, HD.out⟩, bnext hbwz hb4⟩
end Go.Proofs.YtmcgnpdfpfgfpaaGreatDoor
