/-
  What unique's Key hands back for valid arguments: the equations. Conditions: the cells read as their values and marks; enough of them are known.
-/
import Derived.Test.YtmcgnpdfpfgfpaaGreatDoorGCod
import Derived.Test.YtmcgnpdfpfgfpaaGreatDoorPlain
import Derived.Test.YtmcgnpdfpfgfpaaGreatDoorGBas
import Derived.Test.YtmcgnpdfpfgfpaaGreatDoorGRdc
import Derived.Deep.RegionLaw
import Derived.Deep.RegionHeldLaw
import Derived.Deep.RegionHeld3
import Derived.Deep.DeepCutAuto
import Derived.StillTailTactics
namespace Go.Proofs.YtmcgnpdfpfgfpaaGreatDoor
open Go.RowKit
set_option linter.unusedVariables false

theorem cell_ne_int : (87 : TypeId) ≠ 3 := by decide +kernel
/-- An append of some numbers to a row of the call's own, in a region that draws its order. -/
theorem step_app {P : Program} {ops : Array Oper} {o : Oper} {a : Act} {w : World} {K : Act → World → Prop} {Q : Exit → Act → World → Prop} {E : Prop}
    (hg : o.guard = none) (s x : Operand) (t : TypeId) (hop : o.op = Op.call { callee := Callee.builtin Builtin.append, args := #[s, x], argTypes := #[t, t] })
    (base : Nat) (e : TypeId) (i : TypeInfo) (z : Value) (ht : P.underlying t = some (.slice e)) (hi : P.info? e = some i) (hz : i.zero = some z) (hsize : i.size = 1) (hby : i.bytes = 8) (hzs : z.cells.size = 1)
    (A1 : Option Addr) (n1 c1 : Nat) (xs : List Int) (hs : a.eval s = .slice A1 n1 c1) (hT : OwnI w base e A1 n1 c1 xs)
    (A2 : Option Addr) (m c2 : Nat) (ys : List Int) (hx : a.eval x = .slice A2 m c2) (hI : Ints w w.heap.size A2 m ys) (N : Nat) (hN : n1 + m = N) (hcap : N ≤ 17592186044416) (hbase : base ≤ w.heap.size)
    (hK : ∀ A' c' w', OwnI w' base e A' N c' (xs ++ ys) → w.grownBy w' (Value.slice A1 n1 c1).ownBlock → Below base w w' →
      ((Value.slice A' N c').ownBlock = (Value.slice A1 n1 c1).ownBlock ∨ (Value.slice A' N c').ownBlock = some w.heap.size) → K (a.put o.dst (.slice A' N c')) w') :
    if Region.wanted o (yielded ops a.tmps) = true then Oper.wp P o a w K Q else E := by
  subst hN
  refine step_append_any (P := P) w hg s x t hop base e i z 1 8 ht hi hz hsize hby hzs (by omega) (.slice A1 n1 c1) n1 (vals xs) hs hT w.heap.size A2 m c2 (vals ys) hx hI.reads (vals_one _) (by unfold maxLen; omega) (by omega) hbase ?_
  intro v' w' hown' hgr hat
  rw [show vals xs ++ vals ys = vals (xs ++ ys) by simp [vals]] at hown'
  have hb : Below base w w' := (Below.refl base w).grown hgr hbase hT.row
  rcases hown'.2 with ⟨hv, hn⟩ | ⟨g, cap, cur, hv, _⟩
  · rw [hv] at hown' hat ⊢
    rw [hn] at hown' hK
    exact hK none 0 w' hown' hgr hb hat
  · rw [hv] at hown' hat ⊢
    exact hK _ cap w' hown' hgr hb hat

/-- Equations that are built up in a block. -/
structure KSt (w : World) (B : Nat) (p : Int) (r c : Nat) (C : Option Addr) (n2 c2 : Nat) (cells : List Int) (D : Option Addr) (m2 d2 : Nat) (right : List Int) : Prop where
  blk : Blk w B 237 #[.int .i64 p, .int .i64 r, .int .i64 c, .slice C n2 c2, .slice D m2 d2]
  two : Two w (B + 1) 3 C n2 c2 cells D m2 d2 right
section
variable {w w' : World} {B : Nat} {p : Int} {r c : Nat} {C : Option Addr} {n2 c2 : Nat} {cells : List Int} {D : Option Addr} {m2 d2 : Nat} {right : List Int}
theorem Two.stepK {g base n1 c1 n2 c2 : Nat} {e : TypeId} {A1 A2 : Option Addr} {xs ys : List Int} {w w' : World} (h : Two w base e A1 n1 c1 xs A2 n2 c2 ys) (hs : Step g w w') (hg : g < base) : Two w' base e A1 n1 c1 xs A2 n2 c2 ys := ⟨h.1.step hs hg, h.2.1.step hs hg, h.2.2⟩
theorem KSt.belowAll (h : KSt w B p r c C n2 c2 cells D m2 d2 right) (hb : Below w.heap.size w w') : KSt w' B p r c C n2 c2 cells D m2 d2 right :=
  ⟨h.blk.below hb h.blk.lt, ⟨h.two.1.belowAll hb, h.two.2.1.belowAll hb, h.two.2.2⟩⟩
theorem KSt.alloc (h : KSt w B p r c C n2 c2 cells D m2 d2 right) (o : Obj) : KSt (w.alloc o) B p r c C n2 c2 cells D m2 d2 right := h.belowAll (bbox o)
theorem KSt.rows (h : KSt w B p r c C n2 c2 cells D m2 d2 right) (r' : Nat) : KSt (w.setCell ⟨B, 1, none⟩ (.int .i64 r')) B p r' c C n2 c2 cells D m2 d2 right :=
  ⟨h.blk.set_ 1 (.int .i64 r'), h.two.stepK ((Step.refl B w).set 1 _) (Nat.lt_succ_self _)⟩
theorem KSt.pushC {C3 : Option Addr} {n3 c3 : Nat} {cells3 : List Int} (h : KSt w B p r c C n2 c2 cells D m2 d2 right)
    (hown : OwnI w' (B + 1) 3 C3 n3 c3 cells3) (hg : w.grownBy w' (Value.slice C n2 c2).ownBlock) (hb : Below (B + 1) w w')
    (hab : (Value.slice C3 n3 c3).ownBlock = (Value.slice C n2 c2).ownBlock ∨ (Value.slice C3 n3 c3).ownBlock = some w.heap.size) :
    Blk w' B 237 #[.int .i64 p, .int .i64 r, .int .i64 c, .slice C n2 c2, .slice D m2 d2] ∧ KSt (w'.setCell ⟨B, 3, none⟩ (.slice C3 n3 c3)) B p r c C3 n3 c3 cells3 D m2 d2 right := by
  have hB := h.blk.below hb (Nat.lt_succ_self _)
  exact ⟨hB, hB.set_ 3 (.slice C3 n3 c3), (h.two.first hown hg hab).stepK ((Step.refl B w').set 3 _) (Nat.lt_succ_self _)⟩
theorem KSt.pushD {D3 : Option Addr} {m3 d3 : Nat} {right3 : List Int} (h : KSt w B p r c C n2 c2 cells D m2 d2 right)
    (hown : OwnI w' (B + 1) 3 D3 m3 d3 right3) (hg : w.grownBy w' (Value.slice D m2 d2).ownBlock) (hb : Below (B + 1) w w')
    (hab : (Value.slice D3 m3 d3).ownBlock = (Value.slice D m2 d2).ownBlock ∨ (Value.slice D3 m3 d3).ownBlock = some w.heap.size) :
    Blk w' B 237 #[.int .i64 p, .int .i64 r, .int .i64 c, .slice C n2 c2, .slice D m2 d2] ∧ KSt (w'.setCell ⟨B, 4, none⟩ (.slice D3 m3 d3)) B p r c C n2 c2 cells D3 m3 d3 right3 := by
  have hB := h.blk.below hb (Nat.lt_succ_self _)
  exact ⟨hB, hB.set_ 4 (.slice D3 m3 d3), ((h.two.swap.first hown hg hab).swap).stepK ((Step.refl B w').set 4 _) (Nat.lt_succ_self _)⟩
end


def Ap (v1 v2 : Value) : Prop := ∀ b, v1.ownBlock = some b → v2.ownBlock ≠ some b
theorem Ap.next {w : World} {base m cx : Nat} {e : TypeId} {X : Option Addr} {ks : List Int} {v2 v3 : Value} (h : Ap (.slice X m cx) v2) (hX : OwnI w base e X m cx ks) (hab : v3.ownBlock = v2.ownBlock ∨ v3.ownBlock = some w.heap.size) : Ap (.slice X m cx) v3 := fun b h1 h2 => by
  rcases hab with h3 | h3
  · exact h b h1 (by rw [← h3]; exact h2)
  · rw [h3] at h2
    injection h2 with h2
    have := (World.ownsRow.lt hX b h1).2
    omega
theorem Ap.keep {w w' : World} {base m cx : Nat} {e : TypeId} {X : Option Addr} {ks : List Int} {v2 : Value} (h : Ap (.slice X m cx) v2) (hX : OwnI w base e X m cx ks) (hg : w.grownBy w' v2.ownBlock) : OwnI w' base e X m cx ks := by
  refine hX.kept hg ?_
  rcases hb : (Value.slice X m cx).ownBlock with _ | b
  · exact .inl rfl
  · exact .inr (fun e => h b hb e.symm)
theorem Ap.new {w w' : World} {base base2 m cx n2 c2 : Nat} {e e2 : TypeId} {X C2 : Option Addr} {ks xs : List Int} (hX : OwnI w' base e X m cx ks) (hC : OwnI w base2 e2 C2 n2 c2 xs) (hb : w.heap.size ≤ base) : Ap (.slice X m cx) (.slice C2 n2 c2) := fun b h1 h2 => by
  have h3 := hX.row b h1
  have h4 := (World.ownsRow.lt hC b h2).2
  omega


/-- What Key leaves. -/
def KeyPost (p : Int) (k v : Nat) (l : List (Int × Int)) (w : World) (e : Ending) (w' : World) : Prop :=
  ∃ (C : Option Addr) (nc cc : Nat) (D : Option Addr) (cd : Nat), e = .returned (.tuple #[eqV p l.length (k + 2 * v) C nc cc D l.length cd, .int .i64 0]) ∧ EqW w' p l.length (k + 2 * v) nc C cc D cd (keyCs p k v l) (keyRs p v l) ∧ Below w.heap.size w w'

set_option maxRecDepth 100000 in
set_option maxHeartbeats 4000000 in
theorem ukey_ok (p : Int) (A : Option Addr) (m c k v : Nat) (vs : List Int) (bs : List Bool) (w : World) (hok : okP p = true) (h : Cel w w.heap.size A m vs bs) (hm : m ≤ 32) (hmp : (m : Int) < p) (hkn : knOk p vs bs) (hk : 1 ≤ k) (hkm : k ≤ m) (hkl : k ≤ (knL vs bs).length) (hkv : k + 2 * v ≤ 32) :
    Calls Tryz.prog 162 #[.agg #[.int .i64 p], .slice A m c, .int .i64 k, .int .i64 v] w (KeyPost p k v (knL vs bs) w) := by
  obtain ⟨i0, hi0, hz0, hz1, hz2⟩ := info_parts info_int
  have hp := okP_pos hok
  have HO := Lib.hid hok
  have HKN := Lib.hid hkn
  have HVL := Lib.hid h.1
  have HBL := Lib.hid h.2.1
  have hln : (knL vs bs).length ≤ m := by have := knL_len vs bs; rw [HVL.out] at this; exact this
  obtain ⟨cl, hcl⟩ : ∃ cl, k + 2 * v = cl := ⟨_, rfl⟩
  obtain ⟨kv, hkvE⟩ : ∃ kv, k + v = kv := ⟨_, rfl⟩
  obtain ⟨kv1, hkv1⟩ : ∃ x, kv + 1 = x := ⟨_, rfl⟩
  have e1 : (k : Int) + 2 * (v : Int) = (cl : Int) := by omega
  have e2 : (k : Int) + (v : Int) = (kv : Int) := by omega
  have e3 : (kv : Int) + 1 = (kv1 : Int) := by omega
  have HCL := Lib.hid hcl
  have HKV := Lib.hid hkvE
  have HKV1 := Lib.hid hkv1
  have hv16 : v ≤ 16 := by omega
  have hv0 : ¬ (v : Int) < 0 := by omega
  have hv32 : ¬ (32 : Int) < (v : Int) := by omega
  have hv32N : ¬ 32 < v := by omega
  have hcl32 : ¬ (32 : Int) < (cl : Int) := by omega
  have hcl32N : ¬ 32 < cl := by omega
  have hkvl : kv ≤ 32 ∧ v ≤ kv ∧ cl ≤ 32 := by omega
  have hb0 : Below w.heap.size w ((w.alloc (.cells #[.int .i64 p] 44)).alloc (.cells #[.int .i64 0, .int .i64 0, .int .i64 0, .slice none 0 0, .slice none 0 0] 237)) := ballocs (bbox _) _
  have hF0 := (Blk.new w 44 #[.int .i64 p]).alloc (.cells #[.int .i64 0, .int .i64 0, .int .i64 0, .slice none 0 0, .slice none 0 0] 237)
  have hR0 := Blk.new1 w (.cells #[.int .i64 p] 44) 237 #[.int .i64 0, .int .i64 0, .int .i64 0, .slice none 0 0, .slice none 0 0]
  have hS0 := (h.below hb0).more hb0.size
  clear hok hkn hcl hkvE hkv1 h
  go_enter Tryz.func162, Tryz.ntmps162
  go_wp2_with (go_at_call 64; (refine (fill_ok p A m c k vs bs _ HO.out hS0 hm hmp HKN.out hk hkm hkl).mono ?_); rintro e w1 ⟨⟨R, A1, c1, rfl, hown1, hT1⟩, hb1⟩
               have hbb1 := bnext hb0 hb1
               have hF1 := hF0.below hb1 hF0.lt
               have hR1 := hR0.below hb1 hR0.lt
               have hS1 := hS0.upto hb1
               have hcF1 : w1.cell? ⟨w.heap.size, 0, none⟩ = some (.int .i64 p) := (hF1.cell 0).trans rfl
               clear hown1 hT1)
  obtain ⟨B, hB⟩ : ∃ B, w1.heap.size = B := ⟨_, rfl⟩
  have HK0 : Hid (KSt (w1.alloc (.cells #[.int .i64 p, .int .i64 0, .int .i64 cl, .slice none 0 0, .slice none 0 0] 237)) B p 0 cl none 0 0 [] none 0 0 []) := Lib.hid ⟨by rw [← hB]; exact Blk.new w1 _ _, Two.nil_⟩
  have hbB : Below B w1 (w1.alloc (.cells #[.int .i64 p, .int .i64 0, .int .i64 cl, .slice none 0 0, .slice none 0 0] 237)) := by rw [← hB]; exact bbox _
  have HS1 : Hid (Cel w1 B A m vs bs) := Lib.hid (by rw [← hB]; exact hS1)
  have hBw : w.heap.size + 1 < B := by rw [← hB]; exact hR1.lt
  have HR1 := Lib.hid hR1
  have HBB := Lib.hid hbb1
  rw [hB]
  clear hS1 hS0 hcF1 hF1 hR1 hF0 hR0 hb0 hb1 hbb1
  go_loopw [59] (fun s wz => ∃ (i r nc : Nat) (C : Option Addr) (cc : Nat) (D : Option Addr) (cd : Nat) (l : List (Int × Int)), i ≤ m ∧ r ≤ i ∧ nc ≤ 1024 ∧ s = .int .i64 i ∧ Hid (KSt wz B p r cl C nc cc (keyCs p k v l) D r cd (keyRs p v l)) ∧ Hid (knL (vs.take i) (bs.take i) = l ∧ l.length = r) ∧ Below B w1 wz) (fun s _ => m - (intOf s).toNat)
  case atStart => exact ⟨0, 0, 0, none, 0, none, 0, [], Nat.zero_le _, Nat.le_refl _, by omega, rfl, HK0, Lib.hid (by simp [knL, knF]), hbB⟩
  case round =>
    obtain ⟨i, r, nc, C, cc, D, cd, l, hi, hri, hnc, rfl, HK, HL, hb⟩ := hrel
    by_cases hlt : i < m
    · obtain ⟨b1, o1, rfl, hb1, hc1⟩ := HS1.out.2.2 (by omega)
      have hx0 := (hb.cell (p := ⟨b1, o1 + i * 2, none⟩) hb1).trans (hc1 i hlt).1
      have hx1 := (hb.cell (p := ⟨b1, o1 + i * 2 + 1, none⟩) hb1).trans (hc1 i hlt).2
      clear hc1
      have HS := Lib.hid (knL_step (vs := vs) (bs := bs) (by rw [HVL.out, HBL.out]) (j := i) (by rw [HVL.out]; exact hlt))
      have HKM := Lib.hid (fun hb : bs.getD i false = true => HKN.out _ (knL_mem (vs := vs) (bs := bs) (by rw [HVL.out, HBL.out]) (j := i) (by rw [HVL.out]; exact hlt) hb))
      have hki : (i : Int) < (m : Int) := by omega
      have hk0 : (0 : Int) ≤ (i : Int) := by omega
      have hiw : IntKind.i64.wrap ((i : Int) + 1) = (i : Int) + 1 := IntWalk.i64_in _ (by omega)
      obtain ⟨y, hy⟩ : ∃ y, vs.getD i 0 = y := ⟨_, rfl⟩
      rw [hy] at hx0 HS HKM
      have hBwr := HK.out.blk.lt
      clear hy
      by_cases hbk : bs.getD i false = true
      · have hyp : 0 ≤ y ∧ y < p := HKM.out hbk
        rw [hbk] at hx1 HS
        have HS2 : Hid (knL (vs.take (i + 1)) (bs.take (i + 1)) = l ++ [((i : Int) + 1, y)]) := Lib.hid (by rw [HS.out, HL.out.1]; rfl)
        clear hbk HS HKM
        have hsp : 0 ≤ (i : Int) + 1 ∧ (i : Int) + 1 < p := by omega
        go_upto_region 15 with fail
        obtain ⟨g, hg⟩ : ∃ g, wr.heap.size = g := ⟨_, rfl⟩
        have hN := Blk.new wr 87 #[.int .i64 y, .bool true]
        have HK1 := Lib.hid (HK.out.alloc (.cells #[.int .i64 y, .bool true] 87))
        have hb1 := hb.trans (bbox (w0 := wr) (.cells #[.int .i64 y, .bool true] 87) |>.mono (Nat.le_of_lt hBwr))
        obtain ⟨W, hW⟩ : ∃ W, wr.alloc (.cells #[.int .i64 y, .bool true] 87) = W := ⟨_, rfl⟩
        rw [hW] at hN HK1 hb1 ⊢
        rw [hg] at hN ⊢
        have hBg : B < g := by rw [← hg]; exact hBwr
        have hgW := hN.lt
        have HN := Lib.hid hN
        obtain ⟨s, hs⟩ : ∃ s, (i : Int) + 1 = s := ⟨_, rfl⟩
        rw [hs] at hsp HS2 hiw
        clear hW hg hx0 hx1 HK hb hN hBwr
        go_loopw [16, 17, 71] (fun u a q wz => ∃ (j : Nat) (L : Option Addr) (lc : Nat), j ≤ kv1 ∧ q = .int .i64 j ∧ a = .slice L j lc ∧ u = .int .i64 (pwP p s j) ∧ Hid (OwnI wz W.heap.size 3 L j lc ((List.range j).map (pwP p s))) ∧ Below W.heap.size W wz) (fun _ _ q _ => kv1 - (intOf q).toNat)
        case atStart => exact ⟨0, none, 0, Nat.zero_le _, rfl, rfl, rfl, Lib.hid OwnI.nil_, Below.refl _ _⟩
        case round =>
          obtain ⟨j, L, lc, hj, rfl, rfl, rfl, HO2, hb2⟩ := hrel
          have hpw := pwP_in hp.1 s j
          have HPS : Hid (pwP p s (j + 1) = mulP p (pwP p s j) s) := Lib.hid rfl
          have HRS : Hid ((List.range (j + 1)).map (pwP p s) = (List.range j).map (pwP p s) ++ [pwP p s j]) := Lib.hid (by rw [List.range_succ, List.map_append]; rfl)
          obtain ⟨x, hx⟩ : ∃ x, pwP p s j = x := ⟨_, rfl⟩
          rw [hx] at hpw HPS HRS ⊢
          clear hx
          by_cases hltj : j < kv1
          · have hkj : (j : Int) < (kv1 : Int) := by omega
            have hb3 := ballocs hb2 (.cells #[.int .i64 x] 3)
            have hO3 := HO2.out.alloc (.cells #[.int .i64 x] 3)
            go_wp2_with (first
              | (go_at_call 119; (with_reducible refine (mulP_any p x s _ hp hpw hsp).mono ?_); rintro e w4 ⟨rfl, rfl⟩)
              | (at_builtin
                 refine wpList_append_ints rfl _ _ _ rfl W.heap.size 3 i0 _ Tryz.underlying22 hi0 hz0 hz1 hz2 rfl L j lc _ rfl hO3 _ _ 1 1 [x] rfl (Ints.one _ _ _) (j + 1) rfl _ rfl (by omega) hb3.size ?_
                 intro A2 c2 w4 hown4 hgr4 hbw4 hab
                 have HO4 : Hid (OwnI w4 W.heap.size 3 A2 (j + 1) c2 ((List.range (j + 1)).map (pwP p s))) := Lib.hid (by rw [HRS.out]; exact hown4)
                 have hb4 := hb3.trans hbw4
                 clear hown4 hgr4 hbw4 hab))
            go_roundw
            case rel => exact ⟨j + 1, A2, c2, by omega, by go_num, rfl, by rw [HPS.out], HO4, hb4⟩
            case measure => simp [intOf]; omega
          · obtain rfl : kv1 = j := by omega
            go_upto_region 19 with fail
            obtain ⟨gL, rfl, hgL0, hgL1⟩ := HO2.out.form (by have := HKV1.out; omega)
            have hcapL := HO2.out.cap
            have HK2 := Lib.hid (HK1.out.belowAll hb2)
            have HN2 := Lib.hid (HN.out.below hb2 hgW)
            have hb3 := hb1.trans (hb2.mono (by omega))
            have HAC : Hid (Ap (.slice (some ⟨gL, 0, none⟩) kv1 lc) (.slice C nc cc) ∧ Ap (.slice (some ⟨gL, 0, none⟩) kv1 lc) (.slice D r cd)) := Lib.hid ⟨Ap.new HO2.out HK1.out.two.1 (Nat.le_refl _), Ap.new HO2.out HK1.out.two.2.1 (Nat.le_refl _)⟩
            have HPK : Hid (((List.range kv1).map (pwP p s)).take kv = (List.range kv).map (pwP p s)) := Lib.hid (by rw [← List.map_take, List.take_range, Nat.min_eq_left (by have := HKV1.out; omega)])
            have hRd : Ints wr.drew wr.drew.heap.size (some ⟨gL, 0, none⟩) kv ((List.range kv).map (pwP p s)) := by
              rw [← HPK.out]
              have := HO2.out.ints
              exact ⟨by rw [List.length_take, this.1]; have := HKV1.out; omega, fun h0 => by
                obtain ⟨b, o, e, hb, hc⟩ := this.2 (by omega)
                exact ⟨b, o, e, hb, fun j hj => (hc j (by have := HKV1.out; omega)).trans (by rw [List.getD_eq_getElem?_getD, List.getD_eq_getElem?_getD, List.getElem?_take, if_pos hj])⟩⟩
            have hTd : OwnI wr.drew (B + 1) 3 C nc cc (keyCs p k v l) := HK2.out.two.1
            have hS0 : wr.drew.cell? ⟨B, 3, none⟩ = some (.slice C nc cc) := (HK2.out.blk.cell 3).trans rfl
            have hld : B + 1 ≤ wr.drew.heap.size := HK2.out.blk.lt
            obtain ⟨pw, hpw⟩ : ∃ pw, (List.range kv1).map (pwP p s) = pw := ⟨_, rfl⟩
            obtain ⟨pk, hpk⟩ : ∃ pk, (List.range kv).map (pwP p s) = pk := ⟨_, rfl⟩
            rw [hpk] at hRd
            rw [hpw] at HO2
            have HPW := Lib.hid hpw
            have HPKE := Lib.hid hpk
            have s1 : (0 : Int) ≤ (kv : Int) := by omega
            have s2 : (kv : Int) ≤ (lc : Int) := by have := HKV1.out; omega
            have s3 : IntKind.i64.wrap (kv : Int) = (kv : Int) := IntWalk.i64_in _ (by omega)
            clear hpw hpk HK1 HN hb1 hb2 HPK
            go_cut [14] (fun s14 wx => ∃ (C4 : Option Addr) (c4 : Nat), s14 = .int .i64 i ∧ Hid (KSt wx B p r cl C4 (nc + kv) c4 (keyCs p k v l ++ pk) D r cd (keyRs p v l)) ∧ Hid (OwnI wx W.heap.size 3 (some ⟨gL, 0, none⟩) kv1 lc pw) ∧ Hid (Ap (.slice (some ⟨gL, 0, none⟩) kv1 lc) (.slice C4 (nc + kv) c4) ∧ Ap (.slice (some ⟨gL, 0, none⟩) kv1 lc) (.slice D r cd)) ∧ Hid (Blk wx g 87 #[.int .i64 y, .bool true]) ∧ Below B w1 wx)
            case first =>
              have hS3 := hS0
              go_region_law (first
                | ((refine step_app (w := wr.drew) rfl (.tmp 84) (.tmp 89) 22 rfl (B + 1) 3 i0 _ Tryz.underlying22 hi0 hz0 hz1 hz2 rfl C nc cc _ (by first | rfl | simp [Act.eval]) hTd (some ⟨gL, 0, none⟩) kv lc pk (by first | rfl | simp [Act.eval]) hRd (nc + kv) rfl (by omega) hld ?_); intro C4 c4 w9 hown9 hgr9 hbw9 hab9
                   have hgr9' : wr.grownBy w9 (Value.slice C nc cc).ownBlock := ⟨hgr9.os, hgr9.tape, hgr9.output, hgr9.size, hgr9.block⟩
                   have hbw9' : Below (B + 1) wr w9 := ⟨hbw9.os, hbw9.tape, hbw9.output, hbw9.size, hbw9.block⟩
                   have hpush := HK2.out.pushC hown9 hgr9' hbw9' hab9
                   have HP := Lib.hid hpush.2
                   have ht39 : w9.cell? ⟨B, 3, none⟩ = some (.slice C nc cc) := (hpush.1.cell 3).trans rfl
                   have hf39 := hpush.1.frozen 3
                   have HO9 := Lib.hid ((HAC.out.1.keep HO2.out hgr9').step ((Step.refl B w9).set 3 (.slice C4 (nc + kv) c4)) (by omega))
                   have HAC9 := Lib.hid (And.intro (HAC.out.1.next HO2.out hab9) HAC.out.2)
                   have HN9 := Lib.hid ((HN2.out.grown hgr9' (fun e => own_blk_ne HK2.out.two.1 HN2.out cell_ne_int.symm e.symm)).far (p := ⟨B, 3, none⟩) (by show g ≠ B; omega) (.slice C4 (nc + kv) c4))
                   have hb9 := (hb3.trans (hbw9'.mono (Nat.le_succ _))).setCell (p := ⟨B, 3, none⟩) (Nat.le_refl B) (.slice C4 (nc + kv) c4)
                   clear hpush hown9 hgr9 hbw9 hab9 hgr9' hbw9'))
              all_goals go_wp2
              all_goals go_meet
              all_goals exact ⟨C4, c4, rfl, HP, HO9, HAC9, HN9, hb9⟩
            case rest =>
            obtain ⟨C4, c4, rfl, HK4, HO4, HAC4, HN4, hb4⟩ := hcut
            clear HK2 HO2 HN2 HAC hb3 hRd hTd hS0 hld s1 s2 s3
            have hkv1e : kv1 = kv + 1 := HKV1.out.symm
            have q0 : (0 : Int) ≤ (v : Int) := by omega
            have q1 : (v : Int) ≤ (lc : Int) := by omega
            have q2 : (0 : Int) ≤ (lc : Int) := by omega
            have HKE := Lib.hid hkv1e
            clear hkv1e
            go_upto_region 21 with fail
            go_loopw [96] (fun q wz => ∃ (j : Nat) (C5 : Option Addr) (c5 : Nat), j ≤ v ∧ q = .int .i64 j ∧ Hid (KSt wz B p r cl C5 (nc + kv + j) c5 (keyCs p k v l ++ (pk ++ (List.range j).map fun a => subP p 0 (mulP p y (pwP p s a)))) D r cd (keyRs p v l)) ∧ Hid (OwnI wz W.heap.size 3 (some ⟨gL, 0, none⟩) kv1 lc pw) ∧ Hid (Ap (.slice (some ⟨gL, 0, none⟩) kv1 lc) (.slice C5 (nc + kv + j) c5) ∧ Ap (.slice (some ⟨gL, 0, none⟩) kv1 lc) (.slice D r cd)) ∧ Hid (Blk wz g 87 #[.int .i64 y, .bool true]) ∧ Below B w1 wz) (fun q _ => v - (intOf q).toNat)
            case atStart => exact ⟨0, C4, c4, Nat.zero_le _, rfl, by rw [Nat.add_zero]; simpa using HK4, HO4, HAC4, HN4, hb4⟩
            case round =>
              obtain ⟨j, C5, c5, hj, rfl, HK5, HO5, HAC5, HN5, hb5⟩ := hrel
              by_cases hltj : j < v
              · have hxj := HO5.out.cellAt (j := j) (by have := HKE.out; omega)
                have hpx : pw.getD j 0 = pwP p s j := by
                  rw [← HPW.out, List.getD_eq_getElem?_getD, List.getElem?_map, List.getElem?_range (by have := HKE.out; omega)]; rfl
                have hpb := pwP_in hp.1 s j
                rw [hpx] at hxj
                have HRS : Hid ((List.range (j + 1)).map (fun a => subP p 0 (mulP p y (pwP p s a))) = (List.range j).map (fun a => subP p 0 (mulP p y (pwP p s a))) ++ [subP p 0 (mulP p y (pwP p s j))]) := Lib.hid (by rw [List.range_succ, List.map_append]; rfl)
                obtain ⟨x, hx⟩ : ∃ x, pwP p s j = x := ⟨_, rfl⟩
                rw [hx] at hxj hpb HRS
                obtain ⟨z, hz⟩ : ∃ z, mulP p y x = z := ⟨_, rfl⟩
                have hzb := mulP_in (p := p) y x hp.1
                rw [hz] at hzb HRS
                obtain ⟨u, hu⟩ : ∃ u, subP p 0 z = u := ⟨_, rfl⟩
                rw [hu] at HRS
                have HZ := Lib.hid hz
                have HU := Lib.hid hu
                have hkj : (j : Int) < (v : Int) := by omega
                have hkj0 : (0 : Int) ≤ (j : Int) := by omega
                have h0p : (0 : Int) ≤ 0 ∧ (0 : Int) < p := by omega
                have hlw := HK5.out.blk.lt
                have hS3 : wr.cell? ⟨B, 3, none⟩ = some (.slice C5 (nc + kv + j) c5) := (HK5.out.blk.cell 3).trans rfl
                have hS15 : wr.cell? ⟨g, 0, none⟩ = some (.int .i64 y) := (HN5.out.cell 0).trans rfl
                have HKa := Lib.hid (HK5.out.alloc (.cells #[.int .i64 u] 3))
                have HOa := Lib.hid (HO5.out.alloc (.cells #[.int .i64 u] 3))
                have HNa := Lib.hid (HN5.out.alloc (.cells #[.int .i64 u] 3))
                have hba := hb5.trans (bbox (w0 := wr) (.cells #[.int .i64 u] 3) |>.mono (Nat.le_of_lt hlw))
                have hTa : OwnI (wr.alloc (.cells #[.int .i64 u] 3)).drew (B + 1) 3 C5 (nc + kv + j) c5 _ := HKa.out.two.1
                have hRa : Ints (wr.alloc (.cells #[.int .i64 u] 3)).drew (wr.alloc (.cells #[.int .i64 u] 3)).drew.heap.size (some ⟨wr.heap.size, 0, none⟩) 1 [u] := Ints.oneAt _ _ _ _ rfl
                have hla : B + 1 ≤ (wr.alloc (.cells #[.int .i64 u] 3)).drew.heap.size := le_alloc hlw _
                clear hx hpx hz hu
                go_upto_region 23 with fail
                go_region_law (first
                  | (go_simp; go_at_call 119; (with_reducible refine (mulP_any p y x _ hp hyp hpb).mono ?_); rintro e w' ⟨rfl, rfl⟩; rw [HZ.out])
                  | (go_simp; go_at_call 122; (with_reducible refine (subP_any p 0 z _ hp h0p hzb).mono ?_); rintro e w' ⟨rfl, rfl⟩; rw [HU.out])
                  | ((refine step_app (w := (wr.alloc (.cells #[.int .i64 u] 3)).drew) rfl (.tmp 101) (.tmp 109) 22 rfl (B + 1) 3 i0 _ Tryz.underlying22 hi0 hz0 hz1 hz2 rfl C5 (nc + kv + j) c5 _ (by first | rfl | simp [Act.eval]) hTa (some ⟨wr.heap.size, 0, none⟩) 1 1 [u] (by first | rfl | simp [Act.eval]) hRa (nc + kv + (j + 1)) (by omega) (by omega) hla ?_); intro C6 c6 w9 hown9 hgr9 hbw9 hab9
                     have hgr9' : (wr.alloc (.cells #[.int .i64 u] 3)).grownBy w9 (Value.slice C5 (nc + kv + j) c5).ownBlock := ⟨hgr9.os, hgr9.tape, hgr9.output, hgr9.size, hgr9.block⟩
                     have hbw9' : Below (B + 1) (wr.alloc (.cells #[.int .i64 u] 3)) w9 := ⟨hbw9.os, hbw9.tape, hbw9.output, hbw9.size, hbw9.block⟩
                     have hpush := HKa.out.pushC hown9 hgr9' hbw9' hab9
                     rw [List.append_assoc, List.append_assoc, ← HRS.out] at hpush
                     have HP := Lib.hid hpush.2
                     have ht39 : w9.cell? ⟨B, 3, none⟩ = some (.slice C5 (nc + kv + j) c5) := (hpush.1.cell 3).trans rfl
                     have hf39 := hpush.1.frozen 3
                     have HO9 := Lib.hid ((HAC5.out.1.keep HOa.out hgr9').step ((Step.refl B w9).set 3 (.slice C6 (nc + kv + (j + 1)) c6)) (by omega))
                     have HAC9 := Lib.hid (And.intro (HAC5.out.1.next HOa.out hab9) HAC5.out.2)
                     have HN9 := Lib.hid ((HNa.out.grown hgr9' (fun e => own_blk_ne HKa.out.two.1 HNa.out cell_ne_int.symm e.symm)).far (p := ⟨B, 3, none⟩) (by show g ≠ B; omega) (.slice C6 (nc + kv + (j + 1)) c6))
                     have hb9 := (hba.trans (hbw9'.mono (Nat.le_succ _))).setCell (p := ⟨B, 3, none⟩) (Nat.le_refl B) (.slice C6 (nc + kv + (j + 1)) c6)
                     clear hpush hown9 hgr9 hbw9 hab9 hgr9' hbw9'))
                all_goals go_wp2
                all_goals go_roundw
                all_goals first
                  | exact ⟨j + 1, C6, c6, by omega, by go_num, HP, HO9, HAC9, HN9, hb9⟩
                  | (simp [intOf]; omega)
              · obtain rfl : v = j := by omega
                have HKC : Hid (keyC p k v (s, y) = pk ++ (List.range v).map fun a => subP p 0 (mulP p y (pwP p s a))) := Lib.hid (by unfold keyC; rw [HKV.out, HPKE.out])
                have HCS : Hid (keyCs p k v (l ++ [(s, y)]) = keyCs p k v l ++ (pk ++ (List.range v).map fun a => subP p 0 (mulP p y (pwP p s a)))) := Lib.hid (by rw [keyCs_snoc, HKC.out])
                have hpx : pw.getD v 0 = pwP p s v := by
                  rw [← HPW.out, List.getD_eq_getElem?_getD, List.getElem?_map, List.getElem?_range (by have := HKE.out; omega)]; rfl
                have hxj := HO5.out.cellAt (j := v) (by have := HKE.out; omega)
                have hpb := pwP_in hp.1 s v
                rw [hpx] at hxj
                have HRSE : Hid (keyRs p v (l ++ [(s, y)]) = keyRs p v l ++ [mulP p y (pwP p s v)]) := Lib.hid (keyRs_snoc p v l (s, y))
                obtain ⟨x2, hx2⟩ : ∃ x2, pwP p s v = x2 := ⟨_, rfl⟩
                rw [hx2] at hxj hpb HRSE
                obtain ⟨z, hz⟩ : ∃ z, mulP p y x2 = z := ⟨_, rfl⟩
                rw [hz] at HRSE
                have HZ := Lib.hid hz
                have HK6 : Hid (KSt wr B p r cl C5 (nc + kv + v) c5 (keyCs p k v (l ++ [(s, y)])) D r cd (keyRs p v l)) := Lib.hid (by rw [HCS.out]; exact HK5.out)
                have hcll : (keyCs p k v (l ++ [(s, y)])).length = nc + kv + v := HK6.out.two.1.len
                have hnc2 : nc + kv + v ≤ 1024 := by
                  rw [← hcll, keyCs_len, List.length_append]
                  have h1 := HL.out.2
                  have h2 : (l.length + 1) * (k + v + v) ≤ 32 * 32 := Nat.mul_le_mul (by omega) (by omega)
                  exact h2
                have hkv1i : (v : Int) < (kv1 : Int) := by have := HKE.out; omega
                have hlw := HK6.out.blk.lt
                have hS4 : wr.cell? ⟨B, 4, none⟩ = some (.slice D r cd) := (HK6.out.blk.cell 4).trans rfl
                have hS15 : wr.cell? ⟨g, 0, none⟩ = some (.int .i64 y) := (HN5.out.cell 0).trans rfl
                have HKa := Lib.hid (HK6.out.alloc (.cells #[.int .i64 z] 3))
                have hba := hb5.trans (bbox (w0 := wr) (.cells #[.int .i64 z] 3) |>.mono (Nat.le_of_lt hlw))
                have hTa : OwnI (wr.alloc (.cells #[.int .i64 z] 3)).drew (B + 1) 3 D r cd _ := HKa.out.two.2.1
                have hRa : Ints (wr.alloc (.cells #[.int .i64 z] 3)).drew (wr.alloc (.cells #[.int .i64 z] 3)).drew.heap.size (some ⟨wr.heap.size, 0, none⟩) 1 [z] := Ints.oneAt _ _ _ _ rfl
                have hla : B + 1 ≤ (wr.alloc (.cells #[.int .i64 z] 3)).drew.heap.size := le_alloc hlw _
                have HL6 : Hid (knL (vs.take (i + 1)) (bs.take (i + 1)) = l ++ [(s, y)] ∧ (l ++ [(s, y)]).length = r + 1) := Lib.hid ⟨HS2.out, by rw [List.length_append, HL.out.2]; rfl⟩
                clear hx2 hpx hz hcll HKC HCS HPKE HPW HS2 HL HK5 HAC4 HO4 HK4 HN4 hb4 HAC5
                go_upto_region 25 with fail
                go_cut [14] (fun s14 wx => ∃ (D6 : Option Addr) (d6 : Nat), s14 = .int .i64 i ∧ Hid (KSt wx B p r cl C5 (nc + kv + v) c5 (keyCs p k v (l ++ [(s, y)])) D6 (r + 1) d6 (keyRs p v (l ++ [(s, y)]))) ∧ Below B w1 wx)
                case first =>
                  go_region_law (first
                    | (go_simp; go_at_call 119; (with_reducible refine (mulP_any p y x2 _ hp hyp hpb).mono ?_); rintro e w' ⟨rfl, rfl⟩; rw [HZ.out])
                    | ((refine step_app (w := (wr.alloc (.cells #[.int .i64 z] 3)).drew) rfl (.tmp 114) (.tmp 123) 22 rfl (B + 1) 3 i0 _ Tryz.underlying22 hi0 hz0 hz1 hz2 rfl D r cd _ (by first | rfl | simp [Act.eval]) hTa (some ⟨wr.heap.size, 0, none⟩) 1 1 [z] (by first | rfl | simp [Act.eval]) hRa (r + 1) rfl (by omega) hla ?_); intro D6 d6 w9 hown9 hgr9 hbw9 hab9
                       have hgr9' : (wr.alloc (.cells #[.int .i64 z] 3)).grownBy w9 (Value.slice D r cd).ownBlock := ⟨hgr9.os, hgr9.tape, hgr9.output, hgr9.size, hgr9.block⟩
                       have hbw9' : Below (B + 1) (wr.alloc (.cells #[.int .i64 z] 3)) w9 := ⟨hbw9.os, hbw9.tape, hbw9.output, hbw9.size, hbw9.block⟩
                       have hpush := HKa.out.pushD hown9 hgr9' hbw9' hab9
                       rw [← HRSE.out] at hpush
                       have HP := Lib.hid hpush.2
                       have ht49 : w9.cell? ⟨B, 4, none⟩ = some (.slice D r cd) := (hpush.1.cell 4).trans rfl
                       have hf49 := hpush.1.frozen 4
                       have hb9 := (hba.trans (hbw9'.mono (Nat.le_succ _))).setCell (p := ⟨B, 4, none⟩) (Nat.le_refl B) (.slice D6 (r + 1) d6)
                       clear hpush hown9 hgr9 hbw9 hab9 hgr9' hbw9'))
                  all_goals go_wp2
                  all_goals go_meet
                  all_goals exact ⟨D6, d6, rfl, HP, hb9⟩
                case rest =>
                obtain ⟨D6, d6, rfl, HK7, hb7⟩ := hcut
                have hr1 : wc.cell? ⟨B, 1, none⟩ = some (.int .i64 r) := (HK7.out.blk.cell 1).trans rfl
                have hf1 := HK7.out.blk.frozen 1
                have HK8 := Lib.hid (HK7.out.rows (r + 1))
                have hb8 := hb7.setCell (p := ⟨B, 1, none⟩) (Nat.le_refl B) (.int .i64 ((r + 1 : Nat) : Int))
                have hr8 : ((r + 1 : Nat) : Int) = (r : Int) + 1 := by omega
                rw [hr8] at HK8 hb8
                clear hr8 HK6 HO5 HN5 hb5 hRa hTa hla HKa hba hS4 hS15
                go_wp2
                go_roundw
                case rel => exact ⟨i + 1, r + 1, nc + kv + v, C5, c5, D6, d6, _, by omega, by omega, hnc2, by go_num, HK8, HL6, hb8⟩
                case measure => simp [intOf]; omega
      · have hbf : bs.getD i false = false := by simpa using hbk
        have HS2 : Hid (knL (vs.take (i + 1)) (bs.take (i + 1)) = l) := Lib.hid (by rw [HS.out, hbf, HL.out.1]; simp)
        rw [hbf] at hx1
        have HKa := Lib.hid (HK.out.alloc (.cells #[.int .i64 y, .bool false] 87))
        have hba := hb.trans (bbox (w0 := wr) (.cells #[.int .i64 y, .bool false] 87) |>.mono (Nat.le_of_lt hBwr))
        clear hbk hbf HS HKM
        go_wp2
        go_roundw
        case rel => exact ⟨i + 1, r, nc, C, cc, D, cd, l, by omega, by omega, hnc, by go_num, HKa, Lib.hid ⟨HS2.out, HL.out.2⟩, hba⟩
        case measure => simp [intOf]; omega
    · obtain rfl : i = m := by omega
      have hll : Hid (knL vs bs = l ∧ l.length = r) := Lib.hid (by have := HL.out; rw [List.take_of_length_le (by rw [HVL.out]; exact Nat.le_refl _), List.take_of_length_le (by rw [HBL.out]; exact Nat.le_refl _)] at this; exact this)
      have hR := HR1.out.below hb (by omega)
      have hE := HK.out.blk
      have hc0 : wr.cell? ⟨B, 0, none⟩ = some (.int .i64 p) := (hE.cell 0).trans rfl
      have hc1 : wr.cell? ⟨B, 1, none⟩ = some (.int .i64 r) := (hE.cell 1).trans rfl
      have hc2 : wr.cell? ⟨B, 2, none⟩ = some (.int .i64 cl) := (hE.cell 2).trans rfl
      have hc3 : wr.cell? ⟨B, 3, none⟩ = some (.slice C nc cc) := (hE.cell 3).trans rfl
      have hc4 : wr.cell? ⟨B, 4, none⟩ = some (.slice D r cd) := (hE.cell 4).trans rfl
      obtain ⟨Q, hQ⟩ : ∃ Q, w.heap.size + 1 = Q := ⟨_, rfl⟩
      rw [hQ] at hR hBw ⊢
      have hz0 : wr.cell? ⟨Q, 0, none⟩ = some (.int .i64 0) := (hR.cell 0).trans rfl
      have hf0 := hR.frozen 0
      have hz1 : wr.cell? ⟨Q, 1, none⟩ = some (.int .i64 0) := (hR.cell 1).trans rfl
      have hf1 := hR.frozen 1
      have hz2 : wr.cell? ⟨Q, 2, none⟩ = some (.int .i64 0) := (hR.cell 2).trans rfl
      have hf2 := hR.frozen 2
      have hz3 : wr.cell? ⟨Q, 3, none⟩ = some (.slice none 0 0) := (hR.cell 3).trans rfl
      have hf3 := hR.frozen 3
      have hz4 : wr.cell? ⟨Q, 4, none⟩ = some (.slice none 0 0) := (hR.cell 4).trans rfl
      have hf4 := hR.frozen 4
      obtain ⟨WF, hWF⟩ : ∃ WF, (((((wr.setCell ⟨Q, 0, none⟩ (.int .i64 p)).setCell ⟨Q, 1, none⟩ (.int .i64 r)).setCell ⟨Q, 2, none⟩ (.int .i64 cl)).setCell ⟨Q, 3, none⟩ (.slice C nc cc)).setCell ⟨Q, 4, none⟩ (.slice D r cd)) = WF := ⟨_, rfl⟩
      have hFB := (((((hR.set_ 0 (.int .i64 p)).set_ 1 (.int .i64 r)).set_ 2 (.int .i64 cl)).set_ 3 (.slice C nc cc)).set_ 4 (.slice D r cd))
      have hTT := (((((HK.out.two.stepK ((Step.refl Q _).set 0 (.int .i64 p)) (by omega)).stepK ((Step.refl Q _).set 1 (.int .i64 r)) (by omega)).stepK ((Step.refl Q _).set 2 (.int .i64 cl)) (by omega)).stepK ((Step.refl Q _).set 3 (.slice C nc cc)) (by omega)).stepK ((Step.refl Q _).set 4 (.slice D r cd)) (by omega))
      have hbb := ((((((HBB.out.trans (hb.mono (by omega))).setCell (p := ⟨Q, 0, none⟩) (by show w.heap.size ≤ Q; omega) (.int .i64 p)).setCell (p := ⟨Q, 1, none⟩) (by show w.heap.size ≤ Q; omega) (.int .i64 r)).setCell (p := ⟨Q, 2, none⟩) (by show w.heap.size ≤ Q; omega) (.int .i64 cl)).setCell (p := ⟨Q, 3, none⟩) (by show w.heap.size ≤ Q; omega) (.slice C nc cc)).setCell (p := ⟨Q, 4, none⟩) (by show w.heap.size ≤ Q; omega) (.slice D r cd))
      rw [hWF] at hFB hTT hbb
      have hfin0 : WF.cell? ⟨Q, 0, none⟩ = some (.int .i64 p) := (hFB.cell 0).trans rfl
      have hfin1 : WF.cell? ⟨Q, 1, none⟩ = some (.int .i64 r) := (hFB.cell 1).trans rfl
      have hfin2 : WF.cell? ⟨Q, 2, none⟩ = some (.int .i64 cl) := (hFB.cell 2).trans rfl
      have hfin3 : WF.cell? ⟨Q, 3, none⟩ = some (.slice C nc cc) := (hFB.cell 3).trans rfl
      have hfin4 : WF.cell? ⟨Q, 4, none⟩ = some (.slice D r cd) := (hFB.cell 4).trans rfl
      have HTT := Lib.hid hTT
      have HBF := Lib.hid hbb
      have HWF := Lib.hid hWF
      have HCP := Lib.hid hTT.1.cap
      clear hTT hbb hWF hFB hE hR hQ HK hb
      go_wp2
      rw [HWF.out]
      have HPOST : KeyPost p k v (knL vs bs) w (.returned (.tuple #[eqV p r cl C nc cc D r cd, .int .i64 0])) WF := by
        rw [hll.out.1]
        refine ⟨C, nc, cc, D, cd, by rw [hll.out.2, HCL.out], ⟨key_eqOk HO.out k v l (by have := hll.out.2; omega) (by omega), ?_, HTT.out.1.ints, ?_, HCP.out⟩, HBF.out⟩
        · have h1 := HTT.out.1.len
          rw [keyCs_len] at h1
          rw [← h1, show k + 2 * v = k + v + v by omega]
        · rw [hll.out.2]; exact HTT.out.2.1.ints
      refine bodyPost_ret (v := .tuple #[eqV p r cl C nc cc D r cd, .int .i64 0]) (by simp [results, Tryz.results162, go_sem, hfin0, hfin1, hfin2, hfin3, hfin4]) rfl HPOST
end Go.Proofs.YtmcgnpdfpfgfpaaGreatDoor
