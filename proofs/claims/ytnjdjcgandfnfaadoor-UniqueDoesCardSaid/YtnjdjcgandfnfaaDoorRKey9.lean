/-
  What the reference's Key of chapter 9 hands back for any arguments. Conditions: the cells read as their values and marks.
-/
import Derived.Test.YtnjdjcgandfnfaaDoorGAll
import Derived.Test.YtnjdjcgandfnfaaDoorGNine
import Derived.Test.YtnjdjcgandfnfaaDoorRPre
import Derived.Test.YtnjdjcgandfnfaaDoorGLaw
namespace Go.Proofs.YtnjdjcgandfnfaaDoor
open Go.RowKit
set_option linter.unusedVariables false

theorem share_ne_int : (85 : TypeId) ≠ 3 := by decide +kernel
/-- Equations that are built up in a block; their lists lie in blocks from G on. -/
structure KSg (w : World) (B G : Nat) (p : Int) (r c : Nat) (C : Option Addr) (n2 c2 : Nat) (cells : List Int) (D : Option Addr) (m2 d2 : Nat) (right : List Int) : Prop where
  blk : Blk w B 46 #[.int .i64 p, .int .i64 r, .int .i64 c, .slice C n2 c2, .slice D m2 d2]
  two : Two w G 3 C n2 c2 cells D m2 d2 right
  lt : B < G
section
variable {w w' : World} {B G : Nat} {p : Int} {r c : Nat} {C : Option Addr} {n2 c2 : Nat} {cells : List Int} {D : Option Addr} {m2 d2 : Nat} {right : List Int}
theorem KSg.belowAll (h : KSg w B G p r c C n2 c2 cells D m2 d2 right) (hb : Below w.heap.size w w') : KSg w' B G p r c C n2 c2 cells D m2 d2 right :=
  ⟨h.blk.below hb h.blk.lt, ⟨h.two.1.belowAll hb, h.two.2.1.belowAll hb, h.two.2.2⟩, h.lt⟩
theorem KSg.alloc (h : KSg w B G p r c C n2 c2 cells D m2 d2 right) (o : Obj) : KSg (w.alloc o) B G p r c C n2 c2 cells D m2 d2 right := h.belowAll (bbox o)
theorem KSg.rows (h : KSg w B G p r c C n2 c2 cells D m2 d2 right) (r' : Nat) : KSg (w.setCell ⟨B, 1, none⟩ (.int .i64 r')) B G p r' c C n2 c2 cells D m2 d2 right :=
  ⟨h.blk.set_ 1 (.int .i64 r'), h.two.stepK ((Step.refl B w).set 1 _) h.lt, h.lt⟩
theorem KSg.pushC {C3 : Option Addr} {n3 c3 : Nat} {cells3 : List Int} (h : KSg w B G p r c C n2 c2 cells D m2 d2 right)
    (hown : OwnI w' G 3 C3 n3 c3 cells3) (hg : w.grownBy w' (Value.slice C n2 c2).ownBlock) (hb : Below G w w')
    (hab : (Value.slice C3 n3 c3).ownBlock = (Value.slice C n2 c2).ownBlock ∨ (Value.slice C3 n3 c3).ownBlock = some w.heap.size) :
    Blk w' B 46 #[.int .i64 p, .int .i64 r, .int .i64 c, .slice C n2 c2, .slice D m2 d2] ∧ KSg (w'.setCell ⟨B, 3, none⟩ (.slice C3 n3 c3)) B G p r c C3 n3 c3 cells3 D m2 d2 right := by
  have hB := h.blk.below hb h.lt
  exact ⟨hB, hB.set_ 3 (.slice C3 n3 c3), (h.two.first hown hg hab).stepK ((Step.refl B w').set 3 _) h.lt, h.lt⟩
theorem KSg.pushD {D3 : Option Addr} {m3 d3 : Nat} {right3 : List Int} (h : KSg w B G p r c C n2 c2 cells D m2 d2 right)
    (hown : OwnI w' G 3 D3 m3 d3 right3) (hg : w.grownBy w' (Value.slice D m2 d2).ownBlock) (hb : Below G w w')
    (hab : (Value.slice D3 m3 d3).ownBlock = (Value.slice D m2 d2).ownBlock ∨ (Value.slice D3 m3 d3).ownBlock = some w.heap.size) :
    Blk w' B 46 #[.int .i64 p, .int .i64 r, .int .i64 c, .slice C n2 c2, .slice D m2 d2] ∧ KSg (w'.setCell ⟨B, 4, none⟩ (.slice D3 m3 d3)) B G p r c C n2 c2 cells D3 m3 d3 right3 := by
  have hB := h.blk.below hb h.lt
  exact ⟨hB, hB.set_ 4 (.slice D3 m3 d3), ((h.two.swap.first hown hg hab).swap).stepK ((Step.refl B w').set 4 _) h.lt, h.lt⟩
end
theorem take_pair {l : List (Int × Int)} {k : Nat} (h : k < l.length) : l.take (k + 1) = l.take k ++ [((ptK l).getD k 0, (vlK l).getD k 0)] := by
  have h1 : l.take (k + 1) = l.take k ++ [l[k]] := by rw [List.take_add_one, List.getElem?_eq_getElem h]; rfl
  have h2 : (ptK l).getD k 0 = (l[k]).1 := by simp [ptK, List.getD_eq_getElem?_getD, List.getElem?_eq_getElem h]
  have h3 : (vlK l).getD k 0 = (l[k]).2 := by simp [vlK, List.getD_eq_getElem?_getD, List.getElem?_eq_getElem h]
  rw [h1, h2, h3]

set_option maxRecDepth 100000 in
set_option maxHeartbeats 8000000 in
theorem rkey9_ok (p : Int) (A : Option Addr) (m c k v : Nat) (vs : List Int) (bs : List Bool) (w : World) (hp64 : -9223372036854775808 ≤ p ∧ p ≤ 9223372036854775807) (h : Cel w w.heap.size A m vs bs) (hm : m ≤ 32) (hbe : beginE p vs bs k = 0) (hkv : k + 2 * v ≤ 32) :
    Calls Tryd.prog 23 #[.agg #[.int .i64 p], .slice A m c, .int .i64 k, .int .i64 v] w (KeyPost p k v (knL vs bs) w) := by
  obtain ⟨i0, hi0, hz0, hz1, hz2⟩ := info_parts info_int
  have hbk := beginE_ok hbe
  have hce := cellsE_ok hbk.1
  have hp := okP_pos hce.1
  have HO := Lib.hid hce.1
  have HBE := Lib.hid hbe
  have hmp : (m : Int) < p := by have := hce.2.2.1; rw [h.1] at this; exact this
  have hk64 : -9223372036854775808 ≤ (k : Int) ∧ (k : Int) ≤ 9223372036854775807 := by omega
  obtain ⟨l, hl⟩ : ∃ l, knL vs bs = l := ⟨_, rfl⟩
  have HPT : Hid (allP p (ptK l) = true) := Lib.hid (by rw [← hl]; exact ptK_allP vs bs (by rw [h.1]; exact hmp))
  have HVT : Hid (allP p (vlK l) = true) := Lib.hid (by rw [← hl]; exact vlK_allP hce.2.2.2)
  have hlm : l.length ≤ m := by have := knL_len vs bs; rw [hl, h.1] at this; exact this
  have HL := Lib.hid hl
  obtain ⟨N, hN⟩ : ∃ N, l.length = N := ⟨_, rfl⟩
  have HN := Lib.hid hN
  rw [hN] at hlm
  rw [hl]
  obtain ⟨cl, hcl⟩ : ∃ cl, k + 2 * v = cl := ⟨_, rfl⟩
  obtain ⟨kv, hkvE⟩ : ∃ kv, k + v = kv := ⟨_, rfl⟩
  have e1 : (k : Int) + 2 * (v : Int) = (cl : Int) := by omega
  have e2 : (k : Int) + (v : Int) = (kv : Int) := by omega
  have HCL := Lib.hid hcl
  have HKV := Lib.hid hkvE
  have hv0 : ¬ (v : Int) < 0 := by omega
  have hv32 : ¬ (32 : Int) < (v : Int) := by omega
  have hcl32 : ¬ (32 : Int) < (cl : Int) := by omega
  have hkvl : kv ≤ 32 ∧ v ≤ 16 ∧ cl ≤ 32 := by omega
  have h2w : IntKind.i64.wrap (2 * (v : Int)) = 2 * (v : Int) := IntWalk.i64_in _ (by omega)
  have hclw : IntKind.i64.wrap (cl : Int) = (cl : Int) := IntWalk.i64_in _ (by omega)
  have hkvw : IntKind.i64.wrap (kv : Int) = (kv : Int) := IntWalk.i64_in _ (by omega)
  have hb0 : Below w.heap.size w ((w.alloc (.cells #[.int .i64 p] 24)).alloc (.cells #[.int .i64 0, .int .i64 0, .int .i64 0, .slice none 0 0, .slice none 0 0] 46)) := ballocs (bbox _) _
  have hF0 := (Blk.new w 24 #[.int .i64 p]).alloc (.cells #[.int .i64 0, .int .i64 0, .int .i64 0, .slice none 0 0, .slice none 0 0] 46)
  have hR0 := Blk.new1 w (.cells #[.int .i64 p] 24) 46 #[.int .i64 0, .int .i64 0, .int .i64 0, .slice none 0 0, .slice none 0 0]
  have hS0 := (h.below hb0).more hb0.size
  clear hbe hbk hce hl hN hcl hkvE h hkv
  go_enter Tryd.func23, Tryd.ntmps23
  go_wp2_with (first
    | (go_at_call 49; refine (rbegin_all p A m c k vs bs _ hp64 hS0 (by omega) hk64).mono ?_; rintro e w1 ⟨rfl, hb1⟩; rw [HBE.out]
       have hbb1 := bnext hb0 hb1
       have hF1 := hF0.below hb1 hF0.lt
       have hR1 := hR0.below hb1 hR0.lt
       have hcF1 : w1.cell? ⟨w.heap.size, 0, none⟩ = some (.int .i64 p) := (hF1.cell 0).trans rfl
       have hbq : Below w1.heap.size w1 (w1.alloc (.cells #[.int .i64 p, .int .i64 0, .int .i64 cl, .slice none 0 0, .slice none 0 0] 46)) := bbox _
       have hSq := ((hS0.upto hb1).upto hbq)
       have hKq := Blk.new w1 46 #[.int .i64 p, .int .i64 0, .int .i64 cl, .slice none 0 0, .slice none 0 0])
    | (go_at_call 36; refine (rknown_ok A m c vs bs _ hSq hm).mono ?_; rw [HL.out, HN.out]; rintro e w3 ⟨⟨A3, c3, rfl, hO3⟩, hb3⟩
       have hbb3 := bnext (bnext hbb1 hbq) hb3
       have hF3 := (hF1.below hbq hF1.lt).below hb3 (hF1.below hbq hF1.lt).lt
       have hR3 := (hR1.below hbq hR1.lt).below hb3 (hR1.below hbq hR1.lt).lt
       have hK3 := hKq.below hb3 hKq.lt))
  obtain ⟨B, hB⟩ : ∃ B, w1.heap.size = B := ⟨_, rfl⟩
  have hBl := hK3.lt
  rw [hB] at hK3 hBl
  have hBR : w.heap.size + 1 < B := by rw [← hB]; exact hR1.lt
  have hO3b : OwnS w3 (B + 1) A3 N c3 (ptK l) (vlK l) := by
    have : (w1.alloc (.cells #[.int .i64 p, .int .i64 0, .int .i64 cl, .slice none 0 0, .slice none 0 0] 46)).heap.size = B + 1 := by rw [← hB]; simp
    rw [this] at hO3
    exact hO3
  have HO3 := Lib.hid hO3b
  have HF3 := Lib.hid hF3
  have HR3 := Lib.hid hR3
  have HBB := Lib.hid hbb3
  have HK0 : Hid (KSg w3 B w3.heap.size p 0 cl none 0 0 [] none 0 0 []) := Lib.hid ⟨hK3, Two.nil_, hBl⟩
  have hFl3 := hF3.lt
  rw [hB]
  clear hO3 hO3b hF3 hR3 hbb3 hK3 hb3 hKq hSq hbq hcF1 hR1 hF1 hbb1 hb1 hS0 hR0 hF0 hb0 hB
  go_loopw [47] (fun s wz => ∃ (i nc : Nat) (C : Option Addr) (cc : Nat) (D : Option Addr) (cd : Nat), i ≤ N ∧ nc ≤ 1024 ∧ s = .int .i64 i ∧ Hid (KSg wz B w3.heap.size p i cl C nc cc (keyCs p k v (l.take i)) D i cd (keyRs p v (l.take i))) ∧ Step B w3 wz) (fun s _ => N - (intOf s).toNat)
  case atStart => exact ⟨0, 0, none, 0, none, 0, Nat.zero_le _, by omega, rfl, by simpa [keyCs, keyRs] using HK0, Step.refl _ _⟩
  case round =>
    obtain ⟨i, nc, C, cc, D, cd, hi, hnc, rfl, HK, hs⟩ := hrel
    by_cases hlt : i < N
    · obtain ⟨b1, rfl, hb1B, hb1l⟩ := HO3.out.form (by omega)
      have hne1 : b1 ≠ B := by omega
      have hcl1 : ∀ (j : Nat) (u : Value), w3.cell? ⟨b1, j, none⟩ = some u → wr.cell? ⟨b1, j, none⟩ = some u := fun j u hu => (World.cell?_of_block (World.grownBy.block hs b1 hb1l (fun e => hne1 (by injection e)))).trans hu
      have hx0 := hcl1 _ _ (HO3.out.cellAt hlt).1
      have hx1 := hcl1 _ _ (HO3.out.cellAt hlt).2
      clear hcl1
      have hki : (i : Int) < (N : Int) := by omega
      have hk0 : (0 : Int) ≤ (i : Int) := by omega
      have hlk : i < l.length := by rw [HN.out]; exact hlt
      have hxb := allP_getD HPT.out (k := i) (by rw [ptK_len]; exact hlk)
      have hyb := allP_getD HVT.out (k := i) (by rw [vlK_len]; exact hlk)
      have HST := Lib.hid (take_pair hlk)
      obtain ⟨x, hx⟩ : ∃ x, (ptK l).getD i 0 = x := ⟨_, rfl⟩
      obtain ⟨y, hy⟩ : ∃ y, (vlK l).getD i 0 = y := ⟨_, rfl⟩
      rw [hx] at hx0 hxb HST
      rw [hy] at hx1 hyb HST
      obtain ⟨l1, hl1⟩ : ∃ l1, l.take i = l1 := ⟨_, rfl⟩
      rw [hl1] at HST HK
      have HLN1 : Hid (l1.length = i) := Lib.hid (by rw [← hl1, List.length_take]; omega)
      have hr1 : wr.cell? ⟨B, 1, none⟩ = some (.int .i64 i) := (HK.out.blk.cell 1).trans rfl
      have hi1w : IntKind.i64.wrap ((i : Int) + 1) = (i : Int) + 1 := IntWalk.i64_in _ (by omega)
      have hBwr := HK.out.blk.lt
      clear hx hy hlk hl1
      go_upto_region 10 with fail
      obtain ⟨g, hg⟩ : ∃ g, wr.heap.size = g := ⟨_, rfl⟩
      have hN9 := Blk.new wr 85 #[.int .i64 x, .int .i64 y]
      have HK1 := Lib.hid (HK.out.alloc (.cells #[.int .i64 x, .int .i64 y] 85))
      have hs1 : Step B w3 (wr.alloc (.cells #[.int .i64 x, .int .i64 y] 85)) := hs.alloc _
      obtain ⟨W, hW⟩ : ∃ W, wr.alloc (.cells #[.int .i64 x, .int .i64 y] 85) = W := ⟨_, rfl⟩
      rw [hW] at hN9 HK1 hs1 ⊢
      rw [hg] at hN9 ⊢
      have hBg : B < g := by rw [← hg]; exact hBwr
      have hrw : W.cell? ⟨B, 1, none⟩ = some (.int .i64 i) := (HK1.out.blk.cell 1).trans rfl
      have hf1 := HK1.out.blk.frozen 1
      have HK2 := Lib.hid (HK1.out.rows (i + 1))
      have hs2 := hs1.set 1 (.int .i64 ((i + 1 : Nat) : Int))
      have HN2 := Lib.hid (hN9.far (p := ⟨B, 1, none⟩) (by show g ≠ B; omega) (.int .i64 ((i + 1 : Nat) : Int)))
      have hi8 : ((i + 1 : Nat) : Int) = (i : Int) + 1 := by omega
      rw [hi8] at HK2 hs2 HN2
      obtain ⟨W2, hW2⟩ : ∃ W2, W.setCell ⟨B, 1, none⟩ (.int .i64 ((i : Int) + 1)) = W2 := ⟨_, rfl⟩
      rw [hW2] at HK2 hs2 HN2
      have HW2 := Lib.hid hW2
      clear hW hg hx0 hx1 HK hs hN9 HK1 hs1 hBwr hr1 hW2
      go_upto_region 12 with fail
      rw [HW2.out]
      clear hrw hf1 HW2
      go_loopw [14] (fun s wz => ∃ (j : Nat) (C4 : Option Addr) (c4 : Nat), j ≤ kv ∧ s = .int .i64 j ∧ Hid (KSg wz B w3.heap.size p (i + 1) cl C4 (nc + j) c4 (keyCs p k v l1 ++ (List.range j).map (pwP p x)) D i cd (keyRs p v l1)) ∧ Hid (Blk wz g 85 #[.int .i64 x, .int .i64 y]) ∧ Step B w3 wz) (fun s _ => kv - (intOf s).toNat)
      case atStart => exact ⟨0, C, cc, Nat.zero_le _, rfl, by simpa using HK2, HN2, hs2⟩
      case round =>
        obtain ⟨j, C4, c4, hj, rfl, HK3, HN3, hs3⟩ := hrel
        by_cases hltj : j < kv
        · have hkj : (j : Int) < (kv : Int) := by omega
          have HRS : Hid ((List.range (j + 1)).map (pwP p x) = (List.range j).map (pwP p x) ++ [pwP p x j]) := Lib.hid (by rw [List.range_succ, List.map_append]; rfl)
          go_upto_region 14 with fail
          have hlB := HK3.out.blk.lt
          have hgl := HN3.out.lt
          have hFw := Step.block hs3 HF3.out (by omega)
          have hFl := hFw.lt
          have hS3 : wr.cell? ⟨B, 3, none⟩ = some (.slice C4 (nc + j) c4) := (HK3.out.blk.cell 3).trans rfl
          have hSx : wr.cell? ⟨g, 0, none⟩ = some (.int .i64 x) := (HN3.out.cell 0).trans rfl
          have hSy : wr.cell? ⟨g, 1, none⟩ = some (.int .i64 y) := (HN3.out.cell 1).trans rfl
          have hSp : wr.cell? ⟨w.heap.size, 0, none⟩ = some (.int .i64 p) := (hFw.cell 0).trans rfl
          have hH0d : wr.drew.cell? ⟨w.heap.size, 0, none⟩ = some (.int .i64 p) ∧ wr.drew.cell? ⟨g, 0, none⟩ = some (.int .i64 x) ∧ wr.drew.cell? ⟨g, 1, none⟩ = some (.int .i64 y) ∧ wr.drew.cell? ⟨B, 3, none⟩ = some (.slice C4 (nc + j) c4) := ⟨hSp, hSx, hSy, hS3⟩
          refine wp_region_M (S := fun w' => w'.cell? ⟨w.heap.size, 0, none⟩ = some (.int .i64 p) ∧ w'.cell? ⟨g, 0, none⟩ = some (.int .i64 x) ∧ w'.cell? ⟨g, 1, none⟩ = some (.int .i64 y) ∧ w'.cell? ⟨B, 3, none⟩ = some (.slice C4 (nc + j) c4)) (n := 10) (by kernel_rfl) hH0d (fun inv hS => ?_)
          refine wpM_take (i := 0) (v := ?v1) rfl (by kernel_rfl) (by kernel_rfl) (by kernel_rfl) (fun _ _ _ h => h) (by kernel_rfl) (by kernel_rfl) (of_decide_eq_true (by kernel_rfl)) (by decide) inv (Or.inl ⟨by rfl, ?hy1⟩) hS ?rest1
          case hy1 => (intro w' hSw; (try dsimp only at hSw); go_simp; try with_reducible rfl)
          clear inv
          intro inv
          (try simp only [Act.put, List.setIfInBounds_toArray, List.set_cons_zero, List.set_cons_succ])
          refine wpM_take (i := 1) (v := ?v2) rfl (by kernel_rfl) (by kernel_rfl) (by kernel_rfl) (fun _ _ _ h => h) (by kernel_rfl) (by kernel_rfl) (of_decide_eq_true (by kernel_rfl)) (by decide) inv (Or.inl ⟨by rfl, ?hy2⟩) hS ?rest2
          case hy2 => (intro w' hSw; (try dsimp only at hSw); go_simp; try with_reducible rfl)
          clear inv
          intro inv
          (try simp only [Act.put, List.setIfInBounds_toArray, List.set_cons_zero, List.set_cons_succ])
          refine wpM_take (i := 2) (v := ?v3) rfl (by kernel_rfl) (by kernel_rfl) (by kernel_rfl) (fun _ _ _ h => h) (by kernel_rfl) (by kernel_rfl) (of_decide_eq_true (by kernel_rfl)) (by decide) inv (Or.inl ⟨by rfl, ?hy3⟩) hS ?rest3
          case hy3 => (intro w' hSw; (try dsimp only at hSw); go_simp; try with_reducible rfl)
          clear inv
          intro inv
          (try simp only [Act.put, List.setIfInBounds_toArray, List.set_cons_zero, List.set_cons_succ])
          refine wpM_take (i := 3) (v := ?v4) rfl (by kernel_rfl) (by kernel_rfl) (by kernel_rfl) (fun _ _ _ h => h) (by kernel_rfl) (by kernel_rfl) (of_decide_eq_true (by kernel_rfl)) (by decide) inv (Or.inl ⟨by rfl, ?hy4⟩) hS ?rest4
          case hy4 => (intro w' hSw; (try dsimp only at hSw); go_simp; try with_reducible rfl)
          clear inv
          intro inv
          (try simp only [Act.put, List.setIfInBounds_toArray, List.set_cons_zero, List.set_cons_succ])
          refine wpM_take (i := 4) (v := ?v5) rfl (by kernel_rfl) (by kernel_rfl) (by kernel_rfl) (fun _ _ _ h => h) (by kernel_rfl) (by kernel_rfl) (of_decide_eq_true (by kernel_rfl)) (by decide) inv (Or.inl ⟨by rfl, ?hy5⟩) hS ?rest5
          case hy5 => (intro w' hSw; (try dsimp only at hSw); go_simp; try with_reducible rfl)
          clear inv
          intro inv
          (try simp only [Act.put, List.setIfInBounds_toArray, List.set_cons_zero, List.set_cons_succ])
          refine wpM_take (i := 5) (v := ?v6) rfl (by kernel_rfl) (by kernel_rfl) (by kernel_rfl) (fun _ _ _ h => h) (by kernel_rfl) (by kernel_rfl) (of_decide_eq_true (by kernel_rfl)) (by decide) inv (Or.inl ⟨by rfl, ?hy6⟩) hS ?rest6
          case hy6 => (intro w' hSw; (try dsimp only at hSw); go_simp; try with_reducible rfl)
          clear inv
          intro inv
          (try simp only [Act.put, List.setIfInBounds_toArray, List.set_cons_zero, List.set_cons_succ])
          refine wpM_one (k := 6) rfl (by kernel_rfl) (by decide) inv (fun K hK => ?_)
          clear inv hS
          go_simp
          go_at_call 50
          refine (rpow_ok p x j _ hp hxb (by omega)).mono ?_
          rintro e w4 ⟨r, rfl, hr, HR, hb4⟩
          have hre := pw_of hp.1 hr HR.out
          have hb4' : Below wr.heap.size wr w4 := ⟨hb4.os, hb4.tape, hb4.output, hb4.size, hb4.block⟩
          have hT3 : w4.cell? ⟨B, 3, none⟩ = some (.slice C4 (nc + j) c4) := (hb4'.cell (p := ⟨B, 3, none⟩) hlB).trans hS3
          have hTx : w4.cell? ⟨g, 0, none⟩ = some (.int .i64 x) := (hb4'.cell (p := ⟨g, 0, none⟩) hgl).trans hSx
          have hTy : w4.cell? ⟨g, 1, none⟩ = some (.int .i64 y) := (hb4'.cell (p := ⟨g, 1, none⟩) hgl).trans hSy
          have hTp : w4.cell? ⟨w.heap.size, 0, none⟩ = some (.int .i64 p) := (hb4'.cell (p := ⟨w.heap.size, 0, none⟩) hFl).trans hSp
          have hH4 : w4.cell? ⟨w.heap.size, 0, none⟩ = some (.int .i64 p) ∧ w4.cell? ⟨g, 0, none⟩ = some (.int .i64 x) ∧ w4.cell? ⟨g, 1, none⟩ = some (.int .i64 y) ∧ w4.cell? ⟨B, 3, none⟩ = some (.slice C4 (nc + j) c4) := ⟨hTp, hTx, hTy, hT3⟩
          rw [hre] at hr ⊢
          obtain ⟨u, hu⟩ : ∃ u, pwP p x j = u := ⟨_, rfl⟩
          have HU := Lib.hid hu
          rw [hu] at hr ⊢
          clear hre hu
          have HKa := Lib.hid ((HK3.out.belowAll hb4').alloc (.cells #[.int .i64 u] 3))
          have HNa := Lib.hid ((HN3.out.below hb4' hgl).alloc (.cells #[.int .i64 u] 3))
          have hba := (Step.thenBelow hs3 (hb4'.mono hs3.size)).alloc (.cells #[.int .i64 u] 3)
          have hTa : OwnI (w4.alloc (.cells #[.int .i64 u] 3)) w3.heap.size 3 C4 (nc + j) c4 _ := HKa.out.two.1
          have hRa : Ints (w4.alloc (.cells #[.int .i64 u] 3)) (w4.alloc (.cells #[.int .i64 u] 3)).heap.size (some ⟨w4.heap.size, 0, none⟩) 1 [u] := Ints.oneAt _ _ _ _ rfl
          have hla : w3.heap.size ≤ (w4.alloc (.cells #[.int .i64 u] 3)).heap.size := hba.size
          have hT3a : (w4.alloc (.cells #[.int .i64 u] 3)).cell? ⟨B, 3, none⟩ = some (.slice C4 (nc + j) c4) := (HKa.out.blk.cell 3).trans rfl
          have hH5 : (w4.alloc (.cells #[.int .i64 u] 3)).cell? ⟨w.heap.size, 0, none⟩ = some (.int .i64 p) ∧ (w4.alloc (.cells #[.int .i64 u] 3)).cell? ⟨g, 0, none⟩ = some (.int .i64 x) ∧ (w4.alloc (.cells #[.int .i64 u] 3)).cell? ⟨g, 1, none⟩ = some (.int .i64 y) ∧ (w4.alloc (.cells #[.int .i64 u] 3)).cell? ⟨B, 3, none⟩ = some (.slice C4 (nc + j) c4) := ⟨((Step.block hba HF3.out (by omega)).cell 0).trans rfl, (HNa.out.cell 0).trans rfl, (HNa.out.cell 1).trans rfl, hT3a⟩
          clear hb4 HR
          (try dsimp only)
          refine hK.out _ _ hH4 (fun inv hS => ?_)
          clear hK K
          (try simp only [Act.put, List.setIfInBounds_toArray, List.set_cons_zero, List.set_cons_succ])
          refine wpM_one (k := 7) rfl (by kernel_rfl) (by decide) inv (fun K hK => ?_)
          clear inv hS
          go_simp
          refine hK.out _ _ hH5 (fun inv hS => ?_)
          clear hK K
          (try simp only [Act.put, List.setIfInBounds_toArray, List.set_cons_zero, List.set_cons_succ])
          refine wpM_one (k := 8) rfl (by kernel_rfl) (by decide) inv (fun K hK => ?_)
          clear inv hS
          refine step_app (w := (w4.alloc (.cells #[.int .i64 u] 3))) rfl (.tmp 63) (.tmp 69) 22 rfl w3.heap.size 3 i0 _ Tryd.underlying22 hi0 hz0 hz1 hz2 rfl C4 (nc + j) c4 _ (by first | rfl | simp [Act.eval]) hTa (some ⟨w4.heap.size, 0, none⟩) 1 1 [u] (by first | rfl | simp [Act.eval]) hRa (nc + (j + 1)) (by omega) (by omega) hla ?_
          intro C5 c5 w9 hown9 hgr9 hbw9 hab9
          have hpush := HKa.out.pushC hown9 hgr9 hbw9 hab9
          rw [List.append_assoc, ← HU.out, ← HRS.out] at hpush
          have HP := Lib.hid hpush.2
          have ht39 : w9.cell? ⟨B, 3, none⟩ = some (.slice C4 (nc + j) c4) := (hpush.1.cell 3).trans rfl
          have hf39 := hpush.1.frozen 3
          have HN9 := Lib.hid ((HNa.out.grown hgr9 (fun e => own_blk_ne HKa.out.two.1 HNa.out share_ne_int.symm e.symm)).far (p := ⟨B, 3, none⟩) (by show g ≠ B; omega) (.slice C5 (nc + (j + 1)) c5))
          have hb9 := (Step.thenBelow hba hbw9).set 3 (.slice C5 (nc + (j + 1)) c5)
          have hF9 := Step.block (Step.thenBelow hba hbw9) HF3.out (by omega)
          have hN9' := HNa.out.grown hgr9 (fun e => own_blk_ne HKa.out.two.1 HNa.out share_ne_int.symm e.symm)
          have hH9 : w9.cell? ⟨w.heap.size, 0, none⟩ = some (.int .i64 p) ∧ w9.cell? ⟨g, 0, none⟩ = some (.int .i64 x) ∧ w9.cell? ⟨g, 1, none⟩ = some (.int .i64 y) ∧ w9.cell? ⟨B, 3, none⟩ = some (.slice C4 (nc + j) c4) := ⟨(hF9.cell 0).trans rfl, (hN9'.cell 0).trans rfl, (hN9'.cell 1).trans rfl, ht39⟩
          clear hpush hown9 hgr9 hbw9 hab9 hF9 hN9'
          refine hK.out _ _ hH9 (fun inv hS => ?_)
          clear hK K
          (try simp only [Act.put, List.setIfInBounds_toArray, List.set_cons_zero, List.set_cons_succ])
          refine wpM_take (i := 9) (v := ?v7) rfl (by kernel_rfl) (by kernel_rfl) (by kernel_rfl) (fun _ _ _ h => h) (by kernel_rfl) (by kernel_rfl) (of_decide_eq_true (by kernel_rfl)) (by decide) inv (Or.inl ⟨by rfl, ?hy7⟩) hS ?rest7
          case hy7 => (intro w' hSw; (try dsimp only at hSw); go_simp; try with_reducible rfl)
          clear inv
          intro inv
          (try simp only [Act.put, List.setIfInBounds_toArray, List.set_cons_zero, List.set_cons_succ])
          refine wpM_last rfl (by kernel_rfl) (by kernel_rfl) (fun K hK => ?_)
          clear inv hS
          go_simp
          refine hK.out _ _ ?_
          clear hK K
          go_wp2
          go_roundw
          all_goals first
            | exact ⟨j + 1, C5, c5, by omega, by go_num, HP, HN9, hb9⟩
            | (simp [intOf]; omega)
        · obtain rfl : kv = j := by omega
          obtain ⟨pk, hpk⟩ : ∃ pk, keyCs p k v l1 ++ (List.range kv).map (pwP p x) = pk := ⟨_, rfl⟩
          rw [hpk] at HK3
          have HPK := Lib.hid hpk
          clear hpk HK2 HN2 hs2
          go_upto_region 16 with fail
          go_loopw [15] (fun s wz => ∃ (j : Nat) (C6 : Option Addr) (c6 : Nat), j ≤ v ∧ s = .int .i64 j ∧ Hid (KSg wz B w3.heap.size p (i + 1) cl C6 (nc + kv + j) c6 (pk ++ (List.range j).map fun a => subP p 0 (mulP p y (pwP p x a))) D i cd (keyRs p v l1)) ∧ Hid (Blk wz g 85 #[.int .i64 x, .int .i64 y]) ∧ Step B w3 wz) (fun s _ => v - (intOf s).toNat)
          case atStart => exact ⟨0, C4, c4, Nat.zero_le _, rfl, by simpa using HK3, HN3, hs3⟩
          case round =>
            obtain ⟨j, C6, c6, hj, rfl, HK6, HN6, hs6⟩ := hrel
            by_cases hltj : j < v
            · have hkj : (j : Int) < (v : Int) := by omega
              have HRS : Hid ((List.range (j + 1)).map (fun a => subP p 0 (mulP p y (pwP p x a))) = (List.range j).map (fun a => subP p 0 (mulP p y (pwP p x a))) ++ [subP p 0 (mulP p y (pwP p x j))]) := Lib.hid (by rw [List.range_succ, List.map_append]; rfl)
              go_upto_region 18 with fail
              have hlB := HK6.out.blk.lt
              have hgl := HN6.out.lt
              have hFw := Step.block hs6 HF3.out (by omega)
              have hFl := hFw.lt
              have hS3 : wr.cell? ⟨B, 3, none⟩ = some (.slice C6 (nc + kv + j) c6) := (HK6.out.blk.cell 3).trans rfl
              have hSx : wr.cell? ⟨g, 0, none⟩ = some (.int .i64 x) := (HN6.out.cell 0).trans rfl
              have hSy : wr.cell? ⟨g, 1, none⟩ = some (.int .i64 y) := (HN6.out.cell 1).trans rfl
              have hSp : wr.cell? ⟨w.heap.size, 0, none⟩ = some (.int .i64 p) := (hFw.cell 0).trans rfl
              have hq1 : IntKind.i64.wrap (p - y) = p - y := IntWalk.i64_in _ (by omega)
              have hpz : ¬ p = 0 := by omega
              have hH0d : wr.drew.cell? ⟨w.heap.size, 0, none⟩ = some (.int .i64 p) ∧ wr.drew.cell? ⟨g, 0, none⟩ = some (.int .i64 x) ∧ wr.drew.cell? ⟨g, 1, none⟩ = some (.int .i64 y) ∧ wr.drew.cell? ⟨B, 3, none⟩ = some (.slice C6 (nc + kv + j) c6) := ⟨hSp, hSx, hSy, hS3⟩
              refine wp_region_M (S := fun w' => w'.cell? ⟨w.heap.size, 0, none⟩ = some (.int .i64 p) ∧ w'.cell? ⟨g, 0, none⟩ = some (.int .i64 x) ∧ w'.cell? ⟨g, 1, none⟩ = some (.int .i64 y) ∧ w'.cell? ⟨B, 3, none⟩ = some (.slice C6 (nc + kv + j) c6)) (n := 19) (by kernel_rfl) hH0d (fun inv hS => ?_)
              refine wpM_take (i := 0) (v := ?v8) rfl (by kernel_rfl) (by kernel_rfl) (by kernel_rfl) (fun _ _ _ h => h) (by kernel_rfl) (by kernel_rfl) (of_decide_eq_true (by kernel_rfl)) (by decide) inv (Or.inl ⟨by rfl, ?hy8⟩) hS ?rest8
              case hy8 => (intro w' hSw; (try dsimp only at hSw); go_simp; try with_reducible rfl)
              clear inv
              intro inv
              (try simp only [Act.put, List.setIfInBounds_toArray, List.set_cons_zero, List.set_cons_succ])
              refine wpM_take (i := 1) (v := ?v9) rfl (by kernel_rfl) (by kernel_rfl) (by kernel_rfl) (fun _ _ _ h => h) (by kernel_rfl) (by kernel_rfl) (of_decide_eq_true (by kernel_rfl)) (by decide) inv (Or.inl ⟨by rfl, ?hy9⟩) hS ?rest9
              case hy9 => (intro w' hSw; (try dsimp only at hSw); go_simp; try with_reducible rfl)
              clear inv
              intro inv
              (try simp only [Act.put, List.setIfInBounds_toArray, List.set_cons_zero, List.set_cons_succ])
              refine wpM_take (i := 2) (v := ?v10) rfl (by kernel_rfl) (by kernel_rfl) (by kernel_rfl) (fun _ _ _ h => h) (by kernel_rfl) (by kernel_rfl) (of_decide_eq_true (by kernel_rfl)) (by decide) inv (Or.inl ⟨by rfl, ?hy10⟩) hS ?rest10
              case hy10 => (intro w' hSw; (try dsimp only at hSw); go_simp; try with_reducible rfl)
              clear inv
              intro inv
              (try simp only [Act.put, List.setIfInBounds_toArray, List.set_cons_zero, List.set_cons_succ])
              refine wpM_take (i := 3) (v := ?v11) rfl (by kernel_rfl) (by kernel_rfl) (by kernel_rfl) (fun _ _ _ h => h) (by kernel_rfl) (by kernel_rfl) (of_decide_eq_true (by kernel_rfl)) (by decide) inv (Or.inl ⟨by rfl, ?hy11⟩) hS ?rest11
              case hy11 => (intro w' hSw; (try dsimp only at hSw); go_simp; try with_reducible rfl)
              clear inv
              intro inv
              (try simp only [Act.put, List.setIfInBounds_toArray, List.set_cons_zero, List.set_cons_succ])
              refine wpM_take (i := 4) (v := ?v12) rfl (by kernel_rfl) (by kernel_rfl) (by kernel_rfl) (fun _ _ _ h => h) (by kernel_rfl) (by kernel_rfl) (of_decide_eq_true (by kernel_rfl)) (by decide) inv (Or.inl ⟨by rfl, ?hy12⟩) hS ?rest12
              case hy12 => (intro w' hSw; (try dsimp only at hSw); go_simp; try with_reducible rfl)
              clear inv
              intro inv
              (try simp only [Act.put, List.setIfInBounds_toArray, List.set_cons_zero, List.set_cons_succ])
              refine wpM_take (i := 5) (v := ?v13) rfl (by kernel_rfl) (by kernel_rfl) (by kernel_rfl) (fun _ _ _ h => h) (by kernel_rfl) (by kernel_rfl) (of_decide_eq_true (by kernel_rfl)) (by decide) inv (Or.inl ⟨by rfl, ?hy13⟩) hS ?rest13
              case hy13 => (intro w' hSw; (try dsimp only at hSw); go_simp; try with_reducible rfl)
              clear inv
              intro inv
              (try simp only [Act.put, List.setIfInBounds_toArray, List.set_cons_zero, List.set_cons_succ])
              refine wpM_take (i := 6) (v := ?v14) rfl (by kernel_rfl) (by kernel_rfl) (by kernel_rfl) (fun _ _ _ h => h) (by kernel_rfl) (by kernel_rfl) (of_decide_eq_true (by kernel_rfl)) (by decide) inv (Or.inl ⟨by rfl, ?hy14⟩) hS ?rest14
              case hy14 => (intro w' hSw; (try dsimp only at hSw); go_simp; try with_reducible rfl)
              clear inv
              intro inv
              (try simp only [Act.put, List.setIfInBounds_toArray, List.set_cons_zero, List.set_cons_succ])
              refine wpM_take (i := 7) (v := ?v15) rfl (by kernel_rfl) (by kernel_rfl) (by kernel_rfl) (fun _ _ _ h => h) (by kernel_rfl) (by kernel_rfl) (of_decide_eq_true (by kernel_rfl)) (by decide) inv (Or.inl ⟨by rfl, ?hy15⟩) hS ?rest15
              case hy15 => (intro w' hSw; (try dsimp only at hSw); go_simp; try with_reducible rfl)
              clear inv
              intro inv
              (try simp only [Act.put, List.setIfInBounds_toArray, List.set_cons_zero, List.set_cons_succ])
              refine wpM_take (i := 8) (v := ?v16) rfl (by kernel_rfl) (by kernel_rfl) (by kernel_rfl) (fun _ _ _ h => h) (by kernel_rfl) (by kernel_rfl) (of_decide_eq_true (by kernel_rfl)) (by decide) inv (Or.inl ⟨by rfl, ?hy16⟩) hS ?rest16
              case hy16 => (intro w' hSw; (try dsimp only at hSw); go_simp; try with_reducible rfl)
              clear inv
              intro inv
              (try simp only [Act.put, List.setIfInBounds_toArray, List.set_cons_zero, List.set_cons_succ])
              refine wpM_take (i := 9) (v := ?v17) rfl (by kernel_rfl) (by kernel_rfl) (by kernel_rfl) (fun _ _ _ h => h) (by kernel_rfl) (by kernel_rfl) (of_decide_eq_true (by kernel_rfl)) (by decide) inv (Or.inl ⟨by rfl, ?hy17⟩) hS ?rest17
              case hy17 => (intro w' hSw; (try dsimp only at hSw); go_simp; try with_reducible rfl)
              clear inv
              intro inv
              (try simp only [Act.put, List.setIfInBounds_toArray, List.set_cons_zero, List.set_cons_succ])
              refine wpM_take (i := 10) (v := ?v18) rfl (by kernel_rfl) (by kernel_rfl) (by kernel_rfl) (fun _ _ _ h => h) (by kernel_rfl) (by kernel_rfl) (of_decide_eq_true (by kernel_rfl)) (by decide) inv (Or.inl ⟨by rfl, ?hy18⟩) hS ?rest18
              case hy18 => (intro w' hSw; (try dsimp only at hSw); go_simp; try with_reducible rfl)
              clear inv
              intro inv
              (try simp only [Act.put, List.setIfInBounds_toArray, List.set_cons_zero, List.set_cons_succ])
              refine wpM_take (i := 13) (v := ?v19) rfl (by kernel_rfl) (by kernel_rfl) (by kernel_rfl) (fun _ _ _ h => h) (by kernel_rfl) (by kernel_rfl) (of_decide_eq_true (by kernel_rfl)) (by decide) inv (Or.inl ⟨by rfl, ?hy19⟩) hS ?rest19
              case hy19 => (intro w' hSw; (try dsimp only at hSw); go_simp; try with_reducible rfl)
              clear inv
              intro inv
              (try simp only [Act.put, List.setIfInBounds_toArray, List.set_cons_zero, List.set_cons_succ])
              refine wpM_take (i := 14) (v := ?v20) rfl (by kernel_rfl) (by kernel_rfl) (by kernel_rfl) (fun _ _ _ h => h) (by kernel_rfl) (by kernel_rfl) (of_decide_eq_true (by kernel_rfl)) (by decide) inv (Or.inl ⟨by rfl, ?hy20⟩) hS ?rest20
              case hy20 => (intro w' hSw; (try dsimp only at hSw); go_simp; try with_reducible rfl)
              clear inv
              intro inv
              (try simp only [Act.put, List.setIfInBounds_toArray, List.set_cons_zero, List.set_cons_succ])
              refine wpM_one (k := 11) rfl (by kernel_rfl) (by decide) inv (fun K hK => ?_)
              clear inv hS
              go_simp
              go_at_call 50
              refine (rpow_ok p x j _ hp hxb (by omega)).mono ?_
              rintro e w4 ⟨r, rfl, hr, HR, hb4⟩
              have hre := pw_of hp.1 hr HR.out
              have hb4' : Below wr.heap.size wr w4 := ⟨hb4.os, hb4.tape, hb4.output, hb4.size, hb4.block⟩
              have hT3 : w4.cell? ⟨B, 3, none⟩ = some (.slice C6 (nc + kv + j) c6) := (hb4'.cell (p := ⟨B, 3, none⟩) hlB).trans hS3
              have hTx : w4.cell? ⟨g, 0, none⟩ = some (.int .i64 x) := (hb4'.cell (p := ⟨g, 0, none⟩) hgl).trans hSx
              have hTy : w4.cell? ⟨g, 1, none⟩ = some (.int .i64 y) := (hb4'.cell (p := ⟨g, 1, none⟩) hgl).trans hSy
              have hTp : w4.cell? ⟨w.heap.size, 0, none⟩ = some (.int .i64 p) := (hb4'.cell (p := ⟨w.heap.size, 0, none⟩) hFl).trans hSp
              have hH4 : w4.cell? ⟨w.heap.size, 0, none⟩ = some (.int .i64 p) ∧ w4.cell? ⟨g, 0, none⟩ = some (.int .i64 x) ∧ w4.cell? ⟨g, 1, none⟩ = some (.int .i64 y) ∧ w4.cell? ⟨B, 3, none⟩ = some (.slice C6 (nc + kv + j) c6) := ⟨hTp, hTx, hTy, hT3⟩
              obtain ⟨u, hu⟩ : ∃ u, subP p 0 (mulP p y (pwP p x j)) = u := ⟨_, rfl⟩
              have hq2 : IntKind.i64.wrap ((p - y) * r) = (p - y) * r := IntWalk.i64_in _ (by
                have h1 : 0 ≤ (p - y) * r := Int.mul_nonneg (by omega) hr.1
                have h2 : (p - y) * r ≤ 65521 * 65521 := Int.mul_le_mul (by omega) (by omega) hr.1 (by omega)
                omega)
              have hq3 : ((p - y) * r).tmod p = u := by
                rw [Int.tmod_eq_emod_of_nonneg (Int.mul_nonneg (by omega) hr.1), hre, ← hu]
                exact negmul_sub hp.1
              have HU := Lib.hid hu
              clear hre hu
              have HKa := Lib.hid ((HK6.out.belowAll hb4').alloc (.cells #[.int .i64 u] 3))
              have HNa := Lib.hid ((HN6.out.below hb4' hgl).alloc (.cells #[.int .i64 u] 3))
              have hba := (Step.thenBelow hs6 (hb4'.mono hs6.size)).alloc (.cells #[.int .i64 u] 3)
              have hTa : OwnI (w4.alloc (.cells #[.int .i64 u] 3)) w3.heap.size 3 C6 (nc + kv + j) c6 _ := HKa.out.two.1
              have hRa : Ints (w4.alloc (.cells #[.int .i64 u] 3)) (w4.alloc (.cells #[.int .i64 u] 3)).heap.size (some ⟨w4.heap.size, 0, none⟩) 1 [u] := Ints.oneAt _ _ _ _ rfl
              have hla : w3.heap.size ≤ (w4.alloc (.cells #[.int .i64 u] 3)).heap.size := hba.size
              have hT3a : (w4.alloc (.cells #[.int .i64 u] 3)).cell? ⟨B, 3, none⟩ = some (.slice C6 (nc + kv + j) c6) := (HKa.out.blk.cell 3).trans rfl
              have hH5 : (w4.alloc (.cells #[.int .i64 u] 3)).cell? ⟨w.heap.size, 0, none⟩ = some (.int .i64 p) ∧ (w4.alloc (.cells #[.int .i64 u] 3)).cell? ⟨g, 0, none⟩ = some (.int .i64 x) ∧ (w4.alloc (.cells #[.int .i64 u] 3)).cell? ⟨g, 1, none⟩ = some (.int .i64 y) ∧ (w4.alloc (.cells #[.int .i64 u] 3)).cell? ⟨B, 3, none⟩ = some (.slice C6 (nc + kv + j) c6) := ⟨((Step.block hba HF3.out (by omega)).cell 0).trans rfl, (HNa.out.cell 0).trans rfl, (HNa.out.cell 1).trans rfl, hT3a⟩
              clear hb4 HR
              (try dsimp only)
              refine hK.out _ _ hH4 (fun inv hS => ?_)
              clear hK K
              (try simp only [Act.put, List.setIfInBounds_toArray, List.set_cons_zero, List.set_cons_succ])
              refine wpM_take (i := 12) (v := ?v21) rfl (by kernel_rfl) (by kernel_rfl) (by kernel_rfl) (fun _ _ _ h => h) (by kernel_rfl) (by kernel_rfl) (of_decide_eq_true (by kernel_rfl)) (by decide) inv (Or.inl ⟨by rfl, ?hy21⟩) hS ?rest21
              case hy21 => (intro w' hSw; (try dsimp only at hSw); go_simp; try with_reducible rfl)
              clear inv
              intro inv
              (try simp only [Act.put, List.setIfInBounds_toArray, List.set_cons_zero, List.set_cons_succ])
              refine wpM_take (i := 15) (v := ?v22) rfl (by kernel_rfl) (by kernel_rfl) (by kernel_rfl) (fun _ _ _ h => h) (by kernel_rfl) (by kernel_rfl) (of_decide_eq_true (by kernel_rfl)) (by decide) inv (Or.inl ⟨by rfl, ?hy22⟩) hS ?rest22
              case hy22 => (intro w' hSw; (try dsimp only at hSw); go_simp; try with_reducible rfl)
              clear inv
              intro inv
              (try simp only [Act.put, List.setIfInBounds_toArray, List.set_cons_zero, List.set_cons_succ])
              refine wpM_one (k := 16) rfl (by kernel_rfl) (by decide) inv (fun K hK => ?_)
              clear inv hS
              go_simp
              refine hK.out _ _ hH5 (fun inv hS => ?_)
              clear hK K
              (try simp only [Act.put, List.setIfInBounds_toArray, List.set_cons_zero, List.set_cons_succ])
              refine wpM_one (k := 17) rfl (by kernel_rfl) (by decide) inv (fun K hK => ?_)
              clear inv hS
              refine step_app (w := (w4.alloc (.cells #[.int .i64 u] 3))) rfl (.tmp 78) (.tmp 93) 22 rfl w3.heap.size 3 i0 _ Tryd.underlying22 hi0 hz0 hz1 hz2 rfl C6 (nc + kv + j) c6 _ (by first | rfl | simp [Act.eval]) hTa (some ⟨w4.heap.size, 0, none⟩) 1 1 [u] (by first | rfl | simp [Act.eval]) hRa (nc + kv + (j + 1)) (by omega) (by omega) hla ?_
              intro C7 c7 w9 hown9 hgr9 hbw9 hab9
              have hpush := HKa.out.pushC hown9 hgr9 hbw9 hab9
              rw [List.append_assoc, ← HU.out, ← HRS.out] at hpush
              have HP := Lib.hid hpush.2
              have ht39 : w9.cell? ⟨B, 3, none⟩ = some (.slice C6 (nc + kv + j) c6) := (hpush.1.cell 3).trans rfl
              have hf39 := hpush.1.frozen 3
              have HN9 := Lib.hid ((HNa.out.grown hgr9 (fun e => own_blk_ne HKa.out.two.1 HNa.out share_ne_int.symm e.symm)).far (p := ⟨B, 3, none⟩) (by show g ≠ B; omega) (.slice C7 (nc + kv + (j + 1)) c7))
              have hb9 := (Step.thenBelow hba hbw9).set 3 (.slice C7 (nc + kv + (j + 1)) c7)
              have hF9 := Step.block (Step.thenBelow hba hbw9) HF3.out (by omega)
              have hN9' := HNa.out.grown hgr9 (fun e => own_blk_ne HKa.out.two.1 HNa.out share_ne_int.symm e.symm)
              have hH9 : w9.cell? ⟨w.heap.size, 0, none⟩ = some (.int .i64 p) ∧ w9.cell? ⟨g, 0, none⟩ = some (.int .i64 x) ∧ w9.cell? ⟨g, 1, none⟩ = some (.int .i64 y) ∧ w9.cell? ⟨B, 3, none⟩ = some (.slice C6 (nc + kv + j) c6) := ⟨(hF9.cell 0).trans rfl, (hN9'.cell 0).trans rfl, (hN9'.cell 1).trans rfl, ht39⟩
              clear hpush hown9 hgr9 hbw9 hab9 hF9 hN9'
              refine hK.out _ _ hH9 (fun inv hS => ?_)
              clear hK K
              (try simp only [Act.put, List.setIfInBounds_toArray, List.set_cons_zero, List.set_cons_succ])
              refine wpM_take (i := 18) (v := ?v23) rfl (by kernel_rfl) (by kernel_rfl) (by kernel_rfl) (fun _ _ _ h => h) (by kernel_rfl) (by kernel_rfl) (of_decide_eq_true (by kernel_rfl)) (by decide) inv (Or.inl ⟨by rfl, ?hy23⟩) hS ?rest23
              case hy23 => (intro w' hSw; (try dsimp only at hSw); go_simp; try with_reducible rfl)
              clear inv
              intro inv
              (try simp only [Act.put, List.setIfInBounds_toArray, List.set_cons_zero, List.set_cons_succ])
              refine wpM_last rfl (by kernel_rfl) (by kernel_rfl) (fun K hK => ?_)
              clear inv hS
              go_simp
              refine hK.out _ _ ?_
              clear hK K
              go_wp2
              go_roundw
              all_goals first
                | exact ⟨j + 1, C7, c7, by omega, by go_num, HP, HN9, hb9⟩
                | (simp [intOf]; omega)
            · obtain rfl : v = j := by omega
              have HCS : Hid (pk ++ (List.range v).map (fun a => subP p 0 (mulP p y (pwP p x a))) = keyCs p k v (l.take (i + 1))) := Lib.hid (by
                rw [HST.out, keyCs_snoc, ← HPK.out, List.append_assoc]
                unfold keyC
                rw [HKV.out])
              have HRSE : Hid (keyRs p v (l.take (i + 1)) = keyRs p v l1 ++ [mulP p y (pwP p x v)]) := Lib.hid (by rw [HST.out]; exact keyRs_snoc p v l1 (x, y))
              have hnc2 : nc + kv + v ≤ 1024 := by
                have h1 := HK6.out.two.1.len
                rw [HCS.out, keyCs_len, List.length_take] at h1
                rw [← h1]
                have h2 : (min (i + 1) l.length) * (k + v + v) ≤ 32 * 32 := Nat.mul_le_mul (by omega) (by have := HCL.out; omega)
                exact h2
              rw [HCS.out] at HK6
              clear HK3 HN3 hs3
              go_upto_region 19 with fail
              have hlB := HK6.out.blk.lt
              have hgl := HN6.out.lt
              have hFw := Step.block hs6 HF3.out (by omega)
              have hFl := hFw.lt
              have hS3 : wr.cell? ⟨B, 4, none⟩ = some (.slice D (i) cd) := (HK6.out.blk.cell 4).trans rfl
              have hSx : wr.cell? ⟨g, 0, none⟩ = some (.int .i64 x) := (HN6.out.cell 0).trans rfl
              have hSy : wr.cell? ⟨g, 1, none⟩ = some (.int .i64 y) := (HN6.out.cell 1).trans rfl
              have hSp : wr.cell? ⟨w.heap.size, 0, none⟩ = some (.int .i64 p) := (hFw.cell 0).trans rfl
              have hpz : ¬ p = 0 := by omega
              have hH0d : wr.drew.cell? ⟨w.heap.size, 0, none⟩ = some (.int .i64 p) ∧ wr.drew.cell? ⟨g, 0, none⟩ = some (.int .i64 x) ∧ wr.drew.cell? ⟨g, 1, none⟩ = some (.int .i64 y) ∧ wr.drew.cell? ⟨B, 4, none⟩ = some (.slice D (i) cd) := ⟨hSp, hSx, hSy, hS3⟩
              refine wp_region_M (S := fun w' => w'.cell? ⟨w.heap.size, 0, none⟩ = some (.int .i64 p) ∧ w'.cell? ⟨g, 0, none⟩ = some (.int .i64 x) ∧ w'.cell? ⟨g, 1, none⟩ = some (.int .i64 y) ∧ w'.cell? ⟨B, 4, none⟩ = some (.slice D (i) cd)) (n := 16) (by kernel_rfl) hH0d (fun inv hS => ?_)
              refine wpM_take (i := 0) (v := ?v24) rfl (by kernel_rfl) (by kernel_rfl) (by kernel_rfl) (fun _ _ _ h => h) (by kernel_rfl) (by kernel_rfl) (of_decide_eq_true (by kernel_rfl)) (by decide) inv (Or.inl ⟨by rfl, ?hy24⟩) hS ?rest24
              case hy24 => (intro w' hSw; (try dsimp only at hSw); go_simp; try with_reducible rfl)
              clear inv
              intro inv
              (try simp only [Act.put, List.setIfInBounds_toArray, List.set_cons_zero, List.set_cons_succ])
              refine wpM_take (i := 1) (v := ?v25) rfl (by kernel_rfl) (by kernel_rfl) (by kernel_rfl) (fun _ _ _ h => h) (by kernel_rfl) (by kernel_rfl) (of_decide_eq_true (by kernel_rfl)) (by decide) inv (Or.inl ⟨by rfl, ?hy25⟩) hS ?rest25
              case hy25 => (intro w' hSw; (try dsimp only at hSw); go_simp; try with_reducible rfl)
              clear inv
              intro inv
              (try simp only [Act.put, List.setIfInBounds_toArray, List.set_cons_zero, List.set_cons_succ])
              refine wpM_take (i := 2) (v := ?v26) rfl (by kernel_rfl) (by kernel_rfl) (by kernel_rfl) (fun _ _ _ h => h) (by kernel_rfl) (by kernel_rfl) (of_decide_eq_true (by kernel_rfl)) (by decide) inv (Or.inl ⟨by rfl, ?hy26⟩) hS ?rest26
              case hy26 => (intro w' hSw; (try dsimp only at hSw); go_simp; try with_reducible rfl)
              clear inv
              intro inv
              (try simp only [Act.put, List.setIfInBounds_toArray, List.set_cons_zero, List.set_cons_succ])
              refine wpM_take (i := 3) (v := ?v27) rfl (by kernel_rfl) (by kernel_rfl) (by kernel_rfl) (fun _ _ _ h => h) (by kernel_rfl) (by kernel_rfl) (of_decide_eq_true (by kernel_rfl)) (by decide) inv (Or.inl ⟨by rfl, ?hy27⟩) hS ?rest27
              case hy27 => (intro w' hSw; (try dsimp only at hSw); go_simp; try with_reducible rfl)
              clear inv
              intro inv
              (try simp only [Act.put, List.setIfInBounds_toArray, List.set_cons_zero, List.set_cons_succ])
              refine wpM_take (i := 4) (v := ?v28) rfl (by kernel_rfl) (by kernel_rfl) (by kernel_rfl) (fun _ _ _ h => h) (by kernel_rfl) (by kernel_rfl) (of_decide_eq_true (by kernel_rfl)) (by decide) inv (Or.inl ⟨by rfl, ?hy28⟩) hS ?rest28
              case hy28 => (intro w' hSw; (try dsimp only at hSw); go_simp; try with_reducible rfl)
              clear inv
              intro inv
              (try simp only [Act.put, List.setIfInBounds_toArray, List.set_cons_zero, List.set_cons_succ])
              refine wpM_take (i := 5) (v := ?v29) rfl (by kernel_rfl) (by kernel_rfl) (by kernel_rfl) (fun _ _ _ h => h) (by kernel_rfl) (by kernel_rfl) (of_decide_eq_true (by kernel_rfl)) (by decide) inv (Or.inl ⟨by rfl, ?hy29⟩) hS ?rest29
              case hy29 => (intro w' hSw; (try dsimp only at hSw); go_simp; try with_reducible rfl)
              clear inv
              intro inv
              (try simp only [Act.put, List.setIfInBounds_toArray, List.set_cons_zero, List.set_cons_succ])
              refine wpM_take (i := 6) (v := ?v30) rfl (by kernel_rfl) (by kernel_rfl) (by kernel_rfl) (fun _ _ _ h => h) (by kernel_rfl) (by kernel_rfl) (of_decide_eq_true (by kernel_rfl)) (by decide) inv (Or.inl ⟨by rfl, ?hy30⟩) hS ?rest30
              case hy30 => (intro w' hSw; (try dsimp only at hSw); go_simp; try with_reducible rfl)
              clear inv
              intro inv
              (try simp only [Act.put, List.setIfInBounds_toArray, List.set_cons_zero, List.set_cons_succ])
              refine wpM_take (i := 7) (v := ?v31) rfl (by kernel_rfl) (by kernel_rfl) (by kernel_rfl) (fun _ _ _ h => h) (by kernel_rfl) (by kernel_rfl) (of_decide_eq_true (by kernel_rfl)) (by decide) inv (Or.inl ⟨by rfl, ?hy31⟩) hS ?rest31
              case hy31 => (intro w' hSw; (try dsimp only at hSw); go_simp; try with_reducible rfl)
              clear inv
              intro inv
              (try simp only [Act.put, List.setIfInBounds_toArray, List.set_cons_zero, List.set_cons_succ])
              refine wpM_take (i := 10) (v := ?v32) rfl (by kernel_rfl) (by kernel_rfl) (by kernel_rfl) (fun _ _ _ h => h) (by kernel_rfl) (by kernel_rfl) (of_decide_eq_true (by kernel_rfl)) (by decide) inv (Or.inl ⟨by rfl, ?hy32⟩) hS ?rest32
              case hy32 => (intro w' hSw; (try dsimp only at hSw); go_simp; try with_reducible rfl)
              clear inv
              intro inv
              (try simp only [Act.put, List.setIfInBounds_toArray, List.set_cons_zero, List.set_cons_succ])
              refine wpM_take (i := 11) (v := ?v33) rfl (by kernel_rfl) (by kernel_rfl) (by kernel_rfl) (fun _ _ _ h => h) (by kernel_rfl) (by kernel_rfl) (of_decide_eq_true (by kernel_rfl)) (by decide) inv (Or.inl ⟨by rfl, ?hy33⟩) hS ?rest33
              case hy33 => (intro w' hSw; (try dsimp only at hSw); go_simp; try with_reducible rfl)
              clear inv
              intro inv
              (try simp only [Act.put, List.setIfInBounds_toArray, List.set_cons_zero, List.set_cons_succ])
              refine wpM_one (k := 8) rfl (by kernel_rfl) (by decide) inv (fun K hK => ?_)
              clear inv hS
              go_simp
              go_at_call 50
              refine (rpow_ok p x v _ hp hxb (by omega)).mono ?_
              rintro e w4 ⟨r, rfl, hr, HR, hb4⟩
              have hre := pw_of hp.1 hr HR.out
              have hb4' : Below wr.heap.size wr w4 := ⟨hb4.os, hb4.tape, hb4.output, hb4.size, hb4.block⟩
              have hT3 : w4.cell? ⟨B, 4, none⟩ = some (.slice D (i) cd) := (hb4'.cell (p := ⟨B, 4, none⟩) hlB).trans hS3
              have hTx : w4.cell? ⟨g, 0, none⟩ = some (.int .i64 x) := (hb4'.cell (p := ⟨g, 0, none⟩) hgl).trans hSx
              have hTy : w4.cell? ⟨g, 1, none⟩ = some (.int .i64 y) := (hb4'.cell (p := ⟨g, 1, none⟩) hgl).trans hSy
              have hTp : w4.cell? ⟨w.heap.size, 0, none⟩ = some (.int .i64 p) := (hb4'.cell (p := ⟨w.heap.size, 0, none⟩) hFl).trans hSp
              have hH4 : w4.cell? ⟨w.heap.size, 0, none⟩ = some (.int .i64 p) ∧ w4.cell? ⟨g, 0, none⟩ = some (.int .i64 x) ∧ w4.cell? ⟨g, 1, none⟩ = some (.int .i64 y) ∧ w4.cell? ⟨B, 4, none⟩ = some (.slice D (i) cd) := ⟨hTp, hTx, hTy, hT3⟩
              obtain ⟨u, hu⟩ : ∃ u, mulP p y (pwP p x v) = u := ⟨_, rfl⟩
              have hq2 : IntKind.i64.wrap (y * r) = y * r := IntWalk.i64_in _ (by
                have h1 : 0 ≤ y * r := Int.mul_nonneg (by omega) hr.1
                have h2 : y * r ≤ 65521 * 65521 := Int.mul_le_mul (by omega) (by omega) hr.1 (by omega)
                omega)
              have hq3 : (y * r).tmod p = u := by
                rw [Int.tmod_eq_emod_of_nonneg (Int.mul_nonneg (by omega) hr.1), hre, ← hu]
                rfl
              have HU := Lib.hid hu
              clear hre hu
              have HKa := Lib.hid ((HK6.out.belowAll hb4').alloc (.cells #[.int .i64 u] 3))
              have HNa := Lib.hid ((HN6.out.below hb4' hgl).alloc (.cells #[.int .i64 u] 3))
              have hba := (Step.thenBelow hs6 (hb4'.mono hs6.size)).alloc (.cells #[.int .i64 u] 3)
              have hTa : OwnI (w4.alloc (.cells #[.int .i64 u] 3)) w3.heap.size 3 D (i) cd _ := HKa.out.two.2.1
              have hRa : Ints (w4.alloc (.cells #[.int .i64 u] 3)) (w4.alloc (.cells #[.int .i64 u] 3)).heap.size (some ⟨w4.heap.size, 0, none⟩) 1 [u] := Ints.oneAt _ _ _ _ rfl
              have hla : w3.heap.size ≤ (w4.alloc (.cells #[.int .i64 u] 3)).heap.size := hba.size
              have hT3a : (w4.alloc (.cells #[.int .i64 u] 3)).cell? ⟨B, 4, none⟩ = some (.slice D (i) cd) := (HKa.out.blk.cell 4).trans rfl
              have hH5 : (w4.alloc (.cells #[.int .i64 u] 3)).cell? ⟨w.heap.size, 0, none⟩ = some (.int .i64 p) ∧ (w4.alloc (.cells #[.int .i64 u] 3)).cell? ⟨g, 0, none⟩ = some (.int .i64 x) ∧ (w4.alloc (.cells #[.int .i64 u] 3)).cell? ⟨g, 1, none⟩ = some (.int .i64 y) ∧ (w4.alloc (.cells #[.int .i64 u] 3)).cell? ⟨B, 4, none⟩ = some (.slice D (i) cd) := ⟨((Step.block hba HF3.out (by omega)).cell 0).trans rfl, (HNa.out.cell 0).trans rfl, (HNa.out.cell 1).trans rfl, hT3a⟩
              clear hb4 HR
              (try dsimp only)
              refine hK.out _ _ hH4 (fun inv hS => ?_)
              clear hK K
              (try simp only [Act.put, List.setIfInBounds_toArray, List.set_cons_zero, List.set_cons_succ])
              refine wpM_take (i := 9) (v := ?v34) rfl (by kernel_rfl) (by kernel_rfl) (by kernel_rfl) (fun _ _ _ h => h) (by kernel_rfl) (by kernel_rfl) (of_decide_eq_true (by kernel_rfl)) (by decide) inv (Or.inl ⟨by rfl, ?hy34⟩) hS ?rest34
              case hy34 => (intro w' hSw; (try dsimp only at hSw); go_simp; try with_reducible rfl)
              clear inv
              intro inv
              (try simp only [Act.put, List.setIfInBounds_toArray, List.set_cons_zero, List.set_cons_succ])
              refine wpM_take (i := 12) (v := ?v35) rfl (by kernel_rfl) (by kernel_rfl) (by kernel_rfl) (fun _ _ _ h => h) (by kernel_rfl) (by kernel_rfl) (of_decide_eq_true (by kernel_rfl)) (by decide) inv (Or.inl ⟨by rfl, ?hy35⟩) hS ?rest35
              case hy35 => (intro w' hSw; (try dsimp only at hSw); go_simp; try with_reducible rfl)
              clear inv
              intro inv
              (try simp only [Act.put, List.setIfInBounds_toArray, List.set_cons_zero, List.set_cons_succ])
              refine wpM_one (k := 13) rfl (by kernel_rfl) (by decide) inv (fun K hK => ?_)
              clear inv hS
              go_simp
              refine hK.out _ _ hH5 (fun inv hS => ?_)
              clear hK K
              (try simp only [Act.put, List.setIfInBounds_toArray, List.set_cons_zero, List.set_cons_succ])
              refine wpM_one (k := 14) rfl (by kernel_rfl) (by decide) inv (fun K hK => ?_)
              clear inv hS
              refine step_app (w := (w4.alloc (.cells #[.int .i64 u] 3))) rfl (.tmp 97) (.tmp 109) 22 rfl w3.heap.size 3 i0 _ Tryd.underlying22 hi0 hz0 hz1 hz2 rfl D (i) cd _ (by first | rfl | simp [Act.eval]) hTa (some ⟨w4.heap.size, 0, none⟩) 1 1 [u] (by first | rfl | simp [Act.eval]) hRa (i + 1) (by omega) (by omega) hla ?_
              intro D8 d8 w9 hown9 hgr9 hbw9 hab9
              have hpush := HKa.out.pushD hown9 hgr9 hbw9 hab9
              rw [← HU.out, ← HRSE.out] at hpush
              have HP := Lib.hid hpush.2
              have ht39 : w9.cell? ⟨B, 4, none⟩ = some (.slice D (i) cd) := (hpush.1.cell 4).trans rfl
              have hf39 := hpush.1.frozen 4
              have HN9 := Lib.hid ((HNa.out.grown hgr9 (fun e => own_blk_ne HKa.out.two.2.1 HNa.out share_ne_int.symm e.symm)).far (p := ⟨B, 4, none⟩) (by show g ≠ B; omega) (.slice D8 (i + 1) d8))
              have hb9 := (Step.thenBelow hba hbw9).set 4 (.slice D8 (i + 1) d8)
              have hF9 := Step.block (Step.thenBelow hba hbw9) HF3.out (by omega)
              have hN9' := HNa.out.grown hgr9 (fun e => own_blk_ne HKa.out.two.2.1 HNa.out share_ne_int.symm e.symm)
              have hH9 : w9.cell? ⟨w.heap.size, 0, none⟩ = some (.int .i64 p) ∧ w9.cell? ⟨g, 0, none⟩ = some (.int .i64 x) ∧ w9.cell? ⟨g, 1, none⟩ = some (.int .i64 y) ∧ w9.cell? ⟨B, 4, none⟩ = some (.slice D (i) cd) := ⟨(hF9.cell 0).trans rfl, (hN9'.cell 0).trans rfl, (hN9'.cell 1).trans rfl, ht39⟩
              clear hpush hown9 hgr9 hbw9 hab9 hF9 hN9'
              refine hK.out _ _ hH9 (fun inv hS => ?_)
              clear hK K
              (try simp only [Act.put, List.setIfInBounds_toArray, List.set_cons_zero, List.set_cons_succ])
              refine wpM_take (i := 15) (v := ?v36) rfl (by kernel_rfl) (by kernel_rfl) (by kernel_rfl) (fun _ _ _ h => h) (by kernel_rfl) (by kernel_rfl) (of_decide_eq_true (by kernel_rfl)) (by decide) inv (Or.inl ⟨by rfl, ?hy36⟩) hS ?rest36
              case hy36 => (intro w' hSw; (try dsimp only at hSw); go_simp; try with_reducible rfl)
              clear inv
              intro inv
              (try simp only [Act.put, List.setIfInBounds_toArray, List.set_cons_zero, List.set_cons_succ])
              refine wpM_last rfl (by kernel_rfl) (by kernel_rfl) (fun K hK => ?_)
              clear inv hS
              go_simp
              refine hK.out _ _ ?_
              clear hK K
              go_wp2
              go_roundw
              all_goals first
                | exact ⟨i + 1, nc + kv + v, C6, c6, D8, d8, by omega, hnc2, by go_num, HP, hb9⟩
                | (simp [intOf]; omega)
    · obtain rfl : i = N := by omega
      have HK' : Hid (KSg wr B w3.heap.size p i cl C nc cc (keyCs p k v l) D i cd (keyRs p v l)) := Lib.hid (by
        have := HK.out
        rwa [List.take_of_length_le (by rw [HN.out]; exact Nat.le_refl _)] at this)
      have hR := Step.block hs HR3.out (by omega)
      have hE := HK'.out.blk
      have hc0 : wr.cell? ⟨B, 0, none⟩ = some (.int .i64 p) := (hE.cell 0).trans rfl
      have hc1 : wr.cell? ⟨B, 1, none⟩ = some (.int .i64 i) := (hE.cell 1).trans rfl
      have hc2 : wr.cell? ⟨B, 2, none⟩ = some (.int .i64 cl) := (hE.cell 2).trans rfl
      have hc3 : wr.cell? ⟨B, 3, none⟩ = some (.slice C nc cc) := (hE.cell 3).trans rfl
      have hc4 : wr.cell? ⟨B, 4, none⟩ = some (.slice D i cd) := (hE.cell 4).trans rfl
      obtain ⟨Q, hQ⟩ : ∃ Q, w.heap.size + 1 = Q := ⟨_, rfl⟩
      have hQ3 : Q < w3.heap.size := by omega
      rw [hQ] at hR hBR ⊢
      have hz0 : wr.cell? ⟨Q, 0, none⟩ = some (.int .i64 0) := (hR.cell 0).trans rfl
      have hf0 := hR.frozen 0
      have hz1 : wr.cell? ⟨Q, 1, none⟩ = some (.int .i64 0) := (hR.cell 1).trans rfl
      have hf1 := hR.frozen 1
      have hz2 : wr.cell? ⟨Q, 2, none⟩ = some (.int .i64 0) := (hR.cell 2).trans rfl
      have hf2 := hR.frozen 2
      have hz3 : wr.cell? ⟨Q, 3, none⟩ = some (.slice none 0 0) := (hR.cell 3).trans rfl
      have hf3 := hR.frozen 3
      have hz4 : wr.cell? ⟨Q, 4, none⟩ = some (.slice none 0 0) := (hR.cell 4).trans rfl
      have hf4 := hR.frozen 4
      obtain ⟨WF, hWF⟩ : ∃ WF, (((((wr.setCell ⟨Q, 0, none⟩ (.int .i64 p)).setCell ⟨Q, 1, none⟩ (.int .i64 i)).setCell ⟨Q, 2, none⟩ (.int .i64 cl)).setCell ⟨Q, 3, none⟩ (.slice C nc cc)).setCell ⟨Q, 4, none⟩ (.slice D i cd)) = WF := ⟨_, rfl⟩
      have hFB := (((((hR.set_ 0 (.int .i64 p)).set_ 1 (.int .i64 i)).set_ 2 (.int .i64 cl)).set_ 3 (.slice C nc cc)).set_ 4 (.slice D i cd))
      have hTT := (((((HK'.out.two.stepK ((Step.refl Q _).set 0 (.int .i64 p)) (by omega)).stepK ((Step.refl Q _).set 1 (.int .i64 i)) (by omega)).stepK ((Step.refl Q _).set 2 (.int .i64 cl)) (by omega)).stepK ((Step.refl Q _).set 3 (.slice C nc cc)) (by omega)).stepK ((Step.refl Q _).set 4 (.slice D i cd)) (by omega))
      have hbw : Below w.heap.size w wr := Step.below HBB.out hs HBB.out.size (by omega)
      have hbb := (((((hbw.setCell (p := ⟨Q, 0, none⟩) (by show w.heap.size ≤ Q; omega) (.int .i64 p)).setCell (p := ⟨Q, 1, none⟩) (by show w.heap.size ≤ Q; omega) (.int .i64 i)).setCell (p := ⟨Q, 2, none⟩) (by show w.heap.size ≤ Q; omega) (.int .i64 cl)).setCell (p := ⟨Q, 3, none⟩) (by show w.heap.size ≤ Q; omega) (.slice C nc cc)).setCell (p := ⟨Q, 4, none⟩) (by show w.heap.size ≤ Q; omega) (.slice D i cd))
      rw [hWF] at hFB hTT hbb
      have hfin0 : WF.cell? ⟨Q, 0, none⟩ = some (.int .i64 p) := (hFB.cell 0).trans rfl
      have hfin1 : WF.cell? ⟨Q, 1, none⟩ = some (.int .i64 i) := (hFB.cell 1).trans rfl
      have hfin2 : WF.cell? ⟨Q, 2, none⟩ = some (.int .i64 cl) := (hFB.cell 2).trans rfl
      have hfin3 : WF.cell? ⟨Q, 3, none⟩ = some (.slice C nc cc) := (hFB.cell 3).trans rfl
      have hfin4 : WF.cell? ⟨Q, 4, none⟩ = some (.slice D i cd) := (hFB.cell 4).trans rfl
      have HTT := Lib.hid hTT
      have HBF := Lib.hid hbb
      have HWF := Lib.hid hWF
      have HCP := Lib.hid hTT.1.cap
      clear hTT hbb hWF hFB hE hR hQ HK HK' hs hbw
      go_wp2
      rw [HWF.out]
      have HPOST : KeyPost p k v l w (.returned (.tuple #[eqV p i cl C nc cc D i cd, .int .i64 0])) WF := by
        refine ⟨C, nc, cc, D, cd, by rw [HN.out, HCL.out], ⟨key_eqOk HO.out k v l (by rw [HN.out]; omega) (by have := HCL.out; omega), ?_, HTT.out.1.ints, ?_, HCP.out⟩, HBF.out⟩
        · have h1 := HTT.out.1.len
          rw [keyCs_len] at h1
          rw [← h1, show k + 2 * v = k + v + v by omega]
        · rw [HN.out]; exact HTT.out.2.1.ints
      refine bodyPost_ret (v := .tuple #[eqV p i cl C nc cc D i cd, .int .i64 0]) (by simp [results, Tryd.results23, go_sem, hfin0, hfin1, hfin2, hfin3, hfin4]) rfl HPOST
end Go.Proofs.YtnjdjcgandfnfaaDoor
