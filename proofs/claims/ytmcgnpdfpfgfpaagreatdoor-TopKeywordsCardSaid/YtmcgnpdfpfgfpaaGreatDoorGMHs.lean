/-
  Words for memory and contracts of small functions of the second form. Conditions: those of each lemma.
-/
import Derived.Test.YtmcgnpdfpfgfpaaGreatDoorGHsh
import Derived.Test.YtmcgnpdfpfgfpaaGreatDoorGSha
import Derived.Test.YtmcgnpdfpfgfpaaGreatDoorGSpl
import Derived.Test.YtmcgnpdfpfgfpaaGreatDoorGCrv
import Derived.Test.YtmcgnpdfpfgfpaaGreatDoorGEnt
import Derived.Test.YtmcgnpdfpfgfpaaGreatDoorGPlc
import Derived.Test.YtmcgnpdfpfgfpaaGreatDoorMkRows
import Derived.Deep.RegionLaw
import Derived.StillTailTactics
import Derived.Deep.DeepCutAuto
import Derived.WalkLawsBesides
/-! MHsh -/
namespace Go.Proofs.YtmcgnpdfpfgfpaaGreatDoor
open Go.RowKit
set_option linter.unusedVariables false

/-- One more share, in a region that draws its order. -/
theorem step_append_share {w : World} {ops : Array Oper} {o : Oper} {a : Act} {K : Act → World → Prop} {Q : Exit → Act → World → Prop} {E : Prop} (hgd : o.guard = none) (s x : Operand) (t : TypeId)
    (ho : o.op = .call { callee := .builtin .append, args := #[s, x], argTypes := #[t, t] })
    (ht : Tryz.prog.underlying t = some (.slice 135)) (base : Nat) (A : Option Addr) (n c : Nat) (us ys : List Int) (hs : a.eval s = .slice A n c) (hown : OwnS w base A n c us ys)
    (b : Nat) (c2 : Nat) (u y : Int) (hx : a.eval x = .slice (some ⟨b, 0, none⟩) 1 c2) (h0 : w.cell? ⟨b, 0, none⟩ = some (.int .i64 u)) (h1 : w.cell? ⟨b, 1, none⟩ = some (.int .i64 y)) (hn : n ≤ 1000000) (hbase : base ≤ w.heap.size)
    (h : ∀ A' c' w', OwnS w' base A' (n + 1) c' (us ++ [u]) (ys ++ [y]) → w.grownBy w' (Value.slice A n c).ownBlock → Below base w w' → K (a.put o.dst (.slice A' (n + 1) c')) w') :
    if Region.wanted o (yielded ops a.tmps) = true then Oper.wp Tryz.prog o a w K Q else E := by
  obtain ⟨i, hi, hz, hsize, hby⟩ := info_parts info_share
  have hl : us.length = ys.length := by rw [hown.1, hown.2.1]
  refine step_append_any w hgd s x t ho base 135 i _ 2 16 ht hi hz hsize hby rfl (by omega) (.slice A n c) n (shV us ys) hs hown.2.2 (b + 1) (some ⟨b, 0, none⟩) 1 c2 [.int .i64 u, .int .i64 y] hx
    ⟨rfl, fun _ => ⟨_, rfl, Nat.lt_succ_self b, fun j v hj => ?_⟩⟩ (fun v hv => by
      simp only [List.mem_cons, List.not_mem_nil, or_false] at hv
      rcases hv with rfl | rfl <;> rfl) (by unfold maxLen; omega) (by omega) hbase ?_
  · match j, hj with
    | 0, hj =>
      simp at hj; subst hj; exact h0
    | 1, hj =>
      simp at hj; subst hj; exact h1
    | j + 2, hj => simp at hj
  · intro v' w' hown' hg hat
    rw [← shV_snoc u y us ys hl] at hown'
    have hb : Below base w w' := (Below.refl base w).grown hg hbase (fun k hk => (World.ownsRow.lt hown.2.2 k hk).1)
    rcases hown'.2 with ⟨hv, hn0⟩ | ⟨g, cap, cur, hv, _⟩
    · omega
    · rw [hv] at hown' ⊢
      exact h _ cap w' ⟨by simp [hown.1], by simp [hown.2.1], hown'⟩ hg hb

theorem HsOk.snoc {k : Nat} {us ys : List Int} {u y : Int} (hl : us.length = k) (hl2 : ys.length = k) (h : ∀ i, i < k → (0 ≤ us.getD i 0 ∧ us.getD i 0 < 2147483647) ∧ 0 ≤ ys.getD i 0 ∧ ys.getD i 0 < 2147483647) (hu : 0 ≤ u ∧ u < 1000) (hy : 0 ≤ y ∧ y < 1000) :
    ∀ i, i < k + 1 → (0 ≤ (us ++ [u]).getD i 0 ∧ (us ++ [u]).getD i 0 < 2147483647) ∧ 0 ≤ (ys ++ [y]).getD i 0 ∧ (ys ++ [y]).getD i 0 < 2147483647 := fun i hi => by
  have key : ∀ (l : List Int) (x : Int), l.length = k → (l ++ [x]).getD i 0 = if i < k then l.getD i 0 else x := fun l x hlk => by
    rw [List.getD_eq_getElem?_getD, List.getElem?_append, hlk]
    by_cases h1 : i < k
    · rw [if_pos h1, if_pos h1, ← List.getD_eq_getElem?_getD]
    · rw [if_neg h1, if_neg h1, show i - k = 0 by omega]; rfl
  rw [key us u hl, key ys y hl2]
  by_cases h1 : i < k
  · rw [if_pos h1, if_pos h1]; exact h i h1
  · rw [if_neg h1, if_neg h1]; exact ⟨by omega, by omega⟩

/-- What the maker's Hashing leaves. -/
def MHshPost (g : Nat) (A : Option Addr) (n c : Nat) (xs : List Int) (w : World) (e : Ending) (w' : World) : Prop :=
  ∃ (nb np : Nat) (P : Option Addr) (pc : Nat) (us ys : List Int) (q' : Nat), e = .returned (.agg #[.int .i64 nb, .slice P np pc]) ∧ HsOk nb np us ys ∧ nb ≤ 8 ∧ OwnS w' w.heap.size P np pc us ys ∧ Deck w' g A n c xs q' ∧ Step g w w'

set_option maxRecDepth 100000 in
set_option maxHeartbeats 4000000 in
theorem mhsh_any (g : Nat) (A : Option Addr) (n c : Nat) (xs : List Int) (q : Nat) (w : World) (h : Deck w g A n c xs q) :
    Calls Tryz.prog 33 #[.pointer (some ⟨g, 0, none⟩)] w (MHshPost g A n c xs w) := by
  have hg := h.1.lt
  have hR0 := Blk.new w 29 #[.int .i64 0, .slice none 0 0]
  have hS0 := (Step.refl g w).alloc (.cells #[.int .i64 0, .slice none 0 0] 29)
  have hD0 := h.alloc (.cells #[.int .i64 0, .slice none 0 0] 29)
  have hb0 : w.heap.size < (w.alloc (.cells #[.int .i64 0, .slice none 0 0] 29)).heap.size := by rw [World.size_alloc]; omega
  go_enter Tryz.func33, Tryz.ntmps33
  go_upto_region 2 with (go_at_call 22
                         refine (next_any g A n c xs q 8 _ hD0 (by omega)).mono ?_
                         rintro e w1 ⟨nb', q1, rfl, hnb, _, hD1, hS1, hz1⟩
                         obtain ⟨nb, rfl⟩ : ∃ nb : Nat, nb' = (nb : Int) - 1 := ⟨(nb' + 1).toNat, by have := hnb (by omega); omega⟩
                         have hnb1 : 1 ≤ nb ∧ nb ≤ 8 := by have := hnb (by omega); omega
                         have hnbi : (1 : Int) + ((nb : Int) - 1) = (nb : Int) := by omega
                         clear hnb hz1)
  have hB1 := Blk.new w1 29 #[.int .i64 nb, .slice none 0 0]
  have hlt1 : w.heap.size < w1.heap.size := Nat.lt_of_lt_of_le hb0 (World.grownBy.size hS1)
  have hR1 := (Step.block hS1 hR0 (by omega)).alloc (.cells #[.int .i64 nb, .slice none 0 0] 29)
  have hD1a := hD1.alloc (.cells #[.int .i64 nb, .slice none 0 0] 29)
  have hS1a := (hS0.trans hS1).alloc (.cells #[.int .i64 nb, .slice none 0 0] 29)
  have hsz1 : w1.heap.size < (w1.alloc (.cells #[.int .i64 nb, .slice none 0 0] 29)).heap.size := by rw [World.size_alloc]; omega
  obtain ⟨B, hB⟩ : ∃ B, w1.heap.size = B := ⟨_, rfl⟩
  obtain ⟨w2, hw2⟩ : ∃ v, w1.alloc (.cells #[.int .i64 nb, .slice none 0 0] 29) = v := ⟨_, rfl⟩
  rw [hw2] at hB1 hR1 hD1a hS1a hsz1
  rw [hB] at hB1 hlt1 hsz1
  rw [hw2, hB]
  clear hw2 hB hR0 hS0 hD0 hD1 hS1 hb0 h
  go_upto_region 3 with (go_at_call 22
                         refine (next_any g A n c xs q1 3 _ hD1a (by omega)).mono ?_
                         rintro e w3 ⟨k', q3, rfl, hk3, _, hD3, hS3, hz3⟩
                         obtain ⟨K, rfl⟩ : ∃ K : Nat, k' = (K : Int) - 1 := ⟨(k' + 1).toNat, by have := hk3 (by omega); omega⟩
                         have hK1 : 1 ≤ K ∧ K ≤ 3 := by have := hk3 (by omega); omega
                         clear hk3 hz3)
  have hB3 := Step.block hS3 hB1 (by omega)
  have hR3 := Step.block hS3 hR1 (by omega)
  have hSS3 := hS1a.trans hS3
  have hsz3 : B < w3.heap.size := hB3.lt
  clear hB1 hR1 hD1a hS1a hsz1 hS3
  go_loopw [4] (fun v4 wz => ∃ (j k : Nat) (P : Option Addr) (pc : Nat) (us ys : List Int) (q : Nat), j + k = K ∧ v4 = .int .i64 ((j : Int) - 1) ∧ OwnS wz (B + 1) P k pc us ys ∧ Hid (∀ i, i < k → (0 ≤ us.getD i 0 ∧ us.getD i 0 < 2147483647) ∧ 0 ≤ ys.getD i 0 ∧ ys.getD i 0 < 2147483647) ∧
    Blk wz B 29 #[.int .i64 nb, .slice P k pc] ∧ Blk wz w.heap.size 29 #[.int .i64 0, .slice none 0 0] ∧ Deck wz g A n c xs q ∧ Step g w wz) (fun v4 _ => (intOf v4 + 1).toNat)
  case atStart => exact ⟨K, 0, none, 0, [], [], q3, by omega, rfl, OwnS.nil_, Lib.hid (fun i hi => absurd hi (Nat.not_lt_zero _)), hB3, hR3, hD3, hSS3⟩
  case round =>
  clear hB3 hR3 hD3 hSS3
  obtain ⟨j, k, P, pc, us, ys, q, hjk, rfl, hown, HB, hBz, hRz, hD, hS⟩ := hrel
  have hBl := hBz.lt
  by_cases hj : 0 < j
  · have hj1 : (1 : Int) ≤ (j : Int) := by omega
    have hc1 : wr.cell? ⟨B, 1, none⟩ = some (.slice P k pc) := (hBz.cell 1).trans rfl
    have hc1d : wr.drew.cell? ⟨B, 1, none⟩ = some (.slice P k pc) := hc1
    have hf1 := hBz.frozen 1
    go_upto_region 5 with fail
    refine wp_region_M (S := fun w' => w'.cell? ⟨B, 1, none⟩ = some (.slice P k pc)) (n := 10) (by kernel_rfl) hc1d (fun inv hS9 => ?_)
    refine wpM_take (i := 0) (v := ?va0) rfl (by kernel_rfl) (by kernel_rfl) (by kernel_rfl) (fun _ _ _ h => h) (by kernel_rfl) (by kernel_rfl) (of_decide_eq_true (by kernel_rfl)) (by decide) inv (Or.inl ⟨by rfl, ?hya0⟩) hS9 ?resta0
    case hya0 => (intro w' hSw; (try dsimp only at hSw); go_simp; try with_reducible rfl)
    clear inv
    intro inv
    (try simp only [Act.put, List.setIfInBounds_toArray, List.set_cons_zero, List.set_cons_succ])
    refine wpM_take (i := 1) (v := ?va1) rfl (by kernel_rfl) (by kernel_rfl) (by kernel_rfl) (fun _ _ _ h => h) (by kernel_rfl) (by kernel_rfl) (of_decide_eq_true (by kernel_rfl)) (by decide) inv (Or.inl ⟨by rfl, ?hya1⟩) hS9 ?resta1
    case hya1 => (intro w' hSw; (try dsimp only at hSw); go_simp; try with_reducible rfl)
    clear inv
    intro inv
    (try simp only [Act.put, List.setIfInBounds_toArray, List.set_cons_zero, List.set_cons_succ])
    refine wpM_take (i := 2) (v := ?va2) rfl (by kernel_rfl) (by kernel_rfl) (by kernel_rfl) (fun _ _ _ h => h) (by kernel_rfl) (by kernel_rfl) (of_decide_eq_true (by kernel_rfl)) (by decide) inv (Or.inl ⟨by rfl, ?hya2⟩) hS9 ?resta2
    case hya2 => (intro w' hSw; (try dsimp only at hSw); go_simp; try with_reducible rfl)
    clear inv
    intro inv
    (try simp only [Act.put, List.setIfInBounds_toArray, List.set_cons_zero, List.set_cons_succ])
    refine wpM_take (i := 4) (v := ?va4) rfl (by kernel_rfl) (by kernel_rfl) (by kernel_rfl) (fun _ _ _ h => h) (by kernel_rfl) (by kernel_rfl) (of_decide_eq_true (by kernel_rfl)) (by decide) inv (Or.inl ⟨by rfl, ?hya4⟩) hS9 ?resta4
    case hya4 => (intro w' hSw; (try dsimp only at hSw); go_simp; try with_reducible rfl)
    clear inv
    intro inv
    (try simp only [Act.put, List.setIfInBounds_toArray, List.set_cons_zero, List.set_cons_succ])
    refine wpM_one (k := 3) rfl (by kernel_rfl) (by decide) inv (fun K hK => ?_)
    clear inv hS9
    go_simp
    go_at_call 22
    refine (next_any g A n c xs q 1000 _ hD.drew (by omega)).mono ?_
    rintro e w4 ⟨u, q4, rfl, hu, _, hD4, hS4, hz4⟩
    have hu2 := hu (by omega)
    clear hu hz4
    have hB4 := Step.block hS4 (Blk.drew hBz) (by omega)
    have hR4 := Step.block hS4 (Blk.drew hRz) (by omega)
    have hO4 : OwnS w4 (B + 1) P k pc us ys := OwnS.step (show OwnS wr.drew (B + 1) P k pc us ys from hown) hS4 (by omega)
    have hH4 : w4.cell? ⟨B, 1, none⟩ = some (.slice P k pc) := (hB4.cell 1).trans rfl
    (try dsimp only)
    refine hK _ _ hH4 (fun inv hS9 => ?_)
    clear hK K
    (try simp only [Act.put, List.setIfInBounds_toArray, List.set_cons_zero, List.set_cons_succ])
    refine wpM_one (k := 5) rfl (by kernel_rfl) (by decide) inv (fun K hK => ?_)
    clear inv hS9
    go_simp
    go_at_call 22
    refine (next_any g A n c xs q4 1000 _ hD4 (by omega)).mono ?_
    rintro e w5 ⟨y, q5, rfl, hy, _, hD5, hS5, hz5⟩
    have hy2 := hy (by omega)
    clear hy hz5
    have hB5 := Step.block hS5 hB4 (by omega)
    have hR5 := Step.block hS5 hR4 (by omega)
    have hO5 := OwnS.step hO4 hS5 (by omega)
    have hH5 : w5.cell? ⟨B, 1, none⟩ = some (.slice P k pc) := (hB5.cell 1).trans rfl
    have hSS5 := (hS.drew.trans hS4).trans hS5
    (try dsimp only)
    refine hK _ _ hH5 (fun inv hS9 => ?_)
    clear hK K
    (try simp only [Act.put, List.setIfInBounds_toArray, List.set_cons_zero, List.set_cons_succ])
    refine wpM_one (k := 6) rfl (by kernel_rfl) (by decide) inv (fun K hK => ?_)
    clear inv hS9
    go_simp
    refine hK _ _ hH5 (fun inv hS9 => ?_)
    clear hK K
    (try simp only [Act.put, List.setIfInBounds_toArray, List.set_cons_zero, List.set_cons_succ])
    refine wpM_one (k := 7) rfl (by kernel_rfl) (by decide) inv (fun K hK => ?_)
    clear inv hS9
    go_simp
    have hB6 := hB5.alloc (.cells #[.int .i64 u, .int .i64 y] 135)
    have hH6 : (w5.alloc (.cells #[.int .i64 u, .int .i64 y] 135)).cell? ⟨B, 1, none⟩ = some (.slice P k pc) := (hB6.cell 1).trans rfl
    refine hK _ _ hH6 (fun inv hS9 => ?_)
    clear hK K
    (try simp only [Act.put, List.setIfInBounds_toArray, List.set_cons_zero, List.set_cons_succ])
    refine wpM_one (k := 8) rfl (by kernel_rfl) (by decide) inv (fun K hK => ?_)
    clear inv hS9
    have hb6 := bbox (w0 := w5) (.cells #[.int .i64 u, .int .i64 y] 135)
    have hN6 := Blk.new w5 135 #[.int .i64 u, .int .i64 y]
    have hO6 := hO5.belowAll hb6
    have hl6 : B + 1 ≤ (w5.alloc (.cells #[.int .i64 u, .int .i64 y] 135)).heap.size := hB6.lt
    refine step_append_share (w := w5.alloc (.cells #[.int .i64 u, .int .i64 y] 135)) rfl (.tmp 16) (.tmp 22) 27 rfl Tryz.underlying27 (B + 1) P k pc us ys (by first | rfl | simp [Act.eval]) hO6 w5.heap.size 1 u y (by first | rfl | simp [Act.eval]) ((hN6.cell 0).trans rfl) ((hN6.cell 1).trans rfl) (by omega) hl6 ?_
    intro P9 c9 w9 hown9 hgr9 hbw9
    have hbx := ((Below.refl (B + 1) w5).alloc hB5.lt (.cells #[.int .i64 u, .int .i64 y] 135)).trans hbw9
    have hB9 := hB5.below hbx (by omega)
    have hH9 : w9.cell? ⟨B, 1, none⟩ = some (.slice P k pc) := (hB9.cell 1).trans rfl
    have hf9 := hB9.frozen 1
    have hBn := hB9.set_ 1 (.slice P9 (k + 1) c9)
    have hS10 := (Step.refl B w9).set 1 (.slice P9 (k + 1) c9)
    have hOn := OwnS.step hown9 hS10 (by omega)
    have hRn := Step.block hS10 (hR5.below hbx (by omega)) (by omega)
    have hDn := (hD5.below hbx (by omega)).setCell (p := ⟨B, 1, none⟩) (by show g < B; omega) (.slice P9 (k + 1) c9)
    have hSn := (hSS5.thenBelow (hbx.mono (by omega))).setNew (p := ⟨B, 1, none⟩) (by show w.heap.size ≤ B; omega) (.slice P9 (k + 1) c9)
    have HBN := Lib.hid (HsOk.snoc hown.1 hown.2.1 HB.out hu2 hy2)
    refine hK _ _ hH9 (fun inv hS9 => ?_)
    clear hK K
    (try simp only [Act.put, List.setIfInBounds_toArray, List.set_cons_zero, List.set_cons_succ])
    refine wpM_take (i := 9) (v := ?vb9) rfl (by kernel_rfl) (by kernel_rfl) (by kernel_rfl) (fun _ _ _ h => h) (by kernel_rfl) (by kernel_rfl) (of_decide_eq_true (by kernel_rfl)) (by decide) inv (Or.inl ⟨by rfl, ?hyb9⟩) hS9 ?restb9
    case hyb9 => (intro w' hSw; (try dsimp only at hSw); go_simp; try with_reducible rfl)
    clear inv
    intro inv
    (try simp only [Act.put, List.setIfInBounds_toArray, List.set_cons_zero, List.set_cons_succ])
    refine wpM_last rfl (by kernel_rfl) (by kernel_rfl) (fun K hK => ?_)
    clear inv hS9
    go_simp
    refine hK _ _ ?_
    clear hK K
    obtain ⟨j1, hj2⟩ : ∃ j1 : Nat, (j : Int) - 1 = j1 := ⟨j - 1, by omega⟩
    go_wp2
    go_roundw
    case rel => exact ⟨j1, k + 1, P9, c9, us ++ [u], ys ++ [y], q5, by omega, by go_num, hOn, HBN, hBn, hRn, hDn, hSn⟩
    case measure => simp [intOf]; omega
  · have hj1 : ¬ (1 : Int) ≤ (j : Int) := by omega
    have hjK : k = K := by omega
    subst hjK
    have hc0 : wr.cell? ⟨B, 0, none⟩ = some (.int .i64 nb) := (hBz.cell 0).trans rfl
    have hc1 : wr.cell? ⟨B, 1, none⟩ = some (.slice P k pc) := (hBz.cell 1).trans rfl
    have hr0 : wr.cell? ⟨w.heap.size, 0, none⟩ = some (.int .i64 0) := (hRz.cell 0).trans rfl
    have hr1 : wr.cell? ⟨w.heap.size, 1, none⟩ = some (.slice none 0 0) := (hRz.cell 1).trans rfl
    have hg0 := hRz.frozen 0
    have hg1 := hRz.frozen 1
    go_wp2
    have hR5 := blk_two (v0 := .int .i64 nb) (v1 := .slice P k pc) hRz
    have hy0 := (hR5.cell 0).trans rfl
    have hy1 := (hR5.cell 1).trans rfl
    have hst : Step w.heap.size wr ((wr.setCell ⟨w.heap.size, 0, none⟩ (.int .i64 nb)).setCell ⟨w.heap.size, 1, none⟩ (.slice P k pc)) := ((Step.refl w.heap.size wr).set 0 _).set 1 _
    exact bodyPost_ret (v := .agg #[.int .i64 nb, .slice P k pc]) (by simp [results, Tryz.results33, go_sem, hy0, hy1]) rfl
      ⟨nb, k, P, pc, us, ys, q, rfl, ⟨by omega, by omega, fun i hi => (HB.out i hi).1, fun i hi => (HB.out i hi).2⟩, by omega, (hown.step hst (by omega)).base (by omega), (hD.setCell (p := ⟨w.heap.size, 0, none⟩) hg _).setCell (p := ⟨w.heap.size, 1, none⟩) hg _, (hS.setNew (p := ⟨w.heap.size, 0, none⟩) (Nat.le_refl _) _).setNew (p := ⟨w.heap.size, 1, none⟩) (Nat.le_refl _) _⟩
end Go.Proofs.YtmcgnpdfpfgfpaaGreatDoor

/-! RegN -/
namespace Go.Proofs.YtmcgnpdfpfgfpaaGreatDoor
open Go.RowKit
set_option linter.unusedVariables false

theorem wpM_some {P : Program} {ops : Array Oper} {Q : Exit → Act → World → Prop} {md : Region.Mode} {S : World → Prop} {n : Nat} {ks : List Nat} {f : Nat} {l : Array Bool} {a : Act} {w : World} (hr : Region.ready md ops l = ks) (hne : ks ≠ []) (inv : HeadInv md ops n l)
    (h : ∀ k ∈ ks, k < n ∧ ∃ o, ops.toList[k]? = some o ∧ ∀ K : Act → World → Prop, Shut (∀ a w, S w → (HeadInv md ops n (l.setIfInBounds k true) → S w → wpM P md ops Q S n f (l.setIfInBounds k true) a w) → K a w) →
      if Region.wanted o (yielded ops a.tmps) = true then Oper.wp P o a w K Q else K (a.put o.dst undef) w) : wpM P md ops Q S n (f + 1) l a w := by
  refine .inr ⟨by rw [hr]; exact hne, fun j hj => ?_⟩
  have hj2 : j ∈ ks := by rw [← hr]; exact hj
  obtain ⟨hjn, o, ho, hK0⟩ := h j hj2
  have ho' : ops[j]? = some o := by simpa using ho
  exact wpOp_step ho' (fun K' hK => hK0 K' (fun a w hS hW => hK a w ⟨hS, hW (inv.set hj hjn) hS⟩))

theorem step_make_full {P : Program} {w : World} {ops : Array Oper} {o : Oper} {a : Act} {K : Act → World → Prop} {Q : Exit → Act → World → Prop} {E : Prop} (hgd : o.guard = none) (l c : Operand) (t : TypeId) (hop : o.op = Op.makeSlice t l c)
    (base : Nat) (e : TypeId) (i : TypeInfo) (z : Value) (size : Nat) (h1 : P.underlying t = some (.slice e)) (h2 : P.info? e = some i) (h3 : i.zero = some z) (h4 : i.size = size)
    (kl kc : IntKind) (n : Nat) (hl : a.eval l = .int kl (n : Int)) (hc : a.eval c = .int kc (n : Int)) (b2 : i.bytes * n ≤ 281474976710656) (b3 : n ≤ maxLen) (b4 : base ≤ w.heap.size)
    (hK : ∀ w', w'.ownsRow base e size (.slice (some ⟨w.heap.size, 0, none⟩) n n) n (madeCells z.cells (n * size)).toList → Below w.heap.size w w' → K (a.put o.dst (.slice (some ⟨w.heap.size, 0, none⟩) n n)) w') :
    if Region.wanted o (yielded ops a.tmps) = true then Oper.wp P o a w K Q else E := by
  have hw : Region.wanted o (yielded ops a.tmps) = true := by simp [Region.wanted, hgd]
  rw [if_pos hw]
  obtain ⟨w', hrun, r1, r2⟩ := run_make_full (P := P) w base t e i z size h1 h2 h3 h4 kl kc n b2 b3 b4
  unfold Oper.wp
  simp [execOp, hop, hl, hc, hrun, Result.andThen]
  exact hK w' r1 ((Below.refl w.heap.size w).grown r2 (Nat.le_refl _) (fun k hk => by cases hk))

theorem Sh.readsN {w : World} {B n : Nat} {A : Option Addr} {us ys : List Int} (h : Sh w B A n us ys) : Reads w B 2 A n (shV us ys) := by
  have hl : us.length = ys.length := by rw [h.1, h.2.1]
  refine ⟨by rw [shV_len us ys hl, h.1], fun hn => ?_⟩
  obtain ⟨b, off, rfl, hb, hc⟩ := h.2.2 hn
  refine ⟨_, rfl, hb, fun j u hu => ?_⟩
  have hj : j < n * 2 := by
    have := (List.getElem?_eq_some_iff.1 hu).1
    rw [shV_len us ys hl, h.1] at this; exact this
  have ha : (⟨b, off, none⟩ : Addr).add j = ⟨b, off + j, none⟩ := by unfold Addr.add; split <;> simp_all
  rw [ha]
  obtain ⟨q, hq | hq⟩ : ∃ q, j = q * 2 ∨ j = q * 2 + 1 := ⟨j / 2, by omega⟩
  · subst hq
    have h1 := (shV_at us ys hl q (by rw [h.1]; omega)).1
    rw [h1] at hu
    rw [← hu]; exact (hc q (by omega)).1
  · subst hq
    have h1 := (shV_at us ys hl q (by rw [h.1]; omega)).2
    rw [h1] at hu
    rw [← hu]; exact (hc q (by omega)).2
/-- A copy of shares, made by an append to nothing. -/
theorem step_copy_shares {w : World} {ops : Array Oper} {o : Oper} {a : Act} {K : Act → World → Prop} {Q : Exit → Act → World → Prop} {E : Prop} (hgd : o.guard = none) (s x : Operand) (t : TypeId)
    (ho : o.op = .call { callee := .builtin .append, args := #[s, x], argTypes := #[t, t] })
    (ht : Tryz.prog.underlying t = some (.slice 135)) (base : Nat) (P : Option Addr) (np pc : Nat) (us ys : List Int) (hs : a.eval s = .slice none 0 0) (hx : a.eval x = .slice P np pc) (hSh : Sh w w.heap.size P np us ys) (hn1 : 1 ≤ np) (hn : np ≤ 1000) (hbase : base ≤ w.heap.size)
    (h : ∀ A' c' w', OwnS w' base A' np c' us ys → Below w.heap.size w w' → K (a.put o.dst (.slice A' np c')) w') :
    if Region.wanted o (yielded ops a.tmps) = true then Oper.wp Tryz.prog o a w K Q else E := by
  obtain ⟨i, hi, hz, hsize, hby⟩ := info_parts info_share
  refine step_append_any w hgd s x t ho base 135 i _ 2 16 ht hi hz hsize hby rfl (by omega) (.slice none 0 0) 0 [] hs (World.ownsRow_nil _ _ _ _) w.heap.size P np pc (shV us ys) hx hSh.readsN (shV_one us ys) (by unfold maxLen; omega) (by omega) hbase ?_
  intro v' w' hown' hg hat
  rw [List.nil_append, Nat.zero_add] at hown'
  have hb : Below w.heap.size w w' := (Below.refl w.heap.size w).grown hg (Nat.le_refl _) (fun k hk => by cases hk)
  rcases hown'.2 with ⟨hv, hn0⟩ | ⟨g, cap, cur, hv, _⟩
  · omega
  · rw [hv] at hown' ⊢
    exact h _ cap w' ⟨hSh.1, hSh.2.1, hown'⟩ hb
end Go.Proofs.YtmcgnpdfpfgfpaaGreatDoor

/-! Bld1 -/
namespace Go.Proofs.YtmcgnpdfpfgfpaaGreatDoor
open Go.RowKit
set_option linter.unusedVariables false

theorem Ents.below {w w' : World} {lo B n : Nat} {A : Option Addr} {es : List (ByteArray × Int)} (h : Ents w lo B A n es) (hb : Below B w w') : Ents w' lo B A n es := RowV.below h hb
theorem Ents.upto {w w' : World} {lo n : Nat} {A : Option Addr} {es : List (ByteArray × Int)} (h : Ents w lo w.heap.size A n es) (hb : Below w.heap.size w w') : Ents w' lo w'.heap.size A n es := RowV.upto h hb
theorem OwnE.belowAll {w w' : World} {base n c : Nat} {A : Option Addr} {es : List (ByteArray × Int)} (h : OwnE w base A n c es) (hb : Below w.heap.size w w') : OwnE w' base A n c es := own_below h hb
theorem own_shape {w : World} {base k n c : Nat} {e : TypeId} {A : Option Addr} {vs : List Value} (h : w.ownsRow base e k (.slice A n c) n vs) : n ≤ c ∧ (0 < n → ∃ g, A = some ⟨g, 0, none⟩) := by
  rcases h.2 with ⟨hv, hn⟩ | ⟨g, cap, cur, hv, _, _, hc, _⟩
  · injection hv with h1 h2 h3; exact ⟨by omega, fun h0 => by omega⟩
  · injection hv with h1 h2 h3; exact ⟨by omega, fun _ => ⟨g, h1⟩⟩
theorem info_rowE : (Tryz.prog.info? 33).map (fun i => (i.zero, i.size, i.bytes)) = some (some (.slice none 0 0), 1, 24) := by kernel_rfl
theorem valid20_ok (s : ByteArray) (v : Int) (w : World) (h : okE (s, v)) :
    Calls Tryz.prog 73 #[.agg #[.string s, .int .i64 v]] w fun e w' => e = .returned (.bool true) ∧ Below w.heap.size w w' := by
  obtain ⟨h1, h2, h3, h4⟩ := h
  have h3 : 0 ≤ v := h3
  have h4 : v < 2147483647 := h4
  go_enter Tryz.func73, Tryz.ntmps73
  go_wp2_with (go_at_call 106; refine (key20_ok s _ h1 h2).mono ?_; rintro e w2 ⟨rfl, rfl⟩)
  go_ret
  exact ⟨rfl, bbox _⟩

theorem blk_four {w1 : World} {g : Nat} {t : TypeId} {u0 u1 u2 u3 v0 v1 v2 v3 : Value} (h : Blk w1 g t #[u0, u1, u2, u3]) : Blk ((((w1.setCell ⟨g, 0, none⟩ v0).setCell ⟨g, 1, none⟩ v1).setCell ⟨g, 2, none⟩ v2).setCell ⟨g, 3, none⟩ v3) g t #[v0, v1, v2, v3] := by
  have := (((h.set_ 0 v0).set_ 1 v1).set_ 2 v2).set_ 3 v3
  simpa using this
/-- What a directory's parts are in memory. -/
def DirW (w : World) (lo nb np : Nat) (P : Option Addr) (pc : Nat) (us ys : List Int) (slots : Nat) (A : Option Addr) (E : List (List (ByteArray × Int))) : Prop :=
  OwnS w lo P np pc us ys ∧ MatV w lo w.heap.size 2 A nb (E.map entC) ∧ DirOk nb (us.zip ys) slots E
theorem types_dir : (135 : TypeId) ≠ 32 ∧ (33 : TypeId) ≠ 32 ∧ (33 : TypeId) ≠ 39 ∧ (39 : TypeId) ≠ 32 := by decide +kernel
theorem own_ne2 {w : World} {b1 b2 s1 s2 n1 n2 c1 c2 : Nat} {e1 e2 : TypeId} {A1 A2 : Option Addr} {xs ys : List Value} (h1 : w.ownsRow b1 e1 s1 (.slice A1 n1 c1) n1 xs) (h2 : w.ownsRow b2 e2 s2 (.slice A2 n2 c2) n2 ys) (hne : e1 ≠ e2) : (Value.slice A1 n1 c1).ownBlock = none ∨ (Value.slice A1 n1 c1).ownBlock ≠ (Value.slice A2 n2 c2).ownBlock := by
  rcases own_at0 h1 with r1 | ⟨g1, r1⟩
  · subst r1; exact .inl rfl
  · subst r1
    rcases own_at0 h2 with r2 | ⟨g2, r2⟩
    · subst r2; exact .inr (fun e => by cases e)
    · subst r2
      refine .inr (fun e => own_ne h1 h2 hne ?_)
      have e2 : some g1 = some g2 := e
      exact Option.some.inj e2
theorem types_ent : (135 : TypeId) ≠ 39 := by decide +kernel
theorem types_ent2 : (135 : TypeId) ≠ 33 := by decide +kernel
theorem bkt_step {nb t b : Nat} {so : List (ByteArray × Int)} {yy : List Int} {e : ByteArray × Int} (h1 : t < so.length) (h2 : t < yy.length) (hb : b < nb) (hy : yy.getD t 0 = (b : Int)) (he : entAt so t = e) :
    ((List.range nb).map fun x => entC (bkt (so.take (t + 1)) (yy.take (t + 1)) x)) = ((List.range nb).map fun x => entC (bkt (so.take t) (yy.take t) x)).set b (entC (bkt (so.take t) (yy.take t) b ++ [e])) := by
  have ha : so.take (t + 1) = so.take t ++ [e] := by rw [List.take_succ_eq_append_getElem h1, ← entAt_eq h1, he]
  have hc : yy.take (t + 1) = yy.take t ++ [(b : Int)] := by rw [take_snoc_int yy t h2, hy]
  have hl : (so.take t).length = (yy.take t).length := by rw [List.length_take, List.length_take]; omega
  apply List.ext_getElem
  · simp
  · intro i hi1 hi2
    simp only [List.length_map, List.length_range] at hi1
    rw [List.getElem_set]
    simp only [List.getElem_map, List.getElem_range, ha, hc, bkt_snoc e (b : Int) i _ _ hl]
    by_cases hbi : b = i
    · subst hbi; simp
    · have : ¬ ((b : Int) = (i : Int)) := by omega
      simp [hbi, this]
theorem step_append_ent {w : World} {ops : Array Oper} {o : Oper} {a : Act} {K : Act → World → Prop} {Q : Exit → Act → World → Prop} {E : Prop} (hgd : o.guard = none) (s x : Operand) (t : TypeId)
    (ho : o.op = .call { callee := .builtin .append, args := #[s, x], argTypes := #[t, t] })
    (ht : Tryz.prog.underlying t = some (.slice 39)) (base : Nat) (A : Option Addr) (n c : Nat) (es : List (ByteArray × Int)) (hs : a.eval s = .slice A n c) (hown : OwnE w base A n c es)
    (b : Nat) (c2 : Nat) (u : ByteArray × Int) (hx : a.eval x = .slice (some ⟨b, 0, none⟩) 1 c2) (h0 : w.cell? ⟨b, 0, none⟩ = some (.string u.1)) (h1 : w.cell? ⟨b, 1, none⟩ = some (.int .i64 u.2)) (hn : n ≤ 1000000) (hbase : base ≤ w.heap.size)
    (h : ∀ A' c' w', OwnE w' base A' (n + 1) c' (es ++ [u]) → w.grownBy w' (Value.slice A n c).ownBlock → Below base w w' → ((Value.slice A' (n + 1) c').ownBlock = (Value.slice A n c).ownBlock ∨ (Value.slice A' (n + 1) c').ownBlock = some w.heap.size) → K (a.put o.dst (.slice A' (n + 1) c')) w') :
    if Region.wanted o (yielded ops a.tmps) = true then Oper.wp Tryz.prog o a w K Q else E := by
  have hw : Region.wanted o (yielded ops a.tmps) = true := by simp [Region.wanted, hgd]
  rw [if_pos hw]
  exact wp_append_ent s x t ho ht base A n c es hs hown b c2 u hx h0 h1 hn hbase h
theorem d36_end {V w5 : World} {B D np pc nb G : Nat} {P : Option Addr} {us ys : List Int} (own : OwnS V B P np pc us ys) (mk : V.ownsRow B 33 1 (.slice (some ⟨G, 0, none⟩) nb nb) nb (List.replicate nb (.slice none 0 0)))
    (bd : Blk V D 32 #[.int .i64 0, .slice none 0 0, .int .i64 0, .slice none 0 0]) (hle : B ≤ D) (bb : Below B w5 V) (v0 v1 v2 v3 : Value) :
    Blk ((((V.setCell ⟨D, 0, none⟩ v0).setCell ⟨D, 1, none⟩ v1).setCell ⟨D, 2, none⟩ v2).setCell ⟨D, 3, none⟩ v3) D 32 #[v0, v1, v2, v3] ∧
    OwnS ((((V.setCell ⟨D, 0, none⟩ v0).setCell ⟨D, 1, none⟩ v1).setCell ⟨D, 2, none⟩ v2).setCell ⟨D, 3, none⟩ v3) B P np pc us ys ∧
    GrV ((((V.setCell ⟨D, 0, none⟩ v0).setCell ⟨D, 1, none⟩ v1).setCell ⟨D, 2, none⟩ v2).setCell ⟨D, 3, none⟩ v3) B G nb 2 33 39 (List.replicate nb (none, 0, 0)) (List.replicate nb []) ∧
    Below B w5 ((((V.setCell ⟨D, 0, none⟩ v0).setCell ⟨D, 1, none⟩ v1).setCell ⟨D, 2, none⟩ v2).setCell ⟨D, 3, none⟩ v3) := by
  have hst : Step D V ((((V.setCell ⟨D, 0, none⟩ v0).setCell ⟨D, 1, none⟩ v1).setCell ⟨D, 2, none⟩ v2).setCell ⟨D, 3, none⟩ v3) := ((((Step.refl D V).set 0 v0).set 1 v1).set 2 v2).set 3 v3
  exact ⟨blk_four bd, ⟨own.1, own.2.1, World.ownsRow.kept own.2.2 hst (.inr (own_blk_ne own.2.2 bd types_dir.1))⟩, GrV.start types_dir.2.2.1 (World.ownsRow.kept mk hst (.inr (own_blk_ne mk bd types_dir.2.1))), (((bb.setCell (p := ⟨D, 0, none⟩) hle v0).setCell (p := ⟨D, 1, none⟩) hle v1).setCell (p := ⟨D, 2, none⟩) hle v2).setCell (p := ⟨D, 3, none⟩) hle v3⟩
/-- What Build leaves. -/
def BldPost (nb np : Nat) (us ys : List Int) (slots m : Nat) (w : World) (e : Ending) (w' : World) : Prop :=
  ∃ (D : Array Value) (er : Int), e = .returned (.tuple #[.agg D, .int .i64 er]) ∧ Below w.heap.size w w' ∧ ((er = 0 ∧ ∃ (P : Option Addr) (pc : Nat) (A : Option Addr) (c : Nat) (E : List (List (ByteArray × Int))), D = #[.int .i64 nb, .slice P np pc, .int .i64 slots, .slice A nb c] ∧ DirW w' w.heap.size nb np P pc us ys slots A E) ∨ (er ≠ 0 ∧ 0 < m ∧ D = #[.int .i64 0, .slice none 0 0, .int .i64 0, .slice none 0 0]))

set_option maxRecDepth 100000 in
set_option maxHeartbeats 16000000 in
theorem build20_any (nb np : Nat) (P : Option Addr) (pc : Nat) (us ys : List Int) (slots : Nat) (L : Option Addr) (m lc : Nat) (es : List (ByteArray × Int)) (w : World) (hs : Sh w w.heap.size P np us ys) (ho : HsOk nb np us ys) (hsl : 1 ≤ slots ∧ slots ≤ 8) (hm : m ≤ 100) (hmc : m ≤ lc) (hL : Ents w 0 w.heap.size L m es) (hes : ∀ x ∈ es, okE x) :
    Calls Tryz.prog 35 #[.agg #[.int .i64 nb, .slice P np pc], .int .i64 slots, .slice L m lc] w (BldPost nb np us ys slots m w) := by
  obtain ⟨i9, hi9, hy0, hy1, hy2⟩ := info_parts info_row
  have HOK := Lib.hid ho
  have hnb := ho.hnb
  have hnp := ho.hnp
  have HES := Lib.hid hes
  have HEL := Lib.hid hL.len
  clear ho hes
  have hs1 : ¬ (slots : Int) < 1 := by omega
  have hs2 : ¬ (8 : Int) < (slots : Int) := by omega
  have hm2 : ¬ (256 : Int) < (m : Int) := by omega
  have hb0 : Below w.heap.size w (w.alloc (.cells #[.int .i64 nb, .slice P np pc] 29)) := bbox _
  have hB0 := (Blk.new w 29 #[.int .i64 nb, .slice P np pc]).alloc (.cells #[.int .i64 0, .slice none 0 0, .int .i64 0, .slice none 0 0] 32)
  have hR0 := Blk.new (w.alloc (.cells #[.int .i64 nb, .slice P np pc] 29)) 32 #[.int .i64 0, .slice none 0 0, .int .i64 0, .slice none 0 0]
  have hb1 := ballocs hb0 (.cells #[.int .i64 0, .slice none 0 0, .int .i64 0, .slice none 0 0] 32)
  rw [World.size_alloc] at hR0
  go_enter Tryz.func35, Tryz.ntmps35
  go_upto_region 1 with (fail)
  generalize hw1 : (w.alloc (.cells #[.int .i64 nb, .slice P np pc] 29)).alloc (.cells #[.int .i64 0, .slice none 0 0, .int .i64 0, .slice none 0 0] 32) = w1 at *
  clear hb0 hw1
  have hsh1 := hs.upto hb1
  have hc0 : w1.cell? ⟨w.heap.size, 0, none⟩ = some (.int .i64 nb) := (hB0.cell 0).trans rfl
  have hc1 : w1.cell? ⟨w.heap.size, 1, none⟩ = some (.slice P np pc) := (hB0.cell 1).trans rfl
  go_wp2_with (go_at_call 72
               refine (check19_ok nb np P pc us ys _ hsh1 HOK.out).mono ?_
               rintro e w2 ⟨rfl, hb2⟩
               have hB2 := hB0.below hb2 hB0.lt
               have hR2 := hR0.below hb2 hR0.lt
               have hbw2 := bnext hb1 hb2
               clear hc0 hc1 hB0 hR0 hb2 hb1 hsh1)
  have hL2 : Ents w2 0 w2.heap.size L m es := hL.upto hbw2
  have hBl : w.heap.size + 1 < w2.heap.size := hR2.lt
  go_loopw [8, 41] (fun v8 v41 wz => ∃ (i : Nat) (S : Option Addr) (sc : Nat) (so : List (ByteArray × Int)), i ≤ m ∧ v8 = .slice S i sc ∧ v41 = .int .i64 i ∧ OwnE wz w2.heap.size S i sc so ∧ Below w2.heap.size w2 wz ∧ Hid (Asc so ∧ ∀ x ∈ so, x ∈ es.take i)) (fun _ v41 _ => m - (intOf v41).toNat)
  case atStart => exact ⟨0, none, 0, [], Nat.zero_le _, rfl, rfl, OwnE.nil_, Below.refl _ _, Lib.hid ⟨Asc.nil_, fun x hx => by cases hx⟩⟩
  case round =>
  obtain ⟨i, S, sc, so, hi, rfl, rfl, hO, hbz, HA⟩ := hrel
  by_cases him : i < m
  · have himi : (i : Int) < (m : Int) := by omega
    have hi0 : (0 : Int) ≤ (i : Int) := by omega
    obtain ⟨bL, oL, rfl, _, hbL, hcs, hcv⟩ := (hL2.below hbz).at_ him
    have HE := Lib.hid (HES.out _ (entAt_mem (l := es) (j := i) (by rw [HEL.out]; exact him)))
    obtain ⟨s, hse⟩ : ∃ s, (entAt es i).1 = s := ⟨_, rfl⟩
    obtain ⟨v, hve⟩ : ∃ v, (entAt es i).2 = v := ⟨_, rfl⟩
    rw [hse] at hcs
    rw [hve] at hcv
    have HSV : Hid (entAt es i = (s, v)) := Lib.hid (by rw [← hse, ← hve])
    have HOE := Lib.hid (show okE (s, v) by rw [← HSV.out]; exact HE.out)
    clear hse hve HE
    go_upto_region 13 with (go_at_call 73
                            refine (valid20_ok s v _ HOE.out).mono ?_
                            rintro e w3 ⟨rfl, hb3⟩)
    have hN0 := (Blk.new wr 39 #[.string s, .int .i64 v]).below hb3 (by simp)
    have hbz3 := bnext hbz ((bbox (w0 := wr) (.cells #[.string s, .int .i64 v] 39)).trans (hb3.mono (by simp)))
    have hO3 := (hO.belowAll (bbox (.cells #[.string s, .int .i64 v] 39))).belowAll hb3
    have hsz0 : w2.heap.size ≤ wr.heap.size := hbz.size
    obtain ⟨b10, hb10⟩ : ∃ b, wr.heap.size = b := ⟨_, rfl⟩
    rw [hb10] at hN0 hsz0
    rw [hb10]
    have HSB : Hid (∀ z, (Value.slice S i sc).ownBlock = some z → z < b10) := Lib.hid fun z hz => by rw [← hb10]; exact (World.ownsRow.lt hO z hz).2
    clear hb3 hb10 hO hcs hcv
    have hNl := hN0.lt
    have hilc : (i : Int) ≤ (lc : Int) := by omega
    go_wp2_with fail
    go_loopw [54] (fun v54 wz => ∃ j : Nat, j ≤ i ∧ v54 = .int .i64 j ∧ Below w3.heap.size w3 wz ∧ Hid (∀ k, k < j → (entAt es k).1.toList ≠ s.toList)) (fun v54 _ => i - (intOf v54).toNat)
    case atStart => exact ⟨0, Nat.zero_le _, rfl, Below.refl _ _, Lib.hid fun k hk => absurd hk (Nat.not_lt_zero _)⟩
    case round =>
    obtain ⟨j, hj, rfl, hbj, HJ⟩ := hrel
    have hbzj := bnext hbz3 hbj
    have hNj := hN0.below hbj hNl
    by_cases hji : j < i
    · have hjii : (j : Int) < (i : Int) := by omega
      have hj0 : (0 : Int) ≤ (j : Int) := by omega
      obtain ⟨b2, o2, e2, _, hb2l, hcs, hcv⟩ := (hL2.below hbzj).at_ (show j < m by omega)
      injection e2 with e2
      injection e2 with e2 e3 _
      subst e2 e3
      obtain ⟨u, hu⟩ : ∃ u, (entAt es j).1 = u := ⟨_, rfl⟩
      have HU := Lib.hid hu
      rw [hu] at hcs
      clear hu
      have hN1 := (hNj.alloc (.cells #[.string u, .int .i64 (entAt es j).2] 39))
      have hn0 : (wr.alloc (.cells #[.string u, .int .i64 (entAt es j).2] 39)).cell? ⟨b10, 0, none⟩ = some (.string s) := (hN1.cell 0).trans rfl
      by_cases heq : u.toList = s.toList
      · have hq : (u.toList == s.toList) = true := by simpa using heq
        clear heq
        have hRz := ((hR2.below hbzj hBl).alloc (.cells #[.string u, .int .i64 (entAt es j).2] 39))
        go_upto_region 17 with fail
        obtain ⟨w7, hw7⟩ : ∃ W, wr.alloc (.cells #[.string u, .int .i64 (entAt es j).2] 39) = W := ⟨_, rfl⟩
        have hb7 : Below w2.heap.size w2 w7 := by rw [← hw7]; exact hbzj.alloc hbzj.size _
        rw [hw7] at hRz hn0
        rw [hw7]
        clear hw7
        have hy0 : w7.cell? ⟨w.heap.size + 1, 0, none⟩ = some (.int .i64 0) := (hRz.cell 0).trans rfl
        have hy1 : w7.cell? ⟨w.heap.size + 1, 1, none⟩ = some (.slice none 0 0) := (hRz.cell 1).trans rfl
        have hy2 : w7.cell? ⟨w.heap.size + 1, 2, none⟩ = some (.int .i64 0) := (hRz.cell 2).trans rfl
        have hy3 : w7.cell? ⟨w.heap.size + 1, 3, none⟩ = some (.slice none 0 0) := (hRz.cell 3).trans rfl
        have hf0 := hRz.frozen 0
        have hf1 := hRz.frozen 1
        have hf2 := hRz.frozen 2
        have hf3 := hRz.frozen 3
        go_wp2
        have hR9 := blk_four (v0 := .int .i64 0) (v1 := .slice none 0 0) (v2 := .int .i64 0) (v3 := .slice none 0 0) hRz
        have hz0 := (hR9.cell 0).trans rfl
        have hz1 := (hR9.cell 1).trans rfl
        have hz2 := (hR9.cell 2).trans rfl
        have hz3 := (hR9.cell 3).trans rfl
        exact bodyPost_ret (v := .tuple #[.agg #[.int .i64 0, .slice none 0 0, .int .i64 0, .slice none 0 0], .int .i64 7]) (by simp [results, Tryz.results35, go_sem, hz0, hz1, hz2, hz3]) rfl
          ⟨_, 7, rfl, ((((hbw2.trans (hb7.mono hbw2.size)).setCell (p := ⟨w.heap.size + 1, 0, none⟩) (Nat.le_succ _) _).setCell (p := ⟨w.heap.size + 1, 1, none⟩) (Nat.le_succ _) _).setCell (p := ⟨w.heap.size + 1, 2, none⟩) (Nat.le_succ _) _).setCell (p := ⟨w.heap.size + 1, 3, none⟩) (Nat.le_succ _) _, .inr ⟨by omega, by omega, rfl⟩⟩
      · have hq : (u.toList == s.toList) = false := by simpa using heq
        have HQ := Lib.hid heq
        clear heq
        go_wp2
        go_roundw
        case rel => exact ⟨j + 1, by omega, by go_num, hbj.alloc hbj.size _, Lib.hid fun k hk => by
          rcases Nat.lt_succ_iff_lt_or_eq.1 hk with h1 | rfl
          · exact HJ.out k h1
          · rw [HU.out]; exact HQ.out⟩
        case measure => simp [intOf]; omega
    · obtain rfl : j = i := by omega
      obtain ⟨wo, hwo⟩ : ∃ wo : World, wo = wr := ⟨_, rfl⟩
      subst hwo
      have hOj := hO3.belowAll hbj
      have HOL := Lib.hid hOj.len
      have HNE : Hid (∀ x ∈ so, x.1.toList ≠ s.toList) := Lib.hid fun x hx => by
        have h1 := HA.out.2 x hx
        obtain ⟨a, ha, rfl⟩ := List.getElem_of_mem h1
        rw [List.length_take] at ha
        rw [List.getElem_take, ← entAt_eq (by omega)]
        exact HJ.out a (by omega)
      have hn0 : wo.cell? ⟨b10, 0, none⟩ = some (.string s) := (hNj.cell 0).trans rfl
      go_wp2_with fail
      go_loopw [13] (fun v13 wz => ∃ k q : Nat, k ≤ j ∧ v13 = .int .i64 k ∧ wz = wo.drewN q ∧ Hid (∀ x, k ≤ x → x < j → Op.bytesLess s.toList (entAt so x).1.toList = true)) (fun v13 _ => (intOf v13).toNat)
      case atStart => exact ⟨j, 0, Nat.le_refl _, rfl, rfl, Lib.hid fun x h1 h2 => absurd h1 (by omega)⟩
      case round =>
      obtain ⟨k, q, hk, rfl, rfl, HK⟩ := hrel
      by_cases hup : 0 < k ∧ Op.bytesLess s.toList (entAt so (k - 1)).1.toList = true
      · obtain ⟨hk0, hgt⟩ := hup
        have hk0i : (0 : Int) < (k : Int) := by omega
        obtain ⟨k1, hk1⟩ : ∃ k1 : Nat, (k : Int) - 1 = k1 := ⟨k - 1, by omega⟩
        have hk1n : k - 1 = k1 := by omega
        rw [hk1n] at hgt
        have HGT := Lib.hid hgt
        obtain ⟨bS, oS, rfl, _, _, hcs, hcv⟩ := hOj.ents.at_ (show k1 < j by omega)
        obtain ⟨u, hu⟩ : ∃ u, (entAt so k1).1 = u := ⟨_, rfl⟩
        have HU := Lib.hid hu
        rw [hu] at hcs hgt
        have hq1 : Op.bytesLess u.toList s.toList = false := bl_asymm _ _ hgt
        have hq2 : (u.toList == s.toList) = false := by
          have := bl_ne hgt
          simp only [beq_eq_false_iff_ne, ne_eq]
          exact fun e => this e.symm
        clear hgt hu
        have hk1j : (k1 : Int) < (j : Int) := by omega
        have hk10 : (0 : Int) ≤ (k1 : Int) := by omega
        go_upto_region 20 with fail
        go_quiet (fail)
        go_wp2
        go_roundw
        case rel => exact ⟨k1, q + nq, by omega, rfl, rfl, Lib.hid fun x h1 h2 => by
          rcases Nat.eq_or_lt_of_le h1 with h3 | h3
          · subst h3; exact HGT.out
          · exact HK.out x (by omega) h2⟩
        case measure => simp [intOf]; omega
      · have HLO : Hid (k = 0 ∨ Op.bytesLess (entAt so (k - 1)).1.toList s.toList = true) := Lib.hid (by
          by_cases h0 : k = 0
          · exact .inl h0
          · refine .inr (bl_tri _ _ ?_ (fun e => ?_))
            · rcases hb : Op.bytesLess s.toList (entAt so (k - 1)).1.toList with _ | _
              · rfl
              · exact absurd ⟨by omega, hb⟩ hup
            · exact HNE.out _ (entAt_mem (l := so) (j := k - 1) (by rw [HOL.out]; omega)) e.symm)
        clear hup
        rcases Nat.eq_zero_or_pos k with hk0 | hk0
        · have hd : decide ((0 : Int) < (k : Int)) = false := by rw [hk0]; rfl
          have hd2 : decide (0 < k) = false := by rw [hk0]; rfl
          have HK0 := Lib.hid hk0
          clear hk0
          go_upto_region 20 with fail
          go_quiet (fail)
          go_upto_region 22 with fail
          obtain ⟨wd, hwd⟩ : ∃ v, (wo.drewN q).drewN nq = v := ⟨_, rfl⟩
          have hOd : OwnE wd w2.heap.size S j sc so := by rw [← hwd]; exact hOj
          have hbd : Below w2.heap.size w2 wd := by rw [← hwd]; exact below_drewN (below_drewN hbzj q) nq
          have hNd : Blk wd b10 39 #[.string s, .int .i64 v] := by rw [← hwd]; exact hNj
          rw [hwd]
          clear hwd
          have hZ := Blk.new wd 39 #[.string ⟨#[]⟩, .int .i64 0]
          have hOz := hOd.belowAll (bbox (.cells #[.string ⟨#[]⟩, .int .i64 0] 39))
          have hNz := hNd.alloc (.cells #[.string ⟨#[]⟩, .int .i64 0] 39)
          have hbz7 := hbd.alloc hbd.size (.cells #[.string ⟨#[]⟩, .int .i64 0] 39)
          have hle7 := hbz7.size
          go_upto_region 23 with (at_builtin
                                  refine wpList_append_ent rfl _ _ 33 rfl Tryz.underlying33 w2.heap.size _ j sc so rfl hOz wd.heap.size 1 (⟨#[]⟩, 0) rfl ((hZ.cell 0).trans rfl) ((hZ.cell 1).trans rfl) (by omega) hle7 ?_
                                  intro S8 c8 w8 hO8 hg8 hb8 hab8)
          obtain ⟨hcap8, hsh8⟩ := own_shape hO8
          obtain ⟨g8, rfl⟩ := hsh8 (Nat.succ_pos j)
          have HG8 : Hid (g8 ≠ b10) := Lib.hid fun e => by
            have h9 : (Value.slice (some (⟨g8, 0, none⟩ : Addr)) (j + 1) c8).ownBlock = some g8 := rfl
            rw [h9] at hab8
            rcases hab8 with h8 | h8
            · have := HSB.out g8 h8.symm
              omega
            · injection h8 with h8
              rw [World.size_alloc] at h8
              have := hNd.lt
              omega
          have hbz8 := hbz7.trans hb8
          have hN8 := hNz.grown hg8 (fun e => by
            have := HSB.out b10 e.symm
            omega)
          clear hsh8 hab8 hg8 hb8 hbz7 hOz hZ hNz hOd hNd
          have hO8d : OwnE w8.drew w2.heap.size (some ⟨g8, 0, none⟩) (j + 1) c8 (so ++ [(⟨#[]⟩, 0)]) := hO8
          have hki : (k : Int) ≤ (j : Int) := by omega
          have hkw : IntKind.i64.wrap ((k : Int) + 1) = (k : Int) + 1 := IntWalk.i64_in _ (by omega)
          have hck : ¬ c8 = k := by omega
          have hk1z : (0 : Int) ≤ (k : Int) + 1 := by omega
          have hk0z : (0 : Int) ≤ (k : Int) := by omega
          have hkj1 : (k : Int) ≤ (j : Int) + 1 := by omega
          have hTK : es.take (j + 1) = es.take j ++ [(s, v)] := by rw [List.take_succ_eq_append_getElem (by rw [HEL.out]; exact him), ← entAt_eq (by rw [HEL.out]; exact him), HSV.out]
          have HFIN := Lib.hid (show Asc (so.take k ++ (s, v) :: so.drop k) ∧ ∀ x ∈ so.take k ++ (s, v) :: so.drop k, x ∈ es.take (j + 1) from ⟨HA.out.1.insert (by rw [HOL.out]; exact hk) (s, v) HLO.out (fun x h1 h2 => HK.out x h1 (by rw [← HOL.out]; exact h2)), fun x hx => by
            rw [hTK]
            rcases mem_insert hx with h1 | h1
            · rw [h1]; simp
            · exact List.mem_append_left _ (HA.out.2 x h1)⟩)
          have HINS := Lib.hid (insert_shift so (⟨#[]⟩, 0) (s, v) k (by rw [HOL.out]; exact hk))
          clear hTK
          by_cases hc8 : c8 = k + 1
          · obtain rfl : j = k := by omega
            obtain rfl : c8 = j + 1 := hc8
            go_still_tail 7, (by kernel_rfl)
            go_upto_region 24 with (refine wpList_copy_shift rfl (.tmp 89) (.tmp 92) 33 rfl Tryz.underlying33 w2.heap.size g8 j (j + 1) j so (⟨#[]⟩, 0) hO8d hk (some ⟨g8, 0, none⟩) (some ⟨g8, j * 2, none⟩) 0 0 1 1 rfl rfl (by omega) (by omega) (fun h => absurd h (Nat.lt_irrefl _)) (fun h => absurd h (Nat.lt_irrefl _)) ?_; intro w9 r9 hO9 hS9 hb9)
            have hN9 := Step.block hS9 (Blk.drew hN8) HG8.out.symm
            have hn90 : w9.cell? ⟨b10, 0, none⟩ = some (.string s) := (hN9.cell 0).trans rfl
            have hn91 : w9.cell? ⟨b10, 1, none⟩ = some (.int .i64 v) := (hN9.cell 1).trans rfl
            obtain ⟨b9, o9, e9, _, _, hz0, hz1⟩ := hO9.ents.at_ (show j < j + 1 by omega)
            injection e9 with e9
            injection e9 with e9 e9b _
            subst e9 e9b
            rw [Nat.zero_add] at hz0 hz1
            have hfz0 := World.ownsRow.frozenAt hO9 (j * 2)
            have hfz1 := World.ownsRow.frozenAt hO9 (j * 2 + 1)
            have hO10 := hO9.stored (k := j) (show j < j + 1 by omega) (s, v)
            rw [HINS.out] at hO10
            have HO10 := Lib.hid hO10
            have hb10 := ((((below_drewN hbz8 1 : Below w2.heap.size w2 w8.drew).trans hb9).setCell (p := ⟨g8, j * 2, none⟩) (World.ownsRow.lt hO9 g8 rfl).1 (.string s)).setCell (p := ⟨g8, j * 2 + 1, none⟩) (World.ownsRow.lt hO9 g8 rfl).1 (.int .i64 v))
            clear hO10 hO9 hS9 hb9 hO8d hO8
            go_wp2
            go_roundw
            case rel => exact ⟨j + 1, _, (j + 1), _, by omega, rfl, by go_num, HO10.out, hb10, HFIN⟩
            case measure => simp [intOf]; omega
          · go_still_tail 7, (by kernel_rfl)
            go_upto_region 24 with (refine wpList_copy_shift rfl (.tmp 89) (.tmp 92) 33 rfl Tryz.underlying33 w2.heap.size g8 j c8 k so (⟨#[]⟩, 0) hO8d hk (some ⟨g8, (k + 1) * 2, none⟩) (some ⟨g8, k * 2, none⟩) (j - k) (c8 - (k + 1)) (j + 1 - k) (c8 - k) rfl rfl (by omega) (by omega) (fun _ => rfl) (fun _ => rfl) ?_; intro w9 r9 hO9 hS9 hb9)
            have hN9 := Step.block hS9 (Blk.drew hN8) HG8.out.symm
            have hn90 : w9.cell? ⟨b10, 0, none⟩ = some (.string s) := (hN9.cell 0).trans rfl
            have hn91 : w9.cell? ⟨b10, 1, none⟩ = some (.int .i64 v) := (hN9.cell 1).trans rfl
            obtain ⟨b9, o9, e9, _, _, hz0, hz1⟩ := hO9.ents.at_ (show k < j + 1 by omega)
            injection e9 with e9
            injection e9 with e9 e9b _
            subst e9 e9b
            rw [Nat.zero_add] at hz0 hz1
            have hfz0 := World.ownsRow.frozenAt hO9 (k * 2)
            have hfz1 := World.ownsRow.frozenAt hO9 (k * 2 + 1)
            have hO10 := hO9.stored (k := k) (show k < j + 1 by omega) (s, v)
            rw [HINS.out] at hO10
            have HO10 := Lib.hid hO10
            have hb10 := ((((below_drewN hbz8 1 : Below w2.heap.size w2 w8.drew).trans hb9).setCell (p := ⟨g8, k * 2, none⟩) (World.ownsRow.lt hO9 g8 rfl).1 (.string s)).setCell (p := ⟨g8, k * 2 + 1, none⟩) (World.ownsRow.lt hO9 g8 rfl).1 (.int .i64 v))
            clear hO10 hO9 hS9 hb9 hO8d hO8
            go_wp2
            go_roundw
            case rel => exact ⟨j + 1, _, c8, _, by omega, rfl, by go_num, HO10.out, hb10, HFIN⟩
            case measure => simp [intOf]; omega
        · have hk0i : (0 : Int) < (k : Int) := by omega
          obtain ⟨k1, hk1⟩ : ∃ k1 : Nat, (k : Int) - 1 = k1 := ⟨k - 1, by omega⟩
          have hk1n : k - 1 = k1 := by omega
          obtain ⟨bS, oS, rfl, _, _, hcs, hcv⟩ := hOj.ents.at_ (show k1 < j by omega)
          have hlo : Op.bytesLess (entAt so k1).1.toList s.toList = true := by
            rcases HLO.out with h0 | h0
            · omega
            · rw [hk1n] at h0; exact h0
          have HKN := Lib.hid hk1n
          clear hk1n
          obtain ⟨u, hu⟩ : ∃ u, (entAt so k1).1 = u := ⟨_, rfl⟩
          rw [hu] at hcs hlo
          clear hu
          have hk1j : (k1 : Int) < (j : Int) := by omega
          have hk10 : (0 : Int) ≤ (k1 : Int) := by omega
          go_upto_region 20 with fail
          go_quiet (fail)
          go_upto_region 22 with fail
          obtain ⟨wd, hwd⟩ : ∃ v, (wo.drewN q).drewN nq = v := ⟨_, rfl⟩
          have hOd : OwnE wd w2.heap.size (some ⟨bS, oS, none⟩) j sc so := by rw [← hwd]; exact hOj
          have hbd : Below w2.heap.size w2 wd := by rw [← hwd]; exact below_drewN (below_drewN hbzj q) nq
          have hNd : Blk wd b10 39 #[.string s, .int .i64 v] := by rw [← hwd]; exact hNj
          rw [hwd]
          clear hwd
          have hZ := Blk.new wd 39 #[.string ⟨#[]⟩, .int .i64 0]
          have hOz := hOd.belowAll (bbox (.cells #[.string ⟨#[]⟩, .int .i64 0] 39))
          have hNz := hNd.alloc (.cells #[.string ⟨#[]⟩, .int .i64 0] 39)
          have hbz7 := hbd.alloc hbd.size (.cells #[.string ⟨#[]⟩, .int .i64 0] 39)
          have hle7 := hbz7.size
          go_upto_region 23 with (at_builtin
                                  refine wpList_append_ent rfl _ _ 33 rfl Tryz.underlying33 w2.heap.size _ j sc so rfl hOz wd.heap.size 1 (⟨#[]⟩, 0) rfl ((hZ.cell 0).trans rfl) ((hZ.cell 1).trans rfl) (by omega) hle7 ?_
                                  intro S8 c8 w8 hO8 hg8 hb8 hab8)
          obtain ⟨hcap8, hsh8⟩ := own_shape hO8
          obtain ⟨g8, rfl⟩ := hsh8 (Nat.succ_pos j)
          have HG8 : Hid (g8 ≠ b10) := Lib.hid fun e => by
            have h9 : (Value.slice (some (⟨g8, 0, none⟩ : Addr)) (j + 1) c8).ownBlock = some g8 := rfl
            rw [h9] at hab8
            rcases hab8 with h8 | h8
            · have := HSB.out g8 h8.symm
              omega
            · injection h8 with h8
              rw [World.size_alloc] at h8
              have := hNd.lt
              omega
          have hbz8 := hbz7.trans hb8
          have hN8 := hNz.grown hg8 (fun e => by
            have := HSB.out b10 e.symm
            omega)
          clear hsh8 hab8 hg8 hb8 hbz7 hOz hZ hNz hOd hNd
          have hO8d : OwnE w8.drew w2.heap.size (some ⟨g8, 0, none⟩) (j + 1) c8 (so ++ [(⟨#[]⟩, 0)]) := hO8
          have hki : (k : Int) ≤ (j : Int) := by omega
          have hkw : IntKind.i64.wrap ((k : Int) + 1) = (k : Int) + 1 := IntWalk.i64_in _ (by omega)
          have hck : ¬ c8 = k := by omega
          have hk1z : (0 : Int) ≤ (k : Int) + 1 := by omega
          have hk0z : (0 : Int) ≤ (k : Int) := by omega
          have hkj1 : (k : Int) ≤ (j : Int) + 1 := by omega
          have hTK : es.take (j + 1) = es.take j ++ [(s, v)] := by rw [List.take_succ_eq_append_getElem (by rw [HEL.out]; exact him), ← entAt_eq (by rw [HEL.out]; exact him), HSV.out]
          have HFIN := Lib.hid (show Asc (so.take k ++ (s, v) :: so.drop k) ∧ ∀ x ∈ so.take k ++ (s, v) :: so.drop k, x ∈ es.take (j + 1) from ⟨HA.out.1.insert (by rw [HOL.out]; exact hk) (s, v) HLO.out (fun x h1 h2 => HK.out x h1 (by rw [← HOL.out]; exact h2)), fun x hx => by
            rw [hTK]
            rcases mem_insert hx with h1 | h1
            · rw [h1]; simp
            · exact List.mem_append_left _ (HA.out.2 x h1)⟩)
          have HINS := Lib.hid (insert_shift so (⟨#[]⟩, 0) (s, v) k (by rw [HOL.out]; exact hk))
          clear hTK
          by_cases hc8 : c8 = k + 1
          · obtain rfl : j = k := by omega
            obtain rfl : c8 = j + 1 := hc8
            go_still_tail 7, (by kernel_rfl)
            go_upto_region 24 with (refine wpList_copy_shift rfl (.tmp 89) (.tmp 92) 33 rfl Tryz.underlying33 w2.heap.size g8 j (j + 1) j so (⟨#[]⟩, 0) hO8d hk (some ⟨g8, 0, none⟩) (some ⟨g8, j * 2, none⟩) 0 0 1 1 rfl rfl (by omega) (by omega) (fun h => absurd h (Nat.lt_irrefl _)) (fun h => absurd h (Nat.lt_irrefl _)) ?_; intro w9 r9 hO9 hS9 hb9)
            have hN9 := Step.block hS9 (Blk.drew hN8) HG8.out.symm
            have hn90 : w9.cell? ⟨b10, 0, none⟩ = some (.string s) := (hN9.cell 0).trans rfl
            have hn91 : w9.cell? ⟨b10, 1, none⟩ = some (.int .i64 v) := (hN9.cell 1).trans rfl
            obtain ⟨b9, o9, e9, _, _, hz0, hz1⟩ := hO9.ents.at_ (show j < j + 1 by omega)
            injection e9 with e9
            injection e9 with e9 e9b _
            subst e9 e9b
            rw [Nat.zero_add] at hz0 hz1
            have hfz0 := World.ownsRow.frozenAt hO9 (j * 2)
            have hfz1 := World.ownsRow.frozenAt hO9 (j * 2 + 1)
            have hO10 := hO9.stored (k := j) (show j < j + 1 by omega) (s, v)
            rw [HINS.out] at hO10
            have HO10 := Lib.hid hO10
            have hb10 := ((((below_drewN hbz8 1 : Below w2.heap.size w2 w8.drew).trans hb9).setCell (p := ⟨g8, j * 2, none⟩) (World.ownsRow.lt hO9 g8 rfl).1 (.string s)).setCell (p := ⟨g8, j * 2 + 1, none⟩) (World.ownsRow.lt hO9 g8 rfl).1 (.int .i64 v))
            clear hO10 hO9 hS9 hb9 hO8d hO8
            go_wp2
            go_roundw
            case rel => exact ⟨j + 1, _, (j + 1), _, by omega, rfl, by go_num, HO10.out, hb10, HFIN⟩
            case measure => simp [intOf]; omega
          · go_still_tail 7, (by kernel_rfl)
            go_upto_region 24 with (refine wpList_copy_shift rfl (.tmp 89) (.tmp 92) 33 rfl Tryz.underlying33 w2.heap.size g8 j c8 k so (⟨#[]⟩, 0) hO8d hk (some ⟨g8, (k + 1) * 2, none⟩) (some ⟨g8, k * 2, none⟩) (j - k) (c8 - (k + 1)) (j + 1 - k) (c8 - k) rfl rfl (by omega) (by omega) (fun _ => rfl) (fun _ => rfl) ?_; intro w9 r9 hO9 hS9 hb9)
            have hN9 := Step.block hS9 (Blk.drew hN8) HG8.out.symm
            have hn90 : w9.cell? ⟨b10, 0, none⟩ = some (.string s) := (hN9.cell 0).trans rfl
            have hn91 : w9.cell? ⟨b10, 1, none⟩ = some (.int .i64 v) := (hN9.cell 1).trans rfl
            obtain ⟨b9, o9, e9, _, _, hz0, hz1⟩ := hO9.ents.at_ (show k < j + 1 by omega)
            injection e9 with e9
            injection e9 with e9 e9b _
            subst e9 e9b
            rw [Nat.zero_add] at hz0 hz1
            have hfz0 := World.ownsRow.frozenAt hO9 (k * 2)
            have hfz1 := World.ownsRow.frozenAt hO9 (k * 2 + 1)
            have hO10 := hO9.stored (k := k) (show k < j + 1 by omega) (s, v)
            rw [HINS.out] at hO10
            have HO10 := Lib.hid hO10
            have hb10 := ((((below_drewN hbz8 1 : Below w2.heap.size w2 w8.drew).trans hb9).setCell (p := ⟨g8, k * 2, none⟩) (World.ownsRow.lt hO9 g8 rfl).1 (.string s)).setCell (p := ⟨g8, k * 2 + 1, none⟩) (World.ownsRow.lt hO9 g8 rfl).1 (.int .i64 v))
            clear hO10 hO9 hS9 hb9 hO8d hO8
            go_wp2
            go_roundw
            case rel => exact ⟨j + 1, _, c8, _, by omega, rfl, by go_num, HO10.out, hb10, HFIN⟩
            case measure => simp [intOf]; omega
  · --EXIT
    obtain rfl : m = i := by omega
    have HSO := Lib.hid (show ∀ x ∈ so, okE x from fun x hx => HES.out x (List.mem_of_mem_take (HA.out.2 x hx)))
    have HAS := Lib.hid HA.out.1
    have HSL := Lib.hid hO.len
    have hsl3 := hO.len
    obtain ⟨w3, hw3⟩ : ∃ v, v = wr := ⟨_, rfl⟩
    subst hw3
    have hbw3 := hbw2.trans (hbz.mono hbw2.size)
    have hB3 := hB2.below hbz hB2.lt
    have hR3 := hR2.below hbz hR2.lt
    have hs3 := hs.upto hbw3
    obtain ⟨F, hF⟩ : ∃ F : ByteArray × Int → List Int, F = fun x => homI nb us ys (dSum x.1.data.toList) := ⟨_, rfl⟩
    have HF := Lib.hid hF
    clear hF HA hB2 hR2 hL2 HES HEL hsl3
    go_wp2_with fail
    go_loopw [14, 101] (fun v14 v101 wz => ∃ (t : Nat) (H : Option Addr) (hc : Nat), t ≤ m ∧ v14 = .slice H t hc ∧ v101 = .int .i64 t ∧ OwnM wz w3.heap.size w3.heap.size 22 H t hc ((so.take t).map F) ∧ Below w3.heap.size w3 wz) (fun _ v101 _ => m - (intOf v101).toNat)
    case atStart => exact ⟨0, none, 0, Nat.zero_le _, rfl, rfl, OwnM.nil_, Below.refl _ _⟩
    case round =>
    obtain ⟨t, H, hc, ht, rfl, rfl, hH, hb4⟩ := hrel
    have hB4 := hB3.below hb4 hB3.lt
    have hO4 := hO.belowAll hb4
    by_cases htm : t < m
    · have hti : (t : Int) < (m : Int) := by omega
      have ht0 : (0 : Int) ≤ (t : Int) := by omega
      obtain ⟨bS, oS, rfl, _, _, hcs, hcv⟩ := hO4.ents.at_ htm
      have HOE := Lib.hid (HSO.out _ (entAt_mem (l := so) (j := t) (by rw [HSL.out]; exact htm)))
      have HTK : Hid ((so.take (t + 1)).map F = (so.take t).map F ++ [F (entAt so t)]) := Lib.hid (by rw [List.take_succ_eq_append_getElem (by rw [HSL.out]; exact htm), List.map_append, entAt_eq (by rw [HSL.out]; exact htm)]; rfl)
      obtain ⟨s, hse⟩ : ∃ s, (entAt so t).1 = s := ⟨_, rfl⟩
      obtain ⟨v, hve⟩ : ∃ v, (entAt so t).2 = v := ⟨_, rfl⟩
      have HRW : Hid (F (entAt so t) = homI nb us ys (dSum s.data.toList)) := Lib.hid (by rw [HF.out, ← hse])
      have hs12 : 1 ≤ s.size ∧ s.size ≤ 32 := by rw [← hse]; exact ⟨HOE.out.1, HOE.out.2.1⟩
      obtain ⟨hsz1, hsz2⟩ := hs12
      rw [hse] at hcs
      rw [hve] at hcv
      clear hse hve
      have hb5 := hb4.alloc hb4.size (.cells #[.string s, .int .i64 v] 39)
      have hB5 := hB4.alloc (.cells #[.string s, .int .i64 v] 39)
      have hN5 := Blk.new wr 39 #[.string s, .int .i64 v]
      have hs5 := hs3.upto hb5
      have hH5 := hH.belowAll (bbox (.cells #[.string s, .int .i64 v] 39))
      have hc50 : (wr.alloc (.cells #[.string s, .int .i64 v] 39)).cell? ⟨w.heap.size, 0, none⟩ = some (.int .i64 nb) := (hB5.cell 0).trans rfl
      have hc51 : (wr.alloc (.cells #[.string s, .int .i64 v] 39)).cell? ⟨w.heap.size, 1, none⟩ = some (.slice P np pc) := (hB5.cell 1).trans rfl
      have hne5 : ∀ k, (Value.slice H t hc).ownBlock = some k → k < (wr.alloc (.cells #[.string s, .int .i64 v] 39)).heap.size := fun k hk => (hH5.row k hk).2
      have HNE5 := Lib.hid hne5
      clear hne5
      go_wp2_with (first
        | (go_at_call 74
           refine (homes20_ok nb np P pc us ys _ hs5 HOK.out s hsz1 hsz2).mono ?_
           rintro e w6 ⟨A6, c6, rfl, hA6, hb6⟩
           have hH6 := hH5.belowAll hb6
           have hb7 := bnext hb5 hb6
           have hI7 := hA6.ints.upto (bbox (.cells #[.slice A6 np c6] 22))
           have hH7 := hH6.belowAll (bbox (.cells #[.slice A6 np c6] 22))
           have hN7 := Blk.new w6 22 #[.slice A6 np c6]
           have hb7a := hb7.alloc hb7.size (.cells #[.slice A6 np c6] 22)
           have hle7 := hb7a.size
           have HLO : Hid (Lo w3.heap.size A6 np) := Lib.hid fun h0 b off sp e => by
             obtain ⟨g6, e6, h1, _⟩ := hA6.form h0
             rw [e] at e6
             injection e6 with e6
             injection e6 with e6 _ _
             have := hb5.size
             omega
           have HAP : Hid (0 < np → ∀ b off sp, A6 = some ⟨b, off, sp⟩ → (Value.slice H t hc).ownBlock ≠ some b) := Lib.hid fun h0 b off sp e e2 => by
             obtain ⟨g6, e6, h1, _⟩ := hA6.form h0
             rw [e] at e6
             injection e6 with e6
             injection e6 with e6 _ _
             have := HNE5.out b e2
             omega)
        | (at_builtin
           refine wpList_append_row rfl _ _ 45 rfl w3.heap.size w3.heap.size 22 i9 _ Tryz.underlying45 hi9 hy0 hy1 hy2 rfl H t hc _ rfl hH7 w6.heap.size 1 A6 np c6 _ rfl ((hN7.cell 0).trans rfl) (by rw [World.size_alloc]; omega) (by omega) hI7 HLO.out HAP.out (t + 1) rfl (by omega) hle7 ?_
           intro H8 c8 w8 hH8 hg8 hb8))
      go_roundw
      case rel => exact ⟨t + 1, H8, c8, by omega, rfl, by go_num, by rw [HTK.out, HRW.out]; exact hH8, hb7a.trans hb8⟩
      case measure => simp [intOf]; omega
    · obtain rfl : m = t := by omega
      have HTA : Hid ((so.take m).map F = so.map F) := Lib.hid (by rw [List.take_of_length_le (by rw [HSL.out]; exact Nat.le_refl _)])
      rw [HTA.out] at hH
      have hHc : m ≤ hc := by obtain ⟨_, vs, hv, _⟩ := hH; exact (own_shape hv).1
      obtain ⟨w4, hw4⟩ : ∃ v, v = wr := ⟨_, rfl⟩
      subst hw4
      have hbw4 := hbw3.trans (hb4.mono hbw3.size)
      have hR4 := hR3.below hb4 hR3.lt
      have hM4 : Mat w4 0 w4.heap.size H m (so.map F) := (hH.mat (Nat.le_refl _)).low (Nat.zero_le _)
      have HHV : Hid (∀ j, j < m → ∀ x ∈ (so.map F).getD j [], ∃ c : Nat, x = (c : Int) ∧ c < nb) := Lib.hid fun j hj x hx => by
        rw [List.getD_eq_getElem?_getD, List.getElem?_map, List.getElem?_eq_getElem (by rw [HSL.out]; exact hj)] at hx
        simp only [Option.map_some, Option.getD_some, HF.out] at hx
        exact homI_bd (by omega) x hx
      have HNO : Hid (m = 0 → ∃ φ, PlcL (so.map F) nb slots (fun _ => 0) φ) := Lib.hid fun h0 => ⟨fun _ => 0, by
        have hso : so = [] := List.eq_nil_of_length_eq_zero (by rw [HSL.out]; exact h0)
        subst hso
        exact ⟨fun i _ hi => absurd hi (Nat.not_lt_zero _), fun b hb => by simp⟩⟩
      have hc40 : w4.cell? ⟨w.heap.size, 0, none⟩ = some (.int .i64 nb) := (hB4.cell 0).trans rfl
      have HFST := Lib.hid (first19_any (so.map F) nb slots m H hc w4 (by omega) (by omega) (by omega) hHc hM4 HHV.out)
      have HLM : Hid ((so.map F).length = m) := Lib.hid (by rw [List.length_map, HSL.out])
      go_upto_region 34 with (go_at_call 75
                              refine (HFST.out).mono ?_
                              rintro e w5 ⟨hor, hb5⟩
                              rw [HLM.out] at hor
                              rcases hor with ⟨A5, c5, yy, rfl, hA5, hyy, hyc⟩ | ⟨rfl, hno⟩)
      · have hbw5 := bnext hbw4 hb5
        have hB5 := hB4.below hb5 hB4.lt
        have hR5 := hR4.below hb5 hR4.lt
        have hO5 := (hO.belowAll hb4).belowAll hb5
        have hs5 := hs.upto hbw5
        have HYY := Lib.hid hyy
        have HYC := Lib.hid hyc
        obtain ⟨iE, hiE, hE0, hE1, hE2⟩ := info_parts info_rowE
        have hnp1 : 1 ≤ np := hnp.1
        have hnp2 : np ≤ 1000 := by omega
        have hsd : Sh w5.drew w5.drew.heap.size P np us ys := hs5
        have hled : w5.heap.size ≤ w5.drew.heap.size := Nat.le_refl _
        have hbbd : Below w5.heap.size w5 w5.drew := (Below.refl _ _).drew
        have hhbd : Blk w5.drew w.heap.size 29 #[.int .i64 nb, .slice P np pc] := hB5
        have hSd : w5.drew.cell? ⟨w.heap.size, 0, none⟩ = some (.int .i64 nb) ∧ w5.drew.cell? ⟨w.heap.size, 1, none⟩ = some (.slice P np pc) := ⟨(hhbd.cell 0).trans rfl, (hhbd.cell 1).trans rfl⟩
        clear hyy hyc hO hM4 hH hB4 hR4 hB3 hR3
        go_upto_region 36 with fail
        go_cut [21] (fun v21 wz => ∃ (D : Nat) (P2 : Option Addr) (pc2 gE : Nat), v21 = .pointer (some ⟨D, 0, none⟩) ∧ Blk wz D 32 #[.int .i64 nb, .slice P2 np pc2, .int .i64 slots, .slice (some ⟨gE, 0, none⟩) nb nb] ∧ OwnS wz w5.heap.size P2 np pc2 us ys ∧ GrV wz w5.heap.size gE nb 2 33 39 (List.replicate nb (none, 0, 0)) (List.replicate nb []) ∧ w5.heap.size ≤ D ∧ Below w5.heap.size w5 wz)
        case first =>
          refine wp_region_M (S := fun w' => w'.cell? ⟨w.heap.size, 0, none⟩ = some (.int .i64 nb) ∧ w'.cell? ⟨w.heap.size, 1, none⟩ = some (.slice P np pc)) (n := 12) (by kernel_rfl) hSd (fun inv hS9 => ?_)
          refine wpM_take (i := 0) (v := ?vt0_1) rfl (by kernel_rfl) (by kernel_rfl) (by kernel_rfl) (fun _ _ _ h => h) (by kernel_rfl) (by kernel_rfl) (of_decide_eq_true (by kernel_rfl)) (by decide) inv (Or.inl ⟨by rfl, ?hyt0_1⟩) hS9 ?restt0_1
          case hyt0_1 => (intro w' hSw; (try dsimp only at hSw); obtain ⟨hSa, hSb⟩ := hSw; go_simp; try with_reducible rfl)
          clear inv
          intro inv
          (try simp only [Act.put, List.setIfInBounds_toArray, List.set_cons_zero, List.set_cons_succ])
          refine wpM_take (i := 1) (v := ?vt1_2) rfl (by kernel_rfl) (by kernel_rfl) (by kernel_rfl) (fun _ _ _ h => h) (by kernel_rfl) (by kernel_rfl) (of_decide_eq_true (by kernel_rfl)) (by decide) inv (Or.inl ⟨by rfl, ?hyt1_2⟩) hS9 ?restt1_2
          case hyt1_2 => (intro w' hSw; (try dsimp only at hSw); obtain ⟨hSa, hSb⟩ := hSw; go_simp; try with_reducible rfl)
          clear inv
          intro inv
          (try simp only [Act.put, List.setIfInBounds_toArray, List.set_cons_zero, List.set_cons_succ])
          refine wpM_take (i := 2) (v := ?vt2_3) rfl (by kernel_rfl) (by kernel_rfl) (by kernel_rfl) (fun _ _ _ h => h) (by kernel_rfl) (by kernel_rfl) (of_decide_eq_true (by kernel_rfl)) (by decide) inv (Or.inl ⟨by rfl, ?hyt2_3⟩) hS9 ?restt2_3
          case hyt2_3 => (intro w' hSw; (try dsimp only at hSw); obtain ⟨hSa, hSb⟩ := hSw; go_simp; try with_reducible rfl)
          clear inv
          intro inv
          (try simp only [Act.put, List.setIfInBounds_toArray, List.set_cons_zero, List.set_cons_succ])
          refine wpM_take (i := 3) (v := ?vt3_4) rfl (by kernel_rfl) (by kernel_rfl) (by kernel_rfl) (fun _ _ _ h => h) (by kernel_rfl) (by kernel_rfl) (of_decide_eq_true (by kernel_rfl)) (by decide) inv (Or.inl ⟨by rfl, ?hyt3_4⟩) hS9 ?restt3_4
          case hyt3_4 => (intro w' hSw; (try dsimp only at hSw); obtain ⟨hSa, hSb⟩ := hSw; go_simp; try with_reducible rfl)
          clear inv
          intro inv
          (try simp only [Act.put, List.setIfInBounds_toArray, List.set_cons_zero, List.set_cons_succ])
          refine wpM_take (i := 6) (v := ?vt6_5) rfl (by kernel_rfl) (by kernel_rfl) (by kernel_rfl) (fun _ _ _ h => h) (by kernel_rfl) (by kernel_rfl) (of_decide_eq_true (by kernel_rfl)) (by decide) inv (Or.inl ⟨by rfl, ?hyt6_5⟩) hS9 ?restt6_5
          case hyt6_5 => (intro w' hSw; (try dsimp only at hSw); obtain ⟨hSa, hSb⟩ := hSw; go_simp; try with_reducible rfl)
          clear inv
          intro inv
          (try simp only [Act.put, List.setIfInBounds_toArray, List.set_cons_zero, List.set_cons_succ])
          refine wpM_take (i := 7) (v := ?vt7_6) rfl (by kernel_rfl) (by kernel_rfl) (by kernel_rfl) (fun _ _ _ h => h) (by kernel_rfl) (by kernel_rfl) (of_decide_eq_true (by kernel_rfl)) (by decide) inv (Or.inl ⟨by rfl, ?hyt7_6⟩) hS9 ?restt7_6
          case hyt7_6 => (intro w' hSw; (try dsimp only at hSw); obtain ⟨hSa, hSb⟩ := hSw; go_simp; try with_reducible rfl)
          clear inv
          intro inv
          (try simp only [Act.put, List.setIfInBounds_toArray, List.set_cons_zero, List.set_cons_succ])
          refine wpM_take (i := 8) (v := ?vt8_7) rfl (by kernel_rfl) (by kernel_rfl) (by kernel_rfl) (fun _ _ _ h => h) (by kernel_rfl) (by kernel_rfl) (of_decide_eq_true (by kernel_rfl)) (by decide) inv (Or.inl ⟨by rfl, ?hyt8_7⟩) hS9 ?restt8_7
          case hyt8_7 => (intro w' hSw; (try dsimp only at hSw); obtain ⟨hSa, hSb⟩ := hSw; go_simp; try with_reducible rfl)
          clear inv
          intro inv
          (try simp only [Act.put, List.setIfInBounds_toArray, List.set_cons_zero, List.set_cons_succ])
          generalize hwd : w5.drew = wd at *
          clear hwd
          refine wpM_some (ks := [4, 9, 11]) (by kernel_rfl) (by decide) inv (fun k9 hk9 => ?_)
          simp only [List.mem_cons, List.not_mem_nil, or_false] at hk9
          rcases hk9 with rfl | rfl | rfl
          · refine ⟨by decide, _, rfl, fun K hK => ?_⟩
            clear inv hS9
            refine step_copy_shares (w := wd) rfl (.const (.slice none 0 0)) (.tmp 131) 27 rfl Tryz.underlying27 w5.heap.size P np pc us ys (by first | rfl | simp [Act.eval]) (by first | rfl | simp [Act.eval]) hsd hnp1 hnp2 hled ?_
            intro P1 c1 x1 hOw1 hbl1
            have hsh1 := hsd.upto hbl1
            have hle1 := Nat.le_trans hled hbl1.size
            have hbb1 := hbbd.trans (hbl1.mono hled)
            have hhb1 := hhbd.below hbl1 hhbd.lt
            have hSS1 : x1.cell? ⟨w.heap.size, 0, none⟩ = some (.int .i64 nb) ∧ x1.cell? ⟨w.heap.size, 1, none⟩ = some (.slice P np pc) := ⟨(hhb1.cell 0).trans rfl, (hhb1.cell 1).trans rfl⟩
            refine hK _ _ hSS1 (fun inv hS9 => ?_)
            clear hK K
            (try simp only [Act.put, List.setIfInBounds_toArray, List.set_cons_zero, List.set_cons_succ])
            refine wpM_take (i := 5) (v := ?vt5_8) rfl (by kernel_rfl) (by kernel_rfl) (by kernel_rfl) (fun _ _ _ h => h) (by kernel_rfl) (by kernel_rfl) (of_decide_eq_true (by kernel_rfl)) (by decide) inv (Or.inl ⟨by rfl, ?hyt5_8⟩) hS9 ?restt5_8
            case hyt5_8 => (intro w' hSw; (try dsimp only at hSw); obtain ⟨hSa, hSb⟩ := hSw; go_simp; try with_reducible rfl)
            clear inv
            intro inv
            (try simp only [Act.put, List.setIfInBounds_toArray, List.set_cons_zero, List.set_cons_succ])
            refine wpM_some (ks := [9, 11]) (by kernel_rfl) (by decide) inv (fun k9 hk9 => ?_)
            simp only [List.mem_cons, List.not_mem_nil, or_false] at hk9
            rcases hk9 with rfl | rfl
            · refine ⟨by decide, _, rfl, fun K hK => ?_⟩
              clear inv hS9
              refine step_make_full (w := x1) rfl (.tmp 136) (.tmp 136) 30 rfl w5.heap.size 33 iE _ 1 Tryz.underlying30 hiE hE0 hE1 .i64 .i64 nb (by first | rfl | simp [Act.eval]) (by first | rfl | simp [Act.eval]) (by rw [hE2]; omega) (by unfold maxLen; omega) hle1 ?_
              intro x2 hMk2 hbl2
              rw [made_rows] at hMk2
              have hown2 := hOw1.belowAll hbl2
              have hsh2 := hsh1.upto hbl2
              have hle2 := Nat.le_trans hle1 hbl2.size
              have hbb2 := hbb1.trans (hbl2.mono hle1)
              have hhb2 := hhb1.below hbl2 hhb1.lt
              have hSS2 : x2.cell? ⟨w.heap.size, 0, none⟩ = some (.int .i64 nb) ∧ x2.cell? ⟨w.heap.size, 1, none⟩ = some (.slice P np pc) := ⟨(hhb2.cell 0).trans rfl, (hhb2.cell 1).trans rfl⟩
              refine hK _ _ hSS2 (fun inv hS9 => ?_)
              clear hK K
              (try simp only [Act.put, List.setIfInBounds_toArray, List.set_cons_zero, List.set_cons_succ])
              refine wpM_take (i := 10) (v := ?vt10_9) rfl (by kernel_rfl) (by kernel_rfl) (by kernel_rfl) (fun _ _ _ h => h) (by kernel_rfl) (by kernel_rfl) (of_decide_eq_true (by kernel_rfl)) (by decide) inv (Or.inl ⟨by rfl, ?hyt10_9⟩) hS9 ?restt10_9
              case hyt10_9 => (intro w' hSw; (try dsimp only at hSw); obtain ⟨hSa, hSb⟩ := hSw; go_simp; try with_reducible rfl)
              clear inv
              intro inv
              (try simp only [Act.put, List.setIfInBounds_toArray, List.set_cons_zero, List.set_cons_succ])
              refine wpM_one (k := 11) rfl (by kernel_rfl) (by decide) inv (fun K hK => ?_)
              clear inv hS9
              go_simp
              have hBD3 := Blk.new x2 32 #[.int .i64 0, .slice none 0 0, .int .i64 0, .slice none 0 0]
              have hbl3 := bbox (w0 := x2) (.cells #[.int .i64 0, .slice none 0 0, .int .i64 0, .slice none 0 0] 32)
              obtain ⟨x3, hV3⟩ : ∃ v, x2.alloc (.cells #[.int .i64 0, .slice none 0 0, .int .i64 0, .slice none 0 0] 32) = v := ⟨_, rfl⟩
              rw [hV3] at hBD3 hbl3
              rw [hV3]
              clear hV3
              have hdle3 : w5.heap.size ≤ x2.heap.size := hle2
              have hown3 := hown2.belowAll hbl3
              have hmk3 := own_below hMk2 hbl3
              have hsh3 := hsh2.upto hbl3
              have hle3 := Nat.le_trans hle2 hbl3.size
              have hbb3 := hbb2.trans (hbl3.mono hle2)
              have hhb3 := hhb2.below hbl3 hhb2.lt
              have hSS3 : x3.cell? ⟨w.heap.size, 0, none⟩ = some (.int .i64 nb) ∧ x3.cell? ⟨w.heap.size, 1, none⟩ = some (.slice P np pc) := ⟨(hhb3.cell 0).trans rfl, (hhb3.cell 1).trans rfl⟩
              refine hK _ _ hSS3 (fun inv hS9 => ?_)
              clear hK K
              (try simp only [Act.put, List.setIfInBounds_toArray, List.set_cons_zero, List.set_cons_succ])
              refine wpM_last rfl (by kernel_rfl) (by kernel_rfl) (fun K hK => ?_)
              clear inv hS9
              have hk0 : x3.cell? ⟨x2.heap.size, 0, none⟩ = some (.int .i64 0) := (hBD3.cell 0).trans rfl
              have hf0 := hBD3.frozen 0
              have hk1 : x3.cell? ⟨x2.heap.size, 1, none⟩ = some (.slice none 0 0) := (hBD3.cell 1).trans rfl
              have hf1 := hBD3.frozen 1
              have hk2 : x3.cell? ⟨x2.heap.size, 2, none⟩ = some (.int .i64 0) := (hBD3.cell 2).trans rfl
              have hf2 := hBD3.frozen 2
              have hk3 : x3.cell? ⟨x2.heap.size, 3, none⟩ = some (.slice none 0 0) := (hBD3.cell 3).trans rfl
              have hf3 := hBD3.frozen 3
              go_simp
              refine hK _ _ ?_
              clear hK K
              obtain ⟨e1, e2, e3, e4⟩ := d36_end hown3 hmk3 hBD3 hdle3 hbb3 (.int .i64 nb) (.slice P1 np c1) (.int .i64 slots) (.slice (some ⟨x1.heap.size, 0, none⟩) nb nb)
              go_wp2
              go_meet
              exact ⟨_, _, _, _, rfl, e1, e2, e3, hdle3, e4⟩
            · refine ⟨by decide, _, rfl, fun K hK => ?_⟩
              clear inv hS9
              go_simp
              have hBD2 := Blk.new x1 32 #[.int .i64 0, .slice none 0 0, .int .i64 0, .slice none 0 0]
              have hbl2 := bbox (w0 := x1) (.cells #[.int .i64 0, .slice none 0 0, .int .i64 0, .slice none 0 0] 32)
              obtain ⟨x2, hV2⟩ : ∃ v, x1.alloc (.cells #[.int .i64 0, .slice none 0 0, .int .i64 0, .slice none 0 0] 32) = v := ⟨_, rfl⟩
              rw [hV2] at hBD2 hbl2
              rw [hV2]
              clear hV2
              have hdle2 : w5.heap.size ≤ x1.heap.size := hle1
              have hown2 := hOw1.belowAll hbl2
              have hsh2 := hsh1.upto hbl2
              have hle2 := Nat.le_trans hle1 hbl2.size
              have hbb2 := hbb1.trans (hbl2.mono hle1)
              have hhb2 := hhb1.below hbl2 hhb1.lt
              have hSS2 : x2.cell? ⟨w.heap.size, 0, none⟩ = some (.int .i64 nb) ∧ x2.cell? ⟨w.heap.size, 1, none⟩ = some (.slice P np pc) := ⟨(hhb2.cell 0).trans rfl, (hhb2.cell 1).trans rfl⟩
              refine hK _ _ hSS2 (fun inv hS9 => ?_)
              clear hK K
              (try simp only [Act.put, List.setIfInBounds_toArray, List.set_cons_zero, List.set_cons_succ])
              refine wpM_one (k := 9) rfl (by kernel_rfl) (by decide) inv (fun K hK => ?_)
              clear inv hS9
              refine step_make_full (w := x2) rfl (.tmp 136) (.tmp 136) 30 rfl w5.heap.size 33 iE _ 1 Tryz.underlying30 hiE hE0 hE1 .i64 .i64 nb (by first | rfl | simp [Act.eval]) (by first | rfl | simp [Act.eval]) (by rw [hE2]; omega) (by unfold maxLen; omega) hle2 ?_
              intro x3 hMk3 hbl3
              rw [made_rows] at hMk3
              have hown3 := hown2.belowAll hbl3
              have hbd3 := hBD2.below hbl3 hBD2.lt
              have hsh3 := hsh2.upto hbl3
              have hle3 := Nat.le_trans hle2 hbl3.size
              have hbb3 := hbb2.trans (hbl3.mono hle2)
              have hhb3 := hhb2.below hbl3 hhb2.lt
              have hSS3 : x3.cell? ⟨w.heap.size, 0, none⟩ = some (.int .i64 nb) ∧ x3.cell? ⟨w.heap.size, 1, none⟩ = some (.slice P np pc) := ⟨(hhb3.cell 0).trans rfl, (hhb3.cell 1).trans rfl⟩
              refine hK _ _ hSS3 (fun inv hS9 => ?_)
              clear hK K
              (try simp only [Act.put, List.setIfInBounds_toArray, List.set_cons_zero, List.set_cons_succ])
              refine wpM_take (i := 10) (v := ?vt10_10) rfl (by kernel_rfl) (by kernel_rfl) (by kernel_rfl) (fun _ _ _ h => h) (by kernel_rfl) (by kernel_rfl) (of_decide_eq_true (by kernel_rfl)) (by decide) inv (Or.inl ⟨by rfl, ?hyt10_10⟩) hS9 ?restt10_10
              case hyt10_10 => (intro w' hSw; (try dsimp only at hSw); obtain ⟨hSa, hSb⟩ := hSw; go_simp; try with_reducible rfl)
              clear inv
              intro inv
              (try simp only [Act.put, List.setIfInBounds_toArray, List.set_cons_zero, List.set_cons_succ])
              refine wpM_last rfl (by kernel_rfl) (by kernel_rfl) (fun K hK => ?_)
              clear inv hS9
              have hk0 : x3.cell? ⟨x1.heap.size, 0, none⟩ = some (.int .i64 0) := (hbd3.cell 0).trans rfl
              have hf0 := hbd3.frozen 0
              have hk1 : x3.cell? ⟨x1.heap.size, 1, none⟩ = some (.slice none 0 0) := (hbd3.cell 1).trans rfl
              have hf1 := hbd3.frozen 1
              have hk2 : x3.cell? ⟨x1.heap.size, 2, none⟩ = some (.int .i64 0) := (hbd3.cell 2).trans rfl
              have hf2 := hbd3.frozen 2
              have hk3 : x3.cell? ⟨x1.heap.size, 3, none⟩ = some (.slice none 0 0) := (hbd3.cell 3).trans rfl
              have hf3 := hbd3.frozen 3
              go_simp
              refine hK _ _ ?_
              clear hK K
              obtain ⟨e1, e2, e3, e4⟩ := d36_end hown3 hMk3 hbd3 hdle2 hbb3 (.int .i64 nb) (.slice P1 np c1) (.int .i64 slots) (.slice (some ⟨x2.heap.size, 0, none⟩) nb nb)
              go_wp2
              go_meet
              exact ⟨_, _, _, _, rfl, e1, e2, e3, hdle2, e4⟩
          · refine ⟨by decide, _, rfl, fun K hK => ?_⟩
            clear inv hS9
            refine step_make_full (w := wd) rfl (.tmp 136) (.tmp 136) 30 rfl w5.heap.size 33 iE _ 1 Tryz.underlying30 hiE hE0 hE1 .i64 .i64 nb (by first | rfl | simp [Act.eval]) (by first | rfl | simp [Act.eval]) (by rw [hE2]; omega) (by unfold maxLen; omega) hled ?_
            intro x1 hMk1 hbl1
            rw [made_rows] at hMk1
            have hsh1 := hsd.upto hbl1
            have hle1 := Nat.le_trans hled hbl1.size
            have hbb1 := hbbd.trans (hbl1.mono hled)
            have hhb1 := hhbd.below hbl1 hhbd.lt
            have hSS1 : x1.cell? ⟨w.heap.size, 0, none⟩ = some (.int .i64 nb) ∧ x1.cell? ⟨w.heap.size, 1, none⟩ = some (.slice P np pc) := ⟨(hhb1.cell 0).trans rfl, (hhb1.cell 1).trans rfl⟩
            refine hK _ _ hSS1 (fun inv hS9 => ?_)
            clear hK K
            (try simp only [Act.put, List.setIfInBounds_toArray, List.set_cons_zero, List.set_cons_succ])
            refine wpM_some (ks := [4, 11]) (by kernel_rfl) (by decide) inv (fun k9 hk9 => ?_)
            simp only [List.mem_cons, List.not_mem_nil, or_false] at hk9
            rcases hk9 with rfl | rfl
            · refine ⟨by decide, _, rfl, fun K hK => ?_⟩
              clear inv hS9
              refine step_copy_shares (w := x1) rfl (.const (.slice none 0 0)) (.tmp 131) 27 rfl Tryz.underlying27 w5.heap.size P np pc us ys (by first | rfl | simp [Act.eval]) (by first | rfl | simp [Act.eval]) hsh1 hnp1 hnp2 hle1 ?_
              intro P2 c2 x2 hOw2 hbl2
              have hmk2 := own_below hMk1 hbl2
              have hsh2 := hsh1.upto hbl2
              have hle2 := Nat.le_trans hle1 hbl2.size
              have hbb2 := hbb1.trans (hbl2.mono hle1)
              have hhb2 := hhb1.below hbl2 hhb1.lt
              have hSS2 : x2.cell? ⟨w.heap.size, 0, none⟩ = some (.int .i64 nb) ∧ x2.cell? ⟨w.heap.size, 1, none⟩ = some (.slice P np pc) := ⟨(hhb2.cell 0).trans rfl, (hhb2.cell 1).trans rfl⟩
              refine hK _ _ hSS2 (fun inv hS9 => ?_)
              clear hK K
              (try simp only [Act.put, List.setIfInBounds_toArray, List.set_cons_zero, List.set_cons_succ])
              refine wpM_take (i := 5) (v := ?vt5_11) rfl (by kernel_rfl) (by kernel_rfl) (by kernel_rfl) (fun _ _ _ h => h) (by kernel_rfl) (by kernel_rfl) (of_decide_eq_true (by kernel_rfl)) (by decide) inv (Or.inl ⟨by rfl, ?hyt5_11⟩) hS9 ?restt5_11
              case hyt5_11 => (intro w' hSw; (try dsimp only at hSw); obtain ⟨hSa, hSb⟩ := hSw; go_simp; try with_reducible rfl)
              clear inv
              intro inv
              (try simp only [Act.put, List.setIfInBounds_toArray, List.set_cons_zero, List.set_cons_succ])
              refine wpM_take (i := 10) (v := ?vt10_12) rfl (by kernel_rfl) (by kernel_rfl) (by kernel_rfl) (fun _ _ _ h => h) (by kernel_rfl) (by kernel_rfl) (of_decide_eq_true (by kernel_rfl)) (by decide) inv (Or.inl ⟨by rfl, ?hyt10_12⟩) hS9 ?restt10_12
              case hyt10_12 => (intro w' hSw; (try dsimp only at hSw); obtain ⟨hSa, hSb⟩ := hSw; go_simp; try with_reducible rfl)
              clear inv
              intro inv
              (try simp only [Act.put, List.setIfInBounds_toArray, List.set_cons_zero, List.set_cons_succ])
              refine wpM_one (k := 11) rfl (by kernel_rfl) (by decide) inv (fun K hK => ?_)
              clear inv hS9
              go_simp
              have hBD3 := Blk.new x2 32 #[.int .i64 0, .slice none 0 0, .int .i64 0, .slice none 0 0]
              have hbl3 := bbox (w0 := x2) (.cells #[.int .i64 0, .slice none 0 0, .int .i64 0, .slice none 0 0] 32)
              obtain ⟨x3, hV3⟩ : ∃ v, x2.alloc (.cells #[.int .i64 0, .slice none 0 0, .int .i64 0, .slice none 0 0] 32) = v := ⟨_, rfl⟩
              rw [hV3] at hBD3 hbl3
              rw [hV3]
              clear hV3
              have hdle3 : w5.heap.size ≤ x2.heap.size := hle2
              have hown3 := hOw2.belowAll hbl3
              have hmk3 := own_below hmk2 hbl3
              have hsh3 := hsh2.upto hbl3
              have hle3 := Nat.le_trans hle2 hbl3.size
              have hbb3 := hbb2.trans (hbl3.mono hle2)
              have hhb3 := hhb2.below hbl3 hhb2.lt
              have hSS3 : x3.cell? ⟨w.heap.size, 0, none⟩ = some (.int .i64 nb) ∧ x3.cell? ⟨w.heap.size, 1, none⟩ = some (.slice P np pc) := ⟨(hhb3.cell 0).trans rfl, (hhb3.cell 1).trans rfl⟩
              refine hK _ _ hSS3 (fun inv hS9 => ?_)
              clear hK K
              (try simp only [Act.put, List.setIfInBounds_toArray, List.set_cons_zero, List.set_cons_succ])
              refine wpM_last rfl (by kernel_rfl) (by kernel_rfl) (fun K hK => ?_)
              clear inv hS9
              have hk0 : x3.cell? ⟨x2.heap.size, 0, none⟩ = some (.int .i64 0) := (hBD3.cell 0).trans rfl
              have hf0 := hBD3.frozen 0
              have hk1 : x3.cell? ⟨x2.heap.size, 1, none⟩ = some (.slice none 0 0) := (hBD3.cell 1).trans rfl
              have hf1 := hBD3.frozen 1
              have hk2 : x3.cell? ⟨x2.heap.size, 2, none⟩ = some (.int .i64 0) := (hBD3.cell 2).trans rfl
              have hf2 := hBD3.frozen 2
              have hk3 : x3.cell? ⟨x2.heap.size, 3, none⟩ = some (.slice none 0 0) := (hBD3.cell 3).trans rfl
              have hf3 := hBD3.frozen 3
              go_simp
              refine hK _ _ ?_
              clear hK K
              obtain ⟨e1, e2, e3, e4⟩ := d36_end hown3 hmk3 hBD3 hdle3 hbb3 (.int .i64 nb) (.slice P2 np c2) (.int .i64 slots) (.slice (some ⟨wd.heap.size, 0, none⟩) nb nb)
              go_wp2
              go_meet
              exact ⟨_, _, _, _, rfl, e1, e2, e3, hdle3, e4⟩
            · refine ⟨by decide, _, rfl, fun K hK => ?_⟩
              clear inv hS9
              go_simp
              have hBD2 := Blk.new x1 32 #[.int .i64 0, .slice none 0 0, .int .i64 0, .slice none 0 0]
              have hbl2 := bbox (w0 := x1) (.cells #[.int .i64 0, .slice none 0 0, .int .i64 0, .slice none 0 0] 32)
              obtain ⟨x2, hV2⟩ : ∃ v, x1.alloc (.cells #[.int .i64 0, .slice none 0 0, .int .i64 0, .slice none 0 0] 32) = v := ⟨_, rfl⟩
              rw [hV2] at hBD2 hbl2
              rw [hV2]
              clear hV2
              have hdle2 : w5.heap.size ≤ x1.heap.size := hle1
              have hmk2 := own_below hMk1 hbl2
              have hsh2 := hsh1.upto hbl2
              have hle2 := Nat.le_trans hle1 hbl2.size
              have hbb2 := hbb1.trans (hbl2.mono hle1)
              have hhb2 := hhb1.below hbl2 hhb1.lt
              have hSS2 : x2.cell? ⟨w.heap.size, 0, none⟩ = some (.int .i64 nb) ∧ x2.cell? ⟨w.heap.size, 1, none⟩ = some (.slice P np pc) := ⟨(hhb2.cell 0).trans rfl, (hhb2.cell 1).trans rfl⟩
              refine hK _ _ hSS2 (fun inv hS9 => ?_)
              clear hK K
              (try simp only [Act.put, List.setIfInBounds_toArray, List.set_cons_zero, List.set_cons_succ])
              refine wpM_one (k := 4) rfl (by kernel_rfl) (by decide) inv (fun K hK => ?_)
              clear inv hS9
              refine step_copy_shares (w := x2) rfl (.const (.slice none 0 0)) (.tmp 131) 27 rfl Tryz.underlying27 w5.heap.size P np pc us ys (by first | rfl | simp [Act.eval]) (by first | rfl | simp [Act.eval]) hsh2 hnp1 hnp2 hle2 ?_
              intro P3 c3 x3 hOw3 hbl3
              have hmk3 := own_below hmk2 hbl3
              have hbd3 := hBD2.below hbl3 hBD2.lt
              have hsh3 := hsh2.upto hbl3
              have hle3 := Nat.le_trans hle2 hbl3.size
              have hbb3 := hbb2.trans (hbl3.mono hle2)
              have hhb3 := hhb2.below hbl3 hhb2.lt
              have hSS3 : x3.cell? ⟨w.heap.size, 0, none⟩ = some (.int .i64 nb) ∧ x3.cell? ⟨w.heap.size, 1, none⟩ = some (.slice P np pc) := ⟨(hhb3.cell 0).trans rfl, (hhb3.cell 1).trans rfl⟩
              refine hK _ _ hSS3 (fun inv hS9 => ?_)
              clear hK K
              (try simp only [Act.put, List.setIfInBounds_toArray, List.set_cons_zero, List.set_cons_succ])
              refine wpM_take (i := 5) (v := ?vt5_13) rfl (by kernel_rfl) (by kernel_rfl) (by kernel_rfl) (fun _ _ _ h => h) (by kernel_rfl) (by kernel_rfl) (of_decide_eq_true (by kernel_rfl)) (by decide) inv (Or.inl ⟨by rfl, ?hyt5_13⟩) hS9 ?restt5_13
              case hyt5_13 => (intro w' hSw; (try dsimp only at hSw); obtain ⟨hSa, hSb⟩ := hSw; go_simp; try with_reducible rfl)
              clear inv
              intro inv
              (try simp only [Act.put, List.setIfInBounds_toArray, List.set_cons_zero, List.set_cons_succ])
              refine wpM_take (i := 10) (v := ?vt10_14) rfl (by kernel_rfl) (by kernel_rfl) (by kernel_rfl) (fun _ _ _ h => h) (by kernel_rfl) (by kernel_rfl) (of_decide_eq_true (by kernel_rfl)) (by decide) inv (Or.inl ⟨by rfl, ?hyt10_14⟩) hS9 ?restt10_14
              case hyt10_14 => (intro w' hSw; (try dsimp only at hSw); obtain ⟨hSa, hSb⟩ := hSw; go_simp; try with_reducible rfl)
              clear inv
              intro inv
              (try simp only [Act.put, List.setIfInBounds_toArray, List.set_cons_zero, List.set_cons_succ])
              refine wpM_last rfl (by kernel_rfl) (by kernel_rfl) (fun K hK => ?_)
              clear inv hS9
              have hk0 : x3.cell? ⟨x1.heap.size, 0, none⟩ = some (.int .i64 0) := (hbd3.cell 0).trans rfl
              have hf0 := hbd3.frozen 0
              have hk1 : x3.cell? ⟨x1.heap.size, 1, none⟩ = some (.slice none 0 0) := (hbd3.cell 1).trans rfl
              have hf1 := hbd3.frozen 1
              have hk2 : x3.cell? ⟨x1.heap.size, 2, none⟩ = some (.int .i64 0) := (hbd3.cell 2).trans rfl
              have hf2 := hbd3.frozen 2
              have hk3 : x3.cell? ⟨x1.heap.size, 3, none⟩ = some (.slice none 0 0) := (hbd3.cell 3).trans rfl
              have hf3 := hbd3.frozen 3
              go_simp
              refine hK _ _ ?_
              clear hK K
              obtain ⟨e1, e2, e3, e4⟩ := d36_end hOw3 hmk3 hbd3 hdle2 hbb3 (.int .i64 nb) (.slice P3 np c3) (.int .i64 slots) (.slice (some ⟨wd.heap.size, 0, none⟩) nb nb)
              go_wp2
              go_meet
              exact ⟨_, _, _, _, rfl, e1, e2, e3, hdle2, e4⟩
          · refine ⟨by decide, _, rfl, fun K hK => ?_⟩
            clear inv hS9
            go_simp
            have hBD1 := Blk.new wd 32 #[.int .i64 0, .slice none 0 0, .int .i64 0, .slice none 0 0]
            have hbl1 := bbox (w0 := wd) (.cells #[.int .i64 0, .slice none 0 0, .int .i64 0, .slice none 0 0] 32)
            obtain ⟨x1, hV1⟩ : ∃ v, wd.alloc (.cells #[.int .i64 0, .slice none 0 0, .int .i64 0, .slice none 0 0] 32) = v := ⟨_, rfl⟩
            rw [hV1] at hBD1 hbl1
            rw [hV1]
            clear hV1
            have hdle1 : w5.heap.size ≤ wd.heap.size := hled
            have hsh1 := hsd.upto hbl1
            have hle1 := Nat.le_trans hled hbl1.size
            have hbb1 := hbbd.trans (hbl1.mono hled)
            have hhb1 := hhbd.below hbl1 hhbd.lt
            have hSS1 : x1.cell? ⟨w.heap.size, 0, none⟩ = some (.int .i64 nb) ∧ x1.cell? ⟨w.heap.size, 1, none⟩ = some (.slice P np pc) := ⟨(hhb1.cell 0).trans rfl, (hhb1.cell 1).trans rfl⟩
            refine hK _ _ hSS1 (fun inv hS9 => ?_)
            clear hK K
            (try simp only [Act.put, List.setIfInBounds_toArray, List.set_cons_zero, List.set_cons_succ])
            refine wpM_some (ks := [4, 9]) (by kernel_rfl) (by decide) inv (fun k9 hk9 => ?_)
            simp only [List.mem_cons, List.not_mem_nil, or_false] at hk9
            rcases hk9 with rfl | rfl
            · refine ⟨by decide, _, rfl, fun K hK => ?_⟩
              clear inv hS9
              refine step_copy_shares (w := x1) rfl (.const (.slice none 0 0)) (.tmp 131) 27 rfl Tryz.underlying27 w5.heap.size P np pc us ys (by first | rfl | simp [Act.eval]) (by first | rfl | simp [Act.eval]) hsh1 hnp1 hnp2 hle1 ?_
              intro P2 c2 x2 hOw2 hbl2
              have hbd2 := hBD1.below hbl2 hBD1.lt
              have hsh2 := hsh1.upto hbl2
              have hle2 := Nat.le_trans hle1 hbl2.size
              have hbb2 := hbb1.trans (hbl2.mono hle1)
              have hhb2 := hhb1.below hbl2 hhb1.lt
              have hSS2 : x2.cell? ⟨w.heap.size, 0, none⟩ = some (.int .i64 nb) ∧ x2.cell? ⟨w.heap.size, 1, none⟩ = some (.slice P np pc) := ⟨(hhb2.cell 0).trans rfl, (hhb2.cell 1).trans rfl⟩
              refine hK _ _ hSS2 (fun inv hS9 => ?_)
              clear hK K
              (try simp only [Act.put, List.setIfInBounds_toArray, List.set_cons_zero, List.set_cons_succ])
              refine wpM_take (i := 5) (v := ?vt5_15) rfl (by kernel_rfl) (by kernel_rfl) (by kernel_rfl) (fun _ _ _ h => h) (by kernel_rfl) (by kernel_rfl) (of_decide_eq_true (by kernel_rfl)) (by decide) inv (Or.inl ⟨by rfl, ?hyt5_15⟩) hS9 ?restt5_15
              case hyt5_15 => (intro w' hSw; (try dsimp only at hSw); obtain ⟨hSa, hSb⟩ := hSw; go_simp; try with_reducible rfl)
              clear inv
              intro inv
              (try simp only [Act.put, List.setIfInBounds_toArray, List.set_cons_zero, List.set_cons_succ])
              refine wpM_one (k := 9) rfl (by kernel_rfl) (by decide) inv (fun K hK => ?_)
              clear inv hS9
              refine step_make_full (w := x2) rfl (.tmp 136) (.tmp 136) 30 rfl w5.heap.size 33 iE _ 1 Tryz.underlying30 hiE hE0 hE1 .i64 .i64 nb (by first | rfl | simp [Act.eval]) (by first | rfl | simp [Act.eval]) (by rw [hE2]; omega) (by unfold maxLen; omega) hle2 ?_
              intro x3 hMk3 hbl3
              rw [made_rows] at hMk3
              have hown3 := hOw2.belowAll hbl3
              have hbd3 := hbd2.below hbl3 hbd2.lt
              have hsh3 := hsh2.upto hbl3
              have hle3 := Nat.le_trans hle2 hbl3.size
              have hbb3 := hbb2.trans (hbl3.mono hle2)
              have hhb3 := hhb2.below hbl3 hhb2.lt
              have hSS3 : x3.cell? ⟨w.heap.size, 0, none⟩ = some (.int .i64 nb) ∧ x3.cell? ⟨w.heap.size, 1, none⟩ = some (.slice P np pc) := ⟨(hhb3.cell 0).trans rfl, (hhb3.cell 1).trans rfl⟩
              refine hK _ _ hSS3 (fun inv hS9 => ?_)
              clear hK K
              (try simp only [Act.put, List.setIfInBounds_toArray, List.set_cons_zero, List.set_cons_succ])
              refine wpM_take (i := 10) (v := ?vt10_16) rfl (by kernel_rfl) (by kernel_rfl) (by kernel_rfl) (fun _ _ _ h => h) (by kernel_rfl) (by kernel_rfl) (of_decide_eq_true (by kernel_rfl)) (by decide) inv (Or.inl ⟨by rfl, ?hyt10_16⟩) hS9 ?restt10_16
              case hyt10_16 => (intro w' hSw; (try dsimp only at hSw); obtain ⟨hSa, hSb⟩ := hSw; go_simp; try with_reducible rfl)
              clear inv
              intro inv
              (try simp only [Act.put, List.setIfInBounds_toArray, List.set_cons_zero, List.set_cons_succ])
              refine wpM_last rfl (by kernel_rfl) (by kernel_rfl) (fun K hK => ?_)
              clear inv hS9
              have hk0 : x3.cell? ⟨wd.heap.size, 0, none⟩ = some (.int .i64 0) := (hbd3.cell 0).trans rfl
              have hf0 := hbd3.frozen 0
              have hk1 : x3.cell? ⟨wd.heap.size, 1, none⟩ = some (.slice none 0 0) := (hbd3.cell 1).trans rfl
              have hf1 := hbd3.frozen 1
              have hk2 : x3.cell? ⟨wd.heap.size, 2, none⟩ = some (.int .i64 0) := (hbd3.cell 2).trans rfl
              have hf2 := hbd3.frozen 2
              have hk3 : x3.cell? ⟨wd.heap.size, 3, none⟩ = some (.slice none 0 0) := (hbd3.cell 3).trans rfl
              have hf3 := hbd3.frozen 3
              go_simp
              refine hK _ _ ?_
              clear hK K
              obtain ⟨e1, e2, e3, e4⟩ := d36_end hown3 hMk3 hbd3 hdle1 hbb3 (.int .i64 nb) (.slice P2 np c2) (.int .i64 slots) (.slice (some ⟨x2.heap.size, 0, none⟩) nb nb)
              go_wp2
              go_meet
              exact ⟨_, _, _, _, rfl, e1, e2, e3, hdle1, e4⟩
            · refine ⟨by decide, _, rfl, fun K hK => ?_⟩
              clear inv hS9
              refine step_make_full (w := x1) rfl (.tmp 136) (.tmp 136) 30 rfl w5.heap.size 33 iE _ 1 Tryz.underlying30 hiE hE0 hE1 .i64 .i64 nb (by first | rfl | simp [Act.eval]) (by first | rfl | simp [Act.eval]) (by rw [hE2]; omega) (by unfold maxLen; omega) hle1 ?_
              intro x2 hMk2 hbl2
              rw [made_rows] at hMk2
              have hbd2 := hBD1.below hbl2 hBD1.lt
              have hsh2 := hsh1.upto hbl2
              have hle2 := Nat.le_trans hle1 hbl2.size
              have hbb2 := hbb1.trans (hbl2.mono hle1)
              have hhb2 := hhb1.below hbl2 hhb1.lt
              have hSS2 : x2.cell? ⟨w.heap.size, 0, none⟩ = some (.int .i64 nb) ∧ x2.cell? ⟨w.heap.size, 1, none⟩ = some (.slice P np pc) := ⟨(hhb2.cell 0).trans rfl, (hhb2.cell 1).trans rfl⟩
              refine hK _ _ hSS2 (fun inv hS9 => ?_)
              clear hK K
              (try simp only [Act.put, List.setIfInBounds_toArray, List.set_cons_zero, List.set_cons_succ])
              refine wpM_one (k := 4) rfl (by kernel_rfl) (by decide) inv (fun K hK => ?_)
              clear inv hS9
              refine step_copy_shares (w := x2) rfl (.const (.slice none 0 0)) (.tmp 131) 27 rfl Tryz.underlying27 w5.heap.size P np pc us ys (by first | rfl | simp [Act.eval]) (by first | rfl | simp [Act.eval]) hsh2 hnp1 hnp2 hle2 ?_
              intro P3 c3 x3 hOw3 hbl3
              have hmk3 := own_below hMk2 hbl3
              have hbd3 := hbd2.below hbl3 hbd2.lt
              have hsh3 := hsh2.upto hbl3
              have hle3 := Nat.le_trans hle2 hbl3.size
              have hbb3 := hbb2.trans (hbl3.mono hle2)
              have hhb3 := hhb2.below hbl3 hhb2.lt
              have hSS3 : x3.cell? ⟨w.heap.size, 0, none⟩ = some (.int .i64 nb) ∧ x3.cell? ⟨w.heap.size, 1, none⟩ = some (.slice P np pc) := ⟨(hhb3.cell 0).trans rfl, (hhb3.cell 1).trans rfl⟩
              refine hK _ _ hSS3 (fun inv hS9 => ?_)
              clear hK K
              (try simp only [Act.put, List.setIfInBounds_toArray, List.set_cons_zero, List.set_cons_succ])
              refine wpM_take (i := 5) (v := ?vt5_17) rfl (by kernel_rfl) (by kernel_rfl) (by kernel_rfl) (fun _ _ _ h => h) (by kernel_rfl) (by kernel_rfl) (of_decide_eq_true (by kernel_rfl)) (by decide) inv (Or.inl ⟨by rfl, ?hyt5_17⟩) hS9 ?restt5_17
              case hyt5_17 => (intro w' hSw; (try dsimp only at hSw); obtain ⟨hSa, hSb⟩ := hSw; go_simp; try with_reducible rfl)
              clear inv
              intro inv
              (try simp only [Act.put, List.setIfInBounds_toArray, List.set_cons_zero, List.set_cons_succ])
              refine wpM_take (i := 10) (v := ?vt10_18) rfl (by kernel_rfl) (by kernel_rfl) (by kernel_rfl) (fun _ _ _ h => h) (by kernel_rfl) (by kernel_rfl) (of_decide_eq_true (by kernel_rfl)) (by decide) inv (Or.inl ⟨by rfl, ?hyt10_18⟩) hS9 ?restt10_18
              case hyt10_18 => (intro w' hSw; (try dsimp only at hSw); obtain ⟨hSa, hSb⟩ := hSw; go_simp; try with_reducible rfl)
              clear inv
              intro inv
              (try simp only [Act.put, List.setIfInBounds_toArray, List.set_cons_zero, List.set_cons_succ])
              refine wpM_last rfl (by kernel_rfl) (by kernel_rfl) (fun K hK => ?_)
              clear inv hS9
              have hk0 : x3.cell? ⟨wd.heap.size, 0, none⟩ = some (.int .i64 0) := (hbd3.cell 0).trans rfl
              have hf0 := hbd3.frozen 0
              have hk1 : x3.cell? ⟨wd.heap.size, 1, none⟩ = some (.slice none 0 0) := (hbd3.cell 1).trans rfl
              have hf1 := hbd3.frozen 1
              have hk2 : x3.cell? ⟨wd.heap.size, 2, none⟩ = some (.int .i64 0) := (hbd3.cell 2).trans rfl
              have hf2 := hbd3.frozen 2
              have hk3 : x3.cell? ⟨wd.heap.size, 3, none⟩ = some (.slice none 0 0) := (hbd3.cell 3).trans rfl
              have hf3 := hbd3.frozen 3
              go_simp
              refine hK _ _ ?_
              clear hK K
              obtain ⟨e1, e2, e3, e4⟩ := d36_end hOw3 hmk3 hbd3 hdle1 hbb3 (.int .i64 nb) (.slice P3 np c3) (.int .i64 slots) (.slice (some ⟨x1.heap.size, 0, none⟩) nb nb)
              go_wp2
              go_meet
              exact ⟨_, _, _, _, rfl, e1, e2, e3, hdle1, e4⟩
        case rest =>
        obtain ⟨D, P2, pc2, gE, rfl, hBD, hOS, hG, hDle, hb6⟩ := hcut
        obtain ⟨w6, hw6⟩ : ∃ v, v = wc := ⟨_, rfl⟩
        subst hw6
        have hI5 := hA5.ints
        have HYL := Lib.hid hA5.len
        have HE5 : Ents w5 w2.heap.size w5.heap.size S m so := hO5.ents
        have hG0 : GrV w6 w5.heap.size gE nb 2 33 39 (List.replicate nb (none, 0, 0)) ((List.range nb).map fun b => entC (bkt (so.take 0) (yy.take 0) b)) := by
          have e : ((List.range nb).map fun b => entC (bkt (so.take 0) (yy.take 0) b)) = List.replicate nb [] := by
            rw [List.eq_replicate_iff]
            refine ⟨by simp, fun x hx => ?_⟩
            obtain ⟨b, _, rfl⟩ := List.mem_map.1 hx
            rw [List.take_zero, bkt_nil]; rfl
          rw [e]; exact hG
        clear hG hHc hsd hled hbbd hhbd hSd hA5
        go_wp2_with fail
        go_loopw [141] (fun v141 wz => ∃ (t : Nat) (bs : List (Option Addr × Nat × Nat)), t ≤ m ∧ v141 = .int .i64 t ∧ GrV wz w5.heap.size gE nb 2 33 39 bs ((List.range nb).map fun b => entC (bkt (so.take t) (yy.take t) b)) ∧
          Blk wz D 32 #[.int .i64 nb, .slice P2 np pc2, .int .i64 slots, .slice (some ⟨gE, 0, none⟩) nb nb] ∧ OwnS wz w5.heap.size P2 np pc2 us ys ∧ Below w5.heap.size w5 wz) (fun v141 _ => m - (intOf v141).toNat)
        case atStart => exact ⟨0, _, Nat.zero_le _, rfl, hG0, hBD, hOS, hb6⟩
        case round =>
        clear hG0 hBD hOS hb6
        obtain ⟨t, bs, ht, rfl, hG, hBD, hOS, hbz⟩ := hrel
        by_cases htm : t < m
        · have hti : (t : Int) < (m : Int) := by omega
          have ht0 : (0 : Int) ≤ (t : Int) := by omega
          obtain ⟨bY, oY, rfl, hbY, hcY⟩ := hI5.2 (by omega)
          have hcy := (hbz.cell (p := ⟨bY, oY + t, none⟩) hbY).trans (hcY t htm)
          obtain ⟨hym, b, hyb, hbn⟩ := HYY.out t htm
          rw [hyb] at hcy
          have HYB := Lib.hid hyb
          have hbi0 : (0 : Int) ≤ (b : Int) := by omega
          have hbin : (b : Int) < (nb : Int) := by omega
          obtain ⟨bS, oS, rfl, _, hbS, hcs, hcv⟩ := (Ents.below HE5 hbz).at_ htm
          have HEN : Hid (entAt so t = ((entAt so t).1, (entAt so t).2)) := Lib.hid rfl
          obtain ⟨s, hse⟩ : ∃ s, (entAt so t).1 = s := ⟨_, rfl⟩
          obtain ⟨v, hve⟩ : ∃ v, (entAt so t).2 = v := ⟨_, rfl⟩
          have HENT : Hid (entAt so t = (s, v)) := Lib.hid (by rw [← hse, ← hve])
          rw [hse] at hcs
          rw [hve] at hcv
          have hd3 : wr.cell? ⟨D, 3, none⟩ = some (.slice (some ⟨gE, 0, none⟩) nb nb) := (hBD.cell 3).trans rfl
          obtain ⟨hgc, hgf⟩ := hG.at_ hbn
          have hrow := hG.own b hbn
          have hrb : ((List.range nb).map fun b => entC (bkt (so.take t) (yy.take t) b)).getD b [] = entC (bkt (so.take t) (yy.take t) b) := by
            rw [List.getD_eq_getElem?_getD, List.getElem?_map, List.getElem?_range hbn]; rfl
          rw [hrb] at hrow
          rcases hbb : bs.getD b (none, 0, 0) with ⟨Ak, nk, ck⟩
          rw [hbb] at hgc hrow
          have hgc : wr.cell? ⟨gE, b, none⟩ = some (.slice Ak nk ck) := hgc
          have hrow : OwnE wr w5.heap.size Ak nk ck (bkt (so.take t) (yy.take t) b) := hrow
          have hnk : nk ≤ 100 := by
            have h1 := hrow.len
            have h2 := (bkt_sub b (so.take t) (yy.take t)).length_le
            rw [List.length_take] at h2
            omega
          clear hse hve hyb hcY
          have hSd : wr.drew.cell? ⟨D, 3, none⟩ = some (.slice (some ⟨gE, 0, none⟩) nb nb) ∧ wr.drew.cell? ⟨gE, b, none⟩ = some (.slice Ak nk ck) ∧ wr.drew.cell? ⟨bS, oS + t * 2, none⟩ = some (.string s) ∧ wr.drew.cell? ⟨bS, oS + t * 2 + 1, none⟩ = some (.int .i64 v) := ⟨hd3, hgc, hcs, hcv⟩
          go_upto_region 40 with fail
          refine wp_region_M (S := fun w' => w'.cell? ⟨D, 3, none⟩ = some (.slice (some ⟨gE, 0, none⟩) nb nb) ∧ w'.cell? ⟨gE, b, none⟩ = some (.slice Ak nk ck) ∧ w'.cell? ⟨bS, oS + t * 2, none⟩ = some (.string s) ∧ w'.cell? ⟨bS, oS + t * 2 + 1, none⟩ = some (.int .i64 v)) (n := 15) (by kernel_rfl) hSd (fun inv hS9 => ?_)
          refine wpM_take (i := 0) (v := ?vu0) rfl (by kernel_rfl) (by kernel_rfl) (by kernel_rfl) (fun _ _ _ h => h) (by kernel_rfl) (by kernel_rfl) (of_decide_eq_true (by kernel_rfl)) (by decide) inv (Or.inl ⟨by rfl, ?hyu0⟩) hS9 ?restu0
          case hyu0 => (intro w' hSw; (try dsimp only at hSw); obtain ⟨hSa, hSb, hSc, hSd⟩ := hSw; go_simp; try with_reducible rfl)
          clear inv
          intro inv
          (try simp only [Act.put, List.setIfInBounds_toArray, List.set_cons_zero, List.set_cons_succ])
          refine wpM_take (i := 1) (v := ?vu1) rfl (by kernel_rfl) (by kernel_rfl) (by kernel_rfl) (fun _ _ _ h => h) (by kernel_rfl) (by kernel_rfl) (of_decide_eq_true (by kernel_rfl)) (by decide) inv (Or.inl ⟨by rfl, ?hyu1⟩) hS9 ?restu1
          case hyu1 => (intro w' hSw; (try dsimp only at hSw); obtain ⟨hSa, hSb, hSc, hSd⟩ := hSw; go_simp; try with_reducible rfl)
          clear inv
          intro inv
          (try simp only [Act.put, List.setIfInBounds_toArray, List.set_cons_zero, List.set_cons_succ])
          refine wpM_take (i := 2) (v := ?vu2) rfl (by kernel_rfl) (by kernel_rfl) (by kernel_rfl) (fun _ _ _ h => h) (by kernel_rfl) (by kernel_rfl) (of_decide_eq_true (by kernel_rfl)) (by decide) inv (Or.inl ⟨by rfl, ?hyu2⟩) hS9 ?restu2
          case hyu2 => (intro w' hSw; (try dsimp only at hSw); obtain ⟨hSa, hSb, hSc, hSd⟩ := hSw; go_simp; try with_reducible rfl)
          clear inv
          intro inv
          (try simp only [Act.put, List.setIfInBounds_toArray, List.set_cons_zero, List.set_cons_succ])
          refine wpM_take (i := 3) (v := ?vu3) rfl (by kernel_rfl) (by kernel_rfl) (by kernel_rfl) (fun _ _ _ h => h) (by kernel_rfl) (by kernel_rfl) (of_decide_eq_true (by kernel_rfl)) (by decide) inv (Or.inl ⟨by rfl, ?hyu3⟩) hS9 ?restu3
          case hyu3 => (intro w' hSw; (try dsimp only at hSw); obtain ⟨hSa, hSb, hSc, hSd⟩ := hSw; go_simp; try with_reducible rfl)
          clear inv
          intro inv
          (try simp only [Act.put, List.setIfInBounds_toArray, List.set_cons_zero, List.set_cons_succ])
          refine wpM_take (i := 4) (v := ?vu4) rfl (by kernel_rfl) (by kernel_rfl) (by kernel_rfl) (fun _ _ _ h => h) (by kernel_rfl) (by kernel_rfl) (of_decide_eq_true (by kernel_rfl)) (by decide) inv (Or.inl ⟨by rfl, ?hyu4⟩) hS9 ?restu4
          case hyu4 => (intro w' hSw; (try dsimp only at hSw); obtain ⟨hSa, hSb, hSc, hSd⟩ := hSw; go_simp; try with_reducible rfl)
          clear inv
          intro inv
          (try simp only [Act.put, List.setIfInBounds_toArray, List.set_cons_zero, List.set_cons_succ])
          refine wpM_take (i := 5) (v := ?vu5) rfl (by kernel_rfl) (by kernel_rfl) (by kernel_rfl) (fun _ _ _ h => h) (by kernel_rfl) (by kernel_rfl) (of_decide_eq_true (by kernel_rfl)) (by decide) inv (Or.inl ⟨by rfl, ?hyu5⟩) hS9 ?restu5
          case hyu5 => (intro w' hSw; (try dsimp only at hSw); obtain ⟨hSa, hSb, hSc, hSd⟩ := hSw; go_simp; try with_reducible rfl)
          clear inv
          intro inv
          (try simp only [Act.put, List.setIfInBounds_toArray, List.set_cons_zero, List.set_cons_succ])
          refine wpM_take (i := 6) (v := ?vu6) rfl (by kernel_rfl) (by kernel_rfl) (by kernel_rfl) (fun _ _ _ h => h) (by kernel_rfl) (by kernel_rfl) (of_decide_eq_true (by kernel_rfl)) (by decide) inv (Or.inl ⟨by rfl, ?hyu6⟩) hS9 ?restu6
          case hyu6 => (intro w' hSw; (try dsimp only at hSw); obtain ⟨hSa, hSb, hSc, hSd⟩ := hSw; go_simp; try with_reducible rfl)
          clear inv
          intro inv
          (try simp only [Act.put, List.setIfInBounds_toArray, List.set_cons_zero, List.set_cons_succ])
          refine wpM_take (i := 7) (v := ?vu7) rfl (by kernel_rfl) (by kernel_rfl) (by kernel_rfl) (fun _ _ _ h => h) (by kernel_rfl) (by kernel_rfl) (of_decide_eq_true (by kernel_rfl)) (by decide) inv (Or.inl ⟨by rfl, ?hyu7⟩) hS9 ?restu7
          case hyu7 => (intro w' hSw; (try dsimp only at hSw); obtain ⟨hSa, hSb, hSc, hSd⟩ := hSw; go_simp; try with_reducible rfl)
          clear inv
          intro inv
          (try simp only [Act.put, List.setIfInBounds_toArray, List.set_cons_zero, List.set_cons_succ])
          refine wpM_take (i := 8) (v := ?vu8) rfl (by kernel_rfl) (by kernel_rfl) (by kernel_rfl) (fun _ _ _ h => h) (by kernel_rfl) (by kernel_rfl) (of_decide_eq_true (by kernel_rfl)) (by decide) inv (Or.inl ⟨by rfl, ?hyu8⟩) hS9 ?restu8
          case hyu8 => (intro w' hSw; (try dsimp only at hSw); obtain ⟨hSa, hSb, hSc, hSd⟩ := hSw; go_simp; try with_reducible rfl)
          clear inv
          intro inv
          (try simp only [Act.put, List.setIfInBounds_toArray, List.set_cons_zero, List.set_cons_succ])
          refine wpM_take (i := 9) (v := ?vu9) rfl (by kernel_rfl) (by kernel_rfl) (by kernel_rfl) (fun _ _ _ h => h) (by kernel_rfl) (by kernel_rfl) (of_decide_eq_true (by kernel_rfl)) (by decide) inv (Or.inl ⟨by rfl, ?hyu9⟩) hS9 ?restu9
          case hyu9 => (intro w' hSw; (try dsimp only at hSw); obtain ⟨hSa, hSb, hSc, hSd⟩ := hSw; go_simp; try with_reducible rfl)
          clear inv
          intro inv
          (try simp only [Act.put, List.setIfInBounds_toArray, List.set_cons_zero, List.set_cons_succ])
          refine wpM_take (i := 10) (v := ?vu10) rfl (by kernel_rfl) (by kernel_rfl) (by kernel_rfl) (fun _ _ _ h => h) (by kernel_rfl) (by kernel_rfl) (of_decide_eq_true (by kernel_rfl)) (by decide) inv (Or.inl ⟨by rfl, ?hyu10⟩) hS9 ?restu10
          case hyu10 => (intro w' hSw; (try dsimp only at hSw); obtain ⟨hSa, hSb, hSc, hSd⟩ := hSw; go_simp; try with_reducible rfl)
          clear inv
          intro inv
          (try simp only [Act.put, List.setIfInBounds_toArray, List.set_cons_zero, List.set_cons_succ])
          refine wpM_take (i := 11) (v := ?vu11) rfl (by kernel_rfl) (by kernel_rfl) (by kernel_rfl) (fun _ _ _ h => h) (by kernel_rfl) (by kernel_rfl) (of_decide_eq_true (by kernel_rfl)) (by decide) inv (Or.inl ⟨by rfl, ?hyu11⟩) hS9 ?restu11
          case hyu11 => (intro w' hSw; (try dsimp only at hSw); obtain ⟨hSa, hSb, hSc, hSd⟩ := hSw; go_simp; try with_reducible rfl)
          clear inv
          intro inv
          (try simp only [Act.put, List.setIfInBounds_toArray, List.set_cons_zero, List.set_cons_succ])
          refine wpM_one (k := 12) rfl (by kernel_rfl) (by decide) inv (fun K hK => ?_)
          clear inv hS9
          go_simp
          obtain ⟨w7, hw7⟩ : ∃ x : World, x = (wr.alloc (.cells #[.string s, .int .i64 v] 39)) := ⟨_, rfl⟩
          have hbl7 : Below wr.heap.size wr w7 := by rw [hw7]; exact bbox _
          have hN7 : Blk w7 wr.heap.size 39 #[.string s, .int .i64 v] := by rw [hw7]; exact Blk.new _ _ _
          rw [← hw7]
          clear hw7
          have hG7 := hG.belowAll hbl7
          have hBD7 := hBD.below hbl7 hBD.lt
          have hOS7 := hOS.belowAll hbl7
          have hrow7 := hrow.belowAll hbl7
          have hbz7 := hbz.trans (hbl7.mono hbz.size)
          have hle7 := hbz7.size
          have hS7 : w7.drew.cell? ⟨D, 3, none⟩ = some (.slice (some ⟨gE, 0, none⟩) nb nb) ∧ w7.drew.cell? ⟨gE, b, none⟩ = some (.slice Ak nk ck) ∧ w7.drew.cell? ⟨bS, oS + t * 2, none⟩ = some (.string s) ∧ w7.drew.cell? ⟨bS, oS + t * 2 + 1, none⟩ = some (.int .i64 v) :=
            ⟨(hBD7.cell 3).trans rfl, by have := (hG7.at_ hbn).1; rw [hbb] at this; exact this, (hbl7.cell (p := ⟨bS, oS + t * 2, none⟩) (Nat.lt_of_lt_of_le hbS hbz.size)).trans hcs, (hbl7.cell (p := ⟨bS, oS + t * 2 + 1, none⟩) (Nat.lt_of_lt_of_le hbS hbz.size)).trans hcv⟩
          refine hK _ _ hS7 (fun inv hS9 => ?_)
          clear hK K hSd
          (try simp only [Act.put, List.setIfInBounds_toArray, List.set_cons_zero, List.set_cons_succ])
          refine wpM_one (k := 13) rfl (by kernel_rfl) (by decide) inv (fun K hK => ?_)
          clear inv hS9
          refine step_append_ent (w := w7.drew) rfl (.tmp 153) (.tmp 158) 33 rfl Tryz.underlying33 w5.heap.size Ak nk ck (bkt (so.take t) (yy.take t) b) (by first | rfl | simp [Act.eval]) hrow7 wr.heap.size 1 (s, v) (by first | rfl | simp [Act.eval]) ((hN7.cell 0).trans rfl) ((hN7.cell 1).trans rfl) (by omega) hle7 ?_
          intro A9 c9 w9 hO9 hg9 hb9 hab9
          have hg97 : w7.grownBy w9 (Value.slice Ak nk ck).ownBlock := ⟨hg9.os, hg9.tape, hg9.output, hg9.size, hg9.block⟩
          have hgr9 : w7.grownBy w9 (Value.slice (bs.getD b (none, 0, 0)).1 (bs.getD b (none, 0, 0)).2.1 (bs.getD b (none, 0, 0)).2.2).ownBlock := by rw [hbb]; exact hg97
          have hab97 : (Value.slice A9 (nk + 1) c9).ownBlock = (Value.slice (bs.getD b (none, 0, 0)).1 (bs.getD b (none, 0, 0)).2.1 (bs.getD b (none, 0, 0)).2.2).ownBlock ∨ (Value.slice A9 (nk + 1) c9).ownBlock = some w7.heap.size := by rw [hbb]; exact hab9
          have hag9 := hG7.at_grown hbn hgr9
          rw [hbb] at hag9
          have hBD9 := hBD7.grown hg97 (fun e => own_blk_ne hrow7 hBD7 types_dir.2.2.2 e.symm)
          have hOS9 : OwnS w9 w5.heap.size P2 np pc2 us ys := ⟨hOS7.1, hOS7.2.1, World.ownsRow.kept hOS7.2.2 hg97 (own_ne2 hOS7.2.2 hrow7 types_ent)⟩
          have hb9w : Below w5.heap.size w5 w9 := hbz7.trans ⟨hb9.os, hb9.tape, hb9.output, hb9.size, hb9.block⟩
          have hS99 : w9.cell? ⟨D, 3, none⟩ = some (.slice (some ⟨gE, 0, none⟩) nb nb) ∧ w9.cell? ⟨gE, b, none⟩ = some (.slice Ak nk ck) ∧ w9.cell? ⟨bS, oS + t * 2, none⟩ = some (.string s) ∧ w9.cell? ⟨bS, oS + t * 2 + 1, none⟩ = some (.int .i64 v) :=
            ⟨(hBD9.cell 3).trans rfl, hag9.1, ((hb9.cell (p := ⟨bS, oS + t * 2, none⟩) hbS)).trans hS7.2.2.1, ((hb9.cell (p := ⟨bS, oS + t * 2 + 1, none⟩) hbS)).trans hS7.2.2.2⟩
          have hfg9 := hag9.2
          have hcg9 := hS99.2.1
          have hG10 := hG7.grown hbn hgr9 hO9 hab97
          have hst10 := (Step.refl gE w9).set b (.slice A9 (nk + 1) c9)
          have hGEl := hG.lo
          have hGo9 := World.ownsRow.kept hG7.out hg97 (.inr (fun e => by have h1 := hG7.ne hbn; rw [hbb] at h1; exact h1 e.symm))
          have hBD10 := Step.block hst10 hBD9 (fun e => own_blk_ne hGo9 hBD9 types_dir.2.1 (by rw [e]; rfl))
          have hOS10 : OwnS (w9.setCell ⟨gE, b, none⟩ (.slice A9 (nk + 1) c9)) w5.heap.size P2 np pc2 us ys := ⟨hOS9.1, hOS9.2.1, World.ownsRow.kept hOS9.2.2 hst10 (own_ne2 hOS9.2.2 hGo9 types_ent2)⟩
          have hb10 := hb9w.setCell (p := ⟨gE, b, none⟩) hGEl.1 (.slice A9 (nk + 1) c9)
          have HGN : Hid (GrV (w9.setCell ⟨gE, b, none⟩ (.slice A9 (nk + 1) c9)) w5.heap.size gE nb 2 33 39 (bs.set b (A9, nk + 1, c9)) ((List.range nb).map fun x => entC (bkt (so.take (t + 1)) (yy.take (t + 1)) x))) := Lib.hid (by
            rw [bkt_step (by rw [HSL.out]; exact htm) (by rw [HYL.out]; exact htm) hbn HYB.out HENT.out]
            exact hG10)
          have HBD := Lib.hid hBD10
          have HOS := Lib.hid hOS10
          have HBB := Lib.hid hb10
          refine hK _ _ hS99 (fun inv hS9 => ?_)
          clear hK K
          (try simp only [Act.put, List.setIfInBounds_toArray, List.set_cons_zero, List.set_cons_succ])
          refine wpM_take (i := 14) (v := ?vy14) rfl (by kernel_rfl) (by kernel_rfl) (by kernel_rfl) (fun _ _ _ h => h) (by kernel_rfl) (by kernel_rfl) (of_decide_eq_true (by kernel_rfl)) (by decide) inv (Or.inl ⟨by rfl, ?hyy14⟩) hS9 ?resty14
          case hyy14 => (intro w' hSw; (try dsimp only at hSw); obtain ⟨hSa, hSb, hSc, hSd⟩ := hSw; go_simp; try with_reducible rfl)
          clear inv
          intro inv
          (try simp only [Act.put, List.setIfInBounds_toArray, List.set_cons_zero, List.set_cons_succ])
          refine wpM_last rfl (by kernel_rfl) (by kernel_rfl) (fun K hK => ?_)
          clear inv hS9
          go_simp
          refine hK _ _ ?_
          clear hK K
          go_wp2
          go_roundw
          case rel => exact ⟨t + 1, _, by omega, by go_num, HGN.out, HBD.out, HOS.out, HBB.out⟩
          case measure => simp [intOf]; omega
        · obtain rfl : m = t := by omega
          have hT1 := HYL.out
          have HT1 : Hid (so.take m = so) := Lib.hid (List.take_of_length_le (by rw [HSL.out]; exact Nat.le_refl _))
          have HT2 : Hid (yy.take m = yy) := Lib.hid (List.take_of_length_le (by rw [HYL.out]; exact Nat.le_refl _))
          rw [HT1.out, HT2.out] at hG
          clear hT1
          have hRz := hR5.below hbz hR5.lt
          have hd0 : wr.cell? ⟨D, 0, none⟩ = some (.int .i64 nb) := (hBD.cell 0).trans rfl
          have hd1 : wr.cell? ⟨D, 1, none⟩ = some (.slice P2 np pc2) := (hBD.cell 1).trans rfl
          have hd2 : wr.cell? ⟨D, 2, none⟩ = some (.int .i64 slots) := (hBD.cell 2).trans rfl
          have hd3 : wr.cell? ⟨D, 3, none⟩ = some (.slice (some ⟨gE, 0, none⟩) nb nb) := (hBD.cell 3).trans rfl
          have hy0 : wr.cell? ⟨w.heap.size + 1, 0, none⟩ = some (.int .i64 0) := (hRz.cell 0).trans rfl
          have hy1 : wr.cell? ⟨w.heap.size + 1, 1, none⟩ = some (.slice none 0 0) := (hRz.cell 1).trans rfl
          have hy2 : wr.cell? ⟨w.heap.size + 1, 2, none⟩ = some (.int .i64 0) := (hRz.cell 2).trans rfl
          have hy3 : wr.cell? ⟨w.heap.size + 1, 3, none⟩ = some (.slice none 0 0) := (hRz.cell 3).trans rfl
          have hf0 := hRz.frozen 0
          have hf1 := hRz.frozen 1
          have hf2 := hRz.frozen 2
          have hf3 := hRz.frozen 3
          have hRlt := hR5.lt
          have HDO : Hid (DirOk nb (us.zip ys) slots ((List.range nb).map (bkt so yy))) := Lib.hid (dir_ok HAS.out HSO.out (by rw [HYL.out, HSL.out]) (fun i hi => by
            have h1 := (HYY.out i (by rw [← HSL.out]; exact hi)).1
            rw [List.getD_eq_getElem?_getD (l := so.map F), List.getElem?_map, List.getElem?_eq_getElem hi] at h1
            simp only [Option.map_some, Option.getD_some, HF.out] at h1
            rw [entAt_eq hi]
            exact h1) (fun b hb => HYC.out b hb))
          go_wp2
          have hR9 := blk_four (v0 := .int .i64 nb) (v1 := .slice P2 np pc2) (v2 := .int .i64 slots) (v3 := .slice (some ⟨gE, 0, none⟩) nb nb) hRz
          have hz0 := (hR9.cell 0).trans rfl
          have hz1 := (hR9.cell 1).trans rfl
          have hz2 := (hR9.cell 2).trans rfl
          have hz3 := (hR9.cell 3).trans rfl
          have hst : Step (w.heap.size + 1) wr ((((wr.setCell ⟨w.heap.size + 1, 0, none⟩ (.int .i64 nb)).setCell ⟨w.heap.size + 1, 1, none⟩ (.slice P2 np pc2)).setCell ⟨w.heap.size + 1, 2, none⟩ (.int .i64 slots)).setCell ⟨w.heap.size + 1, 3, none⟩ (.slice (some ⟨gE, 0, none⟩) nb nb)) := ((((Step.refl _ wr).set 0 _).set 1 _).set 2 _).set 3 _
          have hGf := hG.step hst hRlt
          have hOf := hOS.step hst hRlt
          have hMV := (hGf.matV (fun j hj => by
            have h1 := (hG.own j hj).1
            rw [List.getD_eq_getElem?_getD, List.getElem?_map, List.getElem?_range hj] at h1
            simp only [Option.map_some, Option.getD_some, entC_len] at h1
            have h2 := (bkt_sub j so yy).length_le
            have h3 := HSL.out
            omega)).low hbw5.size
          exact bodyPost_ret (v := .tuple #[.agg #[.int .i64 nb, .slice P2 np pc2, .int .i64 slots, .slice (some ⟨gE, 0, none⟩) nb nb], .int .i64 0]) (by simp [results, Tryz.results35, go_sem, hz0, hz1, hz2, hz3]) rfl
            ⟨_, 0, rfl, ((((hbw5.trans (hbz.mono hbw5.size)).setCell (p := ⟨w.heap.size + 1, 0, none⟩) (Nat.le_succ _) _).setCell (p := ⟨w.heap.size + 1, 1, none⟩) (Nat.le_succ _) _).setCell (p := ⟨w.heap.size + 1, 2, none⟩) (Nat.le_succ _) _).setCell (p := ⟨w.heap.size + 1, 3, none⟩) (Nat.le_succ _) _,
              .inl ⟨rfl, P2, pc2, some ⟨gE, 0, none⟩, nb, (List.range nb).map (bkt so yy), rfl, hOf.base hbw5.size, by rw [List.map_map]; exact hMV, HDO.out⟩⟩
      · have hm0 : 0 < m := by
          rcases Nat.eq_zero_or_pos m with h0 | h0
          · exact absurd (HNO.out h0) hno
          · exact h0
        have hRz := hR4.below hb5 hR4.lt
        have hbw5 := bnext hbw4 hb5
        clear hno
        have hy0 : w5.cell? ⟨w.heap.size + 1, 0, none⟩ = some (.int .i64 0) := (hRz.cell 0).trans rfl
        have hy1 : w5.cell? ⟨w.heap.size + 1, 1, none⟩ = some (.slice none 0 0) := (hRz.cell 1).trans rfl
        have hy2 : w5.cell? ⟨w.heap.size + 1, 2, none⟩ = some (.int .i64 0) := (hRz.cell 2).trans rfl
        have hy3 : w5.cell? ⟨w.heap.size + 1, 3, none⟩ = some (.slice none 0 0) := (hRz.cell 3).trans rfl
        have hf0 := hRz.frozen 0
        have hf1 := hRz.frozen 1
        have hf2 := hRz.frozen 2
        have hf3 := hRz.frozen 3
        go_wp2
        have hR9 := blk_four (v0 := .int .i64 0) (v1 := .slice none 0 0) (v2 := .int .i64 0) (v3 := .slice none 0 0) hRz
        have hz0 := (hR9.cell 0).trans rfl
        have hz1 := (hR9.cell 1).trans rfl
        have hz2 := (hR9.cell 2).trans rfl
        have hz3 := (hR9.cell 3).trans rfl
        exact bodyPost_ret (v := .tuple #[.agg #[.int .i64 0, .slice none 0 0, .int .i64 0, .slice none 0 0], .int .i64 15]) (by simp [results, Tryz.results35, go_sem, hz0, hz1, hz2, hz3]) rfl
          ⟨_, 15, rfl, (((hbw5.setCell (p := ⟨w.heap.size + 1, 0, none⟩) (Nat.le_succ _) _).setCell (p := ⟨w.heap.size + 1, 1, none⟩) (Nat.le_succ _) _).setCell (p := ⟨w.heap.size + 1, 2, none⟩) (Nat.le_succ _) _).setCell (p := ⟨w.heap.size + 1, 3, none⟩) (Nat.le_succ _) _, .inr ⟨by omega, hm0, rfl⟩⟩
end Go.Proofs.YtmcgnpdfpfgfpaaGreatDoor
