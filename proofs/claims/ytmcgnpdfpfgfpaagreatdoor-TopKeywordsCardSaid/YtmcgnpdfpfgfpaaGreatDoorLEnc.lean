/-
  What Encode hands back: rows and places of records. Conditions: each record has 37 bytes for each of 1 to 4 rows; they are at most 64.
-/
import Derived.Test.YtmcgnpdfpfgfpaaGreatDoorRowsO
import Derived.Test.YtmcgnpdfpfgfpaaGreatDoorGLay
import Derived.Test.YtmcgnpdfpfgfpaaGreatDoorGEnt
namespace Go.Proofs.YtmcgnpdfpfgfpaaGreatDoor
open Go.RowKit
set_option linter.unusedVariables false

theorem types_pl : (109 ≠ (3 : TypeId) ∧ 109 ≠ (22 : TypeId)) ∧ (48 ≠ (3 : TypeId) ∧ 48 ≠ (22 : TypeId)) ∧ (109 : TypeId) ≠ 22 := by decide +kernel
theorem info_place : (Tryz.prog.info? 109).map (fun i => (i.zero, i.size, i.bytes)) = some (some (.agg #[.int .i64 0, .int .i64 0, .int .i64 0]), 3, 24) := by kernel_rfl
/-- Cells of places. -/
def plV (slots : Nat) : Nat → List Value
  | 0 => []
  | k + 1 => plV slots k ++ [.int .i64 ((k * slots : Nat) : Int), .int .i64 slots, .int .i64 ((slots * 37 : Nat) : Int)]
theorem plV_len (slots : Nat) : ∀ k, (plV slots k).length = k * 3
  | 0 => rfl
  | k + 1 => by
    show (plV slots k ++ _).length = _
    rw [List.length_append, plV_len slots k]; simp; omega
theorem plV_at {slots i : Nat} : ∀ {k : Nat}, i < k → (plV slots k)[i * 3]? = some (.int .i64 ((i * slots : Nat) : Int)) ∧ (plV slots k)[i * 3 + 1]? = some (.int .i64 slots) ∧ (plV slots k)[i * 3 + 2]? = some (.int .i64 ((slots * 37 : Nat) : Int))
  | 0, h => absurd h (Nat.not_lt_zero _)
  | k + 1, h => by
    have hl := plV_len slots k
    show (plV slots k ++ _)[i * 3]? = _ ∧ (plV slots k ++ _)[i * 3 + 1]? = _ ∧ (plV slots k ++ _)[i * 3 + 2]? = _
    rcases Nat.lt_succ_iff_lt_or_eq.1 h with h1 | rfl
    · rw [List.getElem?_append_left (by omega), List.getElem?_append_left (by omega), List.getElem?_append_left (by omega)]
      exact plV_at h1
    · rw [List.getElem?_append_right (by omega), List.getElem?_append_right (by omega), List.getElem?_append_right (by omega), hl, Nat.sub_self, show i * 3 + 1 - i * 3 = 1 by omega, show i * 3 + 2 - i * 3 = 2 by omega]
      exact ⟨rfl, rfl, rfl⟩
/-- A row of places of the call's own. -/
def OwnP (w : World) (base : Nat) (A : Option Addr) (n c slots : Nat) : Prop := w.ownsRow base 109 3 (.slice A n c) n (plV slots n)
theorem OwnP.nil_ {w : World} {base slots : Nat} : OwnP w base none 0 0 slots := World.ownsRow_nil _ _ _ _
theorem OwnP.plcs {w : World} {base n c slots : Nat} {A : Option Addr} (h : OwnP w base A n c slots) : Plcs w w.heap.size A n slots := fun hn => by
  obtain ⟨g, cap, hv, hg, hlt⟩ := World.ownsRow.form h hn
  have hA : A = some ⟨g, 0, none⟩ := by injection hv
  subst hA
  have key : ∀ j u, (plV slots n)[j]? = some u → w.cell? ⟨g, 0 + j, none⟩ = some u := fun j u hu => by
    have hl : j < (plV slots n).length := (List.getElem?_eq_some_iff.1 hu).1
    rw [plV_len] at hl
    rw [Nat.zero_add, World.ownsRow.cellAt h j (by omega)]
    exact hu
  refine ⟨g, 0, rfl, hlt, fun i hi => ?_⟩
  obtain ⟨h1, h2, h3⟩ := plV_at (slots := slots) hi
  exact ⟨key _ _ h1, by rw [Nat.add_assoc]; exact key _ _ h2, by rw [Nat.add_assoc]; exact key _ _ h3⟩
/-- One more place. -/
theorem wpList_append_place {w : World} {ops : Array Oper} {rest : List Oper} {o : Oper} {a : Act} {Q : Exit → Act → World → Prop} (hgd : o.guard = none) (s x : Operand) (t : TypeId)
    (ho : o.op = .call { callee := .builtin .append, args := #[s, x], argTypes := #[t, t] })
    (ht : Tryz.prog.underlying t = some (.slice 109)) (base : Nat) (A : Option Addr) (n c slots : Nat) (hs : a.eval s = .slice A n c) (hown : OwnP w base A n c slots)
    (b : Nat) (c2 : Nat) (r L : Nat) (hr : n * slots = r) (hL : slots * 37 = L) (hx : a.eval x = .slice (some ⟨b, 0, none⟩) 1 c2) (h0 : w.cell? ⟨b, 0, none⟩ = some (.int .i64 (r : Int))) (h1 : w.cell? ⟨b, 1, none⟩ = some (.int .i64 slots)) (h2 : w.cell? ⟨b, 2, none⟩ = some (.int .i64 (L : Int))) (hn : n ≤ 1000000) (hbase : base ≤ w.heap.size)
    (h : ∀ A' c' w', OwnP w' base A' (n + 1) c' slots → w.grownBy w' (Value.slice A n c).ownBlock → Below base w w' → wpList Tryz.prog ops Q rest (a.put o.dst (.slice A' (n + 1) c')) w') : wpList Tryz.prog ops Q (o :: rest) a w := by
  subst hr
  subst hL
  obtain ⟨i, hi, hz, hsize, hby⟩ := info_parts info_place
  refine wpList_append_any w hgd s x t ho base 109 i _ 3 24 ht hi hz hsize hby rfl (by omega) (.slice A n c) n (plV slots n) hs hown (b + 1) (some ⟨b, 0, none⟩) 1 c2 [.int .i64 ((n * slots : Nat) : Int), .int .i64 slots, .int .i64 ((slots * 37 : Nat) : Int)] hx
    ⟨rfl, fun _ => ⟨_, rfl, Nat.lt_succ_self b, fun j v hj => ?_⟩⟩ (fun v hv => by
      simp only [List.mem_cons, List.not_mem_nil, or_false] at hv
      rcases hv with rfl | rfl | rfl <;> rfl) (by unfold maxLen; omega) (by omega) hbase ?_
  · match j, hj with
    | 0, hj => simp at hj; subst hj; exact h0
    | 1, hj => simp at hj; subst hj; exact h1
    | 2, hj => simp at hj; subst hj; exact h2
    | j + 3, hj => simp at hj
  · intro v' w' hown' hg hat
    have hb : Below base w w' := (Below.refl base w).grown hg hbase (fun k hk => (World.ownsRow.lt hown k hk).1)
    rcases hown'.2 with ⟨hv, hn0⟩ | ⟨g, cap, cur, hv, _⟩
    · omega
    · rw [hv] at hown' ⊢
      exact h _ cap w' hown' hg hb

/-- The rows of some records. -/
def rowsL (slots : Nat) (ts : List ByteArray) : List (List Int) := (ts.map fun s => (List.range slots).map (rowF (elsF s slots))).flatten
theorem rowsL_snoc (slots : Nat) (ts : List ByteArray) (s : ByteArray) : rowsL slots (ts ++ [s]) = rowsL slots ts ++ (List.range slots).map (rowF (elsF s slots)) := by
  unfold rowsL
  rw [List.map_append, List.flatten_append]; simp

set_option maxRecDepth 100000 in
set_option maxHeartbeats 8000000 in
theorem lenc_ok (slots n : Nat) (A : Option Addr) (c : Nat) (ts : List ByteArray) (w : World) {base : Nat} (h1 : 1 ≤ slots) (h2 : slots ≤ 4) (hn : n ≤ 64) (hT : OwnT w base A n c ts) (hts : ∀ s ∈ ts, s.size = slots * 37) :
    Calls Tryz.prog 11 #[.agg #[.int .i64 257], .int .i64 40, .slice A n c] w fun e w' => ∃ R rc P pc, e = .returned (.tuple #[.slice R (n * slots) rc, .agg #[.int .i64 40, .slice P n pc], .int .i64 0]) ∧ OwnR w' w.heap.size w.heap.size R (n * slots) rc (rowsL slots ts) ∧ OwnP w' w.heap.size P n pc slots ∧ Below w.heap.size w w' := by
  have HTL := Lib.hid hT.len
  have HTS := Lib.hid hts
  clear hts
  have hni : ¬ (256 : Int) < (n : Int) := by omega
  obtain ⟨N, hN⟩ : ∃ N, n * slots = N := ⟨_, rfl⟩
  have HN := Lib.hid hN
  have hNl : N ≤ 256 := by rw [← hN]; exact Nat.mul_le_mul hn h2
  rw [hN]
  clear hN
  obtain ⟨L, hL⟩ : ∃ L, slots * 37 = L := ⟨_, rfl⟩
  have HL := Lib.hid hL
  have hL2 : L ≤ 1024 := by omega
  have hL3 : ¬ (1024 : Int) < (L : Int) := by omega
  clear hL
  have hb2 : Below w.heap.size w ((w.alloc (.cells #[.int .i64 257] 44)).alloc (.cells #[.int .i64 0, .slice none 0 0] 48)) := ballocs (bbox _) _
  have hR2 := Blk.new1 w (.cells #[.int .i64 257] 44) 48 #[.int .i64 0, .slice none 0 0]
  have hsz2 : ((w.alloc (.cells #[.int .i64 257] 44)).alloc (.cells #[.int .i64 0, .slice none 0 0] 48)).heap.size = w.heap.size + 2 := by simp
  go_enter Tryz.func11, Tryz.ntmps11
  go_upto_region 8 with (first
    | (go_at_call 39; refine (of_yes 257 _ (by decide)).mono ?_; rintro e w3 ⟨rfl, hb3⟩
       have hbw3 := bnext hb2 hb3
       have hR3 := hR2.below hb3 hR2.lt
       have hsz3 : w.heap.size + 2 ≤ w3.heap.size := by have := hb3.size; omega
       clear hR2 hb2 hb3 hsz2)
    | (go_at_call 40; refine (wide_ok 40 _ (by omega) (by omega)).mono ?_; rintro e w2 ⟨rfl, rfl⟩))
  have hB4 := Blk.new w3 48 #[.int .i64 40, .slice none 0 0]
  have hb4 := bbox (w0 := w3) (.cells #[.int .i64 40, .slice none 0 0] 48)
  have hR4 := hR3.below hb4 hR3.lt

  have hbw4 := bnext hbw3 hb4
  have hsz4 : (w3.alloc (.cells #[.int .i64 40, .slice none 0 0] 48)).heap.size = w3.heap.size + 1 := by simp
  go_upto_region 10 with fail
  obtain ⟨w4, hw4⟩ : ∃ x : World, w3.alloc (.cells #[.int .i64 40, .slice none 0 0] 48) = x := ⟨_, rfl⟩
  rw [hw4] at hB4 hb4 hR4 hbw4 hsz4
  rw [hw4]
  obtain ⟨gl, hgl⟩ : ∃ g, w3.heap.size = g := ⟨_, rfl⟩
  rw [hgl] at hB4 hsz4 hsz3
  rw [hgl]
  clear hw4 hb4 hR3 hbw3 hgl
  go_wp2_with fail
  go_loopw [11, 39] (fun v11 v39 wx => ∃ (k : Nat) (R : Option Addr) (rc : Nat) (P : Option Addr) (pc : Nat), k ≤ n ∧ v11 = .slice R (k * slots) rc ∧ v39 = .int .i64 k ∧ OwnR wx (gl + 1) (gl + 1) R (k * slots) rc (rowsL slots (ts.take k)) ∧ OwnP wx (gl + 1) P k pc slots ∧ Blk wx gl 48 #[.int .i64 40, .slice P k pc] ∧ Step gl w4 wx) (fun _ v39 _ => n - (intOf v39).toNat)
  case atStart => exact ⟨0, none, 0, none, 0, Nat.zero_le _, by rw [Nat.zero_mul], rfl, by rw [Nat.zero_mul]; exact OwnR.nil_, OwnP.nil_, hB4, Step.refl _ _⟩
  case round =>
  obtain ⟨k, R, rc, P, pc, hk, rfl, rfl, hR, hP, hBl, hS⟩ := hrel
  have hsx : gl + 1 ≤ wr.heap.size := by have := World.grownBy.size hS; omega
  have hbx : Below w.heap.size w wr := Step.below hbw4 hS (by have := hbw4.size; omega) (by omega)
  by_cases hkn : k < n
  · have hki : (k : Int) < (n : Int) := by omega
    have hk0 : (0 : Int) ≤ (k : Int) := by omega
    obtain ⟨gT, rfl, _, hgT, hcT0⟩ := hT.at_ hkn
    have hcT := (hbx.cell (p := ⟨gT, k, none⟩) hgT).trans hcT0
    obtain ⟨s, hs⟩ : ∃ s, txtAt ts k = s := ⟨_, rfl⟩
    rw [hs] at hcT
    have hsz : s.size = L := by rw [← hs, ← HL.out]; exact HTS.out _ (txtAt_mem (by rw [HTL.out]; exact hkn))
    have HSS : Hid (s.size = slots * 37) := Lib.hid (by rw [hsz]; exact HL.out.symm)
    have HTK : Hid (rowsL slots (ts.take (k + 1)) = rowsL slots (ts.take k) ++ (List.range slots).map (rowF (elsF s slots))) := Lib.hid (by rw [List.take_succ_eq_append_getElem (by rw [HTL.out]; exact hkn), rowsL_snoc, ← txtAt_eq (by rw [HTL.out]; exact hkn), hs])
    clear hs hcT0
    obtain ⟨r, hr⟩ : ∃ r, k * slots = r := ⟨_, rfl⟩
    have hr1 : (k + 1) * slots ≤ N := by rw [← HN.out]; exact Nat.mul_le_mul_right _ hkn
    have hr2 : (k + 1) * slots = r + slots := by rw [Nat.succ_mul, hr]
    obtain ⟨r2, hr3⟩ : ∃ r2, r + slots = r2 := ⟨_, rfl⟩
    rw [hr2, hr3] at hr1
    have HR2 : Hid ((k + 1) * slots = r2) := Lib.hid (hr2.trans hr3)
    have HRK := Lib.hid hr
    have HRS := Lib.hid hr3
    have hrsi : (r : Int) + (slots : Int) = (r2 : Int) := by omega
    have hsub : (r2 : Int) - (r : Int) = (slots : Int) := by omega
    have hr4 : ¬ (1024 : Int) < (r2 : Int) := by omega
    rw [hr] at hR ⊢
    clear hr hr2 hr3
    have hbp := bbox (w0 := wr) (.cells #[.int .i64 (r : Int), .int .i64 0, .int .i64 (L : Int)] 109)
    have hNp := Blk.new wr 109 #[.int .i64 (r : Int), .int .i64 0, .int .i64 (L : Int)]
    have hRp := hR.belowAll hbp
    have hPp : OwnP _ (gl + 1) P k pc slots := own_below hP hbp
    have hBp := hBl.below hbp hBl.lt
    have hSp := hS.alloc (.cells #[.int .i64 (r : Int), .int .i64 0, .int .i64 (L : Int)] 109)
    have hlep : gl + 1 ≤ (wr.alloc (.cells #[.int .i64 (r : Int), .int .i64 0, .int .i64 (L : Int)] 109)).heap.size := by rw [World.size_alloc]; omega
    have hglr : gl < wr.heap.size := by omega
    go_upto_region 17 with (first
      | (go_at_call 41; refine (needed_ok slots L _ h1 h2 HL.out.symm).mono ?_; rintro e w2 ⟨rfl, rfl⟩)
      | (go_at_call 42
         refine (rowsO_ok slots s _ h1 h2 HSS.out).mono ?_
         rintro e w6 ⟨R1, c1, rfl, hR1, hb6⟩
         have hR6 := hRp.belowAll hb6
         have hP6 : OwnP w6 (gl + 1) P k pc slots := own_below hPp hb6
         have hB6 := hBp.below hb6 hBp.lt
         have hN6 := hNp.below hb6 hNp.lt
         have hS6 := hSp.trans (Step.of_below hb6)
         have hle6 := Nat.le_trans hlep hb6.size)
      | (at_builtin
         refine wpList_append_rowsR rfl _ _ 45 rfl Tryz.underlying45 rfl hR6 rfl hR1 hlep (by omega) hle6 ?_
         intro R7 rc7 w7 hR7 hg7 hb7
         rw [HRS.out] at hR7 ⊢))
    have hP7 : OwnP w7 (gl + 1) P k pc slots := World.ownsRow.kept hP6 hg7 (by
      obtain ⟨_, vs6, hv6, _⟩ := hR6
      exact own_two hP6 hv6 types_pl.2.2)
    have hB7 := hB6.below hb7 (Nat.lt_succ_self _)
    have hN7 := hN6.grown hg7 (fun e => by have := (hR.row _ e.symm).2; omega)
    have hS7 : Step gl w4 w7 := Step.thenBelow hS6 (by rw [hsz4]; exact hb7)
    have hle7 := Nat.le_trans hle6 hb7.size
    have hc70 : w7.cell? ⟨wr.heap.size, 0, none⟩ = some (.int .i64 (r : Int)) := (hN7.cell 0).trans rfl
    have hc71 : w7.cell? ⟨wr.heap.size, 1, none⟩ = some (.int .i64 0) := (hN7.cell 1).trans rfl
    have hf71 := hN7.frozen 1
    have HPL := Lib.hid (fun z (e : (Value.slice P k pc).ownBlock = some z) => (World.ownsRow.lt hP z e).2)
    clear hR6 hP6 hB6 hN6 hS6 hR1 hb6 hRp hPp hBp hNp hSp hbp hR hP hBl
    go_upto_region 18 with fail
    have hN8 : Blk (w7.setCell ⟨wr.heap.size, 1, none⟩ (.int .i64 slots)) wr.heap.size 109 #[.int .i64 (r : Int), .int .i64 slots, .int .i64 (L : Int)] := hN7.set_ 1 (.int .i64 slots)
    have hB8 := hB7.far (p := ⟨wr.heap.size, 1, none⟩) (by show gl ≠ wr.heap.size; omega) (.int .i64 slots)
    have hR8 : OwnR (w7.setCell ⟨wr.heap.size, 1, none⟩ (.int .i64 slots)) _ _ _ _ _ _ := hR7.kept (row := some wr.heap.size) ((Step.refl wr.heap.size w7).set 1 _) (NoRow.blk hN7 types_pl.1)
    have hP8 : OwnP (w7.setCell ⟨wr.heap.size, 1, none⟩ (.int .i64 slots)) (gl + 1) P k pc slots := World.ownsRow.kept (row := some wr.heap.size) hP7 ((Step.refl wr.heap.size w7).set 1 _) (.inr (fun e => by have := HPL.out _ e; omega))
    have hS8 := hS7.setNew (p := ⟨wr.heap.size, 1, none⟩) (by show w4.heap.size ≤ wr.heap.size; omega) (.int .i64 slots)
    obtain ⟨w8, hw8⟩ : ∃ x : World, w7.setCell ⟨wr.heap.size, 1, none⟩ (.int .i64 slots) = x := ⟨_, rfl⟩
    rw [hw8] at hN8 hB8 hR8 hP8 hS8
    have hle8 : gl + 1 ≤ w8.heap.size := by rw [← hw8]; simpa using hle7
    rw [hw8]
    clear hw8 hN7 hB7 hR7 hP7 hS7 hc70 hc71 hf71 hg7 hb7
    have hc80 : w8.cell? ⟨wr.heap.size, 0, none⟩ = some (.int .i64 (r : Int)) := (hN8.cell 0).trans rfl
    have hc81 : w8.cell? ⟨wr.heap.size, 1, none⟩ = some (.int .i64 slots) := (hN8.cell 1).trans rfl
    have hc82 : w8.cell? ⟨wr.heap.size, 2, none⟩ = some (.int .i64 (L : Int)) := (hN8.cell 2).trans rfl
    have hd80 : w8.cell? ⟨gl, 0, none⟩ = some (.int .i64 40) := (hB8.cell 0).trans rfl
    have hd81 : w8.cell? ⟨gl, 1, none⟩ = some (.slice P k pc) := (hB8.cell 1).trans rfl
    have hbq := bbox (w0 := w8) (.cells #[.int .i64 (r : Int), .int .i64 slots, .int .i64 (L : Int)] 109)
    have hN9 := Blk.new w8 109 #[.int .i64 (r : Int), .int .i64 slots, .int .i64 (L : Int)]
    have hR9 := hR8.belowAll hbq
    have hP9 : OwnP _ (gl + 1) P k pc slots := own_below hP8 hbq
    have hB9 := hB8.below hbq hB8.lt
    have hS9 := hS8.alloc (.cells #[.int .i64 (r : Int), .int .i64 slots, .int .i64 (L : Int)] 109)
    have hle9 := Nat.le_trans hle8 hbq.size
    have HRK2 := HRK
    go_upto_region 19 with (at_builtin
                            refine wpList_append_place rfl _ _ 46 rfl Tryz.underlying46 (gl + 1) P k pc slots rfl hP9 w8.heap.size 1 r L HRK.out HL.out rfl ((hN9.cell 0).trans rfl) ((hN9.cell 1).trans rfl) ((hN9.cell 2).trans rfl) (by omega) hle9 ?_
                            intro P10 pc10 w10 hP10 hg10 hb10
                            have hR10 := hR9.kept hg10 (NoRow.own hP9 types_pl.1)
                            have hB10 := hB9.below hb10 (Nat.lt_succ_self _)
                            have hS10 : Step gl w4 w10 := Step.thenBelow hS9 (by rw [hsz4]; exact hb10)
                            have hd10 : w10.cell? ⟨gl, 1, none⟩ = some (.slice P k pc) := (hB10.cell 1).trans rfl
                            have hf10 := hB10.frozen 1
                            clear hd80 hd81 hc80 hc81 hc82)
    have hB11 : Blk (w10.setCell ⟨gl, 1, none⟩ (.slice P10 (k + 1) pc10)) gl 48 #[.int .i64 40, .slice P10 (k + 1) pc10] := hB10.set_ 1 _
    have hR11 : OwnR (w10.setCell ⟨gl, 1, none⟩ (.slice P10 (k + 1) pc10)) _ _ _ _ _ _ := hR10.kept (row := some gl) ((Step.refl gl w10).set 1 _) (NoRow.blk hB10 types_pl.2.1)
    have hS11 := hS10.set 1 (.slice P10 (k + 1) pc10)
    have hP11 : OwnP (w10.setCell ⟨gl, 1, none⟩ (.slice P10 (k + 1) pc10)) (gl + 1) P10 (k + 1) pc10 slots := own_step hP10 ((Step.refl gl w10).set 1 _) (Nat.lt_succ_self _)
    go_wp2
    go_roundw
    case rel => exact ⟨k + 1, R7, rc7, P10, pc10, by omega, by rw [HR2.out], by go_num, by rw [HR2.out, HTK.out]; exact hR11, hP11, hB11, hS11⟩
    case measure => simp [intOf]; omega
  · obtain rfl : n = k := by omega
    rw [HN.out] at hR ⊢
    have HTA : Hid (ts.take n = ts) := Lib.hid (List.take_of_length_le (by rw [HTL.out]; exact Nat.le_refl _))
    rw [HTA.out] at hR
    have hRS := Step.block hS hR4 (by omega)
    have hc0 : wr.cell? ⟨gl, 0, none⟩ = some (.int .i64 40) := (hBl.cell 0).trans rfl
    have hc1 : wr.cell? ⟨gl, 1, none⟩ = some (.slice P n pc) := (hBl.cell 1).trans rfl
    have hz0 : wr.cell? ⟨w.heap.size + 1, 0, none⟩ = some (.int .i64 0) := (hRS.cell 0).trans rfl
    have hz1 : wr.cell? ⟨w.heap.size + 1, 1, none⟩ = some (.slice none 0 0) := (hRS.cell 1).trans rfl
    have hf0 := hRS.frozen 0
    have hf1 := hRS.frozen 1
    go_wp2
    have hRX : Blk ((wr.setCell ⟨w.heap.size + 1, 0, none⟩ (.int .i64 40)).setCell ⟨w.heap.size + 1, 1, none⟩ (.slice P n pc)).drew (w.heap.size + 1) 48 #[.int .i64 40, .slice P n pc] := ((hRS.set_ 0 (.int .i64 40)).set_ 1 (.slice P n pc)).drew
    have hSX : Step (w.heap.size + 1) wr ((wr.setCell ⟨w.heap.size + 1, 0, none⟩ (.int .i64 40)).setCell ⟨w.heap.size + 1, 1, none⟩ (.slice P n pc)).drew := (((Step.refl (w.heap.size + 1) wr).set 0 _).set 1 _).drew
    have hRF := (hR.step hSX (by omega) (by omega)).weaken (base' := w.heap.size) (lo' := w.heap.size) (by omega) (by omega)
    have hPF : OwnP _ (gl + 1) P n pc slots := own_step hP hSX (by omega)
    have hBF := Step.below hbx hSX hbx.size (Nat.le_succ _)
    have hx0 := (hRX.cell 0).trans rfl
    have hx1 := (hRX.cell 1).trans rfl
    go_region
    go_wp2
    exact bodyPost_ret (v := .tuple #[.slice R N rc, .agg #[.int .i64 40, .slice P n pc], .int .i64 0]) (by simp [results, Tryz.results11, go_sem, hx0, hx1]) rfl ⟨R, rc, P, pc, rfl, hRF, own_base hPF (by omega), hBF⟩
end Go.Proofs.YtmcgnpdfpfgfpaaGreatDoor
