/-
  What stays while the homes of a key are read, and the plain law: the rows of a record, the records of buckets. No conditions.
-/
import Derived.Test.YtmcgnpdfpfgfpaaGreatDoorLEnc
import Derived.Test.YtmcgnpdfpfgfpaaGreatDoorLDec
import Derived.Test.YtmcgnpdfpfgfpaaGreatDoorGMDi
import Derived.Test.YtmcgnpdfpfgfpaaGreatDoorGKw1
import Derived.Test.YtmcgnpdfpfgfpaaGreatDoorGKw2
import Derived.Test.YtmcgnpdfpfgfpaaGreatDoorGLay
import Derived.Test.YtmcgnpdfpfgfpaaGreatDoorGRdF
namespace Go.Proofs.YtmcgnpdfpfgfpaaGreatDoor
open Go.RowKit
set_option linter.unusedVariables false

/-- The records of buckets. -/
def recL (slots : Nat) (E : List (List (ByteArray × Int))) : List ByteArray := E.map fun l => ⟨(encB slots l).toArray⟩
theorem recL_len (slots : Nat) (E : List (List (ByteArray × Int))) : (recL slots E).length = E.length := by simp [recL]
theorem recL_take {slots k : Nat} {E : List (List (ByteArray × Int))} (hk : k < E.length) : recL slots (E.take k) ++ [⟨(encB slots (E.getD k [])).toArray⟩] = recL slots (E.take (k + 1)) := by
  unfold recL
  rw [List.take_succ_eq_append_getElem hk, List.map_append, List.getD_eq_getElem?_getD, List.getElem?_eq_getElem hk]; rfl
theorem recL_at {slots k : Nat} {E : List (List (ByteArray × Int))} (hk : k < E.length) : txtAt (recL slots E) k = ⟨(encB slots (E.getD k [])).toArray⟩ := by
  rw [txtAt_eq (by rw [recL_len]; exact hk), List.getD_eq_getElem?_getD, List.getElem?_eq_getElem hk]
  simp [recL]
theorem getD_memE {E : List (List (ByteArray × Int))} {k : Nat} (hk : k < E.length) : E.getD k [] ∈ E := by
  rw [List.getD_eq_getElem?_getD, List.getElem?_eq_getElem hk]; exact List.getElem_mem _
theorem recL_size {nb slots : Nat} {ps : List (Int × Int)} {E : List (List (ByteArray × Int))} (h : DirOk nb ps slots E) : ∀ s ∈ recL slots E, s.size = slots * 37 := fun s hs => by
  obtain ⟨l, hl, rfl⟩ := List.mem_map.1 hs
  show (encB slots l).toArray.size = _
  rw [List.size_toArray, encB_len (fun e he => (h.val l hl e he).2.1) (h.fit l hl)]
theorem rowsL_getD {slots : Nat} : ∀ {ts : List ByteArray} {b j : Nat}, b < ts.length → j < slots → (rowsL slots ts).getD (b * slots + j) [] = rowF (elsF (txtAt ts b) slots) j
  | [], b, j, h, _ => absurd h (Nat.not_lt_zero _)
  | t :: ts, b, j, h, hj => by
    have hl : ((List.range slots).map (rowF (elsF t slots))).length = slots := by simp
    show ((List.range slots).map (rowF (elsF t slots)) ++ rowsL slots ts).getD _ [] = _
    rw [List.getD_eq_getElem?_getD]
    rcases b with _ | b
    · rw [Nat.zero_mul, Nat.zero_add, List.getElem?_append_left (by omega), List.getElem?_map, List.getElem?_range hj]; rfl
    · rw [List.getElem?_append_right (by rw [hl, Nat.succ_mul]; omega), hl, show (b + 1) * slots + j - slots = b * slots + j by rw [Nat.succ_mul]; omega, ← List.getD_eq_getElem?_getD, rowsL_getD (by simpa using h) hj]
      rfl
theorem rowsL_all {slots : Nat} {ts : List ByteArray} (h : ∀ s ∈ ts, s.size = slots * 37) : ∀ r ∈ rowsL slots ts, allP 257 r = true ∧ r.length = 40 := fun r hr => by
  obtain ⟨m, hm, hr2⟩ := List.mem_flatten.1 hr
  obtain ⟨s, hs, rfl⟩ := List.mem_map.1 hm
  obtain ⟨k, hk, rfl⟩ := List.mem_map.1 hr2
  have hk := List.mem_range.1 hk
  refine ⟨rowF_all s slots k, ?_⟩
  unfold rowF
  rw [List.length_take, List.length_drop, elsF_len (h s hs)]; omega

/-- What stays while the homes are read. -/
structure KWS (W : World) (g : Nat) (A : Option Addr) (n c : Nat) (xs : List Int) (q M D F PB LB nb np : Nat) (P : Option Addr) (pc : Nat) (us ys : List Int) (slots : Nat) (B : Option Addr) (bc : Nat) (E : List (List (ByteArray × Int)))
    (R : Option Addr) (N rc : Nat) (rows : List (List Int)) (Pl : Option Addr) (plc : Nat) (RC : Option Addr) (rcc : Nat) (recs : List ByteArray) (H : Option Addr) (hc : Nat) (hl : List Int) : Prop where
  dk : Deck W g A n c xs q
  f : Blk W F 44 #[.int .i64 257]
  pb : Blk W PB 54 #[.int .i64 4, .int .i64 1]
  lb : Blk W LB 48 #[.int .i64 40, .slice Pl nb plc]
  d : Blk W D 32 #[.int .i64 nb, .slice P np pc, .int .i64 slots, .slice B nb bc]
  dir : DirW W M nb np P pc us ys slots B E
  rows : OwnR W M M R N rc rows
  pl : OwnP W M Pl nb plc slots
  recs : OwnT W M RC nb rcc recs
  hm : OwnI W M 3 H np hc hl
  er : ErrW W
  gs : 0 < g ∧ g < M ∧ M ≤ F ∧ M ≤ PB ∧ M ≤ LB ∧ M ≤ D
section
variable {W W' : World} {g n c q M D F PB LB nb np pc slots bc N rc plc rcc hc : Nat} {A P B R Pl RC H : Option Addr} {xs us ys hl : List Int} {E : List (List (ByteArray × Int))} {rows : List (List Int)} {recs : List ByteArray}
theorem KWS.below (h : KWS W g A n c xs q M D F PB LB nb np P pc us ys slots B bc E R N rc rows Pl plc RC rcc recs H hc hl) (hb : Below W.heap.size W W') : KWS W' g A n c xs q M D F PB LB nb np P pc us ys slots B bc E R N rc rows Pl plc RC rcc recs H hc hl :=
  ⟨h.dk.belowAll hb, h.f.below hb h.f.lt, h.pb.below hb h.pb.lt, h.lb.below hb h.lb.lt, h.d.below hb h.d.lt, h.dir.below hb, h.rows.belowAll hb, own_below h.pl hb, own_below h.recs hb, own_below h.hm hb, h.er.below hb, h.gs⟩
theorem KWS.step {q' : Nat} (h : KWS W g A n c xs q M D F PB LB nb np P pc us ys slots B bc E R N rc rows Pl plc RC rcc recs H hc hl) (hs : Step g W W') (hd : Deck W' g A n c xs q') : KWS W' g A n c xs q' M D F PB LB nb np P pc us ys slots B bc E R N rc rows Pl plc RC rcc recs H hc hl := by
  have hg := h.gs
  exact ⟨hd, Step.block hs h.f (by omega), Step.block hs h.pb (by omega), Step.block hs h.lb (by omega), Step.block hs h.d (by omega), h.dir.step hs (by omega), h.rows.step hs (by omega) (by omega), own_step h.pl hs (by omega), own_step h.recs hs (by omega), own_step h.hm hs (by omega), h.er.stepR hs (by omega), h.gs⟩
theorem KWS.cf (h : KWS W g A n c xs q M D F PB LB nb np P pc us ys slots B bc E R N rc rows Pl plc RC rcc recs H hc hl) : W.cell? ⟨F, 0, none⟩ = some (.int .i64 257) := (h.f.cell 0).trans rfl
theorem KWS.cs (h : KWS W g A n c xs q M D F PB LB nb np P pc us ys slots B bc E R N rc rows Pl plc RC rcc recs H hc hl) : W.cell? ⟨PB, 0, none⟩ = some (.int .i64 4) := (h.pb.cell 0).trans rfl
theorem KWS.cd (h : KWS W g A n c xs q M D F PB LB nb np P pc us ys slots B bc E R N rc rows Pl plc RC rcc recs H hc hl) : W.cell? ⟨PB, 1, none⟩ = some (.int .i64 1) := (h.pb.cell 1).trans rfl
theorem KWS.cl0 (h : KWS W g A n c xs q M D F PB LB nb np P pc us ys slots B bc E R N rc rows Pl plc RC rcc recs H hc hl) : W.cell? ⟨LB, 0, none⟩ = some (.int .i64 40) := (h.lb.cell 0).trans rfl
theorem KWS.cl1 (h : KWS W g A n c xs q M D F PB LB nb np P pc us ys slots B bc E R N rc rows Pl plc RC rcc recs H hc hl) : W.cell? ⟨LB, 1, none⟩ = some (.slice Pl nb plc) := (h.lb.cell 1).trans rfl
theorem KWS.cd2 (h : KWS W g A n c xs q M D F PB LB nb np P pc us ys slots B bc E R N rc rows Pl plc RC rcc recs H hc hl) : W.cell? ⟨D, 2, none⟩ = some (.int .i64 slots) := (h.d.cell 2).trans rfl
theorem KWS.sh (h : KWS W g A n c xs q M D F PB LB nb np P pc us ys slots B bc E R N rc rows Pl plc RC rcc recs H hc hl) : Sh W W.heap.size P np us ys := h.dir.1.sh
theorem KWS.mat (h : KWS W g A n c xs q M D F PB LB nb np P pc us ys slots B bc E R N rc rows Pl plc RC rcc recs H hc hl) : Mat W M W.heap.size R N rows := h.rows.ownM.mat (Nat.le_refl _)
end
end Go.Proofs.YtmcgnpdfpfgfpaaGreatDoor
