/-
  Words for memory and contracts of small functions of the second form. Conditions: those of each lemma.
-/
import Derived.Test.YtmcgnpdfpfgfpaaGreatDoorGKwP
import Derived.Test.YtmcgnpdfpfgfpaaGreatDoorGen
import Derived.Test.YtmcgnpdfpfgfpaaGreatDoorGCrv
import Derived.Laws.IdiomStrings
import Derived.Laws.CopyOwn
import Derived.Lib.BufferWrite
import Derived.Test.YtmcgnpdfpfgfpaaGreatDoorGAns
import Derived.Laws.MakeOwn
import Derived.Laws.AppendOwn
import Derived.Test.YtmcgnpdfpfgfpaaGreatDoorGMem
/-! EntW -/
namespace Go.Proofs.YtmcgnpdfpfgfpaaGreatDoor
open Go.RowKit
set_option linter.unusedVariables false

theorem info_text : (Tryz.prog.info? 9).map (fun i => (i.zero, i.size, i.bytes)) = some (some (.string ⟨#[]⟩), 1, 16) := by kernel_rfl
theorem info_byte : (Tryz.prog.info? 5).map (fun i => (i.zero, i.size, i.bytes)) = some (some (.int .u8 0), 1, 1) := by kernel_rfl
theorem info_entry : (Tryz.prog.info? 39).map (fun i => (i.zero, i.size, i.bytes)) = some (some (.agg #[.string ⟨#[]⟩, .int .i64 0]), 2, 24) := by kernel_rfl

theorem own_step {g base k n c : Nat} {e : TypeId} {A : Option Addr} {vs : List Value} {w w' : World} (h : w.ownsRow base e k (.slice A n c) n vs) (hs : Step g w w') (hg : g < base) : w'.ownsRow base e k (.slice A n c) n vs := by
  rcases hb : (Value.slice A n c).ownBlock with _ | z
  · exact World.ownsRow.kept h hs (.inl hb)
  · exact World.ownsRow.kept h hs (.inr (by rw [hb]; intro e; injection e with e; have := (World.ownsRow.lt h z hb).1; omega))
theorem own_base {base base' k n : Nat} {e : TypeId} {v : Value} {vs : List Value} {w : World} (h : w.ownsRow base e k v n vs) (hb : base' ≤ base) : w.ownsRow base' e k v n vs := by
  refine ⟨h.1, ?_⟩
  rcases h.2 with h0 | ⟨g, cap, cur, hv, hg, r⟩
  · exact .inl h0
  · exact .inr ⟨g, cap, cur, hv, Nat.le_trans hb hg, r⟩

/-- The text at a place. -/
def txtAt (ts : List ByteArray) (j : Nat) : ByteArray := ts.getD j ⟨#[]⟩
theorem txtAt_eq {ts : List ByteArray} {j : Nat} (hj : j < ts.length) : txtAt ts j = ts[j] := by
  unfold txtAt
  rw [List.getD_eq_getElem?_getD, List.getElem?_eq_getElem hj]; rfl
theorem txtAt_mem {ts : List ByteArray} {j : Nat} (hj : j < ts.length) : txtAt ts j ∈ ts := by rw [txtAt_eq hj]; exact List.getElem_mem _
/-- A row of texts of the call's own. -/
def OwnT (w : World) (base : Nat) (A : Option Addr) (n c : Nat) (ts : List ByteArray) : Prop := w.ownsRow base 9 1 (.slice A n c) n (ts.map .string)
section
variable {w w' : World} {base n c : Nat} {A : Option Addr} {ts : List ByteArray}
theorem OwnT.nil_ : OwnT w base none 0 0 [] := World.ownsRow_nil _ _ _ _
theorem OwnT.len (h : OwnT w base A n c ts) : ts.length = n := by have := h.1; simpa using this
theorem OwnT.at_ (h : OwnT w base A n c ts) {j : Nat} (hj : j < n) : ∃ g, A = some ⟨g, 0, none⟩ ∧ base ≤ g ∧ g < w.heap.size ∧ w.cell? ⟨g, j, none⟩ = some (.string (txtAt ts j)) := by
  have hl := h.len
  obtain ⟨g, cap, hv, h1, h2⟩ := World.ownsRow.form h (by omega)
  injection hv with hA
  subst hA
  refine ⟨g, rfl, h1, h2, ?_⟩
  rw [World.ownsRow.cellAt h j (by omega), List.getElem?_map, List.getElem?_eq_getElem (by omega), txtAt_eq (by omega)]; rfl
end
/-- One more text. -/
theorem wpList_append_text {w : World} {ops : Array Oper} {rest : List Oper} {o : Oper} {a : Act} {Q : Exit → Act → World → Prop} (hgd : o.guard = none) (s x : Operand) (t : TypeId)
    (ho : o.op = .call { callee := .builtin .append, args := #[s, x], argTypes := #[t, t] })
    (ht : Tryz.prog.underlying t = some (.slice 9)) (base : Nat) (A : Option Addr) (n c : Nat) (ts : List ByteArray) (hs : a.eval s = .slice A n c) (hown : OwnT w base A n c ts)
    (b : Nat) (c2 : Nat) (u : ByteArray) (hx : a.eval x = .slice (some ⟨b, 0, none⟩) 1 c2) (h0 : w.cell? ⟨b, 0, none⟩ = some (.string u)) (hn : n ≤ 1000000) (hbase : base ≤ w.heap.size)
    (h : ∀ A' c' w', OwnT w' base A' (n + 1) c' (ts ++ [u]) → w.grownBy w' (Value.slice A n c).ownBlock → Below base w w' → wpList Tryz.prog ops Q rest (a.put o.dst (.slice A' (n + 1) c')) w') : wpList Tryz.prog ops Q (o :: rest) a w := by
  obtain ⟨i, hi, hz, hsize, hby⟩ := info_parts info_text
  refine wpList_append_any w hgd s x t ho base 9 i _ 1 16 ht hi hz hsize hby rfl (by omega) (.slice A n c) n (ts.map .string) hs hown (b + 1) (some ⟨b, 0, none⟩) 1 c2 [.string u] hx
    ⟨rfl, fun _ => ⟨_, rfl, Nat.lt_succ_self b, fun j v hj => ?_⟩⟩ (fun v hv => by rw [List.mem_singleton.1 hv]; rfl) (by unfold maxLen; omega) (by omega) hbase ?_
  · match j, hj with
    | 0, hj => simp at hj; subst hj; exact h0
    | j + 1, hj => simp at hj
  · intro v' w' hown' hg hat
    rw [show ts.map Value.string ++ [.string u] = (ts ++ [u]).map Value.string by simp] at hown'
    have hb : Below base w w' := (Below.refl base w).grown hg hbase (fun k hk => (World.ownsRow.lt hown k hk).1)
    rcases hown'.2 with ⟨hv, hn0⟩ | ⟨g, cap, cur, hv, _⟩
    · omega
    · rw [hv] at hown' ⊢
      exact h _ cap w' hown' hg hb

/-- A row of entries of the call's own. -/
def OwnE (w : World) (base : Nat) (A : Option Addr) (n c : Nat) (es : List (ByteArray × Int)) : Prop := w.ownsRow base 39 2 (.slice A n c) n (entC es)
/-- A slice reads as entries. -/
def Ents (w : World) (lo B : Nat) (A : Option Addr) (n : Nat) (es : List (ByteArray × Int)) : Prop := RowV w lo B 2 A n (entC es)
section
variable {w w' : World} {base lo B n c : Nat} {A : Option Addr} {es : List (ByteArray × Int)}
theorem OwnE.nil_ : OwnE w base none 0 0 [] := World.ownsRow_nil _ _ _ _
theorem OwnE.len (h : OwnE w base A n c es) : es.length = n := by have := h.1; rw [entC_len] at this; omega
theorem OwnE.ents (h : OwnE w base A n c es) : Ents w base w.heap.size A n es := RowV.of_own h
theorem Ents.len (h : Ents w lo B A n es) : es.length = n := by have := h.1; rw [entC_len] at this; omega
theorem Ents.at_ (h : Ents w lo B A n es) {j : Nat} (hj : j < n) : ∃ b off, A = some ⟨b, off, none⟩ ∧ lo ≤ b ∧ b < B ∧ w.cell? ⟨b, off + j * 2, none⟩ = some (.string (entAt es j).1) ∧ w.cell? ⟨b, off + j * 2 + 1, none⟩ = some (.int .i64 (entAt es j).2) := by
  obtain ⟨b, off, e, hl, hb, hc⟩ := h.2 (by omega)
  have hs := entC_at es j (by rw [h.len]; exact hj)
  exact ⟨b, off, e, hl, hb, hc _ _ hs.1, by rw [Nat.add_assoc]; exact hc _ _ hs.2⟩
theorem OwnE.row (h : OwnE w base A n c es) : ∀ k, (Value.slice A n c).ownBlock = some k → base ≤ k := fun k hk => (World.ownsRow.lt h k hk).1
end
/-- One more entry. -/
theorem wp_append_ent {w : World} {o : Oper} {a : Act} {K : Act → World → Prop} {Q : Exit → Act → World → Prop} (s x : Operand) (t : TypeId)
    (ho : o.op = .call { callee := .builtin .append, args := #[s, x], argTypes := #[t, t] })
    (ht : Tryz.prog.underlying t = some (.slice 39)) (base : Nat) (A : Option Addr) (n c : Nat) (es : List (ByteArray × Int)) (hs : a.eval s = .slice A n c) (hown : OwnE w base A n c es)
    (b : Nat) (c2 : Nat) (u : ByteArray × Int) (hx : a.eval x = .slice (some ⟨b, 0, none⟩) 1 c2) (h0 : w.cell? ⟨b, 0, none⟩ = some (.string u.1)) (h1 : w.cell? ⟨b, 1, none⟩ = some (.int .i64 u.2)) (hn : n ≤ 1000000) (hbase : base ≤ w.heap.size)
    (h : ∀ A' c' w', OwnE w' base A' (n + 1) c' (es ++ [u]) → w.grownBy w' (Value.slice A n c).ownBlock → Below base w w' → ((Value.slice A' (n + 1) c').ownBlock = (Value.slice A n c).ownBlock ∨ (Value.slice A' (n + 1) c').ownBlock = some w.heap.size) → K (a.put o.dst (.slice A' (n + 1) c')) w') : o.wp Tryz.prog a w K Q := by
  obtain ⟨i, hi, hz, hsize, hby⟩ := info_parts info_entry
  refine wp_append_any w s x t ho base 39 i _ 2 24 ht hi hz hsize hby rfl (by omega) (.slice A n c) n (entC es) hs hown (b + 1) (some ⟨b, 0, none⟩) 1 c2 [.string u.1, .int .i64 u.2] hx
    ⟨rfl, fun _ => ⟨_, rfl, Nat.lt_succ_self b, fun j v hj => ?_⟩⟩ (fun v hv => by
      simp only [List.mem_cons, List.not_mem_nil, or_false] at hv
      rcases hv with rfl | rfl <;> rfl) (by unfold maxLen; omega) (by omega) hbase ?_
  · match j, hj with
    | 0, hj => simp at hj; subst hj; exact h0
    | 1, hj => simp at hj; subst hj; exact h1
    | j + 2, hj => simp at hj
  · intro v' w' hown' hg hat
    rw [show entC es ++ [.string u.1, .int .i64 u.2] = entC (es ++ [u]) by rw [entC_app]; rfl] at hown'
    have hb : Below base w w' := (Below.refl base w).grown hg hbase (fun k hk => (World.ownsRow.lt hown k hk).1)
    rcases hown'.2 with ⟨hv, hn0⟩ | ⟨g, cap, cur, hv, _⟩
    · omega
    · rw [hv] at hown' hat ⊢
      exact h _ cap w' hown' hg hb hat
theorem wpList_append_ent {w : World} {ops : Array Oper} {rest : List Oper} {o : Oper} {a : Act} {Q : Exit → Act → World → Prop} (hgd : o.guard = none) (s x : Operand) (t : TypeId)
    (ho : o.op = .call { callee := .builtin .append, args := #[s, x], argTypes := #[t, t] })
    (ht : Tryz.prog.underlying t = some (.slice 39)) (base : Nat) (A : Option Addr) (n c : Nat) (es : List (ByteArray × Int)) (hs : a.eval s = .slice A n c) (hown : OwnE w base A n c es)
    (b : Nat) (c2 : Nat) (u : ByteArray × Int) (hx : a.eval x = .slice (some ⟨b, 0, none⟩) 1 c2) (h0 : w.cell? ⟨b, 0, none⟩ = some (.string u.1)) (h1 : w.cell? ⟨b, 1, none⟩ = some (.int .i64 u.2)) (hn : n ≤ 1000000) (hbase : base ≤ w.heap.size)
    (h : ∀ A' c' w', OwnE w' base A' (n + 1) c' (es ++ [u]) → w.grownBy w' (Value.slice A n c).ownBlock → Below base w w' → ((Value.slice A' (n + 1) c').ownBlock = (Value.slice A n c).ownBlock ∨ (Value.slice A' (n + 1) c').ownBlock = some w.heap.size) → wpList Tryz.prog ops Q rest (a.put o.dst (.slice A' (n + 1) c')) w') : wpList Tryz.prog ops Q (o :: rest) a w :=
  wpList_plain hgd fun _ hK => wp_append_ent s x t ho ht base A n c es hs hown b c2 u hx h0 h1 hn hbase fun A' c' w' k1 k2 k3 k4 => hK _ _ (h A' c' w' k1 k2 k3 k4)

/-- A row of bytes of the call's own. -/
def byC (l : List UInt8) : List Value := l.map fun b => .int .u8 (b.toNat : Int)
def OwnY (w : World) (base : Nat) (A : Option Addr) (n c : Nat) (l : List UInt8) : Prop := w.ownsRow base 5 1 (.slice A n c) n (byC l)
theorem OwnY.len {w : World} {base n c : Nat} {A : Option Addr} {l : List UInt8} (h : OwnY w base A n c l) : l.length = n := by have := h.1; simpa [byC] using this
set_option maxRecDepth 100000 in
/-- One more byte. -/
theorem wpList_append_byte {w : World} {ops : Array Oper} {rest : List Oper} {o : Oper} {a : Act} {Q : Exit → Act → World → Prop} (hgd : o.guard = none) (s x : Operand) (t : TypeId)
    (ho : o.op = .call { callee := .builtin .append, args := #[s, x], argTypes := #[t, t] })
    (ht : Tryz.prog.underlying t = some (.slice 5)) (base : Nat) (A : Option Addr) (n c : Nat) (l : List UInt8) (hs : a.eval s = .slice A n c) (hown : OwnY w base A n c l)
    (b : Nat) (c2 : Nat) (u : UInt8) (hx : a.eval x = .slice (some ⟨b, 0, none⟩) 1 c2) (h0 : w.cell? ⟨b, 0, none⟩ = some (.int .u8 (u.toNat : Int))) (hn : n ≤ 1000000) (hbase : base ≤ w.heap.size)
    (h : ∀ A' c' w', OwnY w' base A' (n + 1) c' (l ++ [u]) → w.grownBy w' (Value.slice A n c).ownBlock → Below base w w' → wpList Tryz.prog ops Q rest (a.put o.dst (.slice A' (n + 1) c')) w') : wpList Tryz.prog ops Q (o :: rest) a w := by
  obtain ⟨i, hi, hz, hsize, hby⟩ := info_parts info_byte
  refine wpList_append_any w hgd s x t ho base 5 i _ 1 1 ht hi hz hsize hby rfl Nat.one_pos (.slice A n c) n (byC l) hs hown (b + 1) (some ⟨b, 0, none⟩) 1 c2 [.int .u8 (u.toNat : Int)] hx
    ⟨rfl, fun _ => ⟨_, rfl, Nat.lt_succ_self b, fun j v hj => ?_⟩⟩ (fun v hv => by rw [List.mem_singleton.1 hv]; rfl) ?k1 ?k2 hbase ?_
  case k1 => unfold maxLen; omega
  case k2 => rw [Nat.mul_one]; omega
  · match j, hj with
    | 0, hj => simp at hj; subst hj; exact h0
    | j + 1, hj => simp at hj
  · intro v' w' hown' hg hat
    rw [show byC l ++ [.int .u8 (u.toNat : Int)] = byC (l ++ [u]) by simp [byC]] at hown'
    have hb : Below base w w' := (Below.refl base w).grown hg hbase (fun k hk => (World.ownsRow.lt hown k hk).1)
    rcases hown'.2 with ⟨hv, hn0⟩ | ⟨g, cap, cur, hv, _⟩
    · omega
    · rw [hv] at hown' ⊢
      exact h _ cap w' hown' hg hb
/-- string(b) of such a row. -/
theorem run_string_own {w : World} {base n c : Nat} {A : Option Addr} {l : List UInt8} (h : OwnY w base A n c l) (src dst : TypeId) (hs : Tryz.prog.underlying src = some (.slice 5)) (he : Tryz.prog.underlying 5 = some (.int .u8)) (hd : Tryz.prog.underlying dst = some .string) (hn : 0 < n) :
    (convert src dst (.slice A n c)).run Tryz.prog w = .ok (.string ⟨l.toArray⟩) w := by
  obtain ⟨g, hA⟩ : ∃ g, A = some ⟨g, 0, none⟩ := by
    rcases own_at0 h with h0 | h0
    · obtain ⟨g, cap, hv, _⟩ := World.ownsRow.form h hn
      rw [h0] at hv; cases hv
    · exact h0
  subst hA
  have hl := h.len
  rw [← hl]
  refine run_convert_bytes_back w src dst 5 ⟨g, 0, none⟩ c l hs he hd fun j hj => ?_
  have h1 := World.ownsRow.cellAt h j (by omega)
  rw [byC, List.getElem?_map, List.getElem?_eq_getElem hj] at h1
  by_cases h0 : j = 0
  · subst h0; simpa [Addr.add] using h1
  · simpa [Addr.add, h0] using h1
end Go.Proofs.YtmcgnpdfpfgfpaaGreatDoor

/-! EntC -/
namespace Go.Proofs.YtmcgnpdfpfgfpaaGreatDoor
open Go.RowKit
set_option linter.unusedVariables false

/-- Cells go over into a row, as many to an element as there are. -/
theorem run_copy_in {P : Program} (w : World) (dT sT ty elem : TypeId) (i : TypeInfo) (z : Nat) (hu : P.underlying dT = some (.slice elem)) (hi : P.info? elem = some i) (hsz : i.size = z)
    (dp sp : Option Addr) (dLen dCap sLen sCap g off : Nat) (cur : Array Value) (t : TypeId) (hg : w.heap[g]? = some (.cells cur t (0, 0))) (cs : List Value) (hn : cs.length = Nat.min sLen dLen * z)
    (hpos : 0 < cs.length → dp = some ⟨g, off, none⟩ ∧ ∃ ad, sp = some ad ∧ ∀ j v, cs[j]? = some v → w.cell? (ad.add j) = some v) (hfit : off + cs.length ≤ cur.size) (h1 : ∀ v ∈ cs, v.oneCell' = true) :
    (Builtin.copy_ #[dT, sT] ty #[.slice dp dLen dCap, .slice sp sLen sCap]).run P w = .ok (goInt (Nat.min sLen dLen)) (w.setRow g (cur.toList.take off ++ cs ++ cur.toList.drop (off + cs.length)).toArray) := by
  rcases Nat.eq_zero_or_pos cs.length with h0 | h0
  · have hc : cs = [] := List.eq_nil_of_length_eq_zero h0
    subst hc
    have hl : ∀ (x : Addr), (loadCells x 0).run P w = .ok #[] w := fun x => by simpa using run_loadCells_list (P := P) w x [] (by simp)
    have hn0 : Nat.min sLen dLen * z = 0 := by simpa using hn.symm
    have hs : w.setRow g (cur.toList.take off ++ [] ++ cur.toList.drop (off + ([] : List Value).length)).toArray = w := by
      simp only [List.append_nil, List.length_nil, Nat.add_zero, List.take_append_drop, Array.toArray_toList]
      exact setRow_self w g cur t (0, 0) hg
    rw [hs]
    cases dp <;> cases sp <;> simp [Builtin.copy_, run_underlying hu, Builtin.lenOf, Builtin.firstCells, sizeOf, typeInfo, hi, hsz, hn0, storeCells, hl]
  · obtain ⟨rfl, ad, rfl, hsrc⟩ := hpos h0
    have hl := run_loadCells_list (P := P) w ad cs hsrc
    have hst := run_storeCells_at P g off t cs 0 cur w hg (by simpa using hfit) h1
    simp [Builtin.copy_, run_underlying hu, Builtin.lenOf, Builtin.firstCells, sizeOf, typeInfo, hi, hsz, ← hn, hl, hst]

/-- Entries behind a place move on by one. -/
theorem wp_copy_shift {w : World} {o : Oper} {a : Act} {K : Act → World → Prop} {Q : Exit → Act → World → Prop} (d s : Operand) (t : TypeId)
    (ho : o.op = .call { callee := .builtin .copy, args := #[d, s], argTypes := #[t, t] })
    (ht : Tryz.prog.underlying t = some (.slice 39)) (base g n c k : Nat) (es : List (ByteArray × Int)) (zz : ByteArray × Int) (hown : OwnE w base (some ⟨g, 0, none⟩) (n + 1) c (es ++ [zz])) (hk : k ≤ n)
    (dp sp : Option Addr) (dLen dCap sLen sCap : Nat) (hd : a.eval d = .slice dp dLen dCap) (hs : a.eval s = .slice sp sLen sCap) (hdl : dLen = n - k) (hsl : sLen = n + 1 - k)
    (hdp : k < n → dp = some ⟨g, (k + 1) * 2, none⟩) (hsp : k < n → sp = some ⟨g, k * 2, none⟩)
    (h : ∀ w' r, OwnE w' base (some ⟨g, 0, none⟩) (n + 1) c ((es ++ [zz]).take (k + 1) ++ es.drop k) → Step g w w' → Below base w w' → K (a.put o.dst r) w') :
    o.wp Tryz.prog a w K Q := by
  obtain ⟨i, hi, hz, hsize, hby⟩ := info_parts info_entry
  have hel : es.length = n := by have := hown.len; simpa using this
  rcases hown.2 with ⟨h', _⟩ | ⟨g', cap', cur, h', hb, hg, hnc, hcm, hcs, htake⟩
  · simp at h'
  simp only [Value.slice.injEq, Option.some.injEq, Addr.mk.injEq, and_true, true_and] at h'
  obtain ⟨rfl, rfl⟩ := h'
  have hcl : (entC (es.drop k)).length = (n - k) * 2 := by rw [entC_len, List.length_drop, hel]
  have hmin : Nat.min sLen dLen = n - k := by rw [hdl, hsl]; exact Nat.min_eq_right (by omega)
  have hc2 : c * 2 = cur.size := hcs.symm
  have hrun := run_copy_in (P := Tryz.prog) w t t o.type 39 i 2 ht hi hsize dp sp dLen dCap sLen sCap g ((k + 1) * 2) cur 39 hg (entC (es.drop k)) (by rw [hcl, hmin])
    (fun h0 => by
      have hkn : k < n := by omega
      refine ⟨hdp hkn, _, hsp hkn, fun j v hj => ?_⟩
      have hjl : j < (n - k) * 2 := by have := (List.getElem?_eq_some_iff.1 hj).1; rw [hcl] at this; exact this
      have h3 := World.ownsRow.cellAt hown (k * 2 + j) (by omega)
      have h4 : (entC (es ++ [zz]))[k * 2 + j]? = some v := by
        rw [entC_app, List.getElem?_append_left (by rw [entC_len, hel]; omega), ← List.getElem?_drop, entC_drop]; exact hj
      rw [h4] at h3
      have ha : (⟨g, k * 2, none⟩ : Addr).add j = ⟨g, k * 2 + j, none⟩ := by unfold Addr.add; split <;> simp_all
      rw [ha]; exact h3) (by rw [hcl]; omega) (entC_one _)
  unfold Oper.wp
  simp [execOp, ho, resolve, invoke, builtin, hd, hs, hrun, Result.andThen]
  refine h _ _ ⟨?_, .inr ⟨g, c, _, rfl, hb, setRow_heap w g _ _ _ _ hg, hnc, hcm, ?_, ?_⟩⟩ ⟨rfl, rfl, rfl, by simp [World.setRow], fun x _ hx => setRow_other w g x _ (fun e => hx (by rw [e]))⟩ (below_setRow (Below.refl _ _) hb _)
  · rw [entC_len, List.length_append, List.length_take, List.length_drop, List.length_append, List.length_singleton, hel]; omega
  · rw [List.size_toArray, List.length_append, List.length_append, List.length_take, List.length_drop, hcl, Array.length_toList]; omega
  · have h5 : (cur.toList.take ((k + 1) * 2)) = entC ((es ++ [zz]).take (k + 1)) := by
      rw [← entC_take, ← htake, List.take_take, Nat.min_eq_left (by omega)]
    rw [h5, entC_app]
    have h6 : (n + 1) * 2 = (entC ((es ++ [zz]).take (k + 1)) ++ entC (es.drop k)).length := by
      rw [List.length_append, hcl, entC_len, List.length_take, List.length_append, List.length_singleton, hel]; omega
    rw [h6]
    show List.take _ (entC ((es ++ [zz]).take (k + 1)) ++ (entC (es.drop k) ++ _)) = _
    rw [← List.append_assoc, List.take_left]
theorem wpList_copy_shift {w : World} {ops : Array Oper} {rest : List Oper} {o : Oper} {a : Act} {Q : Exit → Act → World → Prop} (hgd : o.guard = none) (d s : Operand) (t : TypeId)
    (ho : o.op = .call { callee := .builtin .copy, args := #[d, s], argTypes := #[t, t] })
    (ht : Tryz.prog.underlying t = some (.slice 39)) (base g n c k : Nat) (es : List (ByteArray × Int)) (zz : ByteArray × Int) (hown : OwnE w base (some ⟨g, 0, none⟩) (n + 1) c (es ++ [zz])) (hk : k ≤ n)
    (dp sp : Option Addr) (dLen dCap sLen sCap : Nat) (hd : a.eval d = .slice dp dLen dCap) (hs : a.eval s = .slice sp sLen sCap) (hdl : dLen = n - k) (hsl : sLen = n + 1 - k)
    (hdp : k < n → dp = some ⟨g, (k + 1) * 2, none⟩) (hsp : k < n → sp = some ⟨g, k * 2, none⟩)
    (h : ∀ w' r, OwnE w' base (some ⟨g, 0, none⟩) (n + 1) c ((es ++ [zz]).take (k + 1) ++ es.drop k) → Step g w w' → Below base w w' → wpList Tryz.prog ops Q rest (a.put o.dst r) w') : wpList Tryz.prog ops Q (o :: rest) a w :=
  wpList_plain hgd fun _ hK => wp_copy_shift d s t ho ht base g n c k es zz hown hk dp sp dLen dCap sLen sCap hd hs hdl hsl hdp hsp fun w' r k1 k2 k3 => hK _ _ (h w' r k1 k2 k3)
theorem OwnE.stored {w : World} {base g n c k : Nat} {es : List (ByteArray × Int)} (h : OwnE w base (some ⟨g, 0, none⟩) n c es) (hk : k < n) (e : ByteArray × Int) : OwnE ((w.setCell ⟨g, k * 2, none⟩ (.string e.1)).setCell ⟨g, k * 2 + 1, none⟩ (.int .i64 e.2)) base (some ⟨g, 0, none⟩) n c (es.set k e) := by
  have h1 := (World.ownsRow.stored (World.ownsRow.stored h (k * 2) (.string e.1)).1 (k * 2 + 1) (.int .i64 e.2)).1
  rw [entC_set es k e (by rw [h.len]; exact hk)] at h1
  exact h1
end Go.Proofs.YtmcgnpdfpfgfpaaGreatDoor

/-! KEncL -/
namespace Go.Proofs.YtmcgnpdfpfgfpaaGreatDoor
open Go.RowKit
set_option linter.unusedVariables false

/-- Four bytes of a number, the least first. -/
def valB (v : Int) : List UInt8 := [UInt8.ofNat (v.toNat % 256), UInt8.ofNat (v.toNat / 256 % 256), UInt8.ofNat (v.toNat / 65536 % 256), UInt8.ofNat (v.toNat / 16777216 % 256)]
/-- The bytes of an entry. -/
def slotB (e : ByteArray × Int) : List UInt8 := UInt8.ofNat e.1.size :: (e.1.data.toList ++ (List.replicate (32 - e.1.size) 0 ++ valB e.2))
/-- The bytes of a bucket. -/
def encB (slots : Nat) (l : List (ByteArray × Int)) : List UInt8 := (l.map slotB).flatten ++ List.replicate ((slots - l.length) * 37) 0
theorem slotB_len {e : ByteArray × Int} (h : e.1.size ≤ 32) : (slotB e).length = 37 := by
  have : e.1.data.toList.length = e.1.size := by rw [Array.length_toList]; rfl
  simp [slotB, valB, this]; omega
theorem slots_len {l : List (ByteArray × Int)} (h : ∀ e ∈ l, e.1.size ≤ 32) : ((l.map slotB).flatten).length = l.length * 37 := by
  induction l with
  | nil => rfl
  | cons e l ih =>
    rw [List.map_cons, List.flatten_cons, List.length_append, slotB_len (h e (by simp)), ih fun x hx => h x (by simp [hx]), List.length_cons]
    omega
theorem encB_len {slots : Nat} {l : List (ByteArray × Int)} (h : ∀ e ∈ l, e.1.size ≤ 32) (hl : l.length ≤ slots) : (encB slots l).length = slots * 37 := by
  rw [encB, List.length_append, slots_len h, List.length_replicate, ← Nat.add_mul]
  congr 1; omega

/-- A row of bytes, known whole. -/
def BlkY (w : World) (g : Nat) (l : List UInt8) : Prop := Blk w g 5 (byC l).toArray
section
variable {w w' : World} {g : Nat} {l : List UInt8}
theorem byC_len (l : List UInt8) : (byC l).length = l.length := by simp [byC]
theorem byC_app (a b : List UInt8) : byC (a ++ b) = byC a ++ byC b := by simp [byC]
theorem BlkY.lt (h : BlkY w g l) : g < w.heap.size := Blk.lt h
theorem BlkY.below (h : BlkY w g l) (hb : Below w.heap.size w w') : BlkY w' g l := Blk.below h hb h.lt
theorem BlkY.of_make {base n : Nat} {vs : List Value} (h : w.ownsRow base 5 1 (.slice (some ⟨g, 0, none⟩) n n) n vs) (e : vs = byC l) : BlkY w g l := by
  subst e
  rcases h.2 with ⟨h0, _⟩ | ⟨g2, cap, cur, hv, _, hh, _, _, hcs, ht⟩
  · cases h0
  · injection hv with h1 h2 h3
    injection h1 with h1
    injection h1 with h1 _ _
    subst h1 h3
    have : cur.toList = byC l := by
      rw [← ht, List.take_of_length_le]
      rw [Array.length_toList, hcs]
      exact Nat.le_refl _
    unfold BlkY Blk
    rw [hh, ← this]
theorem BlkY.frozen (h : BlkY w g l) (i : Nat) : w.frozen? ⟨g, i, none⟩ = false := Blk.frozen h i
theorem BlkY.set_ {pre post : List UInt8} {x y : UInt8} (h : BlkY w g (pre ++ x :: post)) {i : Nat} (hi : pre.length = i) : BlkY (w.setCell ⟨g, i, none⟩ (.int .u8 (y.toNat : Int))) g (pre ++ y :: post) := by
  have h1 := Blk.set_ h i (.int .u8 (y.toNat : Int))
  unfold BlkY
  have : (byC (pre ++ y :: post)).toArray = (byC (pre ++ x :: post)).toArray.setIfInBounds i (.int .u8 (y.toNat : Int)) := by
    rw [List.setIfInBounds_toArray, byC_app, byC_app, ← hi, ← byC_len pre]
    simp [byC]
  rw [this]; exact h1
theorem BlkY.at_ {pre post : List UInt8} {x : UInt8} (h : BlkY w g (pre ++ x :: post)) {i : Nat} (hi : pre.length = i) : w.cell? ⟨g, i, none⟩ = some (.int .u8 (x.toNat : Int)) := by
  rw [Blk.cell h i, byC_app, ← hi, ← byC_len pre]
  simp [byC]
/-- Its text. -/
theorem BlkY.text (h : BlkY w g l) (src dst : TypeId) (hs : Tryz.prog.underlying src = some (.slice 5)) (he : Tryz.prog.underlying 5 = some (.int .u8)) (hd : Tryz.prog.underlying dst = some .string) {n c : Nat} (hn : l.length = n) :
    (convert src dst (.slice (some ⟨g, 0, none⟩) n c)).run Tryz.prog w = .ok (.string ⟨l.toArray⟩) w := by
  subst hn
  refine run_convert_bytes_back w src dst 5 ⟨g, 0, none⟩ c l hs he hd fun j hj => ?_
  have h1 := Blk.cell h j
  have h2 : (byC l).toArray[j]? = some (.int .u8 (l[j].toNat : Int)) := by simp [byC, hj]
  rw [h2] at h1
  by_cases h0 : j = 0
  · subst h0; simpa [Addr.add] using h1
  · simpa [Addr.add, h0] using h1
/-- A text is copied into such a row. -/
theorem info_byte_size : (Tryz.prog.info? 5).map (·.size) = some 1 := by kernel_rfl
theorem wpList_copy_text {ops : Array Oper} {rest : List Oper} {o : Oper} {a : Act} {Q : Exit → Act → World → Prop} (hgd : o.guard = none) (d s : Operand) (t t2 : TypeId)
    (ho : o.op = .call { callee := .builtin .copy, args := #[d, s], argTypes := #[t, t2] })
    (ht : Tryz.prog.underlying t = some (.slice 5)) (off dLen dCap : Nat) (u : ByteArray) (pre mid post : List UInt8) (hB : BlkY w g (pre ++ (mid ++ post))) (hp : pre.length = off) (hm : mid.length = u.size)
    (hd : a.eval d = .slice (some ⟨g, off, none⟩) dLen dCap) (hs : a.eval s = .string u) (hle : u.size ≤ dLen) {B : Nat} (hBg : B ≤ g)
    (h : ∀ w' r, BlkY w' g (pre ++ (u.data.toList ++ post)) → Step g w w' → Below B w w' → wpList Tryz.prog ops Q rest (a.put o.dst r) w') : wpList Tryz.prog ops Q (o :: rest) a w := by
  refine wpList_plain hgd fun K hK' => ?_
  have hul : u.data.toList.length = u.size := by rw [Array.length_toList]; rfl
  have hrun := Go.Lib.run_copy_row_string (P := Tryz.prog) w t t2 o.type 5 g off dLen dCap u (byC (pre ++ (mid ++ post))).toArray 5 ht info_byte_size hB hle (by rw [List.size_toArray, byC_len, List.length_append, List.length_append]; omega)
  have hnew : ((byC (pre ++ (mid ++ post))).toArray.toList.take off ++ Go.Lib.byteCells u.data.toList ++ (byC (pre ++ (mid ++ post))).toArray.toList.drop (off + u.size)).toArray = (byC (pre ++ (u.data.toList ++ post))).toArray := by
    refine congrArg List.toArray ?_
    have h1 : (byC (pre ++ (mid ++ post))).take off = byC pre := by
      rw [byC_app]
      exact List.take_left' (by rw [byC_len]; exact hp)
    have h2 : (byC (pre ++ (mid ++ post))).drop (off + u.size) = byC post := by
      rw [byC_app, byC_app, ← List.append_assoc]
      exact List.drop_left' (by rw [List.length_append, byC_len, byC_len]; omega)
    show (byC (pre ++ (mid ++ post))).take off ++ _ ++ (byC (pre ++ (mid ++ post))).drop (off + u.size) = _
    rw [h1, h2, byC_app, byC_app, List.append_assoc]
    rfl
  rw [hnew] at hrun
  unfold Oper.wp
  simp [execOp, ho, resolve, invoke, builtin, hd, hs, hrun, Result.andThen]
  exact hK' _ _ (h _ _ (setRow_heap w g _ _ _ _ hB) ⟨rfl, rfl, rfl, by simp [World.setRow], fun x _ hx => setRow_other w g x _ (fun e => hx (by rw [e]))⟩ (below_setRow (Below.refl _ _) hBg _))
end
end Go.Proofs.YtmcgnpdfpfgfpaaGreatDoor

/-! RowZ -/
namespace Go.Proofs.YtmcgnpdfpfgfpaaGreatDoor
open Go.RowKit
set_option linter.unusedVariables false

/-- A row of numbers, known whole. -/
def BlkI (w : World) (g : Nat) (l : List Int) : Prop := Blk w g 3 (vals l).toArray
section
variable {w w' : World} {g : Nat} {l : List Int}
theorem vals_len (l : List Int) : (vals l).length = l.length := by simp [vals]
theorem vals_app (a b : List Int) : vals (a ++ b) = vals a ++ vals b := by simp [vals]
theorem BlkI.lt (h : BlkI w g l) : g < w.heap.size := Blk.lt h
theorem BlkI.below (h : BlkI w g l) (hb : Below w.heap.size w w') : BlkI w' g l := Blk.below h hb h.lt
theorem BlkI.at_ (h : BlkI w g l) {j : Nat} (hj : j < l.length) : w.cell? ⟨g, j, none⟩ = some (.int .i64 (l.getD j 0)) := by
  rw [Blk.cell h j, List.getD_eq_getElem?_getD, List.getElem?_eq_getElem hj]
  simp [vals, hj]
/-- One more number, where there is room. -/
theorem wpList_append_in {ops : Array Oper} {rest : List Oper} {o : Oper} {a : Act} {Q : Exit → Act → World → Prop} (hgd : o.guard = none) (s x : Operand) (t : TypeId)
    (ho : o.op = .call { callee := .builtin .append, args := #[s, x], argTypes := #[t, t] })
    (ht : Tryz.prog.underlying t = some (.slice 3)) (n cap : Nat) (pre post : List Int) (z v : Int) (hB : BlkI w g (pre ++ z :: post)) (hp : pre.length = n) (hs : a.eval s = .slice (some ⟨g, 0, none⟩) n cap) (hc : n + 1 ≤ cap)
    (b c2 : Nat) (hx : a.eval x = .slice (some ⟨b, 0, none⟩) 1 c2) (hv : w.cell? ⟨b, 0, none⟩ = some (.int .i64 v)) {B : Nat} (hBg : B ≤ g)
    (h : ∀ w', BlkI w' g (pre ++ v :: post) → Step g w w' → Below B w w' → wpList Tryz.prog ops Q rest (a.put o.dst (.slice (some ⟨g, 0, none⟩) (n + 1) cap)) w') : wpList Tryz.prog ops Q (o :: rest) a w := by
  obtain ⟨i, hi, hz, hsize, hby⟩ := info_parts info_int
  refine wpList_plain hgd fun K hK' => ?_
  have hrun := run_append_room (P := Tryz.prog) w t o.type 3 i ht hi g n cap (vals (pre ++ z :: post)).toArray hB ⟨b, 0, none⟩ 1 c2 [.int .i64 v] (by rw [hsize]; rfl) (fun j u hj => by
    match j, hj with
    | 0, hj => simp at hj; subst hj; simpa [Addr.add] using hv
    | j + 1, hj => simp at hj) (fun u hu => by rw [List.mem_singleton.1 hu]; rfl) hc (by
      rw [List.size_toArray, vals_len, List.length_append, hp, hsize]; simp)
  have hnew : ((vals (pre ++ z :: post)).toArray.toList.take (n * i.size) ++ [Value.int .i64 v] ++ (vals (pre ++ z :: post)).toArray.toList.drop (n * i.size + [Value.int .i64 v].length)).toArray = (vals (pre ++ v :: post)).toArray := by
    refine congrArg List.toArray ?_
    rw [hsize, Nat.mul_one]
    show (vals (pre ++ z :: post)).take n ++ _ ++ (vals (pre ++ z :: post)).drop (n + 1) = _
    have h1 : (vals (pre ++ z :: post)).take n = vals pre := by
      rw [vals_app]
      exact List.take_left' (by rw [vals_len]; exact hp)
    have h2 : (vals (pre ++ z :: post)).drop (n + 1) = vals post := by
      rw [show pre ++ z :: post = (pre ++ [z]) ++ post by simp, vals_app]
      exact List.drop_left' (by rw [vals_len, List.length_append, hp]; rfl)
    rw [h1, h2, vals_app]
    simp [vals]
  rw [hnew] at hrun
  unfold Oper.wp
  simp [execOp, ho, resolve, invoke, builtin, hs, hx, hrun, Result.andThen]
  exact hK' _ _ (h _ (setRow_heap w g _ _ _ _ hB) ⟨rfl, rfl, rfl, by simp [World.setRow], fun x _ hx => setRow_other w g x _ (fun e => hx (by rw [e]))⟩ (below_setRow (Below.refl _ _) hBg _))
/-- A row made with room, all zeros. -/
theorem wpList_make_room {ops : Array Oper} {rest : List Oper} {o : Oper} {a : Act} {Q : Exit → Act → World → Prop} (hgd : o.guard = none) (l c : Operand) (t : TypeId) (hop : o.op = Op.makeSlice t l c)
    (ht : Tryz.prog.underlying t = some (.slice 3)) (kl kc : IntKind) (N : Nat) (hl : a.eval l = .int kl 0) (hc : a.eval c = .int kc (N : Int)) (hN : N ≤ 1000000)
    (h : ∀ w', BlkI w' w.heap.size (List.replicate N 0) → Below w.heap.size w w' → wpList Tryz.prog ops Q rest (a.put o.dst (.slice (some ⟨w.heap.size, 0, none⟩) 0 N)) w') : wpList Tryz.prog ops Q (o :: rest) a w := by
  obtain ⟨i, hi, hz, hsize, hby⟩ := info_parts info_int
  refine wpList_plain hgd fun K hK' => ?_
  have hrun := run_make (P := Tryz.prog) w t 3 i _ ht hi hz kl kc 0 N (Int.le_refl _) (by omega) (by rw [hby]; omega) (by omega)
  simp only [Int.toNat_zero, Int.toNat_natCast, hsize] at hrun
  unfold Oper.wp
  simp [execOp, hop, hl, hc, hrun, Result.andThen]
  refine hK' _ _ (h _ ?_ (bbox _))
  have hm := made_zeros N
  unfold BlkI
  rw [← hm]
  simp only [Array.toArray_toList, Nat.mul_one]
  exact Blk.new w _ _
end
end Go.Proofs.YtmcgnpdfpfgfpaaGreatDoor

/-! OwnA -/
namespace Go.Proofs.YtmcgnpdfpfgfpaaGreatDoor
open Go.RowKit
set_option linter.unusedVariables false

section
variable {w w' : World} {base lo lo2 n c : Nat} {e : TypeId} {A : Option Addr} {rows : List (List Int)}
end
end Go.Proofs.YtmcgnpdfpfgfpaaGreatDoor
