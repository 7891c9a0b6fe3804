/-
  Answers copied behind an empty slice, one of them marked as not known, and what lies on while only the deck and what is new turn. No conditions.
-/
import Derived.Test.YtoblofilaegnaaaAns
import Derived.Test.YtoblofilaegnaaaGBO
namespace Go.Proofs.Ytoblofilaegnaaa
open Go.RowKit
set_option linter.unusedVariables false

/-- What lies below B stays, but for the deck. -/
def KeepG (g B : Nat) (w w' : World) : Prop := w'.os = w.os ∧ w'.tape = w.tape ∧ w'.output = w.output ∧ w.heap.size ≤ w'.heap.size ∧ ∀ k, k < B → k ≠ g → w'.heap[k]? = w.heap[k]?
theorem KeepG.of_step {g B : Nat} {w w' : World} (h : Step g w w') (hB : B ≤ w.heap.size) : KeepG g B w w' := ⟨h.os, h.tape, h.output, h.size, fun k hk hne => (show w.grownBy w' (some g) from h).block k (by omega) (fun e => hne (Option.some.inj e))⟩
theorem KeepG.of_below {g B : Nat} {w w' : World} (h : Below B w w') : KeepG g B w w' := ⟨h.os, h.tape, h.output, h.size, fun k hk _ => h.block k hk⟩
theorem KeepG.trans {g B : Nat} {a b c : World} (h : KeepG g B a b) (k : KeepG g B b c) : KeepG g B a c := ⟨k.1.trans h.1, k.2.1.trans h.2.1, k.2.2.1.trans h.2.2.1, Nat.le_trans h.2.2.2.1 k.2.2.2.1, fun i h1 h2 => (k.2.2.2.2 i h1 h2).trans (h.2.2.2.2 i h1 h2)⟩
theorem KeepG.below {g B C : Nat} {w w' : World} (h : KeepG g B w w') (hC : C ≤ B) (hg : C ≤ g) : Below C w w' := ⟨h.1, h.2.1, h.2.2.1, h.2.2.2.1, fun k hk => h.2.2.2.2 k (by omega) (by omega)⟩
theorem KeepG.blk {g B b : Nat} {w w' : World} {t : TypeId} {cs : Array Value} (h : KeepG g B w w') (hb : Blk w b t cs) (h1 : b < B) (h2 : b ≠ g) : Blk w' b t cs := (h.2.2.2.2 b h1 h2).trans hb
theorem KeepG.set {g B b j : Nat} {w w' : World} (h : KeepG g B w w') (hb : B ≤ b) (v : Value) : KeepG g B w (w'.setCell ⟨b, j, none⟩ v) := h.trans (KeepG.of_below ((Below.refl B w').setCell (p := ⟨b, j, none⟩) hb v))
theorem KeepG.ints {g B n : Nat} {w w' : World} {A : Option Addr} {xs : List Int} (h : KeepG g B w w') (hI : IntsO g w A n xs) (hB : w.heap.size ≤ B) : IntsO g w' A n xs :=
  ⟨hI.1.keepBlk h.2.2.2.1 (fun h0 b off s e hb => h.2.2.2.2 b (by omega) (hI.2 h0 b off s e)), hI.2⟩
theorem KeepG.mat {g B n : Nat} {w w' : World} {A : Option Addr} {rows : List (List Int)} (h : KeepG g B w w') (hM : MatO g w A n rows) (hB : w.heap.size ≤ B) : MatO g w' A n rows :=
  ⟨hM.1, fun hn => by
    obtain ⟨b, off, e, hb, hbg, hc⟩ := hM.2 hn
    refine ⟨b, off, e, by have := h.2.2.2.1; omega, hbg, fun j hj => ?_⟩
    obtain ⟨A', n', c', h1, h2, h3⟩ := hc j hj
    exact ⟨A', n', c', (World.cell?_of_block (h.2.2.2.2 b (by omega) hbg)).trans h1, h2, h.ints h3 hB⟩⟩
theorem KeepG.ans {g B base lo n c : Nat} {w w' : World} {A : Option Addr} {ks : List Bool} {rows : List (List Int)} (h : KeepG g B w w') (hO : OwnA w base lo A n c ks rows) (hg : g < base) (hl : g < lo) (hB : w.heap.size ≤ B) : Ans w' w'.heap.size A n ks rows := by
  obtain ⟨hk, hl2, vs, hv, hown, hr⟩ := hO
  have hsz := h.2.2.2.1
  refine ⟨hk, hl2, fun hn => ?_⟩
  obtain ⟨g', cap, hv2, hg', hlt⟩ := World.ownsRow.form hown hn
  injection hv2 with hA' hn' hc'
  subst hA'
  refine ⟨g', 0, rfl, by omega, fun j hj => ?_⟩
  rw [Nat.zero_add]
  have hs := ansV_at ks vs (by omega) j (by omega)
  obtain ⟨A', n', c', h1, h2, h3, h4, _⟩ := hr j hj
  have hkb := h.2.2.2.2 g' (by omega) (by omega)
  exact ⟨(World.cell?_of_block hkb).trans ((World.ownsRow.cellAt hown (j * 2) (by omega)).trans hs.1), A', n', c', (World.cell?_of_block hkb).trans ((World.ownsRow.cellAt hown (j * 2 + 1) (by omega)).trans (hs.2.trans h1)), h2,
    h3.keepBlk hsz (fun h0 b off s e hb => h.2.2.2.2 b (by omega) (by have := h4 h0 b off s e; omega))⟩

/-- The second answer's mark. -/
theorem OwnA.setK {w : World} {base lo n c g : Nat} {ks : List Bool} {rows : List (List Int)} {b : Bool} {j : Nat} (h : OwnA w base lo (some ⟨g, 0, none⟩) n c ks rows) (hj : j < n) :
    OwnA (w.setCell ⟨g, j * 2, none⟩ (.bool b)) base lo (some ⟨g, 0, none⟩) n c (ks.set j b) rows := by
  obtain ⟨hk, hl, vs, hv, hown, hr⟩ := h
  have o1 := (World.ownsRow.stored hown (j * 2) (.bool b)).1
  rw [ansV_set b ks vs (by omega) j (by omega)] at o1
  refine ⟨by simp [hk], hl, vs, hv, o1, fun i hi => ?_⟩
  obtain ⟨A1, n1, c1, h1, h2, h3, h4, h5⟩ := hr i hi
  exact ⟨A1, n1, c1, h1, h2, h3.keepBlk (by simp [World.setCell]) (fun h0 b off s e1 hb => Below.heap_setCell _ _ _ b (fun e => h5 h0 b off s e1 (by have e9 : b = g := e; rw [e9]; rfl))), h4, h5⟩

theorem ansV_one : ∀ (us : List Bool) (ys : List Value), (∀ y ∈ ys, y.oneCell' = true) → ∀ v ∈ ansV us ys, v.oneCell' = true
  | [], _, _, v, hv => by simp [ansV] at hv
  | _ :: _, [], _, v, hv => by simp [ansV] at hv
  | u :: us, y :: ys, h, v, hv => by
    simp only [ansV, List.mem_cons] at hv
    rcases hv with rfl | rfl | hv
    · rfl
    · exact h _ (by simp)
    · exact ansV_one us ys (fun z hz => h z (by simp [hz])) v hv
set_option maxRecDepth 100000 in
/-- Answers copied. -/
theorem wpList_append_answers {w : World} {ops : Array Oper} {rest : List Oper} {o : Oper} {a : Act} {Q : Exit → Act → World → Prop} (hgd : o.guard = none) (s x : Operand) (t : TypeId)
    (ho : o.op = .call { callee := .builtin .append, args := #[s, x], argTypes := #[t, t] })
    (ht : Try.prog.underlying t = some (.slice 89)) (hs : a.eval s = .slice none 0 0) (base lo g m c2 : Nat) (ks : List Bool) (rows : List (List Int)) (hx : a.eval x = .slice (some ⟨g, 0, none⟩) m c2) (hown : OwnA w base lo (some ⟨g, 0, none⟩) m c2 ks rows) (hm0 : 0 < m) (hm : m ≤ 1000000)
    (h : ∀ g' c' w', OwnA w' w.heap.size lo (some ⟨g', 0, none⟩) m c' ks rows → Below w.heap.size w w' → wpList Try.prog ops Q rest (a.put o.dst (.slice (some ⟨g', 0, none⟩) m c')) w') : wpList Try.prog ops Q (o :: rest) a w := by
  obtain ⟨i, hi, hz, hsize, hby⟩ := info_parts info_answer
  obtain ⟨hk, hl, vs, hv, ho1, hr⟩ := hown
  have hlt := (World.ownsRow.lt ho1 g rfl).2
  have hlen := ansV_len ks vs (by omega)
  refine wpList_append_any w hgd s x t ho w.heap.size 89 i _ 2 32 ht hi hz hsize hby rfl (by omega) (.slice none 0 0) 0 [] hs (World.ownsRow_nil _ _ _ _) (g + 1) (some ⟨g, 0, none⟩) m c2 (ansV ks vs) hx
    ⟨by omega, fun _ => ⟨_, rfl, Nat.lt_succ_self g, fun j u hj => ?_⟩⟩ (ansV_one ks vs fun y hy => ?_) (by unfold maxLen; omega) (by omega) (Nat.le_refl _) ?_
  · have hjl : j < (ansV ks vs).length := (List.getElem?_eq_some_iff.1 hj).1
    have := World.ownsRow.cellAt ho1 j (by omega)
    rw [hj] at this
    rw [show (Addr.add ⟨g, 0, none⟩ j) = ⟨g, j, none⟩ from by cases j <;> simp [Addr.add]]
    exact this
  · obtain ⟨j, hj, rfl⟩ := List.getElem_of_mem hy
    obtain ⟨A1, n1, c1, h1, _⟩ := hr j (by omega)
    rw [List.getElem?_eq_getElem hj] at h1
    injection h1 with h1
    have e9 : (Value.slice A1 n1 c1).oneCell' = true := rfl
    rw [h1]
    exact e9
  · intro v' w' ho2 hg hat
    rw [List.nil_append, Nat.zero_add] at ho2
    have hb : Below w.heap.size w w' := (Below.refl _ w).grown hg (Nat.le_refl _) (fun k hk => by cases hk)
    rcases ho2.2 with ⟨_, hn0⟩ | ⟨g', cap, cur, hv2, hg2, _⟩
    · omega
    · rw [hv2] at ho2 ⊢
      refine h g' cap w' ⟨hk, hl, vs, hv, ho2, fun j hj => ?_⟩ hb
      obtain ⟨A1, n1, c1, h1, h2, h3, h4, h5⟩ := hr j hj
      refine ⟨A1, n1, c1, h1, h2, h3.upto hb, h4, fun h0 b off s e e2 => ?_⟩
      subst e
      have := h3.lt h0
      have e9 : g' = b := by injection e2
      omega
end Go.Proofs.Ytoblofilaegnaaa
