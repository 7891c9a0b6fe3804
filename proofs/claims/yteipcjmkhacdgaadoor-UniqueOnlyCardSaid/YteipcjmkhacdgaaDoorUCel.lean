/-
  Rows of cells that the call itself made: an append of cells from any source; what forgetting a right value does. No conditions.
-/
import Derived.Test.YteipcjmkhacdgaaDoorCellsO
import Derived.Test.YteipcjmkhacdgaaDoorPlain
namespace Go.Proofs.YteipcjmkhacdgaaDoor
open Go.RowKit
set_option linter.unusedVariables false

theorem celV_one : ∀ (us : List Int) (ys : List Bool), ∀ v ∈ celV us ys, v.oneCell' = true
  | [], _, v, h => by simp [celV] at h
  | _ :: _, [], v, h => by simp [celV] at h
  | u :: us, y :: ys, v, h => by
    simp only [celV, List.mem_cons] at h
    rcases h with rfl | rfl | h
    · rfl
    · rfl
    · exact celV_one us ys v h
theorem celV_app : ∀ (us : List Int) (ys : List Bool) (us2 : List Int) (ys2 : List Bool), us.length = ys.length → celV (us ++ us2) (ys ++ ys2) = celV us ys ++ celV us2 ys2
  | [], [], _, _, _ => rfl
  | _ :: us, _ :: ys, us2, ys2, h => by
    have := celV_app us ys us2 ys2 (by simpa using h)
    simp only [List.cons_append, celV, this]
theorem celV_odd : ∀ (us : List Int) (ys : List Bool), ∀ j u, us.length = ys.length → (celV us ys)[j]? = some u → ∃ i, i < us.length ∧ ((j = i * 2 ∧ u = .int .i64 (us.getD i 0)) ∨ (j = i * 2 + 1 ∧ u = .bool (ys.getD i false)))
  | [], [], j, u, _, h => by simp [celV] at h
  | a :: us, b :: ys, j, u, hl, h => by
    match j, h with
    | 0, h => simp [celV] at h; exact ⟨0, by simp, .inl ⟨rfl, h.symm⟩⟩
    | 1, h => simp [celV] at h; exact ⟨0, by simp, .inr ⟨rfl, h.symm⟩⟩
    | j + 2, h =>
      simp only [celV, List.getElem?_cons_succ] at h
      obtain ⟨i, hi, hh⟩ := celV_odd us ys j u (by simpa using hl) h
      refine ⟨i + 1, by simpa using hi, ?_⟩
      rcases hh with ⟨h1, h2⟩ | ⟨h1, h2⟩
      · exact .inl ⟨by omega, h2⟩
      · exact .inr ⟨by omega, h2⟩

theorem Cel.reads {w : World} {B : Nat} {A : Option Addr} {n : Nat} {us : List Int} {ys : List Bool} (h : Cel w B A n us ys) : Reads w B 2 A n (celV us ys) := by
  have hl : us.length = ys.length := by rw [h.1, h.2.1]
  refine ⟨by rw [celV_len us ys hl, h.1], fun hn => ?_⟩
  obtain ⟨b, off, rfl, hb, hc⟩ := h.2.2 hn
  refine ⟨_, rfl, hb, fun j u hj => ?_⟩
  obtain ⟨i, hi, hh⟩ := celV_odd us ys j u hl hj
  rw [h.1] at hi
  have hadd : ∀ k, (⟨b, off, none⟩ : Addr).add k = ⟨b, off + k, none⟩ := fun k => by
    unfold Addr.add
    by_cases hk : k = 0 <;> simp [hk]
  rw [hadd]
  rcases hh with ⟨rfl, rfl⟩ | ⟨rfl, rfl⟩
  · exact (hc i hi).1
  · have := (hc i hi).2
    rw [Nat.add_assoc] at this
    exact this

theorem wp_append_cells {w : World} {o : Oper} {a : Act} {K : Act → World → Prop} {Q : Exit → Act → World → Prop} (s x : Operand) (t : TypeId)
    (ho : o.op = .call { callee := .builtin .append, args := #[s, x], argTypes := #[t, t] })
    (ht : Tryd.prog.underlying t = some (.slice 59)) (base : Nat) (A : Option Addr) (n c : Nat) (us : List Int) (ys : List Bool) (hs : a.eval s = .slice A n c) (hown : OwnC w base A n c us ys)
    (B : Nat) (A2 : Option Addr) (m c2 : Nat) (us2 : List Int) (ys2 : List Bool) (hx : a.eval x = .slice A2 m c2) (hr : Cel w B A2 m us2 ys2) (hn : n + m ≤ 1000000) (hbase : base ≤ w.heap.size)
    (h : ∀ A' c' w', OwnC w' base A' (n + m) c' (us ++ us2) (ys ++ ys2) → Below base w w' → K (a.put o.dst (.slice A' (n + m) c')) w') : o.wp Tryd.prog a w K Q := by
  obtain ⟨i, hi, hz, hsize, hby⟩ := info_parts info_cell
  have hl : us.length = ys.length := by rw [hown.1, hown.2.1]
  refine wp_append_any w s x t ho base 59 i _ 2 16 ht hi hz hsize hby rfl (by omega) (.slice A n c) n (celV us ys) hs hown.2.2 B A2 m c2 (celV us2 ys2) hx hr.reads (celV_one us2 ys2) (by unfold maxLen; omega) (by omega) hbase ?_
  intro v' w' hown' hg hat
  rw [← celV_app us ys us2 ys2 hl] at hown'
  have hb : Below base w w' := (Below.refl base w).grown hg hbase (fun k hk => (World.ownsRow.lt hown.2.2 k hk).1)
  rcases hown'.2 with ⟨hv, hn0⟩ | ⟨g, cap, cur, hv, _⟩
  · rw [hv] at hown' ⊢
    rw [hn0] at hown' h
    exact h none 0 w' ⟨by simp [hown.1, hr.1]; omega, by simp [hown.2.1, hr.2.1]; omega, hown'⟩ hb
  · rw [hv] at hown' ⊢
    exact h _ cap w' ⟨by simp [hown.1, hr.1], by simp [hown.2.1, hr.2.1], hown'⟩ hb

theorem wpList_append_cells {w : World} {ops : Array Oper} {rest : List Oper} {o : Oper} {a : Act} {Q : Exit → Act → World → Prop} (hgd : o.guard = none) (s x : Operand) (t : TypeId)
    (ho : o.op = .call { callee := .builtin .append, args := #[s, x], argTypes := #[t, t] })
    (ht : Tryd.prog.underlying t = some (.slice 59)) (base : Nat) (A : Option Addr) (n c : Nat) (us : List Int) (ys : List Bool) (hs : a.eval s = .slice A n c) (hown : OwnC w base A n c us ys)
    (B : Nat) (A2 : Option Addr) (m c2 : Nat) (us2 : List Int) (ys2 : List Bool) (hx : a.eval x = .slice A2 m c2) (hr : Cel w B A2 m us2 ys2) (N : Nat) (hN : n + m = N) (hn : N ≤ 1000000) (hbase : base ≤ w.heap.size)
    (h : ∀ A' c' w', OwnC w' base A' N c' (us ++ us2) (ys ++ ys2) → Below base w w' → wpList Tryd.prog ops Q rest (a.put o.dst (.slice A' N c')) w') : wpList Tryd.prog ops Q (o :: rest) a w := by
  subst hN
  exact wpList_plain hgd fun _ hK => wp_append_cells s x t ho ht base A n c us ys hs hown B A2 m c2 us2 ys2 hx hr hn hbase fun A' c' w' h1 h2 => hK _ _ (h A' c' w' h1 h2)

theorem step_append_cells {ops : Array Oper} {o : Oper} {a : Act} {w : World} {K : Act → World → Prop} {Q : Exit → Act → World → Prop} {E : Prop}
    (hg : o.guard = none) (s x : Operand) (t : TypeId) (hop : o.op = Op.call { callee := Callee.builtin Builtin.append, args := #[s, x], argTypes := #[t, t] })
    (ht : Tryd.prog.underlying t = some (.slice 59)) (base : Nat) (A : Option Addr) (n c : Nat) (us : List Int) (ys : List Bool) (hs : a.eval s = .slice A n c) (hown : OwnC w base A n c us ys)
    (B : Nat) (A2 : Option Addr) (m c2 : Nat) (us2 : List Int) (ys2 : List Bool) (hx : a.eval x = .slice A2 m c2) (hr : Cel w B A2 m us2 ys2) (N : Nat) (hN : n + m = N) (hn : N ≤ 1000000) (hbase : base ≤ w.heap.size)
    (hK : ∀ A' c' w', OwnC w' base A' N c' (us ++ us2) (ys ++ ys2) → Below base w w' → K (a.put o.dst (.slice A' N c')) w') :
    if Region.wanted o (yielded ops a.tmps) = true then Oper.wp Tryd.prog o a w K Q else E := by
  have hw : Region.wanted o (yielded ops a.tmps) = true := by simp [Region.wanted, hg]
  rw [if_pos hw]
  subst hN
  exact wp_append_cells s x t hop ht base A n c us ys hs hown B A2 m c2 us2 ys2 hx hr hn hbase hK


section
variable {p : Int} {P : List Int}
theorem wrL_consE (e : Int × Int) (l : List (Int × Int)) : wrL p P (e :: l) = (if valueP p e.1 P = e.2 then [] else [e.1]) ++ wrL p P l := by
  unfold wrL
  by_cases h : valueP p e.1 P = e.2
  · rw [List.filter_cons_of_neg (by simpa using h), if_pos h]; rfl
  · rw [List.filter_cons_of_pos (by simpa using h), if_neg h]; rfl
/-- A right value that is forgotten. -/
theorem wrF_forget (v : Int) : ∀ (vs : List Int) (bs : List Bool) (i : Int) (j : Nat), bs.getD j false = true → valueP p (i + j) P = vs.getD j 0 → wrL p P (knF i (vs.set j v) (bs.set j false)) = wrL p P (knF i vs bs)
  | [], bs, i, j, _, _ => by simp [knF]
  | u :: vs, [], i, j, h, _ => by simp at h
  | u :: vs, c :: bs, i, 0, h, h2 => by
    have hc : c = true := h
    subst hc
    show wrL p P (knF (i + 1) vs bs) = wrL p P ((i, u) :: knF (i + 1) vs bs)
    have h3 : valueP p (i, u).1 P = (i, u).2 := by simpa using h2
    rw [wrL_consE, if_pos h3]; rfl
  | u :: vs, c :: bs, i, j + 1, h, h2 => by
    have ih := wrF_forget v vs bs (i + 1) j (by simpa using h) (by rw [List.getD_cons_succ] at h2; rw [← h2]; congr 1; omega)
    simp only [List.set_cons_succ, knF]
    cases c
    · simpa using ih
    · simp only [if_true]
      rw [wrL_consE, wrL_consE, ih]
theorem knF_forget (v : Int) : ∀ (vs : List Int) (bs : List Bool) (i : Int) (j : Nat), vs.length = bs.length → bs.getD j false = true → (knF i (vs.set j v) (bs.set j false)).length + 1 = (knF i vs bs).length
  | [], [], i, j, _, h => by simp at h
  | u :: vs, c :: bs, i, 0, hl, h => by
    simp only [List.set_cons_zero, knF]
    have hc : c = true := h
    rw [hc]
    simp
  | u :: vs, c :: bs, i, j + 1, hl, h => by
    have ih := knF_forget v vs bs (i + 1) j (by simpa using hl) (by simpa using h)
    simp only [List.set_cons_succ, knF]
    cases c
    · simpa using ih
    · simp only [if_true, List.length_cons]
      omega
end
end Go.Proofs.YteipcjmkhacdgaaDoor
