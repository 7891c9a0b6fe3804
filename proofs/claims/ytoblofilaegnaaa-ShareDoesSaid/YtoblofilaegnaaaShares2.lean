/-
  Rows of shares that the call itself made: many more shares; one more inside a statement that draws its order. No conditions.
-/
import Derived.Test.YtoblofilaegnaaaGSha
namespace Go.Proofs.Ytoblofilaegnaaa
open Go.RowKit
set_option linter.unusedVariables false

theorem shV_app : ∀ us ys us2 ys2 : List Int, us.length = ys.length → shV (us ++ us2) (ys ++ ys2) = shV us ys ++ shV us2 ys2
  | [], [], _, _, _ => rfl
  | _ :: us, _ :: ys, us2, ys2, h => by
    have := shV_app us ys us2 ys2 (by simpa using h)
    simp only [List.cons_append, shV, this]
theorem shV_odd : ∀ us ys : List Int, ∀ j u, us.length = ys.length → (shV us ys)[j]? = some u → ∃ i, i < us.length ∧ ((j = i * 2 ∧ u = .int .i64 (us.getD i 0)) ∨ (j = i * 2 + 1 ∧ u = .int .i64 (ys.getD i 0)))
  | [], [], j, u, _, h => by simp [shV] at h
  | a :: us, b :: ys, j, u, hl, h => by
    match j, h with
    | 0, h => simp [shV] at h; exact ⟨0, by simp, .inl ⟨rfl, h.symm⟩⟩
    | 1, h => simp [shV] at h; exact ⟨0, by simp, .inr ⟨rfl, h.symm⟩⟩
    | j + 2, h =>
      simp only [shV, List.getElem?_cons_succ] at h
      obtain ⟨i, hi, hh⟩ := shV_odd us ys j u (by simpa using hl) h
      refine ⟨i + 1, by simpa using hi, ?_⟩
      rcases hh with ⟨h1, h2⟩ | ⟨h1, h2⟩
      · exact .inl ⟨by omega, h2⟩
      · exact .inr ⟨by omega, h2⟩

theorem Sh.reads {w : World} {B : Nat} {A : Option Addr} {n : Nat} {us ys : List Int} (h : Sh w B A n us ys) : Reads w B 2 A n (shV us ys) := by
  have hl : us.length = ys.length := by rw [h.1, h.2.1]
  refine ⟨by rw [shV_len us ys hl, h.1], fun hn => ?_⟩
  obtain ⟨b, off, rfl, hb, hc⟩ := h.2.2 hn
  refine ⟨_, rfl, hb, fun j u hj => ?_⟩
  obtain ⟨i, hi, hh⟩ := shV_odd us ys j u hl hj
  rw [h.1] at hi
  have hadd : ∀ k, (⟨b, off, none⟩ : Addr).add k = ⟨b, off + k, none⟩ := fun k => by
    unfold Addr.add
    by_cases hk : k = 0 <;> simp [hk]
  rw [hadd]
  rcases hh with ⟨rfl, rfl⟩ | ⟨rfl, rfl⟩
  · exact (hc i hi).1
  · have := (hc i hi).2
    rw [Nat.add_assoc] at this
    exact this

theorem wp_append_shares {w : World} {o : Oper} {a : Act} {K : Act → World → Prop} {Q : Exit → Act → World → Prop} (s x : Operand) (t : TypeId)
    (ho : o.op = .call { callee := .builtin .append, args := #[s, x], argTypes := #[t, t] })
    (ht : Try.prog.underlying t = some (.slice 52)) (base : Nat) (A : Option Addr) (n c : Nat) (us ys : List Int) (hs : a.eval s = .slice A n c) (hown : OwnS w base A n c us ys)
    (B : Nat) (A2 : Option Addr) (m c2 : Nat) (us2 ys2 : List Int) (hx : a.eval x = .slice A2 m c2) (hr : Sh w B A2 m us2 ys2) (hn : n + m ≤ 1000000) (hbase : base ≤ w.heap.size)
    (h : ∀ A' c' w', OwnS w' base A' (n + m) c' (us ++ us2) (ys ++ ys2) → Below base w w' → K (a.put o.dst (.slice A' (n + m) c')) w') : o.wp Try.prog a w K Q := by
  obtain ⟨i, hi, hz, hsize, hby⟩ := info_parts info_share
  have hl : us.length = ys.length := by rw [hown.1, hown.2.1]
  refine wp_append_any w s x t ho base 52 i _ 2 16 ht hi hz hsize hby rfl (by omega) (.slice A n c) n (shV us ys) hs hown.2.2 B A2 m c2 (shV us2 ys2) hx hr.reads (shV_one us2 ys2) (by unfold maxLen; omega) (by omega) hbase ?_
  intro v' w' hown' hg hat
  rw [← shV_app us ys us2 ys2 hl] at hown'
  have hb : Below base w w' := (Below.refl base w).grown hg hbase (fun k hk => (World.ownsRow.lt hown.2.2 k hk).1)
  rcases hown'.2 with ⟨hv, hn0⟩ | ⟨g, cap, cur, hv, _⟩
  · rw [hv] at hown' ⊢
    rw [hn0] at hown' h
    exact h none 0 w' ⟨by simp [hown.1, hr.1]; omega, by simp [hown.2.1, hr.2.1]; omega, hown'⟩ hb
  · rw [hv] at hown' ⊢
    exact h _ cap w' ⟨by simp [hown.1, hr.1], by simp [hown.2.1, hr.2.1], hown'⟩ hb

theorem wpList_append_shares {w : World} {ops : Array Oper} {rest : List Oper} {o : Oper} {a : Act} {Q : Exit → Act → World → Prop} (hgd : o.guard = none) (s x : Operand) (t : TypeId)
    (ho : o.op = .call { callee := .builtin .append, args := #[s, x], argTypes := #[t, t] })
    (ht : Try.prog.underlying t = some (.slice 52)) (base : Nat) (A : Option Addr) (n c : Nat) (us ys : List Int) (hs : a.eval s = .slice A n c) (hown : OwnS w base A n c us ys)
    (B : Nat) (A2 : Option Addr) (m c2 : Nat) (us2 ys2 : List Int) (hx : a.eval x = .slice A2 m c2) (hr : Sh w B A2 m us2 ys2) (N : Nat) (hN : n + m = N) (hn : N ≤ 1000000) (hbase : base ≤ w.heap.size)
    (h : ∀ A' c' w', OwnS w' base A' N c' (us ++ us2) (ys ++ ys2) → Below base w w' → wpList Try.prog ops Q rest (a.put o.dst (.slice A' N c')) w') : wpList Try.prog ops Q (o :: rest) a w := by
  subst hN
  exact wpList_plain hgd fun _ hK => wp_append_shares s x t ho ht base A n c us ys hs hown B A2 m c2 us2 ys2 hx hr hn hbase fun A' c' w' h1 h2 => hK _ _ (h A' c' w' h1 h2)

theorem step_append_shares {ops : Array Oper} {o : Oper} {a : Act} {w : World} {K : Act → World → Prop} {Q : Exit → Act → World → Prop} {E : Prop}
    (hg : o.guard = none) (s x : Operand) (t : TypeId) (hop : o.op = Op.call { callee := Callee.builtin Builtin.append, args := #[s, x], argTypes := #[t, t] })
    (ht : Try.prog.underlying t = some (.slice 52)) (base : Nat) (A : Option Addr) (n c : Nat) (us ys : List Int) (hs : a.eval s = .slice A n c) (hown : OwnS w base A n c us ys)
    (B : Nat) (A2 : Option Addr) (m c2 : Nat) (us2 ys2 : List Int) (hx : a.eval x = .slice A2 m c2) (hr : Sh w B A2 m us2 ys2) (N : Nat) (hN : n + m = N) (hn : N ≤ 1000000) (hbase : base ≤ w.heap.size)
    (hK : ∀ A' c' w', OwnS w' base A' N c' (us ++ us2) (ys ++ ys2) → Below base w w' → K (a.put o.dst (.slice A' N c')) w') :
    if Region.wanted o (yielded ops a.tmps) = true then Oper.wp Try.prog o a w K Q else E := by
  have hw : Region.wanted o (yielded ops a.tmps) = true := by simp [Region.wanted, hg]
  rw [if_pos hw]
  subst hN
  exact wp_append_shares s x t hop ht base A n c us ys hs hown B A2 m c2 us2 ys2 hx hr hn hbase hK

/-- One new share as a row. -/
theorem Sh.oneAt (w : World) (u y : Int) : Sh (w.alloc (.cells #[.int .i64 u, .int .i64 y] 52)) (w.alloc (.cells #[.int .i64 u, .int .i64 y] 52)).heap.size (some ⟨w.heap.size, 0, none⟩) 1 [u] [y] :=
  ⟨rfl, rfl, fun _ => ⟨w.heap.size, 0, rfl, by simp, fun j hj => by
    obtain rfl : j = 0 := by omega
    have hB : (w.alloc (.cells #[.int .i64 u, .int .i64 y] 52)).heap[w.heap.size]? = some (.cells #[.int .i64 u, .int .i64 y] 52 (0, 0)) := Blk.new w 52 #[.int .i64 u, .int .i64 y]
    exact ⟨(Blk.cell hB 0).trans rfl, (Blk.cell hB 1).trans rfl⟩⟩⟩
end Go.Proofs.Ytoblofilaegnaaa
