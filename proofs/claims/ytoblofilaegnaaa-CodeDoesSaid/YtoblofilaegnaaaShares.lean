/-
  Rows of shares that the call itself made: one more share. No conditions.
-/
import Derived.Test.YtoblofilaegnaaaItp
namespace Go.Proofs.Ytoblofilaegnaaa
open Go.RowKit
set_option linter.unusedVariables false

/-- The cells of shares. -/
def shV : List Int → List Int → List Value
  | u :: us, y :: ys => .int .i64 u :: .int .i64 y :: shV us ys
  | _, _ => []
theorem shV_len : ∀ us ys : List Int, us.length = ys.length → (shV us ys).length = us.length * 2
  | [], [], _ => rfl
  | _ :: us, _ :: ys, h => by
    have := shV_len us ys (by simpa using h)
    simp only [shV, List.length_cons, this]; omega
theorem shV_snoc (u y : Int) : ∀ us ys : List Int, us.length = ys.length → shV (us ++ [u]) (ys ++ [y]) = shV us ys ++ [.int .i64 u, .int .i64 y]
  | [], [], _ => rfl
  | _ :: us, _ :: ys, h => by
    have := shV_snoc u y us ys (by simpa using h)
    simp only [List.cons_append, shV, this]
theorem shV_one : ∀ us ys : List Int, ∀ v ∈ shV us ys, v.oneCell' = true
  | u :: us, y :: ys, v, h => by
    simp only [shV, List.mem_cons] at h
    rcases h with rfl | rfl | h
    · rfl
    · rfl
    · exact shV_one us ys v h
  | [], _, v, h => by simp [shV] at h
  | _ :: _, [], v, h => by simp [shV] at h
theorem shV_at : ∀ us ys : List Int, us.length = ys.length → ∀ j, j < us.length → (shV us ys)[j * 2]? = some (.int .i64 (us.getD j 0)) ∧ (shV us ys)[j * 2 + 1]? = some (.int .i64 (ys.getD j 0))
  | [], [], _, j, hj => by simp at hj
  | u :: us, y :: ys, h, j, hj => by
    cases j with
    | zero => exact ⟨rfl, rfl⟩
    | succ j =>
      have := shV_at us ys (by simpa using h) j (by simpa using hj)
      simp only [shV, List.getD_cons_succ]
      rw [show (j + 1) * 2 = j * 2 + 1 + 1 by omega]
      exact this

theorem info_share : (Try.prog.info? 52).map (fun i => (i.zero, i.size, i.bytes)) = some (some (.agg #[.int .i64 0, .int .i64 0]), 2, 16) := by kernel_rfl

/-- A row of shares that the call itself made. -/
def OwnS (w : World) (base : Nat) (A : Option Addr) (n c : Nat) (us ys : List Int) : Prop := us.length = n ∧ ys.length = n ∧ w.ownsRow base 52 2 (.slice A n c) n (shV us ys)
theorem OwnS.nil_ {w : World} {base : Nat} : OwnS w base none 0 0 [] [] := ⟨rfl, rfl, World.ownsRow_nil _ _ _ _⟩
theorem OwnS.belowAll {w w' : World} {base n c : Nat} {A : Option Addr} {us ys : List Int} (h : OwnS w base A n c us ys) (hb : Below w.heap.size w w') : OwnS w' base A n c us ys := by
  refine ⟨h.1, h.2.1, h.2.2.1, ?_⟩
  rcases h.2.2.2 with h0 | ⟨g, cap, cur, hv, hg, hh, r⟩
  · exact .inl h0
  · refine .inr ⟨g, cap, cur, hv, hg, ?_, r⟩
    rw [hb.block g (World.ownsRow.lt h.2.2 g (by rw [hv]; rfl)).2]; exact hh
theorem OwnS.sh {w : World} {base n c : Nat} {A : Option Addr} {us ys : List Int} (h : OwnS w base A n c us ys) : Sh w w.heap.size A n us ys := by
  refine ⟨h.1, h.2.1, fun hn => ?_⟩
  obtain ⟨g, cap, hv, h1, h2⟩ := World.ownsRow.form h.2.2 hn
  injection hv with hA
  subst hA
  refine ⟨g, 0, rfl, h2, fun j hj => ?_⟩
  have hs := shV_at us ys (by rw [h.1, h.2.1]) j (by rw [h.1]; exact hj)
  have c1 := World.ownsRow.cellAt h.2.2 (j * 2) (by omega)
  have c2 := World.ownsRow.cellAt h.2.2 (j * 2 + 1) (by omega)
  rw [Nat.zero_add]
  exact ⟨c1.trans hs.1, c2.trans hs.2⟩

/-- One more share. -/
theorem wpList_append_share {w : World} {ops : Array Oper} {rest : List Oper} {o : Oper} {a : Act} {Q : Exit → Act → World → Prop} (hgd : o.guard = none) (s x : Operand) (t : TypeId)
    (ho : o.op = .call { callee := .builtin .append, args := #[s, x], argTypes := #[t, t] })
    (ht : Try.prog.underlying t = some (.slice 52)) (base : Nat) (A : Option Addr) (n c : Nat) (us ys : List Int) (hs : a.eval s = .slice A n c) (hown : OwnS w base A n c us ys)
    (b : Nat) (c2 : Nat) (u y : Int) (hx : a.eval x = .slice (some ⟨b, 0, none⟩) 1 c2) (h0 : w.cell? ⟨b, 0, none⟩ = some (.int .i64 u)) (h1 : w.cell? ⟨b, 1, none⟩ = some (.int .i64 y)) (hn : n ≤ 1000000) (hbase : base ≤ w.heap.size)
    (h : ∀ A' c' w', OwnS w' base A' (n + 1) c' (us ++ [u]) (ys ++ [y]) → Below base w w' → wpList Try.prog ops Q rest (a.put o.dst (.slice A' (n + 1) c')) w') : wpList Try.prog ops Q (o :: rest) a w := by
  obtain ⟨i, hi, hz, hsize, hby⟩ := info_parts info_share
  have hl : us.length = ys.length := by rw [hown.1, hown.2.1]
  refine wpList_append_any w hgd s x t ho base 52 i _ 2 16 ht hi hz hsize hby rfl (by omega) (.slice A n c) n (shV us ys) hs hown.2.2 (b + 1) (some ⟨b, 0, none⟩) 1 c2 [.int .i64 u, .int .i64 y] hx
    ⟨rfl, fun _ => ⟨_, rfl, Nat.lt_succ_self b, fun j v hj => ?_⟩⟩ (fun v hv => by
      simp only [List.mem_cons, List.not_mem_nil, or_false] at hv
      rcases hv with rfl | rfl <;> rfl) (by unfold maxLen; omega) (by omega) hbase ?_
  · match j, hj with
    | 0, hj =>
      simp at hj; subst hj; exact h0
    | 1, hj =>
      simp at hj; subst hj; exact h1
    | j + 2, hj => simp at hj
  · intro v' w' hown' hg hat
    rw [← shV_snoc u y us ys hl] at hown'
    have hb : Below base w w' := (Below.refl base w).grown hg hbase (fun k hk => (World.ownsRow.lt hown.2.2 k hk).1)
    rcases hown'.2 with ⟨hv, hn0⟩ | ⟨g, cap, cur, hv, _⟩
    · omega
    · rw [hv] at hown' ⊢
      exact h _ cap w' ⟨by simp [hown.1], by simp [hown.2.1], hown'⟩ hb
end Go.Proofs.Ytoblofilaegnaaa
