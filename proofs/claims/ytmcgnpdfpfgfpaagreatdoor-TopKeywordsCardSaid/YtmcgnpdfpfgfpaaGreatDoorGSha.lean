/-
  Words for memory and contracts of small functions of the second form. Conditions: those of each lemma.
-/
import Derived.Test.YtmcgnpdfpfgfpaaGreatDoorItp
import Derived.Test.YtmcgnpdfpfgfpaaGreatDoorPlain
import Derived.Test.YtmcgnpdfpfgfpaaGreatDoorGBas
/-! Shares -/
namespace Go.Proofs.YtmcgnpdfpfgfpaaGreatDoor
open Go.RowKit
set_option linter.unusedVariables false

/-- The cells of shares. -/
def shV : List Int → List Int → List Value
  | u :: us, y :: ys => .int .i64 u :: .int .i64 y :: shV us ys
  | _, _ => []
theorem shV_len : ∀ us ys : List Int, us.length = ys.length → (shV us ys).length = us.length * 2
  | [], [], _ => rfl
  | _ :: us, _ :: ys, h => by
    have := shV_len us ys (by simpa using h)
    simp only [shV, List.length_cons, this]; omega
theorem shV_snoc (u y : Int) : ∀ us ys : List Int, us.length = ys.length → shV (us ++ [u]) (ys ++ [y]) = shV us ys ++ [.int .i64 u, .int .i64 y]
  | [], [], _ => rfl
  | _ :: us, _ :: ys, h => by
    have := shV_snoc u y us ys (by simpa using h)
    simp only [List.cons_append, shV, this]
theorem shV_one : ∀ us ys : List Int, ∀ v ∈ shV us ys, v.oneCell' = true
  | u :: us, y :: ys, v, h => by
    simp only [shV, List.mem_cons] at h
    rcases h with rfl | rfl | h
    · rfl
    · rfl
    · exact shV_one us ys v h
  | [], _, v, h => by simp [shV] at h
  | _ :: _, [], v, h => by simp [shV] at h
theorem shV_at : ∀ us ys : List Int, us.length = ys.length → ∀ j, j < us.length → (shV us ys)[j * 2]? = some (.int .i64 (us.getD j 0)) ∧ (shV us ys)[j * 2 + 1]? = some (.int .i64 (ys.getD j 0))
  | [], [], _, j, hj => by simp at hj
  | u :: us, y :: ys, h, j, hj => by
    cases j with
    | zero => exact ⟨rfl, rfl⟩
    | succ j =>
      have := shV_at us ys (by simpa using h) j (by simpa using hj)
      simp only [shV, List.getD_cons_succ]
      rw [show (j + 1) * 2 = j * 2 + 1 + 1 by omega]
      exact this

theorem info_share : (Tryz.prog.info? 135).map (fun i => (i.zero, i.size, i.bytes)) = some (some (.agg #[.int .i64 0, .int .i64 0]), 2, 16) := by kernel_rfl

/-- A row of shares that the call itself made. -/
def OwnS (w : World) (base : Nat) (A : Option Addr) (n c : Nat) (us ys : List Int) : Prop := us.length = n ∧ ys.length = n ∧ w.ownsRow base 135 2 (.slice A n c) n (shV us ys)
theorem OwnS.nil_ {w : World} {base : Nat} : OwnS w base none 0 0 [] [] := ⟨rfl, rfl, World.ownsRow_nil _ _ _ _⟩
theorem OwnS.belowAll {w w' : World} {base n c : Nat} {A : Option Addr} {us ys : List Int} (h : OwnS w base A n c us ys) (hb : Below w.heap.size w w') : OwnS w' base A n c us ys := by
  refine ⟨h.1, h.2.1, h.2.2.1, ?_⟩
  rcases h.2.2.2 with h0 | ⟨g, cap, cur, hv, hg, hh, r⟩
  · exact .inl h0
  · refine .inr ⟨g, cap, cur, hv, hg, ?_, r⟩
    rw [hb.block g (World.ownsRow.lt h.2.2 g (by rw [hv]; rfl)).2]; exact hh
theorem OwnS.sh {w : World} {base n c : Nat} {A : Option Addr} {us ys : List Int} (h : OwnS w base A n c us ys) : Sh w w.heap.size A n us ys := by
  refine ⟨h.1, h.2.1, fun hn => ?_⟩
  obtain ⟨g, cap, hv, h1, h2⟩ := World.ownsRow.form h.2.2 hn
  injection hv with hA
  subst hA
  refine ⟨g, 0, rfl, h2, fun j hj => ?_⟩
  have hs := shV_at us ys (by rw [h.1, h.2.1]) j (by rw [h.1]; exact hj)
  have c1 := World.ownsRow.cellAt h.2.2 (j * 2) (by omega)
  have c2 := World.ownsRow.cellAt h.2.2 (j * 2 + 1) (by omega)
  rw [Nat.zero_add]
  exact ⟨c1.trans hs.1, c2.trans hs.2⟩

/-- One more share. -/
theorem wpList_append_share {w : World} {ops : Array Oper} {rest : List Oper} {o : Oper} {a : Act} {Q : Exit → Act → World → Prop} (hgd : o.guard = none) (s x : Operand) (t : TypeId)
    (ho : o.op = .call { callee := .builtin .append, args := #[s, x], argTypes := #[t, t] })
    (ht : Tryz.prog.underlying t = some (.slice 135)) (base : Nat) (A : Option Addr) (n c : Nat) (us ys : List Int) (hs : a.eval s = .slice A n c) (hown : OwnS w base A n c us ys)
    (b : Nat) (c2 : Nat) (u y : Int) (hx : a.eval x = .slice (some ⟨b, 0, none⟩) 1 c2) (h0 : w.cell? ⟨b, 0, none⟩ = some (.int .i64 u)) (h1 : w.cell? ⟨b, 1, none⟩ = some (.int .i64 y)) (hn : n ≤ 1000000) (hbase : base ≤ w.heap.size)
    (h : ∀ A' c' w', OwnS w' base A' (n + 1) c' (us ++ [u]) (ys ++ [y]) → Below base w w' → wpList Tryz.prog ops Q rest (a.put o.dst (.slice A' (n + 1) c')) w') : wpList Tryz.prog ops Q (o :: rest) a w := by
  obtain ⟨i, hi, hz, hsize, hby⟩ := info_parts info_share
  have hl : us.length = ys.length := by rw [hown.1, hown.2.1]
  refine wpList_append_any w hgd s x t ho base 135 i _ 2 16 ht hi hz hsize hby rfl (by omega) (.slice A n c) n (shV us ys) hs hown.2.2 (b + 1) (some ⟨b, 0, none⟩) 1 c2 [.int .i64 u, .int .i64 y] hx
    ⟨rfl, fun _ => ⟨_, rfl, Nat.lt_succ_self b, fun j v hj => ?_⟩⟩ (fun v hv => by
      simp only [List.mem_cons, List.not_mem_nil, or_false] at hv
      rcases hv with rfl | rfl <;> rfl) (by unfold maxLen; omega) (by omega) hbase ?_
  · match j, hj with
    | 0, hj =>
      simp at hj; subst hj; exact h0
    | 1, hj =>
      simp at hj; subst hj; exact h1
    | j + 2, hj => simp at hj
  · intro v' w' hown' hg hat
    rw [← shV_snoc u y us ys hl] at hown'
    have hb : Below base w w' := (Below.refl base w).grown hg hbase (fun k hk => (World.ownsRow.lt hown.2.2 k hk).1)
    rcases hown'.2 with ⟨hv, hn0⟩ | ⟨g, cap, cur, hv, _⟩
    · omega
    · rw [hv] at hown' ⊢
      exact h _ cap w' ⟨by simp [hown.1], by simp [hown.2.1], hown'⟩ hb
end Go.Proofs.YtmcgnpdfpfgfpaaGreatDoor

/-! SplL -/
namespace Go.Proofs.YtmcgnpdfpfgfpaaGreatDoor
open Go.RowKit
set_option linter.unusedVariables false

theorem step_append_ints {P : Program} {ops : Array Oper} {o : Oper} {a : Act} {w : World} {K : Act → World → Prop} {Q : Exit → Act → World → Prop} {E : Prop}
    (hg : o.guard = none) (s x : Operand) (t : TypeId) (hop : o.op = Op.call { callee := Callee.builtin Builtin.append, args := #[s, x], argTypes := #[t, t] })
    (base : Nat) (e : TypeId) (i : TypeInfo) (z : Value) (ht : P.underlying t = some (.slice e)) (hi : P.info? e = some i) (hz : i.zero = some z) (hsize : i.size = 1) (hby : i.bytes = 8) (hzs : z.cells.size = 1)
    (A : Option Addr) (n c : Nat) (xs : List Int) (hs : a.eval s = .slice A n c) (hown : OwnI w base e A n c xs)
    (B : Nat) (A2 : Option Addr) (m c2 : Nat) (ys : List Int) (hx : a.eval x = .slice A2 m c2) (hr : Ints w B A2 m ys)
    (N : Nat) (hN : n + m = N) (zs : List Int) (hzz : xs ++ ys = zs) (hcap : N ≤ 17592186044416) (hbase : base ≤ w.heap.size)
    (hK : ∀ A' c' w', OwnI w' base e A' N c' zs → w.grownBy w' (Value.slice A n c).ownBlock → Below base w w' → K (a.put o.dst (.slice A' N c')) w') :
    if Region.wanted o (yielded ops a.tmps) = true then Oper.wp P o a w K Q else E := by
  have hw : Region.wanted o (yielded ops a.tmps) = true := by simp [Region.wanted, hg]
  rw [if_pos hw]
  exact wp_append_ints s x t hop base e i z ht hi hz hsize hby hzs A n c xs hs hown B A2 m c2 ys hx hr N hN zs hzz hcap hbase fun A' c' w' h1 h2 h3 _ => hK A' c' w' h1 h2 h3

theorem OwnS.step {g base n c : Nat} {A : Option Addr} {us ys : List Int} {w w' : World} (h : OwnS w base A n c us ys) (hs : Step g w w') (hg : g < base) : OwnS w' base A n c us ys := by
  refine ⟨h.1, h.2.1, World.ownsRow.kept h.2.2 hs ?_⟩
  right
  intro e
  have := (World.ownsRow.lt h.2.2 g e).1
  omega
theorem OwnS.base {base base' n c : Nat} {A : Option Addr} {us ys : List Int} {w : World} (h : OwnS w base A n c us ys) (hb : base' ≤ base) : OwnS w base' A n c us ys := by
  refine ⟨h.1, h.2.1, h.2.2.1, ?_⟩
  rcases h.2.2.2 with h0 | ⟨g, cap, cur, hv, hg, r⟩
  · exact .inl h0
  · exact .inr ⟨g, cap, cur, hv, by omega, r⟩
theorem OwnS.cap {base n c : Nat} {A : Option Addr} {us ys : List Int} {w : World} (h : OwnS w base A n c us ys) : n ≤ c := by
  rcases h.2.2.2 with ⟨hv, hn⟩ | ⟨g, cap, cur, hv, _, _, hc, _⟩
  · injection hv; omega
  · injection hv with _ _ h3; omega

/-- 1, 2, .. -/
def ptsL (n : Nat) : List Int := (List.range n).map fun i : Nat => (i : Int) + 1
theorem ptsL_succ (n : Nat) : ptsL (n + 1) = ptsL n ++ [(n : Int) + 1] := by simp [ptsL, List.range_succ]
theorem ptsL_len (n : Nat) : (ptsL n).length = n := by simp [ptsL]
theorem ptsL_at {n j : Nat} (hj : j < n) : (ptsL n).getD j 0 = (j : Int) + 1 := by
  unfold ptsL
  rw [List.getD_eq_getElem?_getD, List.getElem?_map, List.getElem?_range hj]; rfl
theorem ptsL_allP {p : Int} {n : Nat} (h : (n : Int) < p) : allP p (ptsL n) = true := allP_iff.2 fun x hx => by
  obtain ⟨i, hi, rfl⟩ := List.mem_map.1 hx
  have := List.mem_range.1 hi
  omega
end Go.Proofs.YtmcgnpdfpfgfpaaGreatDoor

/-! Shares2 -/
namespace Go.Proofs.YtmcgnpdfpfgfpaaGreatDoor
open Go.RowKit
set_option linter.unusedVariables false

end Go.Proofs.YtmcgnpdfpfgfpaaGreatDoor

/-! Shares3 -/
namespace Go.Proofs.YtmcgnpdfpfgfpaaGreatDoor
open Go.RowKit
set_option linter.unusedVariables false

/-- A block that was made right after another one. -/
theorem Blk.new1 (w : World) (o : Obj) (t : TypeId) (cs : Array Value) : Blk ((w.alloc o).alloc (.cells cs t)) (w.heap.size + 1) t cs := by
  have := Blk.new (w.alloc o) t cs
  rwa [World.size_alloc] at this
end Go.Proofs.YtmcgnpdfpfgfpaaGreatDoor
