/-
  Words for memory: a slice of rows of numbers that the call itself made, each row with a block of its own; no program in sight. No conditions.
-/
import Derived.Test.YtoblofilaegnaaaReduce
namespace Go.Proofs.Ytoblofilaegnaaa
open Go.RowKit
set_option linter.unusedVariables false

/-- A slice of rows of the call's own, and the rows. -/
structure RefW (w : World) (base wd : Nat) (R : Option Addr) (n cap : Nat) (bs : List (Nat × Nat)) (m : List (List Int)) : Prop where
  out : w.ownsRow base 22 1 (.slice R n cap) n (rowV wd bs)
  rws : Rws w base 3 wd bs m
  ln : m.length = n

section
variable {w w' : World} {base wd : Nat} {R : Option Addr} {n cap : Nat} {bs : List (Nat × Nat)} {m : List (List Int)}
theorem RefW.nil_ : RefW w base wd none 0 0 [] [] := ⟨World.ownsRow_nil _ _ _ _, Rws.nil_, rfl⟩
theorem RefW.drewN (h : RefW w base wd R n cap bs m) (k : Nat) : RefW (w.drewN k) base wd R n cap bs m := ⟨h.out, ⟨h.rws.ln, h.rws.apart, h.rws.own⟩, h.ln⟩
theorem RefW.drew (h : RefW w base wd R n cap bs m) : RefW w.drew base wd R n cap bs m := ⟨h.out, ⟨h.rws.ln, h.rws.apart, h.rws.own⟩, h.ln⟩
theorem RefW.below (h : RefW w base wd R n cap bs m) (hb : Below w.heap.size w w') : RefW w' base wd R n cap bs m :=
  ⟨by
    refine ⟨h.out.1, ?_⟩
    rcases h.out.2 with h0 | ⟨g, cap, cur, hv, hg, hh, r⟩
    · exact .inl h0
    · refine .inr ⟨g, cap, cur, hv, hg, ?_, r⟩
      rw [hb.block g (Blk.lt (t := 22) hh)]; exact hh, h.rws.belowAll hb, h.ln⟩
theorem RefW.form (h : RefW w base wd R n cap bs m) (hn : 0 < n) : ∃ go, R = some ⟨go, 0, none⟩ ∧ base ≤ go ∧ go < w.heap.size ∧ (∀ j, j < n → (bs.getD j (0, 0)).1 ≠ go) ∧ (∀ j, j < n → w.cell? ⟨go, j, none⟩ = some (.slice (some ⟨(bs.getD j (0, 0)).1, 0, none⟩) wd (bs.getD j (0, 0)).2) ∧ w.frozen? ⟨go, j, none⟩ = false) := by
  obtain ⟨go, cp, hv, h1, h2⟩ := World.ownsRow.form h.out hn
  injection hv with hA
  subst hA
  refine ⟨go, rfl, h1, h2, fun j hj => ?_, fun j hj => ⟨?_, World.ownsRow.frozenAt h.out j⟩⟩
  · intro e
    exact own_ne (h.rws.own j (by rw [h.ln]; exact hj)) h.out (fun e => types3.2.2 e.symm) e
  · have hl : j < bs.length := by rw [h.rws.ln, h.ln]; exact hj
    rw [World.ownsRow.cellAt h.out j (by omega)]
    exact rowV_at _ _ hl
theorem RefW.frame {row : Option Nat} (h : RefW w base wd R n cap bs m) (hg : w.grownBy w' row) (h2 : ∀ go, R = some ⟨go, 0, none⟩ → row ≠ some go) (h3 : ∀ j, j < m.length → row ≠ some (bs.getD j (0, 0)).1) : RefW w' base wd R n cap bs m :=
  ⟨World.ownsRow.kept h.out hg (by
    rcases hb : (Value.slice R n cap).ownBlock with _ | g
    · exact .inl rfl
    · refine .inr (fun e => ?_)
      rcases h.out.2 with ⟨hv, _⟩ | ⟨g2, cp, cur, hv, _⟩
      · rw [hv] at hb; cases hb
      · injection hv with hv1
        exact h2 g2 hv1 (by rw [← e, ← hb, hv1]; rfl)), h.rws.kept hg h3, h.ln⟩
/-- One row written. -/
theorem RefW.row_set (h : RefW w base wd R n cap bs m) {j : Nat} (hj : j < n) {l : List Int} (hg : Step (bs.getD j (0, 0)).1 w w') (hl : OwnI w' base 3 (some ⟨(bs.getD j (0, 0)).1, 0, none⟩) wd (bs.getD j (0, 0)).2 l) : RefW w' base wd R n cap bs (m.set j l) := by
  obtain ⟨go, hR, _, _, hbn, _⟩ := h.form (by omega)
  refine ⟨World.ownsRow.kept h.out hg (.inr (fun e => ?_)), h.rws.set_ (by rw [h.ln]; exact hj) hg hl, by rw [List.length_set]; exact h.ln⟩
  subst hR
  have e2 : some go = some (bs.getD j (0, 0)).1 := e
  injection e2 with e2
  exact hbn j hj e2.symm
/-- Two rows exchanged, the second place first. -/
theorem RefW.swapped {go r i : Nat} (h : RefW w base wd (some ⟨go, 0, none⟩) n cap bs m) (hr : r < n) (hi : i < n) :
    RefW ((w.setCell ⟨go, i, none⟩ (.slice (some ⟨(bs.getD r (0, 0)).1, 0, none⟩) wd (bs.getD r (0, 0)).2)).setCell ⟨go, r, none⟩ (.slice (some ⟨(bs.getD i (0, 0)).1, 0, none⟩) wd (bs.getD i (0, 0)).2)) base wd (some ⟨go, 0, none⟩) n cap (swapB bs i r) (swapM m i r)
    ∧ Step go w ((w.setCell ⟨go, i, none⟩ (.slice (some ⟨(bs.getD r (0, 0)).1, 0, none⟩) wd (bs.getD r (0, 0)).2)).setCell ⟨go, r, none⟩ (.slice (some ⟨(bs.getD i (0, 0)).1, 0, none⟩) wd (bs.getD i (0, 0)).2)) := by
  obtain ⟨go2, hR, h1, h2, hbn, _⟩ := h.form (by omega)
  injection hR with hR
  injection hR with hR
  subst hR
  have hl := h.ln
  have hbl : bs.length = n := by rw [h.rws.ln, h.ln]
  have hS := ((Step.refl go w).set i (.slice (some ⟨(bs.getD r (0, 0)).1, 0, none⟩) wd (bs.getD r (0, 0)).2)).set r (.slice (some ⟨(bs.getD i (0, 0)).1, 0, none⟩) wd (bs.getD i (0, 0)).2)
  have hO := (World.ownsRow.stored (World.ownsRow.stored h.out i (.slice (some ⟨(bs.getD r (0, 0)).1, 0, none⟩) wd (bs.getD r (0, 0)).2)).1 r (.slice (some ⟨(bs.getD i (0, 0)).1, 0, none⟩) wd (bs.getD i (0, 0)).2)).1
  rw [rowV_swap wd bs (by omega) (by omega)] at hO
  exact ⟨⟨hO, (h.rws.kept hS (fun j hj e => by injection e with e; exact hbn j (by omega) e.symm)).swap_ (by omega) (by omega), by rw [swapM_len]; exact hl⟩, hS⟩
/-- One row more. -/
theorem RefW.pushed {b cr : Nat} {row : List Int} {v' : Value} (h : RefW w base wd R n cap bs m) (hrow : OwnI w base 3 (some ⟨b, 0, none⟩) wd cr row) (hbn : ∀ j, j < m.length → (bs.getD j (0, 0)).1 ≠ b)
    (hown : w'.ownsRow base 22 1 v' (n + 1) (rowV wd bs ++ [.slice (some ⟨b, 0, none⟩) wd cr])) (hg : w.grownBy w' (Value.slice R n cap).ownBlock) (hbW : base ≤ w.heap.size) :
    ∃ R' cap', v' = .slice R' (n + 1) cap' ∧ RefW w' base wd R' (n + 1) cap' (bs ++ [(b, cr)]) (m ++ [row]) ∧ Below base w w' := by
  have hR : ∀ (g n2 d : Nat) (xs : List Int), OwnI w base 3 (some ⟨g, 0, none⟩) n2 d xs → (Value.slice R n cap).ownBlock ≠ some g := fun g n2 d xs hx e => by
    rcases h.out.2 with ⟨hv, _⟩ | ⟨g2, cp, cur, hv, _⟩
    · rw [hv] at e; cases e
    · injection hv with hv1 hv2 hv3
      have ho := h.out
      rw [hv1] at ho e
      have e2 : some g2 = some g := e
      injection e2 with e2
      exact own_ne hx ho (fun e => types3.2.2 e.symm) e2.symm
  have hrk := h.rws.kept hg (fun j hj => hR _ _ _ _ (h.rws.own j hj))
  have hrow7 := hrow.kept hg (.inr (fun e => hR b _ _ _ hrow (by rw [← e]; rfl)))
  have hs := hrk.snoc hrow7 hbn
  rcases hown.2 with ⟨hv, h0⟩ | ⟨g, cap', cur, hv, h1, h2⟩
  · omega
  · subst hv
    exact ⟨_, cap', rfl, ⟨by rw [rowV_snoc]; exact hown, hs, by rw [List.length_append, h.ln]; rfl⟩, (Below.refl base w).grown hg hbW (fun k hk => (World.ownsRow.lt h.out k hk).1)⟩
end
theorem swapM_comm (m : List (List Int)) {r i : Nat} (hr : r < m.length) (hi : i < m.length) : swapM m i r = swapM m r i := by
  refine rows_ext (by rw [swapM_len, swapM_len]) fun j _ => ?_
  rw [swapM_at m hi hr, swapM_at m hr hi]
  unfold swI
  by_cases h1 : j = r <;> by_cases h2 : j = i
  · subst h1 h2; rfl
  · subst h1; simp [h2]
  · subst h2; simp [h1]
  · simp [h1, h2]
end Go.Proofs.Ytoblofilaegnaaa
