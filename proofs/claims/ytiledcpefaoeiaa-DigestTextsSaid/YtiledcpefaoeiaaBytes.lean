/-
  The conversion of a text to bytes as a step of a walk; bytes that a call owns; no program in sight. No conditions.
-/
import Derived.Test.YtiledcpefaoeiaaMem
import Derived.Laws.IdiomStrings
namespace Go.Proofs.Ytiledcpefaoeiaa
open Go.RowKit
set_option linter.unusedVariables false

/-- Block g holds just these bytes ahead of its spare room; none of them is frozen. -/
def BytesAt (w : World) (g : Nat) (l : List UInt8) : Prop :=
  g < w.heap.size ∧ (∀ j (hj : j < l.length), w.cell? ⟨g, j, none⟩ = some (.int .u8 (l[j].toNat : Int))) ∧ ∀ j, j < l.length → w.frozen? ⟨g, j, none⟩ = false

theorem BytesAt.drewN {w : World} {g : Nat} {l : List UInt8} (h : BytesAt w g l) (q : Nat) : BytesAt (w.drewN q) g l := h
theorem BytesAt.set_ {w : World} {g : Nat} {l : List UInt8} (h : BytesAt w g l) (k : Nat) (hk : k < l.length) (b : UInt8) : BytesAt (w.setCell ⟨g, k, none⟩ (.int .u8 (b.toNat : Int))) g (l.set k b) := by
  obtain ⟨h0, h1, h2⟩ := h
  refine ⟨by simpa [World.setCell] using h0, fun j hj => ?_, fun j hj => ?_⟩
  · rw [List.length_set] at hj
    by_cases he : k = j
    · subst he
      rw [World.cell?_setCell_same' _ _ _ (by rw [h1 k hk]; rfl)]; simp
    · rw [World.cell?_setCell_other _ _ _ _ (fun e => he (by injection e with _ e _)), h1 j hj, List.getElem_set_ne he]
  · rw [List.length_set] at hj
    rw [World.frozen?_setCell]; exact h2 j hj

theorem wpList_bytes_of {P : Program} {w : World} {ops : Array Oper} {rest : List Oper} {o : Oper} {a : Act} {Q : Exit → Act → World → Prop} (hgd : o.guard = none) (src dst e : TypeId) (x : Operand)
    (ho : o.op = .convert src dst x) (hs : P.underlying src = some .string) (hd : P.underlying dst = some (.slice e)) (he : P.underlying e = some (.int .u8)) (s : ByteArray) (hx : a.eval x = .string s)
    (h : ∀ g c w', g = w.heap.size → BytesAt w' g s.data.toList → Below w.heap.size w w' → wpList P ops Q rest (a.put o.dst (.slice (some ⟨g, 0, none⟩) s.size c)) w') : wpList P ops Q (o :: rest) a w := by
  refine wpList_plain hgd fun K hK => ?_
  have hr := run_bytes_of_string (P := P) w src dst e s hs hd he
  unfold Oper.wp execOp
  simp only [ho, Sem.run_bind, Sem.run_pure, Result.andThen_ok, hx, hr]
  refine hK _ _ (h w.heap.size _ _ rfl ⟨by simp, fun j hj => ?_, fun j hj => ?_⟩ (((Below.refl _ _).drew).alloc (Nat.le_refl _) _))
  · have := World.cell?_alloc_mark w.drew (bytesRow s (grownCap w s.size 0 e)) e ((bytesRow s (grownCap w s.size 0 e)).size, (bytesRow s (grownCap w s.size 0 e)).size + 1) j
    rw [bytesRow_at s _ j (by simpa using hj)] at this
    exact this
  · have := World.frozen?_alloc_mark w.drew (bytesRow s (grownCap w s.size 0 e)) e (bytesRow s (grownCap w s.size 0 e)).size ((bytesRow s (grownCap w s.size 0 e)).size + 1) j
    rw [show decide ((bytesRow s (grownCap w s.size 0 e)).size ≤ j) = false by
      have hz : s.size ≤ (bytesRow s (grownCap w s.size 0 e)).size := by
        rw [bytesRow, Array.size_append, Array.size_map]; exact Nat.le_add_right _ _
      have : j < s.size := by simpa using hj
      simp; omega] at this
    exact this
end Go.Proofs.Ytiledcpefaoeiaa
