/-
  What the maker of rows hands back. Conditions: the deck's list reads as its numbers and is short.
-/
import Derived.Test.YtmcgnpdfpfgfpaaGreatDoorGMem
import Derived.Test.YtmcgnpdfpfgfpaaGreatDoorPlain
namespace Go.Proofs.YtmcgnpdfpfgfpaaGreatDoor
open Go.RowKit
set_option linter.unusedVariables false

theorem info_row : (Tryz.prog.info? 22).map (fun i => (i.zero, i.size, i.bytes)) = some (some (.slice none 0 0), 1, 24) := by kernel_rfl

/-- What Rows leaves. -/
def RowsPost (g : Nat) (A : Option Addr) (n c : Nat) (xs : List Int) (p : Int) (k wd : Nat) (w : World) (e : Ending) (w' : World) : Prop :=
  ∃ (A' : Option Addr) (c' : Nat) (rows : List (List Int)) (q' : Nat), e = .returned (.slice A' k c') ∧ OwnM w' w.heap.size w.heap.size 22 A' k c' rows ∧ (∀ r ∈ rows, allP p r = true ∧ r.length = wd) ∧ Deck w' g A n c xs q' ∧ Step g w w'

set_option maxHeartbeats 400000 in
theorem rows_any (g : Nat) (A : Option Addr) (n c : Nat) (xs : List Int) (q : Nat) (p : Int) (k wd : Nat) (w : World) (h : Deck w g A n c xs q) (hp : 2 ≤ p ∧ p ≤ 65521) (hk : k ≤ 65536) (hw : wd ≤ 65536) :
    Calls Tryz.prog 23 #[.pointer (some ⟨g, 0, none⟩), .agg #[.int .i64 p], .int .i64 k, .int .i64 wd] w (RowsPost g A n c xs p k wd w) := by
  have hg := h.1.lt
  obtain ⟨i0, hi0, hz0, hz1, hz2⟩ := info_parts info_row
  go_enter Tryz.func23, Tryz.ntmps23
  go_wp2
  go_loopw [9, 11] (fun v i wr => ∃ (m : Nat) (A' : Option Addr) (c' : Nat) (rows : List (List Int)) (q' : Nat), m ≤ k ∧ i = .int .i64 m ∧ v = .slice A' m c' ∧ OwnM wr (w.heap.size + 1) (w.heap.size + 1) 22 A' m c' rows ∧ Hid (∀ r ∈ rows, allP p r = true ∧ r.length = wd) ∧ Deck wr g A n c xs q' ∧ Step g w wr ∧
      Blk wr w.heap.size 44 #[.int .i64 p]) (fun _ i _ => k - (intOf i).toNat)
  case atStart => exact ⟨0, none, 0, [], q, Nat.zero_le _, rfl, rfl, OwnM.nil_, Lib.hid (fun r hr => by cases hr), h.alloc _, Step.of_below (bbox _), Blk.new _ _ _⟩
  case round =>
    obtain ⟨m, A', c', rows, q', hm, rfl, rfl, hown, HA, hD, hS, hF⟩ := hrel
    have hfc : wr.cell? ⟨w.heap.size, 0, none⟩ = some (.int .i64 p) := (hF.cell 0).trans rfl
    have hFl := hF.lt
    by_cases hlt : m < k
    · go_wp2_with (first
        | (go_at_call 57; refine (elements_any g A n c xs q' p wd _ hD hp (by omega)).mono ?_; rintro e w1 ⟨B1, d1, ys, q2, rfl, hown1, hY, hD1, hS1⟩
           have hI1 := hown1.ints.upto (bbox (.cells #[.slice B1 wd d1] 22))
           have hM1 := (hown.step hS1 (by omega) (by omega)).belowAll (bbox (.cells #[.slice B1 wd d1] 22))
           have hF1 := (Step.block hS1 hF (by omega)).alloc (.cells #[.slice B1 wd d1] 22)
           have hS2 := (hS.trans hS1).alloc (.cells #[.slice B1 wd d1] 22)
           have hD2 := hD1.alloc (.cells #[.slice B1 wd d1] 22)
           have hl1 : wr.heap.size ≤ w1.heap.size := World.grownBy.size hS1
           have hcl : (w1.alloc (.cells #[.slice B1 wd d1] 22)).cell? ⟨w1.heap.size, 0, none⟩ = some (.slice B1 wd d1) := by rw [World.cell?_alloc_at _ _ _ _ rfl]; rfl
           have HLO : Lo (w.heap.size + 1) B1 wd := fun h0 b off s e => by have := hown1.row b (by rw [e]; rfl); omega
           have HAP : 0 < wd → ∀ b off s, B1 = some ⟨b, off, s⟩ → (Value.slice A' m c').ownBlock ≠ some b := fun h0 b off s e e2 => by
             have h1 := hown1.row b (by rw [e]; rfl)
             have h2 := (hown.row b e2).2
             omega
           have HLO2 := Lib.hid HLO
           have HAP2 := Lib.hid HAP
           have HYL : Hid (allP p ys = true ∧ ys.length = wd) := Lib.hid ⟨hY, hown1.len⟩
           clear HLO HAP hS1 hD1 hown1 hY)
        | (at_builtin
           refine wpList_append_row rfl _ _ 45 rfl (w.heap.size + 1) (w.heap.size + 1) 22 i0 _ Tryz.underlying45 hi0 hz0 hz1 hz2 rfl A' m c' rows rfl hM1 w1.heap.size 1 B1 wd d1 ys rfl hcl (by simp) (by omega) hI1 HLO2.out HAP2.out (m + 1) rfl (by omega) (le_alloc (by omega) _) ?_
           intro A2 c2 w2 hown2 hgr hbw2
           have hD3 := hD2.below hbw2 (by omega)
           have hF3 := hF1.below hbw2 (by omega)
           have hS3 : Step g w w2 := hS2.thenBelow (hbw2.mono (by omega))))
      go_roundw
      case rel => exact ⟨m + 1, A2, c2, rows ++ [ys], q2, by omega, by go_num, rfl, hown2, Lib.hid (fun r hr => by
        rcases List.mem_append.1 hr with h1 | h1
        · exact HA.out r h1
        · simp at h1; subst h1; exact HYL.out), hD3, hS3, hF3⟩
      case measure => simp [intOf]; omega
    · have hkm : m = k := by omega
      subst hkm
      go_wp2
      go_ret
      exact ⟨A', c', rows, q', rfl, hown.weaken (by omega) (by omega), HA.out, hD, hS⟩
end Go.Proofs.YtmcgnpdfpfgfpaaGreatDoor
