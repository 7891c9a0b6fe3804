/-
  What tape's Draw hands back. Conditions: the list reads as its numbers.
-/
import Derived.Test.YtdklcgpjdajkmaaTape
import Derived.Deep.RegionHeld3
import Derived.BigQuiet
namespace Go.Proofs.Ytdklcgpjdajkmaa
open Go.RowKit
set_option linter.unusedVariables false

/-- What Draw leaves. -/
def DrawPost (m : Nat) (a n : Int) (xs : List Int) (w : World) (e : Ending) (w' : World) : Prop :=
  (drawsE xs m a n 1 ≠ 0 → e = .returned (.tuple #[.agg #[.slice none 0 0, .int .i64 0], .int .i64 0, .int .i64 (drawsE xs m a n 1)])) ∧
  (drawsE xs m a n 1 = 0 → ∃ A' c', e = .returned (.tuple #[.agg #[.slice A' m c', .int .i64 (a + 1)], .int .i64 (xs.getD a.toNat 0), .int .i64 0]) ∧ OwnI w' w.heap.size 3 A' m c' xs) ∧
  Below w.heap.size w w'

set_option maxHeartbeats 800000 in
set_option maxRecDepth 100000 in
theorem draw1_any (A : Option Addr) (m c : Nat) (a n : Int) (xs : List Int) (w : World) (h : Ints w w.heap.size A m xs) :
    Calls Try.prog 22 #[.agg #[.slice A m c, .int .i64 a], .int .i64 n] w (DrawPost m a n xs w) := by
  unfold DrawPost
  obtain ⟨er, HE⟩ : ∃ er, Hid (drawsE xs m a n 1 = er) := ⟨_, Lib.hid rfl⟩
  rw [HE.out]
  by_cases her : er = 0
  · subst her
    have hlen := h.len
    have HX : Hid (((xs.drop a.toNat).take 1).getD 0 0 = xs.getD a.toNat 0) := Lib.hid (by
      have h1 := drawn_of HE.out
      have h2 := validT_iff.1 h1.1
      have h3 := (drawE_ok 1 a.toNat (by rw [hlen]; omega)).1 h1.2.2.2
      rw [List.getD_eq_getElem?_getD, List.getElem?_take_of_lt (by omega), List.getElem?_drop, Nat.add_zero, List.getD_eq_getElem?_getD])
    clear hlen
    go_enter Try.func22, Try.ntmps22
    go_wp2_with (go_at_call 24; refine (draws_any A m c a n 1 xs _ (h.upto (ballocs (bbox (.cells #[.slice A m c, .int .i64 a] 24)) (.cells #[.slice none 0 0, .int .i64 0] 24))) (by omega)).mono ?_; rintro e w1 ⟨_, hyes, hb1⟩
                 obtain ⟨A', c', D, dc, he, hI, hown⟩ := hyes HE.out
                 rw [show (1 : Int).toNat = 1 from rfl] at he hown
                 subst he
                 have hbb1 := bnext (ballocs (bbox (.cells #[.slice A m c, .int .i64 a] 24)) (.cells #[.slice none 0 0, .int .i64 0] 24)) hb1
                 have hR := blk_pair hb1
                 have hR1 := hR.alloc (.cells #[.slice A' m c', .int .i64 (a + 1)] 24)
                 have hbb2 := ballocs hbb1 (.cells #[.slice A' m c', .int .i64 (a + 1)] 24)
                 have hx0 : (w1.alloc (.cells #[.slice A' m c', .int .i64 (a + 1)] 24)).cell? ⟨w.heap.size + 1, 0, none⟩ = some (.slice none 0 0) := (hR1.cell 0).trans rfl
                 have hx1 : (w1.alloc (.cells #[.slice A' m c', .int .i64 (a + 1)] 24)).cell? ⟨w.heap.size + 1, 1, none⟩ = some (.int .i64 0) := (hR1.cell 1).trans rfl
                 have hz0 := hR1.frozen 0
                 have hz1 := hR1.frozen 1
                 obtain ⟨gD, rfl, hg1, hg2⟩ := hown.form (by simp)
                 have hd0 : w1.cell? ⟨gD, 0, none⟩ = some (.int .i64 (xs.getD a.toNat 0)) := by have := hown.cellAt (j := 0) (by simp); rwa [HX.out] at this
                 have hN := Blk.new w1 24 #[.slice A' m c', .int .i64 (a + 1)]
                 have hn0 : (w1.alloc (.cells #[.slice A' m c', .int .i64 (a + 1)] 24)).cell? ⟨w1.heap.size, 0, none⟩ = some (.slice A' m c') := (hN.cell 0).trans rfl
                 have hn1 : (w1.alloc (.cells #[.slice A' m c', .int .i64 (a + 1)] 24)).cell? ⟨w1.heap.size, 1, none⟩ = some (.int .i64 (a + 1)) := (hN.cell 1).trans rfl
                 have hlr := hR.lt
                 have hw0 : w1.cell? ⟨w.heap.size + 1, 0, none⟩ = some (.slice none 0 0) := (hR.cell 0).trans rfl
                 have hw1 : w1.cell? ⟨w.heap.size + 1, 1, none⟩ = some (.int .i64 0) := (hR.cell 1).trans rfl
                 have hf0 := hR.frozen 0
                 have hf1 := hR.frozen 1
                 have hgD : gD ≠ w.heap.size + 1 := by simp at hg1; omega
                 clear hyes)
    go_wp2_with fail
    go_region
    go_wp2
    have hS5 := (((Step.refl (w.heap.size + 1) w1).set 0 (.slice A' m c')).set 1 (.int .i64 (a + 1))).alloc (.cells #[.slice A' m c', .int .i64 (a + 1)] 24)
    have hI5 := hI.step hS5 (by simp)
    have hR5 := (blk_two (v0 := .slice A' m c') (v1 := .int .i64 (a + 1)) hR).alloc (.cells #[.slice A' m c', .int .i64 (a + 1)] 24)
    have hy0 := (Blk.drew hR5).cell 0
    have hy1 := (Blk.drew hR5).cell 1
    exact bodyPost_ret (v := .tuple #[.agg #[.slice A' m c', .int .i64 (a + 1)], .int .i64 (xs.getD a.toNat 0), .int .i64 0]) (by simp [results, Try.results22, go_sem, hy0, hy1]) rfl
      ⟨fun h => absurd rfl h, fun _ => ⟨A', c', rfl, (hI5.drew).base (by simp; omega)⟩, (ballocs (below_two hbb1 (by omega) _ _) _).drew⟩
  · have hne : (er != 0) = true := by simpa using her
    go_enter Try.func22, Try.ntmps22
    go_wp2_with (go_at_call 24; refine (draws_any A m c a n 1 xs _ (h.upto (ballocs (bbox (.cells #[.slice A m c, .int .i64 a] 24)) (.cells #[.slice none 0 0, .int .i64 0] 24))) (by omega)).mono ?_; rintro e w1 ⟨hno, _, hb1⟩
                 obtain rfl := hno (by rw [HE.out]; exact her)
                 rw [HE.out]
                 have hbb1 := bnext (ballocs (bbox (.cells #[.slice A m c, .int .i64 a] 24)) (.cells #[.slice none 0 0, .int .i64 0] 24)) hb1
                 have hR := blk_pair hb1
                 have hR1 := hR.alloc (.cells #[.slice none 0 0, .int .i64 0] 24)
                 have hbb2 := ballocs hbb1 (.cells #[.slice none 0 0, .int .i64 0] 24)
                 have hx0 : (w1.alloc (.cells #[.slice none 0 0, .int .i64 0] 24)).cell? ⟨w.heap.size + 1, 0, none⟩ = some (.slice none 0 0) := (hR1.cell 0).trans rfl
                 have hx1 : (w1.alloc (.cells #[.slice none 0 0, .int .i64 0] 24)).cell? ⟨w.heap.size + 1, 1, none⟩ = some (.int .i64 0) := (hR1.cell 1).trans rfl
                 have hz0 := hR1.frozen 0
                 have hz1 := hR1.frozen 1
                 clear hno)
    have hB' := blk_two (v0 := .slice none 0 0) (v1 := .int .i64 0) hR1
    have hy0 := (hB'.cell 0).trans rfl
    have hy1 := (hB'.cell 1).trans rfl
    exact bodyPost_ret (v := .tuple #[.agg #[.slice none 0 0, .int .i64 0], .int .i64 0, .int .i64 er]) (by simp [results, Try.results22, go_sem, hy0, hy1]) rfl ⟨fun _ => rfl, fun h => absurd h her, below_two hbb2 (by omega) _ _⟩
end Go.Proofs.Ytdklcgpjdajkmaa
