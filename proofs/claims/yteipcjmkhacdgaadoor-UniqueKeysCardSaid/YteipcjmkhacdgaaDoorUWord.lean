/-
  What the statements' word hands back: a field, k, a polynomial, and the cells of its word with wrong values within the radius. Conditions: the deck reads as its numbers.
-/
import Derived.Test.YteipcjmkhacdgaaDoorMCellsW
import Derived.Test.YteipcjmkhacdgaaDoorBig
import Derived.Deep.RegionHeld3
namespace Go.Proofs.YteipcjmkhacdgaaDoor
open Go.RowKit
set_option linter.unusedVariables false

/-- What word leaves. -/
def UWPost (g : Nat) (A : Option Addr) (n c : Nat) (xs : List Int) (w : World) (e : Ending) (w' : World) : Prop :=
  ∃ (p : Int) (k N : Nat) (B1 : Option Addr) (pn d1 : Nat) (pl : List Int) (B2 : Option Addr) (d2 : Nat) (vs : List Int) (bs : List Bool) (q' : Nat),
    e = .returned (.tuple #[.agg #[.int .i64 p], .int .i64 k, .slice B1 pn d1, .slice B2 N d2]) ∧ okP p = true ∧ 10 < p ∧ 1 ≤ k ∧ k ≤ N ∧ N ≤ 10 ∧ pn ≤ k ∧ allP p pl = true ∧
    OwnI w' w.heap.size 3 B1 pn d1 pl ∧ OwnC w' w.heap.size B2 N d2 vs bs ∧ knOk p vs bs ∧ k ≤ (knL vs bs).length ∧ (wrL p pl (knL vs bs)).length ≤ ((knL vs bs).length - k) / 2 ∧ Deck w' g A n c xs q' ∧ Step g w w'

set_option maxRecDepth 100000 in
set_option maxHeartbeats 3200000 in
theorem uword_any (g : Nat) (A : Option Addr) (n c : Nat) (xs : List Int) (q : Nat) (w : World) (h : Deck w g A n c xs q) :
    Calls Tryd.prog 27 #[.pointer (some ⟨g, 0, none⟩)] w (UWPost g A n c xs w) := by
  have hg := h.1.lt
  have hR0 := Blk.new w 24 #[.int .i64 0]
  go_enter Tryd.func27, Tryd.ntmps27
  go_upto_region 2 with (go_at_call 12; refine (big_any g A n c xs q 10 _ (h.alloc (.cells #[.int .i64 0] 24)) (by omega)).mono ?_; rintro e w3 ⟨p, q3, rfl, hkn, hlp, hD3, hS3⟩)
  have hok := okP_known hkn
  have hp := okP_pos hok
  have HO := Lib.hid hok
  have hR3 := (Step.block hS3 hR0 (by omega)).alloc (.cells #[.int .i64 p] 24)
  have hF3 := Blk.new w3 24 #[.int .i64 p]
  have hD3' := hD3.alloc (.cells #[.int .i64 p] 24)
  have hSw := (((Step.refl g w).alloc (.cells #[.int .i64 0] 24)).trans hS3).alloc (.cells #[.int .i64 p] 24)
  have hgf : w3.heap.size ≠ g := by have := hD3.1.lt; omega
  have hgr : w.heap.size ≠ g := by omega
  have hrl := hR3.lt
  have hrf : w.heap.size < w3.heap.size := by have := World.grownBy.size hS3; simp at this; omega
  obtain ⟨G, hG⟩ : ∃ G, w3.heap.size = G := ⟨_, rfl⟩
  obtain ⟨W, hW⟩ : ∃ W, w3.alloc (.cells #[.int .i64 p] 24) = W := ⟨_, rfl⟩
  rw [hW] at hR3 hF3 hD3' hSw hrl ⊢
  rw [hG] at hF3 hgf hrf ⊢
  clear hW hG hD3 hS3 hkn hok hR0 h
  go_upto_region 5 with (first
    | (go_at_call 13; (with_reducible refine (next_any g A n c xs q3 10 W hD3' (by omega)).mono ?_); rintro e w4 ⟨r', q4, rfl, hr, hr0, hD4, hS4, hz4⟩
       obtain ⟨n1, hn1⟩ : ∃ r : Nat, 1 + r' = (r : Int) := ⟨(1 + r').toNat, by have := hr (by omega); omega⟩
       have hN1 : 1 ≤ n1 ∧ n1 ≤ 10 := by have := hr (by omega); omega
       have hR4 := Step.block hS4 hR3 hgr
       have hF4 := Step.block hS4 hF3 hgf
       have hSw4 := hSw.trans hS4
       have hw4 : IntKind.i64.wrap (1 + r') = (n1 : Int) := by rw [hn1]; exact IntWalk.i64_in _ (by omega)
       clear hr hr0 hz4)
    | (go_at_call 13; (with_reducible refine (next_any g A n c xs q4 (n1 : Int) w4 hD4 (by omega)).mono ?_); rintro e w5 ⟨r2, q5, rfl, hr2, hr20, hD5, hS5, hz5⟩
       obtain ⟨k1, hk1⟩ : ∃ r : Nat, 1 + r2 = (r : Int) := ⟨(1 + r2).toNat, by have := hr2 (by omega); omega⟩
       have hK1 : 1 ≤ k1 ∧ k1 ≤ n1 := by have := hr2 (by omega); omega
       have hR5 := Step.block hS5 hR4 hgr
       have hF5 := Step.block hS5 hF4 hgf
       have hSw5 := hSw4.trans hS5
       have hw5 : IntKind.i64.wrap (1 + r2) = (k1 : Int) := by rw [hk1]; exact IntWalk.i64_in _ (by omega)
       obtain ⟨nk, hnk⟩ : ∃ nk, n1 - k1 + 1 = nk := ⟨_, rfl⟩
       have hnk1 : (n1 : Int) - (k1 : Int) + 1 = (nk : Int) := by omega
       have HNK := Lib.hid hnk
       clear hr2 hr20 hz5 hnk)
    | (go_at_call 13; (with_reducible refine (next_any g A n c xs q5 (nk : Int) w5 hD5 (by omega)).mono ?_); rintro e w6 ⟨r3, q6, rfl, hr3, hr30, hD6, hS6, hz6⟩
       obtain ⟨si, rfl⟩ : ∃ r : Nat, r3 = r := ⟨r3.toNat, by have := hr3 (by have := HNK.out; omega); omega⟩
       have hsi : si ≤ n1 - k1 := by have := hr3 (by have := HNK.out; omega); have := HNK.out; omega
       have hR6 := Step.block hS6 hR5 hgr
       have hF6 := Step.block hS6 hF5 hgf
       have hSw6 := hSw5.trans hS6
       clear hr3 hr30 hz6))
  clear hw4 hw5 hnk1 hn1 hk1
  have hc6 : w6.cell? ⟨G, 0, none⟩ = some (.int .i64 p) := (hF6.cell 0).trans rfl
  have hc6d : w6.drew.cell? ⟨G, 0, none⟩ = some (.int .i64 p) := hc6
  have hkw : IntKind.i64.wrap ((k1 : Int) + 1) = (k1 : Int) + 1 := IntWalk.i64_in _ (by omega)
  go_region_held3 (fun w' => w'.cell? ⟨G, 0, none⟩ = some (.int .i64 p)) (first | exact hc6 | exact hc6d | exact hc7 | exact hc8)
    (first
      | (go_at_call 13; (with_reducible refine (next_any g A n c xs q6 ((k1 : Int) + 1) _ hD6.drew (by omega)).mono ?_); rintro e w7 ⟨r', q7, rfl, hr, hr0, hD7, hS7, hz7⟩
         obtain ⟨m1, rfl⟩ : ∃ r : Nat, r' = r := ⟨r'.toNat, by have := hr (by omega); omega⟩
         have hm1 : m1 ≤ k1 := by have := hr (by omega); omega
         have hS7' := Step.undrewW hS7
         have hF7 := Step.block hS7' hF6 hgf
         have hR7 := Step.block hS7' hR6 hgr
         have hc7 : w7.cell? ⟨G, 0, none⟩ = some (.int .i64 p) := (hF7.cell 0).trans rfl
         clear hr hr0 hz7)
      | (go_at_call 15; (with_reducible refine (elements_any g A n c xs q7 p m1 w7 hD7 hp (by omega)).mono ?_); rintro e w8 ⟨B1, d1, pl, q8, rfl, hown8, hX, hD8, hS8⟩
         have hF8 := Step.block hS8 hF7 hgf
         have hR8 := Step.block hS8 hR7 hgr
         have hc8 : w8.cell? ⟨G, 0, none⟩ = some (.int .i64 p) := (hF8.cell 0).trans rfl))
  have hSw8 := (hSw6.trans hS7').trans hS8
  try (rename_i K hk hHeld; clear hHeld; refine hk _ _ ?_; clear hk)
  obtain ⟨d, hd⟩ : ∃ d, n1 - si - k1 = d := ⟨_, rfl⟩
  obtain ⟨hf, hhf⟩ : ∃ hf, d / 2 = hf := ⟨_, rfl⟩
  have HD := Lib.hid hd
  have HH := Lib.hid hhf
  have z1 : IntKind.i64.wrap ((n1 : Int) - (si : Int)) = (n1 : Int) - (si : Int) := IntWalk.i64_in _ (by omega)
  have z2 : IntKind.i64.wrap ((n1 : Int) - (si : Int) - (k1 : Int)) = (d : Int) := by rw [IntWalk.i64_in _ (by omega)]; omega
  have z3 : (d : Int).tdiv 2 = (hf : Int) := by rw [Int.tdiv_eq_ediv_of_nonneg (by omega)]; omega
  have z4 : IntKind.i64.wrap (hf : Int) = (hf : Int) := IntWalk.i64_in _ (by omega)
  have z5 : IntKind.i64.wrap ((hf : Int) + 1) = (hf : Int) + 1 := IntWalk.i64_in _ (by omega)
  have hhf5 : hf ≤ 5 := by omega
  have hI8 := hown8.ints
  have hg7 := hD7.1.lt
  have hw7l : w.heap.size ≤ w7.heap.size := Nat.le_of_lt hR7.lt
  have hR7l : w.heap.size < w7.heap.size := hR7.lt
  have hcap8 := hown8.cap
  have HX := Lib.hid hX
  have hwl8 : w.heap.size < w8.heap.size := hR8.lt
  have hG8 := hF8.lt
  clear hd hhf hX hR3 hR4 hR5 hR6 hR7 hF3 hF4 hF5 hF6 hF7 hc6 hc6d hc7 hD4 hD5 hD6 hD7 hD3' hSw hSw4 hSw5 hSw6 hS4 hS5 hS6 hS7 hS7' hkw
  go_wp2_with fail
  have hc8d : w8.drew.cell? ⟨G, 0, none⟩ = some (.int .i64 p) := hc8
  have hG0 : G ≠ w.heap.size := by omega
  go_region_held3 (fun w' => w'.cell? ⟨G, 0, none⟩ = some (.int .i64 p)) (first | exact hc8 | exact hc8d | exact hc9 | exact hc10 | exact hc11)
    (first
      | (go_at_call 13; (with_reducible refine (next_any g A n c xs q8 ((hf : Int) + 1) _ hD8.drew (by omega)).mono ?_); rintro e w9 ⟨r', q9, rfl, hr, hr0, hD9, hS9, hz9⟩
         obtain ⟨wn, rfl⟩ : ∃ r : Nat, r' = r := ⟨r'.toNat, by have := hr (by omega); omega⟩
         have hwn : wn ≤ hf := by have := hr (by omega); omega
         have hS9' := Step.undrewW hS9
         have hF9 := Step.block hS9' hF8 hgf
         have hR9 := Step.block hS9' hR8 hgr
         have hO9 := hown8.step hS9' hg7
         have hI9 := hO9.ints
         have hc9 : w9.cell? ⟨G, 0, none⟩ = some (.int .i64 p) := (hF9.cell 0).trans rfl
         clear hr hr0 hz9)
      | (go_at_call 14; (with_reducible refine (mcellsW_ok g A n c xs q9 p B1 m1 d1 pl n1 wn si w9 hD9 HO.out hI9 HX.out hcap8 (by omega) (by omega) (by omega) (by omega) (by omega)).mono ?_); rintro e w10 ⟨B2, d2, vs, bs, q10, rfl, hown10, HKO, HWR, HKL, hD10, hS10⟩
         have hF10 := Step.block hS10 hF9 hgf
         have hR10 := Step.block hS10 hR9 hgr
         have hc10 : w10.cell? ⟨G, 0, none⟩ = some (.int .i64 p) := (hF10.cell 0).trans rfl
         have hy0 : w10.cell? ⟨w.heap.size, 0, none⟩ = some (.int .i64 0) := (hR10.cell 0).trans rfl
         have hz0 := hR10.frozen 0
         have hc11 : (w10.setCell ⟨w.heap.size, 0, none⟩ (.int .i64 p)).cell? ⟨G, 0, none⟩ = some (.int .i64 p) := ((hF10.far (p := ⟨w.heap.size, 0, none⟩) hG0 (.int .i64 p)).cell 0).trans rfl))
  go_wp2
  have hRf := hR10.set_ 0 (.int .i64 p)
  have hfin : (w10.setCell ⟨w.heap.size, 0, none⟩ (.int .i64 p)).cell? ⟨w.heap.size, 0, none⟩ = some (.int .i64 p) := (hRf.cell 0).trans rfl
  have hg9 := hD9.1.lt
  have hSr := (Step.refl w.heap.size w10).set 0 (.int .i64 p)
  have hO10 := ((hO9.step hS10 hg7).step hSr (by have := hR7l; omega)).base (base' := w.heap.size) hw7l
  have hC10 := (hown10.step hSr (by have := hR9.lt; omega)).lower (base' := w.heap.size) (by have := hR9.lt; omega)
  have hDf := hD10.setCell (p := ⟨w.heap.size, 0, none⟩) hg (.int .i64 p)
  have hSf := ((hSw8.trans hS9').trans hS10).setNew (p := ⟨w.heap.size, 0, none⟩) (Nat.le_refl _) (.int .i64 p)
  have hkn : n1 ≤ (knL vs bs).length + si := HKL.out
  refine bodyPost_ret (v := .tuple #[.agg #[.int .i64 p], .int .i64 k1, .slice B1 m1 d1, .slice B2 n1 d2]) (by simp [results, Tryd.results27, go_sem, hfin]) rfl ⟨p, k1, n1, B1, m1, d1, pl, B2, d2, vs, bs, q10, rfl, HO.out, hlp, hK1.1, hK1.2, hN1.2, hm1, HX.out, hO10, hC10, HKO.out, by omega, ?_, hDf, hSf⟩
  have h1 := HWR.out
  have h2 := HD.out
  have h3 := HH.out
  omega
end Go.Proofs.YteipcjmkhacdgaaDoor
