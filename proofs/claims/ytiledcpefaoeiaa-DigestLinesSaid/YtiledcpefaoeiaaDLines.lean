/-
  DigestLines returns true: the walk of the law. Conditions: none beyond the reading of its arguments.
-/
import Derived.Test.YtiledcpefaoeiaaLines
import Derived.Test.YtiledcpefaoeiaaLinesA
import Derived.Test.YtiledcpefaoeiaaRef
namespace Go.Proofs.Ytiledcpefaoeiaa
open Go.RowKit
set_option linter.unusedVariables false

set_option maxHeartbeats 1600000 in
set_option maxRecDepth 100000 in
theorem digestLines_walk (A : Option Addr) (n c : Nat) (zs : List Int) (w : World) (w0 : IsRow .i64 w A n c zs) :
    Calls Try.prog 5 #[.slice A n c] w fun e w' => e = .returned (.bool true) ∧ Below w.heap.size w w' := by
  obtain ⟨h, hw⟩ := w0.ints
  generalize zs.take n = xs at h hw
  clear w0
  by_cases hn : n ≤ 500
  · have hd : decide (n ≤ 500) = true := by simpa using hn
    go_enter Try.func5, Try.ntmps5
    go_wp2_with (first
      | (go_at_call 13; refine (sane11_any _).mono ?_; rintro e w' ⟨rfl, rfl⟩)
      | (go_at_call 18; refine (few_any A n c _).mono ?_; rintro e w' ⟨rfl, rfl⟩)
      | (go_at_call 19; refine (new_any A n c xs _ h hn).mono ?_; rintro e w2 ⟨⟨g, rfl, hge, hD2⟩, hbb2⟩
         have hg : w.heap.size ≤ g := by omega
         clear hge)
      | (go_at_call 20; refine (field_any g A n c xs _ _ hD2).mono ?_; rintro e w3 ⟨p, q3, rfl, hkn, hD3, hS3⟩
         have hbb3 := ballocs (Step.below hbb2 hS3 hbb2.size hg) (.cells #[.int .i64 p] 35)
         have hF3 := Blk.new w3 35 #[.int .i64 p]
         have hc3 : (w3.alloc (.cells #[.int .i64 p] 35)).cell? ⟨w3.heap.size, 0, none⟩ = some (.int .i64 p) := (hF3.cell 0).trans rfl
         have hD3' := hD3.alloc (.cells #[.int .i64 p] 35)
         have hgf : w3.heap.size ≠ g := by have := hD3.1.lt; omega
         have HO := Lib.hid (okP_known hkn)
         have hp := okP_pos (okP_known hkn)
         clear hkn))
    go_region_held3 (fun w' => w'.cell? ⟨w3.heap.size, 0, none⟩ = some (.int .i64 p)) (first | go_keep | exact hc3 | exact hc4 | exact hc5)
      (first
        | (go_at_call 21; (with_reducible refine (next_any g A n c xs q4 p w4 hD4 (by omega)).mono ?_); rintro e w5 ⟨pt, q5, rfl, hpt0, hpt1, hD5, hS5, hz5⟩
           have hpt := hpt0 (by omega)
           have hF5 := Step.block hS5 hF4 hgf
           have hc5 : w5.cell? ⟨w3.heap.size, 0, none⟩ = some (.int .i64 p) := (hF5.cell 0).trans rfl
           clear hz5 hpt0 hpt1)
        | (go_at_call 21; (refine (next_any g A n c xs q3 6 _ hD3'.drew (by omega)).mono ?_); rintro e w4 ⟨r', q4, rfl, hr, hr0, hD4, hS4, hz4⟩
           obtain ⟨r, rfl⟩ : ∃ r : Nat, r' = r := ⟨r'.toNat, by have := hr (by omega); omega⟩
           have hr6 : r < 6 := by have := hr (by omega); omega
           have hF4 := Step.block hS4 hF3.drew hgf
           have hc4 : w4.cell? ⟨w3.heap.size, 0, none⟩ = some (.int .i64 p) := (hF4.cell 0).trans rfl
           clear hr hr0 hz4))
    have hwr : IntKind.i64.wrap (1 + (r : Int)) = ((r + 1 : Nat) : Int) := by rw [IntWalk.i64_in _ (by omega)]; omega
    rw [hwr]
    obtain ⟨m, hm⟩ : ∃ m, r + 1 = m := ⟨_, rfl⟩
    have hm1 : 0 < m ∧ m ≤ 6 := by omega
    rw [hm]
    clear hm hwr hr6
    have hbb4 := Step.below hbb3.drew hS4 hbb3.size hg
    have hbb5 := Step.below hbb4 hS5 hbb4.size hg
    clear hF4 hF3 hc3 hc4 hD3 hD3' hD4 hS3 hS4 hS5 hbb2 hbb3 hbb4 hD2
    go_wp2_with fail
    go_region_held3 (fun w' => w'.cell? ⟨w3.heap.size, 0, none⟩ = some (.int .i64 p)) (first | go_keep | exact hc5 | exact hc6 | exact hc7 | exact hc8)
      (first
        | (go_at_call 22; (with_reducible refine (elements_any g A n c xs q6 p m w6 hD6 hp (by omega)).mono ?_); rintro e w7 ⟨B2, d2, bs, q7, rfl, hown7, hY, hD7, hS7⟩
           have hF7 := Step.block hS7 hF6 hgf
           have hc7 : w7.cell? ⟨w3.heap.size, 0, none⟩ = some (.int .i64 p) := (hF7.cell 0).trans rfl)
        | (go_at_call 22; (refine (elements_any g A n c xs q5 p m _ hD5.drew hp (by omega)).mono ?_); rintro e w6 ⟨B1, d1, as_, q6, rfl, hown6, hX, hD6, hS6⟩
           have hF6 := Step.block hS6 hF5.drew hgf
           have hc6 : w6.cell? ⟨w3.heap.size, 0, none⟩ = some (.int .i64 p) := (hF6.cell 0).trans rfl)
        | (go_at_call 21; (refine (next_any g A n c xs q7 p w7 hD7 (by omega)).mono ?_); rintro e w8 ⟨x, q8, rfl, hx0, hx1, hD8, hS8, hz8⟩
           have hx := hx0 (by omega)
           have hF8 := Step.block hS8 hF7 hgf
           have hc8 : w8.cell? ⟨w3.heap.size, 0, none⟩ = some (.int .i64 p) := (hF8.cell 0).trans rfl
           clear hz8 hx0 hx1))
    have hg5 : g < w5.drew.heap.size := hD5.1.lt
    have hg6 : g < w6.heap.size := hD6.1.lt
    have hbb6 := Step.below hbb5.drew hS6 hbb5.size hg
    have hbb7 := Step.below hbb6 hS7 hbb6.size hg
    have hbb8 := Step.below hbb7 hS8 hbb7.size hg
    have hIa := ((hown6.step hS7 hg5).step hS8 hg5).ints
    have hIb := (hown7.step hS8 hg6).ints
    have HX := Lib.hid hX
    have HY := Lib.hid hY
    have hF := hF8
    have hc := hc8
    clear hc5 hc6 hc7 hc8 hF5 hF6 hF7 hF8 hD5 hD6 hD7 hS6 hS7 hS8 hbb5 hbb6 hbb7 hown6 hown7 hX hY hD8
    have HSA := Lib.hid (scaleP_all hp.1 x as_)
    have HAA := Lib.hid (zipI_add_all hp.1 (scaleP p x as_) bs)
    have hla := hIa.len
    have hlb := hIb.len
    have HLin := Lib.hid (lines_lin p pt x hp.1 as_ bs (by rw [hla, hlb]))
    have HZero := Lib.hid (lines_zero p hp.1 as_ (by omega) HX.out)
    obtain ⟨b0, o0, hA0, hb0, hcells⟩ := hIa.2 hm1.1
    subst hA0
    have HC0 := Lib.hid (hcells 0 hm1.1)
    clear hcells hla hlb
    have hva := valueP_in hp.1 pt as_
    have hvb := valueP_in hp.1 pt bs
    obtain ⟨va, HVA⟩ : ∃ va, Hid (valueP p pt as_ = va) := ⟨_, Lib.hid rfl⟩
    obtain ⟨vb, HVB⟩ : ∃ vb, Hid (valueP p pt bs = vb) := ⟨_, Lib.hid rfl⟩
    obtain ⟨vc, HVC⟩ : ∃ vc, Hid (valueP p pt (zipI (addP p) (scaleP p x as_) bs) = vc) := ⟨_, Lib.hid rfl⟩
    obtain ⟨vz, HVZ⟩ : ∃ vz, Hid (valueP p 0 as_ = vz) := ⟨_, Lib.hid rfl⟩
    rw [HVA.out] at hva
    rw [HVB.out] at hvb
    have ht1 : (vc == (va * x + vb) % p) = true := by rw [beq_iff_eq, ← HVC.out, ← HVA.out, ← HVB.out]; exact HLin.out
    have hmul : 0 ≤ va * x ∧ va * x ≤ 65521 * 65521 := ⟨Int.mul_nonneg hva.1 hx.1, Int.mul_le_mul (by omega) (by omega) hx.1 (by omega)⟩
    obtain ⟨a0, HA0⟩ : ∃ a0, Hid (as_.getD 0 0 = a0) := ⟨_, Lib.hid rfl⟩
    have ht2 : (vz == a0) = true := by rw [beq_iff_eq, ← HVZ.out, ← HA0.out]; exact HZero.out
    have hpt0 : (0 : Int) ≤ 0 ∧ (0 : Int) < p := by omega
    go_wp2_with (first
      | (go_at_call 23; refine (rscale_ok p x _ m d1 as_ _ HO.out hIa HX.out hx (by omega)).mono ?_; rintro e w10 ⟨⟨C1, e1, rfl, hown10⟩, hb10⟩
         have hbb10 := bnext hbb8 hb10
         have hF10 := hF.below hb10 hF.lt
         have hc10 : w10.cell? ⟨w3.heap.size, 0, none⟩ = some (.int .i64 p) := (hF10.cell 0).trans rfl
         have hIa10 := hIa.upto hb10
         have hIb10 := hIb.upto hb10
         clear hb10)
      | (go_at_call 24; refine (radd_ok p C1 B2 m e1 d2 (scaleP p x as_) bs _ HO.out hown10.ints hIb10 HSA.out HY.out (by omega)).mono ?_; rintro e w11 ⟨⟨C2, e2, rfl, hown11⟩, hb11⟩
         have hbb11 := bnext hbb10 hb11
         have hF11 := hF10.below hb11 hF10.lt
         have hc11 : w11.cell? ⟨w3.heap.size, 0, none⟩ = some (.int .i64 p) := (hF11.cell 0).trans rfl
         have hIa11 := hIa10.upto hb11
         have hIb11 := hIb10.upto hb11
         have hIc11 := hown11.ints
         clear hb11)
      | (go_at_call 25; (with_reducible refine (line_ok p pt (some ⟨b0, o0, none⟩) m d1 as_ w11 HO.out hpt hIa11 HX.out (by omega)).mono ?_); rintro e w12 ⟨rfl, hb12⟩; rw [HVA.out]
         have hbb12 := bnext hbb11 hb12
         have hF12 := hF11.below hb12 hF11.lt
         have hc12 : w12.cell? ⟨w3.heap.size, 0, none⟩ = some (.int .i64 p) := (hF12.cell 0).trans rfl
         have hIa12 := hIa11.upto hb12
         have hIb12 := hIb11.upto hb12
         have hIc12 := hIc11.upto hb12
         clear hb12)
      | (go_at_call 25; (with_reducible refine (line_ok p pt B2 m d2 bs w12 HO.out hpt hIb12 HY.out (by omega)).mono ?_); rintro e w13 ⟨rfl, hb13⟩; rw [HVB.out]
         have hbb13 := bnext hbb12 hb13
         have hF13 := hF12.below hb13 hF12.lt
         have hc13 : w13.cell? ⟨w3.heap.size, 0, none⟩ = some (.int .i64 p) := (hF13.cell 0).trans rfl
         have hIa13 := hIa12.upto hb13
         have hIc13 := hIc12.upto hb13
         clear hb13)
      | (go_at_call 25; (with_reducible refine (line_ok p pt C2 m e2 _ w13 HO.out hpt hIc13 HAA.out (by omega)).mono ?_); rintro e w14 ⟨rfl, hb14⟩; rw [HVC.out]
         have hbb14 := bnext hbb13 hb14
         have hF14 := hF13.below hb14 hF13.lt
         have hc14 : w14.cell? ⟨w3.heap.size, 0, none⟩ = some (.int .i64 p) := (hF14.cell 0).trans rfl
         have hIa14 := hIa13.upto hb14
         clear hb14)
      | (go_at_call 25; (with_reducible refine (line_ok p 0 (some ⟨b0, o0, none⟩) m d1 as_ w14 HO.out hpt0 hIa14 HX.out (by omega)).mono ?_); rintro e w15 ⟨rfl, hb15⟩; rw [HVZ.out]
         have hbb15 := bnext hbb14 hb15
         have hF15 := hF14.below hb15 hF14.lt
         have hc15 : w15.cell? ⟨w3.heap.size, 0, none⟩ = some (.int .i64 p) := (hF15.cell 0).trans rfl
         have hIa15 := hIa14.upto hb15
         have hca : w15.cell? ⟨b0, o0 + 0, none⟩ = some (.int .i64 a0) := by
           obtain ⟨b9, o9, e9, _, hc9⟩ := hIa15.2 hm1.1
           injection e9 with e9
           injection e9 with e91 e92 _
           subst e91 e92
           rw [hc9 0 hm1.1, HA0.out]
         rw [Nat.add_zero] at hca
         clear hb15))
    go_ret
    exact ⟨rfl, hbb15⟩
  · have hd : decide (n ≤ 500) = false := by simpa using hn
    go_enter Try.func5, Try.ntmps5
    go_wp2_with (first
      | (go_at_call 13; refine (sane11_any _).mono ?_; rintro e w' ⟨rfl, rfl⟩)
      | (go_at_call 18; refine (few_any A n c _).mono ?_; rintro e w' ⟨rfl, rfl⟩))
    go_ret
    exact ⟨rfl, Below.refl _ _⟩
end Go.Proofs.Ytiledcpefaoeiaa
