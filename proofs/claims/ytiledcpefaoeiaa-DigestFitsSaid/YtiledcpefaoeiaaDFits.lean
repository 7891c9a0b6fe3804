/-
  DigestFits returns true: the walk of the law. Conditions: none beyond the reading of its arguments.
-/
import Derived.Test.YtiledcpefaoeiaaDigW
import Derived.Test.YtiledcpefaoeiaaRComb
import Derived.Test.YtiledcpefaoeiaaMkRows
import Derived.Test.YtiledcpefaoeiaaFits
import Derived.Test.YtiledcpefaoeiaaFitsA
namespace Go.Proofs.Ytiledcpefaoeiaa
open Go.RowKit
set_option linter.unusedVariables false

set_option maxHeartbeats 3200000 in
set_option maxRecDepth 100000 in
theorem digestFits_walk (A : Option Addr) (n c : Nat) (zs : List Int) (by_ : Int) (w : World) (w0 : IsRow .i64 w A n c zs) (w1 : (Lit.int .i64 by_).wf = true) :
    Calls Try.prog 6 #[.slice A n c, .int .i64 by_] w fun e w' => e = .returned (.bool true) ∧ Below w.heap.size w w' := by
  obtain ⟨h, hw⟩ := w0.ints
  generalize zs.take n = xs at h hw
  clear w0
  by_cases hn : n ≤ 500
  · have hd : decide (n ≤ 500) = true := by simpa using hn
    go_enter Try.func6, Try.ntmps6
    go_wp2_with (first
      | (go_at_call 13; refine (sane11_any _).mono ?_; rintro e w' ⟨rfl, rfl⟩)
      | (go_at_call 18; refine (few_any A n c _).mono ?_; rintro e w' ⟨rfl, rfl⟩)
      | (go_at_call 19; refine (new_any A n c xs _ h hn).mono ?_; rintro e w2 ⟨⟨g, rfl, hge, hD2⟩, hbb2⟩
         have hg : w.heap.size ≤ g := by omega
         clear hge)
      | (go_at_call 20; refine (field_any g A n c xs _ _ hD2).mono ?_; rintro e w3 ⟨p, q3, rfl, hkn, hD3, hS3⟩
         have hbb3 := ballocs (Step.below hbb2 hS3 hbb2.size hg) (.cells #[.int .i64 p] 35)
         have hF3 := Blk.new w3 35 #[.int .i64 p]
         have hD3' := hD3.alloc (.cells #[.int .i64 p] 35)
         have hgf : w3.heap.size ≠ g := by have := hD3.1.lt; omega
         have HO := Lib.hid (okP_known hkn)
         have hp := okP_pos (okP_known hkn)
         clear hkn)
      | (go_at_call 21; (with_reducible refine (next_any g A n c xs q4 6 w4 hD4 (by omega)).mono ?_); rintro e w5 ⟨s', q5, rfl, hs, hs0, hD5, hS5, hz5⟩
         obtain ⟨wd0, rfl⟩ : ∃ r : Nat, s' = r := ⟨s'.toNat, by have := hs (by omega); omega⟩
         have hwd : wd0 < 6 := by have := hs (by omega); omega
         have hF5 := Step.block hS5 hF4 hgf
         have hbb5 := Step.below hbb4 hS5 hbb4.size hg
         have hc5 : w5.cell? ⟨w3.heap.size, 0, none⟩ = some (.int .i64 p) := (hF5.cell 0).trans rfl
         clear hs hs0 hz5)
      | (go_at_call 21; refine (next_any g A n c xs q3 6 _ hD3' (by omega)).mono ?_; rintro e w4 ⟨r', q4, rfl, hr, hr0, hD4, hS4, hz4⟩
         obtain ⟨r0, rfl⟩ : ∃ r : Nat, r' = r := ⟨r'.toNat, by have := hr (by omega); omega⟩
         have hr6 : r0 < 6 := by have := hr (by omega); omega
         have hF4 := Step.block hS4 hF3 hgf
         have hbb4 := Step.below hbb3 hS4 hbb3.size hg
         clear hr hr0 hz4))
    obtain ⟨r, hr⟩ : ∃ r : Nat, (1 : Int) + (r0 : Int) = r := ⟨r0 + 1, by omega⟩
    obtain ⟨wd, hwd'⟩ : ∃ r : Nat, (1 : Int) + (wd0 : Int) = r := ⟨wd0 + 1, by omega⟩
    rw [hr, hwd']
    have hr1 : 0 < r ∧ r ≤ 6 := by omega
    have hwd1 : 0 < wd ∧ wd ≤ 6 := by omega
    clear hr hr6 hwd' hwd
    clear hF3 hF4 hD3 hD3' hD4 hD2 hS3 hS4 hS5 hbb2 hbb3 hbb4
    go_region_held3 (fun w' => w'.cell? ⟨w3.heap.size, 0, none⟩ = some (.int .i64 p)) (first | go_keep | exact hc5 | exact hc6 | exact hc7 | exact hc8)
      (first
        | (go_at_call 26; (refine (rows_any g A n c xs q5 p r wd _ hD5.drew hp (by omega) (by omega)).mono ?_); rintro e w6 ⟨B1, d1, rows, q6, rfl, hown6, hR, hD6, hS6⟩
           have hF6 := Step.block hS6 hF5.drew hgf
           have hc6 : w6.cell? ⟨w3.heap.size, 0, none⟩ = some (.int .i64 p) := (hF6.cell 0).trans rfl)
        | (go_at_call 22; (refine (elements_any g A n c xs q6 p r w6 hD6 hp (by omega)).mono ?_); rintro e w7 ⟨B2, d2, cs, q7, rfl, hown7, hY, hD7, hS7⟩
           have hF7 := Step.block hS7 hF6 hgf
           have hc7 : w7.cell? ⟨w3.heap.size, 0, none⟩ = some (.int .i64 p) := (hF7.cell 0).trans rfl)
        | (go_at_call 21; (refine (next_any g A n c xs q7 p w7 hD7 (by omega)).mono ?_); rintro e w8 ⟨pt, q8, rfl, hpt0, hpt1, hD8, hS8, hz8⟩
           have hpt := hpt0 (by omega)
           have hF8 := Step.block hS8 hF7 hgf
           have hc8 : w8.cell? ⟨w3.heap.size, 0, none⟩ = some (.int .i64 p) := (hF8.cell 0).trans rfl
           clear hz8 hpt0 hpt1))
    have hg5 : g < w5.drew.heap.size := hD5.1.lt
    have hg6 : g < w6.heap.size := hD6.1.lt
    have hg8 : g < w8.heap.size := hD8.1.lt
    have hbb6 := Step.below hbb5.drew hS6 hbb5.size hg
    have hbb7 := Step.below hbb6 hS7 hbb6.size hg
    have hbb8 := Step.below hbb7 hS8 hbb7.size hg
    have hM8 := ((hown6.step hS7 hg5 hg5).step hS8 hg5 hg5).mat (Nat.le_refl _)
    have hQ8 := hown7.step hS8 hg6
    have HR := Lib.hid hR
    have HY := Lib.hid hY
    have HR2 : Hid (∀ r ∈ rows, allP p r = true ∧ r.length ≤ 64) := Lib.hid fun r hr => ⟨(hR r hr).1, by have := (hR r hr).2; omega⟩
    have HRL := Lib.hid hM8.len
    have HCA := Lib.hid (combP_all hp.1 cs rows wd)
    have HCL := Lib.hid (combP_len p cs rows wd (fun r hr => (HR.out r hr).2))
    have HLA : Hid (allP p (linesP p pt rows) = true) := Lib.hid (allP_iff.2 fun x hx => by
      unfold linesP at hx
      obtain ⟨r, _, rfl⟩ := List.mem_map.1 hx
      exact valueP_in hp.1 pt r)
    have HFR : Hid (dotP p cs (linesP p pt rows) = valueP p pt (combP p cs rows wd)) := Lib.hid (fits_right p pt hp.1 cs rows wd (fun r hr => (HR.out r hr).2)).symm
    obtain ⟨gQ, rfl, hq1, hq2⟩ := hQ8.form (by omega)
    clear hc5 hc6 hc7 hD5 hD6 hD7 hS6 hS7 hS8 hown6 hown7 hF5 hF6 hF7 hbb5 hbb6 hbb7 hR hY
    go_wp2_with (first
      | (go_at_call 27; refine (rcombine_ok p (some ⟨gQ, 0, none⟩) B1 r wd d2 d1 cs rows _ HO.out hQ8.ints hM8 HY.out HR.out (by omega) (by omega)).mono ?_; rintro e w9 ⟨⟨C1, e1, rfl, hown9⟩, hb9⟩
         have hbb9 := bnext hbb8 hb9
         have hF9 := hF8.below hb9 hF8.lt
         have hc9 : w9.cell? ⟨w3.heap.size, 0, none⟩ = some (.int .i64 p) := (hF9.cell 0).trans rfl
         have hM9 := hM8.upto hb9
         have hQ9 := hQ8.belowAll hb9
         have hD9 := hD8.belowAll hb9
         have hs9 := hb9.size
         clear hb9)
      | (go_at_call 28; (with_reducible refine (lines_ok p pt B1 r d1 rows w9 HO.out hpt hM9 (by omega) HR2.out).mono ?_); rintro e w10 ⟨⟨L1, e2, rfl, hown10⟩, hb10⟩
         have hbb10 := bnext hbb9 hb10
         have hF10 := hF9.below hb10 hF9.lt
         have hc10 : w10.cell? ⟨w3.heap.size, 0, none⟩ = some (.int .i64 p) := (hF10.cell 0).trans rfl
         have hA10 := hown9.belowAll hb10
         have hQ10 := hQ9.belowAll hb10
         have hD10 := hD9.belowAll hb10
         have hs10 := hb10.size
         clear hb10)
      | (go_at_call 29; (with_reducible refine (fits_ok p pt L1 (some ⟨gQ, 0, none⟩) C1 r wd e2 d2 e1 (linesP p pt rows) cs (combP p cs rows wd) w10 HO.out hpt hown10.ints hQ10.ints hA10.ints HLA.out HY.out HCA.out (by omega) (by omega)).mono ?_); rintro e w11 ⟨rfl, hb11⟩; rw [HFR.out, beq_self_eq_true]
         have hbb11 := bnext hbb10 hb11
         have hF11 := hF10.below hb11 hF10.lt
         have hA11 := hA10.belowAll hb11
         have hL11 := hown10.belowAll hb11
         have hQ11 := hQ10.belowAll hb11
         have hD11 := hD10.belowAll hb11
         have hs11 := hb11.size
         clear hb11)
      | (go_at_call 21; (with_reducible refine (next_any g A n c xs q8 wd w11 hD11 (by omega)).mono ?_); rintro e w12 ⟨k', q12, rfl, hk, hk0, hD12, hS12, hz12⟩
         obtain ⟨k, rfl⟩ : ∃ r : Nat, k' = r := ⟨k'.toNat, by have := hk (by omega); omega⟩
         have hk6 : k < wd := by have := hk (by omega); omega
         have hF12 := Step.block hS12 hF11 hgf
         have hbb12 := Step.below hbb11 hS12 hbb11.size hg
         have hc12 : w12.cell? ⟨w3.heap.size, 0, none⟩ = some (.int .i64 p) := (hF12.cell 0).trans rfl
         have hA12 := hA11.step hS12 hg8
         have hL12 := hL11.step hS12 (by omega)
         have hQ12 := hQ11.step hS12 hg6
         obtain ⟨gA, rfl, ha1, ha2⟩ := hA12.form (by omega)
         obtain ⟨gL, rfl, hl1, hl2⟩ := hL12.form (by omega)
         clear hk hk0 hz12))
    have ha3 : gA < w9.heap.size := (World.ownsRow.lt hown9 gA rfl).2
    have hgA : g ≠ gA := by omega
    have hf8 := hF8.lt
    have hv := And.intro (Int.emod_nonneg by_ (by omega : p ≠ 0)) (Int.emod_lt_of_pos by_ (by omega : 0 < p))
    have hcA := hA12.cellAt hk6
    have hfA := hA12.frozenAt k
    obtain ⟨a, ha⟩ : ∃ a, Hid ((combP p cs rows wd).getD k 0 = a) := ⟨_, Lib.hid rfl⟩
    rw [ha.out] at hcA
    have hst := hA12.stored k (by_ % p)
    have HSt := Lib.hid hst
    have hSA := (Step.refl gA w12).set k (.int .i64 (by_ % p))
    have hQ13 := hQ12.ints.stepAt hSA (by omega)
    have hL13 := hL12.ints.stepAt hSA (by omega)
    have hF13 := Step.block hSA hF12 (by omega)
    have hb13 := Step.below hbb12 hSA hbb12.size (by omega)
    have hc13 : (w12.setCell ⟨gA, k, none⟩ (.int .i64 (by_ % p))).cell? ⟨w3.heap.size, 0, none⟩ = some (.int .i64 p) := (hF13.cell 0).trans rfl
    have HCS : Hid (allP p ((combP p cs rows wd).set k (by_ % p)) = true) := Lib.hid (allP_iff.2 fun x hx => by
      rcases List.mem_or_eq_of_mem_set hx with h | h
      · exact allP_iff.1 HCA.out x h
      · rw [h]; exact hv)
    have HCh := Lib.hid fun hne => fits_changed HO.out hpt hv (combP p cs rows wd) HCA.out k (by rw [HCL.out]; exact hk6) hne
    have HFN : Hid (¬ (pt = 0 ∧ 0 < k) → (valueP p pt ((combP p cs rows wd).set k (by_ % p)) == valueP p pt (combP p cs rows wd)) = (a == by_ % p)) := Lib.hid fun hne => by
      rw [Bool.eq_iff_iff, beq_iff_eq, beq_iff_eq, HCh.out hne, ha.out]
    clear HCh
    have HQ13 := Lib.hid hQ13
    have HL13 := Lib.hid hL13
    have HF13 := Lib.hid hF13
    have HB13 := Lib.hid hb13
    have HC13 := Lib.hid hc13
    have hk0 : (0 : Int) ≤ (k : Int) := by omega
    have hk1 : (k : Int) < (wd : Int) := by omega
    clear hF9 hF10 hF11 hc8 hc9 hc10 hbb8 hbb9 hbb10 hbb11 hM8 hM9 hQ8 hQ9 hQ10 hQ11 hQ12 hD8 hD9 hD10 hD11 hS12 hown9 hA10 hA11 hA12 hown10 hL11 hL12 hst hSA hQ13 hL13 hF13 hb13 hc13 hF8
    go_wp2_with fail
    go_region_held3 (fun w' => w'.cell? ⟨gA, k, none⟩ = some (.int .i64 a) ∧ w'.cell? ⟨w3.heap.size, 0, none⟩ = some (.int .i64 p)) (first | go_keep | exact ⟨hcA, hc12⟩)
      (first
        | (go_at_call 14; refine (mod_any by_ p _ (by omega) (by omega)).mono ?_; rintro e w' ⟨rfl, rfl⟩))
    go_wp2_with (first
      | (go_at_call 14; refine (mod_any by_ p _ (by omega) (by omega)).mono ?_; rintro e w' ⟨rfl, rfl⟩)
      | (go_at_call 29; (refine (fits_ok p pt (some ⟨gL, 0, none⟩) (some ⟨gQ, 0, none⟩) (some ⟨gA, 0, none⟩) r wd e2 d2 e1 (linesP p pt rows) cs ((combP p cs rows wd).set k (by_ % p)) _ HO.out hpt HL13.out.drew HQ13.out.drew HSt.out.drew.ints HLA.out HY.out HCS.out (by omega) (by omega)).mono ?_); rintro e w14 ⟨rfl, hb14⟩; rw [HFR.out]
         have hbb14 := bnext HB13.out.drew hb14
         clear hb14))
    all_goals go_ret
    all_goals refine ⟨ret_bool ?_, hbb14⟩
    all_goals first
      | rfl
      | (by_cases hkz : pt = 0 ∧ 0 < k
         · first
           | (exfalso; omega)
           | simp [hkz.2]
         · have hh := HFN.out hkz
           first
           | (rw [hh]; simp)
           | (have h0 : pt = 0 := by omega
              rw [h0] at hh; rw [hh]; simp))
  · have hd : decide (n ≤ 500) = false := by simpa using hn
    go_enter Try.func6, Try.ntmps6
    go_wp2_with (first
      | (go_at_call 13; refine (sane11_any _).mono ?_; rintro e w' ⟨rfl, rfl⟩)
      | (go_at_call 18; refine (few_any A n c _).mono ?_; rintro e w' ⟨rfl, rfl⟩))
    go_ret
    exact ⟨rfl, Below.refl _ _⟩
end Go.Proofs.Ytiledcpefaoeiaa
