/-
  VectorLinear returns true: the walk of the law. Conditions: none beyond the reading of its arguments.
-/
import Derived.Test.YtiledcpefaoeiaaUnit
import Derived.Test.YtiledcpefaoeiaaComb
import Derived.Test.YtiledcpefaoeiaaMkRows
import Derived.Test.YtiledcpefaoeiaaVec2
import Derived.Test.YtiledcpefaoeiaaLinA
namespace Go.Proofs.Ytiledcpefaoeiaa
open Go.RowKit
set_option linter.unusedVariables false

theorem unitL_spike2 (n i : Nat) : unitL n i = spikeL n i 1 := rfl

set_option maxHeartbeats 3200000 in
set_option maxRecDepth 100000 in
theorem vectorLinear_walk (A : Option Addr) (n c : Nat) (zs : List Int) (at_ : Int) (w : World) (w0 : IsRow .i64 w A n c zs) (w1 : (Lit.int .u8 at_).wf = true) :
    Calls Try.prog 12 #[.slice A n c, .int .u8 at_] w fun e w' => e = .returned (.bool true) ∧ Below w.heap.size w w' := by
  have hat : 0 ≤ at_ ∧ at_ ≤ 255 := by simpa [Lit.wf, IntKind.min, IntKind.max, IntKind.signed, IntKind.bits] using w1
  obtain ⟨h, hw⟩ := w0.ints
  generalize zs.take n = xs at h hw
  clear w0 w1
  by_cases hn : n ≤ 500
  · have hd : decide (n ≤ 500) = true := by simpa using hn
    go_enter Try.func12, Try.ntmps12
    go_wp2_with (first
      | (go_at_call 38; refine (sane04_any _).mono ?_; rintro e w1 ⟨rfl, hb1⟩)
      | (go_at_call 18; refine (few_any A n c _).mono ?_; rintro e w' ⟨rfl, rfl⟩)
      | (go_at_call 19; refine (new_any A n c xs _ (h.upto hb1) hn).mono ?_; rintro e w2 ⟨⟨g, rfl, hge, hD2⟩, hb2⟩
         have hbb2 := bnext hb1 hb2
         have hg : w.heap.size ≤ g := by rw [hge]; exact hb1.size
         clear hge)
      | (go_at_call 20; refine (field_any g A n c xs _ _ hD2).mono ?_; rintro e w3 ⟨p, q3, rfl, hkn, hD3, hS3⟩
         have hbb3 := ballocs (Step.below hbb2 hS3 hbb2.size hg) (.cells #[.int .i64 p] 35)
         have hF3 := Blk.new w3 35 #[.int .i64 p]
         have hD3' := hD3.alloc (.cells #[.int .i64 p] 35)
         have hgf : w3.heap.size ≠ g := by have := hD3.1.lt; omega
         have HO := Lib.hid (okP_known hkn)
         have hp := okP_pos (okP_known hkn)
         clear hkn)
      | (go_at_call 21; (with_reducible refine (next_any g A n c xs q4 6 w4 hD4 (by omega)).mono ?_); rintro e w5 ⟨s', q5, rfl, hs, hs0, hD5, hS5, hz5⟩
         obtain ⟨wd, rfl⟩ : ∃ r : Nat, s' = r := ⟨s'.toNat, by have := hs (by omega); omega⟩
         have hwd : wd < 6 := by have := hs (by omega); omega
         have hF5 := Step.block hS5 hF4 hgf
         have hbb5 := Step.below hbb4 hS5 hbb4.size hg
         have hc5 : w5.cell? ⟨w3.heap.size, 0, none⟩ = some (.int .i64 p) := (hF5.cell 0).trans rfl
         clear hs hs0 hz5)
      | (go_at_call 21; refine (next_any g A n c xs q3 6 _ hD3' (by omega)).mono ?_; rintro e w4 ⟨r', q4, rfl, hr, hr0, hD4, hS4, hz4⟩
         obtain ⟨r0, rfl⟩ : ∃ r : Nat, r' = r := ⟨r'.toNat, by have := hr (by omega); omega⟩
         have hr6 : r0 < 6 := by have := hr (by omega); omega
         have hF4 := Step.block hS4 hF3 hgf
         have hbb4 := Step.below hbb3 hS4 hbb3.size hg
         clear hr hr0 hz4))
    obtain ⟨r, hr⟩ : ∃ r : Nat, (1 : Int) + (r0 : Int) = r := ⟨r0 + 1, by omega⟩
    rw [hr]
    have hr1 : 0 < r ∧ r ≤ 6 := by omega
    clear hr hr6
    clear hF3 hF4 hD3 hD3' hD4 hD2 hS3 hS4 hS5 hbb2 hbb3 hbb4 hb1 hb2
    go_region_held3 (fun w' => w'.cell? ⟨w3.heap.size, 0, none⟩ = some (.int .i64 p)) (first | go_keep | exact hc5 | exact hc6 | exact hc7 | exact hc8 | exact hc9)
      (first
        | (go_at_call 26; (refine (rows_any g A n c xs q5 p r wd _ hD5.drew hp (by omega) (by omega)).mono ?_); rintro e w6 ⟨B1, d1, rows, q6, rfl, hown6, hR, hD6, hS6⟩
           have hF6 := Step.block hS6 hF5.drew hgf
           have hc6 : w6.cell? ⟨w3.heap.size, 0, none⟩ = some (.int .i64 p) := (hF6.cell 0).trans rfl)
        | (go_at_call 22; (with_reducible refine (elements_any g A n c xs q7 p r w7 hD7 hp (by omega)).mono ?_); rintro e w8 ⟨B3, d3, bs, q8, rfl, hown8, hY, hD8, hS8⟩
           have hF8 := Step.block hS8 hF7 hgf
           have hc8 : w8.cell? ⟨w3.heap.size, 0, none⟩ = some (.int .i64 p) := (hF8.cell 0).trans rfl)
        | (go_at_call 22; (with_reducible refine (elements_any g A n c xs q6 p r w6 hD6 hp (by omega)).mono ?_); rintro e w7 ⟨B2, d2, as_, q7, rfl, hown7, hX, hD7, hS7⟩
           have hF7 := Step.block hS7 hF6 hgf
           have hc7 : w7.cell? ⟨w3.heap.size, 0, none⟩ = some (.int .i64 p) := (hF7.cell 0).trans rfl)
        | (go_at_call 21; (refine (next_any g A n c xs q8 p w8 hD8 (by omega)).mono ?_); rintro e w9 ⟨x, q9, rfl, hx0, hx1, hD9, hS9, hz9⟩
           have hx := hx0 (by omega)
           have hF9 := Step.block hS9 hF8 hgf
           have hc9 : w9.cell? ⟨w3.heap.size, 0, none⟩ = some (.int .i64 p) := (hF9.cell 0).trans rfl
           clear hz9 hx0 hx1))
    have hg5 : g < w5.drew.heap.size := hD5.1.lt
    have hg6 : g < w6.heap.size := hD6.1.lt
    have hg7 : g < w7.heap.size := hD7.1.lt
    have hbb6 := Step.below hbb5.drew hS6 hbb5.size hg
    have hbb7 := Step.below hbb6 hS7 hbb6.size hg
    have hbb8 := Step.below hbb7 hS8 hbb7.size hg
    have hbb9 := Step.below hbb8 hS9 hbb8.size hg
    have hM := (((hown6.step hS7 hg5 hg5).step hS8 hg5 hg5).step hS9 hg5 hg5).mat (Nat.le_refl _)
    have hIa := ((hown7.step hS8 hg6).step hS9 hg6).ints
    have hIb := (hown8.step hS9 hg7).ints
    have HR := Lib.hid hR
    have HX := Lib.hid hX
    have HY := Lib.hid hY
    have hF := hF9
    have hc := hc9
    clear hc5 hc6 hc7 hc8 hc9 hF5 hF6 hF7 hF8 hF9 hD5 hD6 hD7 hD8 hD9 hS6 hS7 hS8 hS9 hbb5 hbb6 hbb7 hbb8 hown6 hown7 hown8 hR hX hY hg5 hg6 hg7
    have HSA := Lib.hid (scaleP_all hp.1 x as_)
    have HTA := Lib.hid (zipI_add_all hp.1 (scaleP p x as_) bs)
    have HQA := Lib.hid (combP_all hp.1 as_ rows wd)
    have HRA := Lib.hid (combP_all hp.1 bs rows wd)
    have HVA := Lib.hid (scaleP_all hp.1 x (combP p as_ rows wd))
    obtain ⟨i, hi, hir⟩ : ∃ i : Nat, at_ % (r : Int) = i ∧ i < r := ⟨(at_ % (r : Int)).toNat, by have := Int.emod_nonneg at_ (by omega : (r : Int) ≠ 0); omega, by have := Int.emod_nonneg at_ (by omega : (r : Int) ≠ 0); have := Int.emod_lt_of_pos at_ (by omega : (0 : Int) < r); omega⟩
    have htm : (IntKind.i64.wrap at_).tmod (r : Int) = i := by rw [IntWalk.i64_in _ (by omega), Int.tmod_eq_emod_of_nonneg (by omega)]; exact hi
    have HI := Lib.hid hi
    have HTM := Lib.hid htm
    have hM0 : rows.length = r := hM.len
    have HLin := Lib.hid (comb_lin p x hp.1 as_ bs rows wd (by rw [hIa.len, hIb.len]) (fun r' h' => (HR.out r' h').2))
    have HPick := Lib.hid (comb_pick p hp.1 rows r wd i hM0 hir HR.out)
    have HUA := Lib.hid (spikeL_all hp.1 r i)
    have HE1 : Hid (sameL (combP p (zipI (addP p) (scaleP p x as_) bs) rows wd) (zipI (addP p) (scaleP p x (combP p as_ rows wd)) (combP p bs rows wd)) = true) := Lib.hid (sameL_iff.2 HLin.out)
    have HE2 : Hid (sameL (combP p (spikeL r i 1) rows wd) (rows.getD i []) = true) := Lib.hid (sameL_iff.2 HPick.out)
    have hRi := HR.out _ (getD_mem2 (d := []) (show i < rows.length by omega))
    have HRi := Lib.hid hRi
    clear hi htm hM0 hRi
    go_wp2_with (first
      | (go_at_call 45; (with_reducible refine (vscale_ok p x B2 r d2 as_ w9 HO.out hIa HX.out hx (by omega)).mono ?_); rintro e w10 ⟨⟨C1, e1, rfl, hown10⟩, hb10⟩
         have hbb10 := bnext hbb9 hb10
         have hF10 := hF.below hb10 hF.lt
         have hc10 : w10.cell? ⟨w3.heap.size, 0, none⟩ = some (.int .i64 p) := (hF10.cell 0).trans rfl
         have hM_10 := hM.upto hb10
         have hIa_10 := hIa.upto hb10
         have hIb_10 := hIb.upto hb10
         have hS_10 := hown10.ints
         clear hb10)
      | (go_at_call 44; (with_reducible refine (vadd_ok p C1 B3 r e1 d3 (scaleP p x as_) bs w10 HO.out hS_10 hIb_10 HSA.out HY.out (by omega)).mono ?_); rintro e w11 ⟨⟨C2, e2, rfl, hown11⟩, hb11⟩
         have hbb11 := bnext hbb10 hb11
         have hF11 := hF10.below hb11 hF10.lt
         have hc11 : w11.cell? ⟨w3.heap.size, 0, none⟩ = some (.int .i64 p) := (hF11.cell 0).trans rfl
         have hM_11 := hM_10.upto hb11
         have hIa_11 := hIa_10.upto hb11
         have hIb_11 := hIb_10.upto hb11
         have hS_11 := hS_10.upto hb11
         have hT_11 := hown11.ints
         clear hb11)
      | (go_at_call 41; (with_reducible refine (combine_ok p C2 B1 r wd e2 d1 (zipI (addP p) (scaleP p x as_) bs) rows w11 HO.out hT_11 hM_11 HTA.out HR.out (by omega) (by omega)).mono ?_); rintro e w12 ⟨⟨C3, e3, rfl, hown12⟩, hb12⟩
         have hbb12 := bnext hbb11 hb12
         have hF12 := hF11.below hb12 hF11.lt
         have hc12 : w12.cell? ⟨w3.heap.size, 0, none⟩ = some (.int .i64 p) := (hF12.cell 0).trans rfl
         have hM_12 := hM_11.upto hb12
         have hIa_12 := hIa_11.upto hb12
         have hIb_12 := hIb_11.upto hb12
         have hS_12 := hS_11.upto hb12
         have hT_12 := hT_11.upto hb12
         have hP_12 := hown12.ints
         clear hb12)
      | (go_at_call 41; (with_reducible refine (combine_ok p B2 B1 r wd d2 d1 as_ rows w12 HO.out hIa_12 hM_12 HX.out HR.out (by omega) (by omega)).mono ?_); rintro e w13 ⟨⟨C4, e4, rfl, hown13⟩, hb13⟩
         have hbb13 := bnext hbb12 hb13
         have hF13 := hF12.below hb13 hF12.lt
         have hc13 : w13.cell? ⟨w3.heap.size, 0, none⟩ = some (.int .i64 p) := (hF13.cell 0).trans rfl
         have hM_13 := hM_12.upto hb13
         have hIa_13 := hIa_12.upto hb13
         have hIb_13 := hIb_12.upto hb13
         have hS_13 := hS_12.upto hb13
         have hT_13 := hT_12.upto hb13
         have hP_13 := hP_12.upto hb13
         have hQ_13 := hown13.ints
         clear hb13)
      | (go_at_call 41; (with_reducible refine (combine_ok p B3 B1 r wd d3 d1 bs rows w13 HO.out hIb_13 hM_13 HY.out HR.out (by omega) (by omega)).mono ?_); rintro e w14 ⟨⟨C5, e5, rfl, hown14⟩, hb14⟩
         have hbb14 := bnext hbb13 hb14
         have hF14 := hF13.below hb14 hF13.lt
         have hc14 : w14.cell? ⟨w3.heap.size, 0, none⟩ = some (.int .i64 p) := (hF14.cell 0).trans rfl
         have hM_14 := hM_13.upto hb14
         have hIa_14 := hIa_13.upto hb14
         have hIb_14 := hIb_13.upto hb14
         have hS_14 := hS_13.upto hb14
         have hT_14 := hT_13.upto hb14
         have hP_14 := hP_13.upto hb14
         have hQ_14 := hQ_13.upto hb14
         have hR__14 := hown14.ints
         clear hb14)
      | (go_at_call 45; (with_reducible refine (vscale_ok p x C4 wd e4 (combP p as_ rows wd) w14 HO.out hQ_14 HQA.out hx (by omega)).mono ?_); rintro e w15 ⟨⟨C6, e6, rfl, hown15⟩, hb15⟩
         have hbb15 := bnext hbb14 hb15
         have hF15 := hF14.below hb15 hF14.lt
         have hc15 : w15.cell? ⟨w3.heap.size, 0, none⟩ = some (.int .i64 p) := (hF15.cell 0).trans rfl
         have hM_15 := hM_14.upto hb15
         have hIa_15 := hIa_14.upto hb15
         have hIb_15 := hIb_14.upto hb15
         have hS_15 := hS_14.upto hb15
         have hT_15 := hT_14.upto hb15
         have hP_15 := hP_14.upto hb15
         have hQ_15 := hQ_14.upto hb15
         have hR__15 := hR__14.upto hb15
         have hV_15 := hown15.ints
         clear hb15)
      | (go_at_call 44; (with_reducible refine (vadd_ok p C6 C5 wd e6 e5 (scaleP p x (combP p as_ rows wd)) (combP p bs rows wd) w15 HO.out hV_15 hR__15 HVA.out HRA.out (by omega)).mono ?_); rintro e w16 ⟨⟨C7, e7, rfl, hown16⟩, hb16⟩
         have hbb16 := bnext hbb15 hb16
         have hF16 := hF15.below hb16 hF15.lt
         have hc16 : w16.cell? ⟨w3.heap.size, 0, none⟩ = some (.int .i64 p) := (hF16.cell 0).trans rfl
         have hM_16 := hM_15.upto hb16
         have hIa_16 := hIa_15.upto hb16
         have hIb_16 := hIb_15.upto hb16
         have hS_16 := hS_15.upto hb16
         have hT_16 := hT_15.upto hb16
         have hP_16 := hP_15.upto hb16
         have hQ_16 := hQ_15.upto hb16
         have hR__16 := hR__15.upto hb16
         have hV_16 := hV_15.upto hb16
         have hYY_16 := hown16.ints
         clear hb16))
    have hr0 : ¬ r = 0 := by omega
    have hr2 : (0 : Int) ≤ at_ := hat.1
    go_region_held3 (fun w' => w'.cell? ⟨w3.heap.size, 0, none⟩ = some (.int .i64 p)) (first | go_keep | exact hc17)
      (first
        | (go_at_call 42; rw [HTM.out]; (refine (unit_ok p r i _ HO.out (by omega) hir).mono ?_); rintro e w17 ⟨⟨C8, e8, rfl, hown17⟩, hb17'⟩; rw [unitL_spike2] at hown17
           have hb17 : Below w16.heap.size w16 w17 := (Below.refl _ w16).drew.trans hb17'
           have hbb17 := bnext hbb16 hb17
           have hF17 := hF16.below hb17 hF16.lt
           have hc17 : w17.cell? ⟨w3.heap.size, 0, none⟩ = some (.int .i64 p) := (hF17.cell 0).trans rfl
           have hM_17 := hM_16.upto hb17
           have hIa_17 := hIa_16.upto hb17
           have hIb_17 := hIb_16.upto hb17
           have hS_17 := hS_16.upto hb17
           have hT_17 := hT_16.upto hb17
           have hP_17 := hP_16.upto hb17
           have hQ_17 := hQ_16.upto hb17
           have hR__17 := hR__16.upto hb17
           have hV_17 := hV_16.upto hb17
           have hYY_17 := hYY_16.upto hb17
           have hU_17 := hown17.ints
           clear hb17))
    clear hr0 hr2
    go_wp2_with (
      go_at_call 41; (with_reducible refine (combine_ok p C8 B1 r wd e8 d1 (spikeL r i 1) rows w17 HO.out hU_17 hM_17 HUA.out HR.out (by omega) (by omega)).mono ?_); rintro e w18 ⟨⟨C9, e9, rfl, hown18⟩, hb18⟩
      have hbb18 := bnext hbb17 hb18
      have hF18 := hF17.below hb18 hF17.lt
      have hc18 : w18.cell? ⟨w3.heap.size, 0, none⟩ = some (.int .i64 p) := (hF18.cell 0).trans rfl
      have hM_18 := hM_17.upto hb18
      have hIa_18 := hIa_17.upto hb18
      have hIb_18 := hIb_17.upto hb18
      have hS_18 := hS_17.upto hb18
      have hT_18 := hT_17.upto hb18
      have hP_18 := hP_17.upto hb18
      have hQ_18 := hQ_17.upto hb18
      have hR__18 := hR__17.upto hb18
      have hV_18 := hV_17.upto hb18
      have hYY_18 := hYY_17.upto hb18
      have hU_18 := hU_17.upto hb18
      have hRow_18 := hown18.ints
      clear hb18)
    have hi := HI.out
    obtain ⟨b9, o9, R9, m9, d9, hB9, _, hb9, hcell9, hm9, hI9, _⟩ := hM_18.at_ hir
    subst hB9
    have hm9' : m9 = wd := by rw [← HRi.out.2, hI9.len]
    subst hm9'
    have hir' : (i : Int) < (r : Int) := by omega
    have hi0 : (0 : Int) ≤ (i : Int) := by omega
    go_wp2_with (first
      | (go_at_call 35; (with_reducible refine (same_any C3 C7 m9 m9 e3 e7 (combP p (zipI (addP p) (scaleP p x as_) bs) rows m9) (zipI (addP p) (scaleP p x (combP p as_ rows m9)) (combP p bs rows m9)) w18 hP_18 hYY_18 (by omega) (by omega)).mono ?_); rintro e w19 ⟨rfl, qq, rfl⟩; rw [HE1.out])
      | (go_at_call 35; (refine (same_any C9 R9 m9 m9 e9 d9 (combP p (spikeL r i 1) rows m9) (rows.getD i []) _ (hRow_18.drewN _) (hI9.drewN _) (by omega) (by omega)).mono ?_); rintro e w20 ⟨rfl, qq2, rfl⟩; rw [HE2.out]))
    go_ret
    exact ⟨rfl, below_drewN hbb18 _⟩
  · have hd : decide (n ≤ 500) = false := by simpa using hn
    go_enter Try.func12, Try.ntmps12
    go_wp2_with (first
      | (go_at_call 38; refine (sane04_any _).mono ?_; rintro e w1 ⟨rfl, hb1⟩)
      | (go_at_call 18; refine (few_any A n c _).mono ?_; rintro e w' ⟨rfl, rfl⟩))
    go_ret
    exact ⟨rfl, hb1⟩
end Go.Proofs.Ytiledcpefaoeiaa
