/-
  CodeLinear returns true: the walk of the law. Conditions: none beyond the reading of its arguments.
-/
import Derived.Test.YtieejgkheijgeaaCode3
import Derived.Test.YtieejgkheijgeaaRef4
import Derived.Test.YtieejgkheijgeaaRef5
import Derived.Test.YtieejgkheijgeaaBig
import Derived.Test.YtieejgkheijgeaaShape
import Derived.Deep.QuietTactic
import Derived.BigQuiet
import Derived.Deep.RegionHeld3
import Derived.Deep.DeepCutAuto
namespace Go.Proofs.Ytieejgkheijgeaa
open Go.RowKit
set_option linter.unusedVariables false

theorem word_add {p : Int} (hp : 2 ≤ p) (a b us : List Int) : zipI (addP p) (valsP p a us) (valsP p b us) = valsP p (addL p a b) us := by
  unfold zipI valsP
  rw [List.zipWith_map]
  induction us with
  | nil => rfl
  | cons u us ih =>
    simp only [List.zipWith_cons_cons, List.map_cons, ih, value_addL hp]
    rfl

set_option maxHeartbeats 6400000 in
set_option maxRecDepth 100000 in
theorem codeLinear_walk (A : Option Addr) (n c : Nat) (zs : List Int) (w : World) (w0 : IsRow .i64 w A n c zs) :
    Calls Try.prog 9 #[.slice A n c] w fun e w' => e = .returned (.bool true) ∧ Below w.heap.size w w' := by
  obtain ⟨h, hw⟩ := w0.ints
  generalize zs.take n = xs at h hw
  clear w0
  by_cases hn : n ≤ 500
  · have hd : decide (n ≤ 500) = true := by simpa using hn
    go_enter Try.func9, Try.ntmps9
    go_upto_region 8 with (first
      | (go_at_call 35; refine (sane08_any _).mono ?_; rintro e w1 ⟨rfl, hb1⟩)
      | (go_at_call 14; refine (few_any A n c _).mono ?_; rintro e w' ⟨rfl, rfl⟩)
      | (go_at_call 15; refine (new_any A n c xs _ (h.upto hb1) hn).mono ?_; rintro e w2 ⟨⟨g, rfl, hge, hD2⟩, hb2⟩
         have hbb2 := bnext hb1 hb2
         have hg : w.heap.size ≤ g := by rw [hge]; exact hb1.size
         clear hge)
      | (go_at_call 16; refine (big_any g A n c xs _ 9 _ hD2 (by omega)).mono ?_; rintro e w3 ⟨p, q3, rfl, hkn, hp9, hD3, hS3⟩
         have hok := okP_known hkn
         have hp := okP_pos hok
         have HO := Lib.hid hok
         have hbb3 := ballocs (Step.below hbb2 hS3 hbb2.size hg) (.cells #[.int .i64 p] 28)
         have hF_3 := Blk.new w3 28 #[.int .i64 p]
         have hD3' := hD3.alloc (.cells #[.int .i64 p] 28)
         have hgf : w3.heap.size ≠ g := by have := hD3.1.lt; omega
         clear hok hkn hD2 hD3 hS3 hbb2 hb1 hb2)
      | (go_at_call 17; refine (next_any g A n c xs q3 10 _ hD3' (by omega)).mono ?_; rintro e w4 ⟨r', q4, rfl, hr, hr0, hD4, hS4, hz4⟩
         obtain ⟨N, rfl⟩ : ∃ r : Nat, r' = r := ⟨r'.toNat, by have := hr (by omega); omega⟩
         have hN9 : N ≤ 9 := by have := hr (by omega); omega
         have hF_4 := Step.block hS4 hF_3 hgf
         have hbb4 := Step.below hbb3 hS4 hbb3.size hg
         have hg4 := hD4.1.lt
         clear hr hr0 hz4 hS4))
    clear hF_3 hD3' hbb3
    have HFF : Hid (∀ wx, Step g w4 wx → wx.cell? ⟨w3.heap.size, 0, none⟩ = some (.int .i64 p)) := Lib.hid fun wx hx => ((Step.block hx hF_4 hgf).cell 0).trans rfl
    have hQ0 : Step g w4 w4.drew := (Step.refl g w4).drew
    have hD4d := hD4.drew
    go_region_held3 (fun w' => w'.cell? ⟨w3.heap.size, 0, none⟩ = some (.int .i64 p)) (first | exact HFF.out _ hQ0 | exact HFF.out _ hS5 | exact HFF.out _ hS6 | exact HFF.out _ hS7 | exact HFF.out _ hS8)
      (first
        | (go_at_call 36; (with_reducible refine (elements_any g A n c xs q7 p m2 _ hD7 hp (by omega)).mono ?_); rintro e w8 ⟨A8, c8, Q, q8, rfl, hown8, hQa, hD8, hS8'⟩
           have hS8 := hS7.trans hS8'
           have hownP := (hown6.step hS7' hg6).step hS8' hg6)
        | (go_at_call 36; (with_reducible refine (elements_any g A n c xs q5 p m1 _ hD5 hp (by omega)).mono ?_); rintro e w6 ⟨A6, c6, P, q6, rfl, hown6, hPa, hD6, hS6'⟩
           have hS6 := hS5.trans hS6'
           have hg6 : g < w5.heap.size := hD5.1.lt)
        | (go_at_call 17; (refine (next_any g A n c xs q6 9 _ hD6 (by omega)).mono ?_); rintro e w7 ⟨r2, q7, rfl, hr2, _, hD7, hS7', hz7⟩
           obtain ⟨m2, rfl⟩ : ∃ r : Nat, r2 = r := ⟨r2.toNat, by have := hr2 (by omega); omega⟩
           have hm2 : m2 ≤ 8 := by have := hr2 (by omega); omega
           have hS7 := hS6.trans hS7'
           clear hr2 hz7)
        | (go_at_call 17; (refine (next_any g A n c xs q4 9 _ hD4d (by omega)).mono ?_); rintro e w5 ⟨r1, q5, rfl, hr1, _, hD5, hS5', hz5⟩
           obtain ⟨m1, rfl⟩ : ∃ r : Nat, r1 = r := ⟨r1.toNat, by have := hr1 (by omega); omega⟩
           have hm1 : m1 ≤ 8 := by have := hr1 (by omega); omega
           have hS5 := hQ0.trans hS5'
           clear hr1 hz5))
    have hbb8 := Step.below hbb4 hS8 hbb4.size hg
    have hF8 := Step.block hS8 hF_4 hgf
    have hcf8 : w8.cell? ⟨w3.heap.size, 0, none⟩ = some (.int .i64 p) := (hF8.cell 0).trans rfl
    have hIP := hownP.ints
    have hIQ := hown8.ints
    have hcP := hownP.cap
    have hcQ := hown8.cap
    have HPA := Lib.hid hPa
    have HQA := Lib.hid hQa
    have HPL := Lib.hid hIP.len
    have HQL := Lib.hid hIQ.len
    clear HFF hQ0 hD4 hD4d hD5 hD6 hD7 hD8 hS5 hS6 hS7 hS8 hS5' hS6' hS7' hS8' hown6 hownP hown8 hPa hQa hF_4 hbb4
    have HSA : Hid (allP p (addL p P Q) = true) := Lib.hid (addL_allP hp.1 P Q)
    have HSL : Hid ((addL p P Q).length ≤ 20) := Lib.hid (by have := addL_len_le p P Q; rw [HPL.out, HQL.out] at this; omega)
    obtain ⟨S, HSE⟩ : ∃ S, Hid (addL p P Q = S) := ⟨_, Lib.hid rfl⟩
    obtain ⟨pts, HPT⟩ : ∃ pts, Hid (ptsL N = pts) := ⟨_, Lib.hid rfl⟩
    rw [HSE.out] at HSA HSL
    have HVP : Hid (∀ cs, allP p (valsP p cs pts) = true) := Lib.hid fun cs => valsP_allP hp.1 cs pts
    have HWA : Hid (zipI (addP p) (valsP p P pts) (valsP p Q pts) = valsP p S pts) := Lib.hid (by rw [← HSE.out]; exact word_add hp.1 P Q pts)
    have HSM : Hid (sameL (valsP p S pts) (valsP p S pts) = true) := Lib.hid (sameL_iff.2 rfl)
    have hNp : (N : Int) < p := by omega
    have hN32 : N ≤ 32 := by omega
    have hsl := HSL.out
    go_wp2_with (first
      | (go_at_call 40; (with_reducible refine (radd5_ok p A6 A8 m1 m2 c6 c8 P Q _ HO.out hIP hIQ HPA.out HQA.out (by omega) (by omega)).mono ?_); rintro e w9 ⟨⟨A9, c9, rfl, hown9⟩, hb9⟩
         rw [HSE.out] at hown9
         rw [HSE.out]
         have hF9 := hF8.below hb9 hF8.lt
         have hcf9 : w9.cell? ⟨w3.heap.size, 0, none⟩ = some (.int .i64 p) := (hF9.cell 0).trans rfl
         have hbb9 := bnext hbb8 hb9
         have hIS := hown9.ints
         have hcS := hown9.cap
         have hIP9 := hIP.upto hb9
         have hIQ9 := hIQ.upto hb9)
      | (go_at_call 38; (with_reducible refine (encode_ok p A6 m1 c6 N P _ HO.out hIP9 HPA.out hcP (by omega) hN32 hNp).mono ?_); rintro e w10 ⟨⟨A10, c10, rfl, hown10⟩, hb10⟩
         rw [HPT.out] at hown10
         have hF10 := hF9.below hb10 hF9.lt
         have hcf10 : w10.cell? ⟨w3.heap.size, 0, none⟩ = some (.int .i64 p) := (hF10.cell 0).trans rfl
         have hbb10 := bnext hbb9 hb10
         have hIa := hown10.ints
         have hIS10 := hIS.upto hb10
         have hIQ10 := hIQ9.upto hb10)
      | (go_at_call 38; (with_reducible refine (encode_ok p A8 m2 c8 N Q _ HO.out hIQ10 HQA.out hcQ (by omega) hN32 hNp).mono ?_); rintro e w11 ⟨⟨A11, c11, rfl, hown11⟩, hb11⟩
         rw [HPT.out] at hown11
         have hF11 := hF10.below hb11 hF10.lt
         have hcf11 : w11.cell? ⟨w3.heap.size, 0, none⟩ = some (.int .i64 p) := (hF11.cell 0).trans rfl
         have hbb11 := bnext hbb10 hb11
         have hIb := hown11.ints
         have hIS11 := hIS10.upto hb11
         have hIa11 := hIa.upto hb11)
      | (go_at_call 38; (with_reducible refine (encode_ok p A9 S.length c9 N S _ HO.out hIS11 HSA.out hcS (by omega) hN32 hNp).mono ?_); rintro e w12 ⟨⟨A12, c12, rfl, hown12⟩, hb12⟩
         rw [HPT.out] at hown12
         have hF12 := hF11.below hb12 hF11.lt
         have hcf12 : w12.cell? ⟨w3.heap.size, 0, none⟩ = some (.int .i64 p) := (hF12.cell 0).trans rfl
         have hbb12 := bnext hbb11 hb12
         have hIc := hown12.ints
         have hIb12 := hIb.upto hb12
         have hIa12 := hIa11.upto hb12)
      | (go_at_call 42; (with_reducible refine (radd_ok p A10 A11 N c10 c11 (valsP p P pts) (valsP p Q pts) _ HO.out hIa12 hIb12 (HVP.out P) (HVP.out Q) (by omega)).mono ?_); rintro e w13 ⟨⟨A13, c13, rfl, hown13⟩, hb13⟩
         rw [HWA.out] at hown13
         have hbb13 := bnext hbb12 hb13
         have hIt := hown13.ints
         have hIc13 := hIc.upto hb13)
      | (go_at_call 41; (with_reducible refine (same_any A13 A12 N N c13 c12 (valsP p S pts) (valsP p S pts) _ hIt hIc13 (by omega) (by omega)).mono ?_); rintro e w' ⟨rfl, q9, rfl⟩
         rw [HSM.out]))
    go_ret
    exact ⟨rfl, below_drewN hbb13 _⟩
  · have hd : decide (n ≤ 500) = false := by simpa using hn
    go_enter Try.func9, Try.ntmps9
    go_wp2_with (first
      | (go_at_call 35; refine (sane08_any _).mono ?_; rintro e w1 ⟨rfl, hb1⟩)
      | (go_at_call 14; refine (few_any A n c _).mono ?_; rintro e w' ⟨rfl, rfl⟩))
    go_ret
    exact ⟨rfl, hb1⟩
end Go.Proofs.Ytieejgkheijgeaa
