/-
  Words for memory and contracts of small functions of the second form. Conditions: those of each lemma.
-/
import Derived.Test.YtnjdjcgandfnfaaDoorGRef
import Derived.Test.YtnjdjcgandfnfaaDoorGPol
import Derived.Test.YtnjdjcgandfnfaaDoorGCnt
import Derived.Test.YtnjdjcgandfnfaaDoorGSha
import Derived.Test.YtnjdjcgandfnfaaDoorPlain
import Derived.Test.YtnjdjcgandfnfaaDoorGDec
import Derived.Test.YtnjdjcgandfnfaaDoorGKey
/-! UAnsP -/
namespace Go.Proofs.YtnjdjcgandfnfaaDoor
set_option linter.unusedVariables false

/-- The error of Decode and Check before anything is decoded. -/
def decE (p : Int) (vs : List Int) (bs : List Bool) (k : Int) : Int := if beginE p vs bs k = 0 then (if ((knL vs bs).length : Int) < k then 11 else 0) else beginE p vs bs k
theorem decE_zero {p : Int} {vs : List Int} {bs : List Bool} {k : Int} (h : decE p vs bs k = 0) : beginE p vs bs k = 0 ∧ k ≤ ((knL vs bs).length : Int) := by
  unfold decE at h
  split at h
  · rename_i h0
    split at h
    · exact absurd h (by decide)
    · rename_i h1; exact ⟨h0, by omega⟩
  · rename_i h0; exact absurd h h0
theorem decE_yes {p : Int} {vs : List Int} {bs : List Bool} {k : Int} (h : beginE p vs bs k = 0) (h2 : k ≤ ((knL vs bs).length : Int)) : decE p vs bs k = 0 := by
  unfold decE; rw [if_pos h, if_neg (by omega)]
theorem decE_few {p : Int} {vs : List Int} {bs : List Bool} {k : Int} (h : beginE p vs bs k = 0) (h2 : ((knL vs bs).length : Int) < k) : decE p vs bs k = 11 := by
  unfold decE; rw [if_pos h, if_pos h2]
theorem decE_no {p : Int} {vs : List Int} {bs : List Bool} {k : Int} (h : beginE p vs bs k ≠ 0) : decE p vs bs k = beginE p vs bs k := by
  unfold decE; rw [if_neg h]
theorem beginE_vals {p : Int} {vs : List Int} {bs : List Bool} {k : Int} : beginE p vs bs k = 0 ∨ beginE p vs bs k = 1 ∨ beginE p vs bs k = 4 ∨ beginE p vs bs k = 9 := by
  have hc : cellsE p vs bs = 0 ∨ cellsE p vs bs = 4 ∨ cellsE p vs bs = 9 := by
    unfold cellsE
    repeat' split
    all_goals simp
  unfold beginE
  repeat' split
  all_goals omega
/-- What Decode finds. -/
def DecIs (p : Int) (vs : List Int) (bs : List Bool) (k : Int) (P ws : List Int) (er : Int) : Prop :=
  (decE p vs bs k ≠ 0 ∧ P = [] ∧ ws = [] ∧ er = decE p vs bs k) ∨
  (decE p vs bs k = 0 ∧ DecOf p k.toNat (((knL vs bs).length - k.toNat) / 2) (knL vs bs) none ∧ P = [] ∧ ws = [] ∧ er = 12) ∨
  (decE p vs bs k = 0 ∧ DecOf p k.toNat (((knL vs bs).length - k.toNat) / 2) (knL vs bs) (some P) ∧ ws = wrL p P (knL vs bs) ∧ er = 0)
theorem DecIs.one {p : Int} {vs : List Int} {bs : List Bool} {k : Int} {P P' ws ws' : List Int} {er er' : Int} (h : DecIs p vs bs k P ws er) (h' : DecIs p vs bs k P' ws' er') : P = P' ∧ ws = ws' ∧ er = er' := by
  by_cases h0 : decE p vs bs k = 0
  · have hd := decE_zero h0
    have hb := beginE_ok hd.1
    have hc := cellsE_ok hb.1
    have hap := knL_apart (bs := bs) hc.2.2.1
    obtain ⟨q, rfl⟩ : ∃ q : Nat, k = q := ⟨k.toNat, by omega⟩
    have hq : ((q : Nat) : Int).toNat = q := rfl
    have hle : q + 2 * (((knL vs bs).length - q) / 2) ≤ (knL vs bs).length := by have := hd.2; omega
    rcases h with ⟨k0, _⟩ | ⟨_, hD, h1, h2, h3⟩ | ⟨_, hD, h2, h3⟩
    · exact absurd h0 k0
    · rcases h' with ⟨k0, _⟩ | ⟨_, kD, k1, k2, k3⟩ | ⟨_, kD, k2, k3⟩
      · exact absurd h0 k0
      · exact ⟨by rw [h1, k1], by rw [h2, k2], by rw [h3, k3]⟩
      · exfalso
        have := DecOf.one hc.1 hD hap hle kD.2.1 kD.2.2.1 kD.2.2.2
        cases this
    · rcases h' with ⟨k0, _⟩ | ⟨_, kD, k1, k2, k3⟩ | ⟨_, kD, k2, k3⟩
      · exact absurd h0 k0
      · exfalso
        have := DecOf.one hc.1 kD hap hle hD.2.1 hD.2.2.1 hD.2.2.2
        cases this
      · have := DecOf.one hc.1 hD hap hle kD.2.1 kD.2.2.1 kD.2.2.2
        injection this with this
        have e : P = P' := by rw [this, kD.1.trimL]
        exact ⟨e, by rw [h2, k2, e], by rw [h3, k3]⟩
  · rcases h with ⟨_, h1, h2, h3⟩ | ⟨k0, _⟩ | ⟨k0, _⟩
    · rcases h' with ⟨_, k1, k2, k3⟩ | ⟨j0, _⟩ | ⟨j0, _⟩
      · exact ⟨by rw [h1, k1], by rw [h2, k2], by rw [h3, k3]⟩
      · exact absurd j0 h0
      · exact absurd j0 h0
    · exact absurd k0 h0
    · exact absurd k0 h0
/-- What Check finds where Fill finds enough cells. -/
def chkR (p : Int) (k : Nat) (l : List (Int × Int)) (P ws : List Int) : Int := if errL p [P] = 0 ∧ tn P P.length ≤ k then (if (wrL p P l).length ≤ (l.length - k) / 2 ∧ wrL p P l = ws then 0 else 12) else 2
/-- What Check finds. -/
def chkA (p : Int) (vs : List Int) (bs : List Bool) (k : Int) (P ws : List Int) : Int := if decE p vs bs k = 0 then chkR p k.toNat (knL vs bs) P ws else decE p vs bs k
theorem chkA_no {p : Int} {vs : List Int} {bs : List Bool} {k : Int} (P ws : List Int) (h : decE p vs bs k ≠ 0) : chkA p vs bs k P ws = decE p vs bs k := by unfold chkA; rw [if_neg h]
theorem chkA_yes {p : Int} {vs : List Int} {bs : List Bool} {k : Int} (P ws : List Int) (h : decE p vs bs k = 0) : chkA p vs bs k P ws = chkR p k.toNat (knL vs bs) P ws := by unfold chkA; rw [if_pos h]
/-- The error of Key. -/
def keyE (p : Int) (vs : List Int) (bs : List Bool) (k wr : Int) : Int := if beginE p vs bs k = 0 then (if wr < 0 ∨ 32 < wr ∨ 32 < k + 2 * wr then 1 else 0) else beginE p vs bs k
theorem keyE_zero {p : Int} {vs : List Int} {bs : List Bool} {k wr : Int} (h : keyE p vs bs k wr = 0) : beginE p vs bs k = 0 ∧ ¬ (wr < 0 ∨ 32 < wr ∨ 32 < k + 2 * wr) := by
  unfold keyE at h
  split at h
  · rename_i h0
    split at h
    · exact absurd h (by decide)
    · rename_i h1; exact ⟨h0, h1⟩
  · rename_i h0; exact absurd h h0
theorem keyE_range {p : Int} {vs : List Int} {bs : List Bool} {k wr : Int} (h : beginE p vs bs k = 0) (h2 : wr < 0 ∨ 32 < wr ∨ 32 < k + 2 * wr) : keyE p vs bs k wr = 1 := by unfold keyE; rw [if_pos h, if_pos h2]
theorem keyE_no {p : Int} {vs : List Int} {bs : List Bool} {k wr : Int} (h : beginE p vs bs k ≠ 0) : keyE p vs bs k wr = beginE p vs bs k := by unfold keyE; rw [if_neg h]
/-- A power, and the product with what is taken off. -/
theorem pw_of {p a r : Int} {n : Nat} (hp : 2 ≤ p) (hr : 0 ≤ r ∧ r < p) (h : Cong p r (a ^ n)) : r = pwP p a n := by
  have h1 := pwP_cong p a n
  have h2 := pwP_in hp a n
  have h3 : r % p = pwP p a n % p := h.trans h1.symm
  rwa [Int.emod_eq_of_lt hr.1 hr.2, Int.emod_eq_of_lt h2.1 h2.2] at h3
theorem negmul_sub {p y x : Int} (hp : 2 ≤ p) : (p - y) * x % p = subP p 0 (mulP p y x) := by
  unfold subP mulP
  have h : y * x % p + p * (y * x / p) = y * x := Int.emod_add_mul_ediv _ _
  have e : (p - y) * x = (0 - y * x % p + p) + p * (x - 1 - y * x / p) := by
    rw [Int.sub_mul, Int.mul_sub, Int.mul_sub, Int.mul_one]
    generalize y * x % p = r at *
    generalize p * (y * x / p) = q at *
    generalize y * x = u at *
    generalize p * x = v at *
    omega
  rw [e, Int.add_mul_emod_self_left]
end Go.Proofs.YtnjdjcgandfnfaaDoor

/-! UChkAll -/
namespace Go.Proofs.YtnjdjcgandfnfaaDoor
open Go.RowKit
set_option linter.unusedVariables false

set_option maxRecDepth 100000 in
set_option maxHeartbeats 1600000 in
theorem ucheck_poly (p : Int) (A : Option Addr) (m c k : Nat) (vs : List Int) (bs : List Bool) (A1 A2 : Option Addr) (pn c1 wn c2 : Nat) (P ws : List Int) (w : World) (hok : okP p = true) (h : Cel w w.heap.size A m vs bs) (hm : m ≤ 32) (hmp : (m : Int) < p) (hkn : knOk p vs bs) (hk : 1 ≤ k) (hkm : k ≤ m) (hkl : k ≤ (knL vs bs).length)
    (h1 : Ints w w.heap.size A1 pn P) (hpc : pn ≤ c1) (hpn : pn ≤ 17592186044416) (h2 : Ints w w.heap.size A2 wn ws) (hwn : wn ≤ 17592186044416) (hbad : errL p [P] ≠ 0 ∨ (errL p [P] = 0 ∧ ¬ tn P pn ≤ k)) :
    Calls Tryd.prog 20 #[.agg #[.int .i64 p], .slice A m c, .int .i64 k, .agg #[.slice A1 pn c1, .slice A2 wn c2]] w fun e w' => e = .returned (.int .i64 2) ∧ Below w.heap.size w w' := by
  have hp := okP_pos hok
  have HO := Lib.hid hok
  have HKN := Lib.hid hkn
  have hln : (knL vs bs).length ≤ m := by have := knL_len vs bs; rw [h.1] at this; exact this
  obtain ⟨N, hN⟩ : ∃ N, (knL vs bs).length = N := ⟨_, rfl⟩
  have HN := Lib.hid hN
  rw [hN] at hln hkl
  have hb0 : Below w.heap.size w ((w.alloc (.cells #[.int .i64 p] 24)).alloc (.cells #[.slice A1 pn c1, .slice A2 wn c2] 27)) := ballocs (bbox _) _
  have hF0 := (Blk.new w 24 #[.int .i64 p]).alloc (.cells #[.slice A1 pn c1, .slice A2 wn c2] 27)
  have hR0 := Blk.new1 w (.cells #[.int .i64 p] 24) 27 #[.slice A1 pn c1, .slice A2 wn c2]
  have hS0 := (h.below hb0).more hb0.size
  have hI0 := h1.upto hb0
  have hJ0 := h2.upto hb0
  have hp64 : -9223372036854775808 ≤ p ∧ p ≤ 9223372036854775807 := by omega
  rcases hbad with h0 | ⟨h0, hd⟩
  · obtain ⟨er, HER⟩ : ∃ er, Hid (errL p [P] = er) := ⟨_, Lib.hid rfl⟩
    have hne : (er != 0) = true := by rw [HER.out] at h0; simpa using h0
    have HNR : Hid (numR (errL p [P]) ((tn P pn : Int) - 1) = (0, er)) := Lib.hid (by rw [numR_no _ h0, HER.out])
    clear hok hkn h h1 h2 h0
    go_enter Tryd.func20, Tryd.ntmps20
    go_wp2_with (first
      | (go_at_call 42; (refine (fill_ok p A m c k vs bs _ HO.out hS0 hm hmp HKN.out hk hkm (by rw [HN.out]; exact hkl)).mono ?_); rintro e w1 ⟨⟨R, A3, c3, rfl, hown1, hT1⟩, hb1⟩
         have hbb1 := bnext hb0 hb1
         have hF1 := hF0.below hb1 hF0.lt
         have hR1 := hR0.below hb1 hR0.lt
         have hS1 := hS0.upto hb1
         have hI1 := hI0.upto hb1
         have hJ1 := hJ0.upto hb1
         have hcF1 : w1.cell? ⟨w.heap.size, 0, none⟩ = some (.int .i64 p) := (hF1.cell 0).trans rfl
         have hcR1 : w1.cell? ⟨w.heap.size + 1, 0, none⟩ = some (.slice A1 pn c1) := (hR1.cell 0).trans rfl
         clear hown1 hT1 hb1)
      | (go_at_call 43; (refine (pdeg_all p A1 pn c1 P _ hp64 hI1 hpc hpn).mono ?_); rw [HNR.out]; rintro e w2 ⟨rfl, hb2⟩
         have hbb2 := bnext hbb1 hb2))
    go_ret
    exact ⟨rfl, hbb2⟩
  · obtain ⟨t, ht⟩ : ∃ t, tn P pn = t := ⟨_, rfl⟩
    have HNR : Hid (numR (errL p [P]) ((tn P pn : Int) - 1) = ((t : Int) - 1, 0)) := Lib.hid (by rw [numR_yes _ h0, ht])
    rw [ht] at hd
    have hdk : (k : Int) ≤ (t : Int) - 1 := by omega
    clear hok hkn h h1 h2 h0 ht
    go_enter Tryd.func20, Tryd.ntmps20
    go_wp2_with (first
      | (go_at_call 42; (refine (fill_ok p A m c k vs bs _ HO.out hS0 hm hmp HKN.out hk hkm (by rw [HN.out]; exact hkl)).mono ?_); rintro e w1 ⟨⟨R, A3, c3, rfl, hown1, hT1⟩, hb1⟩
         have hbb1 := bnext hb0 hb1
         have hF1 := hF0.below hb1 hF0.lt
         have hR1 := hR0.below hb1 hR0.lt
         have hS1 := hS0.upto hb1
         have hI1 := hI0.upto hb1
         have hJ1 := hJ0.upto hb1
         have hcF1 : w1.cell? ⟨w.heap.size, 0, none⟩ = some (.int .i64 p) := (hF1.cell 0).trans rfl
         have hcR1 : w1.cell? ⟨w.heap.size + 1, 0, none⟩ = some (.slice A1 pn c1) := (hR1.cell 0).trans rfl
         clear hown1 hT1 hb1)
      | (go_at_call 43; (refine (pdeg_all p A1 pn c1 P _ hp64 hI1 hpc hpn).mono ?_); rw [HNR.out]; rintro e w2 ⟨rfl, hb2⟩
         have hbb2 := bnext hbb1 hb2))
    go_ret
    exact ⟨rfl, hbb2⟩
set_option maxRecDepth 100000 in
set_option maxHeartbeats 1600000 in
theorem ucheck_far (p : Int) (A : Option Addr) (m c k : Nat) (vs : List Int) (bs : List Bool) (A1 A2 : Option Addr) (pn c1 wn c2 : Nat) (P ws : List Int) (w : World) (hok : okP p = true) (h : Cel w w.heap.size A m vs bs) (hm : m ≤ 32) (hmp : (m : Int) < p) (hkn : knOk p vs bs) (hk : 1 ≤ k) (hkm : k ≤ m) (hkl : k ≤ (knL vs bs).length)
    (h1 : Ints w w.heap.size A1 pn P) (hpc : pn ≤ c1) (hpn : pn ≤ 17592186044416) (h2 : Ints w w.heap.size A2 wn ws) (hwn : wn ≤ 17592186044416) (hP : allP p P = true) (hp5 : pn ≤ 512) (hd : tn P pn ≤ k) (hv : ((knL vs bs).length - k) / 2 < (wrL p P (knL vs bs)).length) :
    Calls Tryd.prog 20 #[.agg #[.int .i64 p], .slice A m c, .int .i64 k, .agg #[.slice A1 pn c1, .slice A2 wn c2]] w fun e w' => e = .returned (.int .i64 12) ∧ Below w.heap.size w w' := by
  have hp := okP_pos hok
  have HO := Lib.hid hok
  have HKN := Lib.hid hkn
  have hln : (knL vs bs).length ≤ m := by have := knL_len vs bs; rw [h.1] at this; exact this
  obtain ⟨N, hN⟩ : ∃ N, (knL vs bs).length = N := ⟨_, rfl⟩
  have HN := Lib.hid hN
  rw [hN] at hln hkl
  have hb0 : Below w.heap.size w ((w.alloc (.cells #[.int .i64 p] 24)).alloc (.cells #[.slice A1 pn c1, .slice A2 wn c2] 27)) := ballocs (bbox _) _
  have hF0 := (Blk.new w 24 #[.int .i64 p]).alloc (.cells #[.slice A1 pn c1, .slice A2 wn c2] 27)
  have hR0 := Blk.new1 w (.cells #[.int .i64 p] 24) 27 #[.slice A1 pn c1, .slice A2 wn c2]
  have hS0 := (h.below hb0).more hb0.size
  have hI0 := h1.upto hb0
  have hJ0 := h2.upto hb0
  have hp64 : -9223372036854775808 ≤ p ∧ p ≤ 9223372036854775807 := by omega
  have HPA := Lib.hid hP
  have hpn := hp5
  obtain ⟨l, hl⟩ : ∃ l, knL vs bs = l := ⟨_, rfl⟩
  obtain ⟨v, hvE⟩ : ∃ v, (N - k) / 2 = v := ⟨_, rfl⟩
  obtain ⟨wl, hwl⟩ : ∃ wl, wrL p P l = wl := ⟨_, rfl⟩
  obtain ⟨q, hq⟩ : ∃ q, wl.length = q := ⟨_, rfl⟩
  obtain ⟨t, ht⟩ : ∃ t, tn P pn = t := ⟨_, rfl⟩
  have HL := Lib.hid hl
  have HV := Lib.hid hvE
  have HWL := Lib.hid hwl
  have HT := Lib.hid ht
  have HWN := Lib.hid hq
  have hv1 : (v : Int) < (q : Int) := by rw [hN, hvE, hl, hwl, hq] at hv; omega
  clear hv
  have hq32 : q ≤ 32 := by rw [← hq, ← hwl, ← hl]; exact Nat.le_trans (wrL_len p P _) (by rw [hN]; omega)
  rw [ht] at hd
  have hdk : ¬ (k : Int) ≤ (t : Int) - 1 := by omega
  clear hok hkn hP h h1 h2 hl hvE hwl ht hq
  go_enter Tryd.func20, Tryd.ntmps20
  go_wp2_with (first
    | (go_at_call 42; (refine (fill_ok p A m c k vs bs _ HO.out hS0 hm hmp HKN.out hk hkm (by rw [HN.out]; exact hkl)).mono ?_); rintro e w1 ⟨⟨R, A3, c3, rfl, hown1, hT1⟩, hb1⟩
       have hbb1 := bnext hb0 hb1
       have hF1 := hF0.below hb1 hF0.lt
       have hR1 := hR0.below hb1 hR0.lt
       have hS1 := hS0.upto hb1
       have hI1 := hI0.upto hb1
       have hJ1 := hJ0.upto hb1
       have hcF1 : w1.cell? ⟨w.heap.size, 0, none⟩ = some (.int .i64 p) := (hF1.cell 0).trans rfl
       have hcR1 : w1.cell? ⟨w.heap.size + 1, 0, none⟩ = some (.slice A1 pn c1) := (hR1.cell 0).trans rfl
       clear hown1 hT1 hb1)
    | (go_at_call 43; (refine (pdeg_ok p A1 pn c1 P _ HO.out hI1 HPA.out hpc hpn).mono ?_); rintro e w2 ⟨rfl, hb2⟩
       rw [HT.out]
       have hbb2 := bnext hbb1 hb2
       have hF2 := hF1.below hb2 hF1.lt
       have hR2 := hR1.below hb2 hR1.lt
       have hS2 := hS1.upto hb2
       have hI2 := hI1.upto hb2
       have hJ2 := hJ1.upto hb2
       clear hb2)
    | (go_at_call 44; (refine (ucount_any A m c vs bs _ hS2 hm).mono ?_); rintro e w3 ⟨rfl, hb3⟩
       rw [HN.out]
       have hbb3 := bnext hbb2 hb3
       have hF3 := hF2.below hb3 hF2.lt
       have hR3 := hR2.below hb3 hR2.lt
       have hS3 := hS2.upto hb3
       have hI3 := hI2.upto hb3
       have hJ3 := hJ2.upto hb3
       have hcF3 : w3.cell? ⟨w.heap.size, 0, none⟩ = some (.int .i64 p) := (hF3.cell 0).trans rfl
       have hcR3 : w3.cell? ⟨w.heap.size + 1, 0, none⟩ = some (.slice A1 pn c1) := (hR3.cell 0).trans rfl
       clear hb3)
    | (go_at_call 25; (refine (uradius_ok N k _ hk hkl (by omega)).mono ?_); rintro e w' ⟨rfl, rfl⟩
       rw [HV.out])
    | (go_at_call 45; (refine (uwrongs_ok p A m c vs bs A1 pn c1 P _ hp hS3 hm hmp hI3 HPA.out hpn).mono ?_); rintro e w4 ⟨⟨A4, c4, rfl, hown4⟩, hb4⟩
       rw [HL.out, HWL.out, HWN.out] at hown4
       rw [HL.out, HWL.out, HWN.out]
       have hbb4 := bnext hbb3 hb4
       have hR4 := hR3.below hb4 hR3.lt
       have hJ4 := hJ3.upto hb4
       have hO4 := hown4.ints
       have hcR4 : w4.cell? ⟨w.heap.size + 1, 1, none⟩ = some (.slice A2 wn c2) := (hR4.cell 1).trans rfl
       clear hb4 hown4))
  go_ret
  exact ⟨rfl, hbb4⟩
set_option maxRecDepth 100000 in
set_option maxHeartbeats 1600000 in
theorem ucheck_other (p : Int) (A : Option Addr) (m c k : Nat) (vs : List Int) (bs : List Bool) (A1 A2 : Option Addr) (pn c1 wn c2 : Nat) (P ws : List Int) (w : World) (hok : okP p = true) (h : Cel w w.heap.size A m vs bs) (hm : m ≤ 32) (hmp : (m : Int) < p) (hkn : knOk p vs bs) (hk : 1 ≤ k) (hkm : k ≤ m) (hkl : k ≤ (knL vs bs).length)
    (h1 : Ints w w.heap.size A1 pn P) (hpc : pn ≤ c1) (hpn : pn ≤ 17592186044416) (h2 : Ints w w.heap.size A2 wn ws) (hwn : wn ≤ 17592186044416) (hP : allP p P = true) (hp5 : pn ≤ 512) (hd : tn P pn ≤ k) (hv : (wrL p P (knL vs bs)).length ≤ ((knL vs bs).length - k) / 2) (hws : wrL p P (knL vs bs) ≠ ws) :
    Calls Tryd.prog 20 #[.agg #[.int .i64 p], .slice A m c, .int .i64 k, .agg #[.slice A1 pn c1, .slice A2 wn c2]] w fun e w' => e = .returned (.int .i64 12) ∧ Below w.heap.size w w' := by
  have hp := okP_pos hok
  have HO := Lib.hid hok
  have HKN := Lib.hid hkn
  have hln : (knL vs bs).length ≤ m := by have := knL_len vs bs; rw [h.1] at this; exact this
  obtain ⟨N, hN⟩ : ∃ N, (knL vs bs).length = N := ⟨_, rfl⟩
  have HN := Lib.hid hN
  rw [hN] at hln hkl
  have hb0 : Below w.heap.size w ((w.alloc (.cells #[.int .i64 p] 24)).alloc (.cells #[.slice A1 pn c1, .slice A2 wn c2] 27)) := ballocs (bbox _) _
  have hF0 := (Blk.new w 24 #[.int .i64 p]).alloc (.cells #[.slice A1 pn c1, .slice A2 wn c2] 27)
  have hR0 := Blk.new1 w (.cells #[.int .i64 p] 24) 27 #[.slice A1 pn c1, .slice A2 wn c2]
  have hS0 := (h.below hb0).more hb0.size
  have hI0 := h1.upto hb0
  have hJ0 := h2.upto hb0
  have hp64 : -9223372036854775808 ≤ p ∧ p ≤ 9223372036854775807 := by omega
  have HPA := Lib.hid hP
  have hpn := hp5
  obtain ⟨l, hl⟩ : ∃ l, knL vs bs = l := ⟨_, rfl⟩
  obtain ⟨v, hvE⟩ : ∃ v, (N - k) / 2 = v := ⟨_, rfl⟩
  obtain ⟨wl, hwl⟩ : ∃ wl, wrL p P l = wl := ⟨_, rfl⟩
  obtain ⟨q, hq⟩ : ∃ q, wl.length = q := ⟨_, rfl⟩
  obtain ⟨t, ht⟩ : ∃ t, tn P pn = t := ⟨_, rfl⟩
  have HL := Lib.hid hl
  have HV := Lib.hid hvE
  have HWL := Lib.hid hwl
  have HT := Lib.hid ht
  have HWN := Lib.hid hq
  have hv1 : ¬ (v : Int) < (q : Int) := by rw [hN, hvE, hl, hwl, hq] at hv; omega
  have HSL : Hid (sameL wl ws = false) := Lib.hid (by rw [hl, hwl] at hws; rw [← Bool.not_eq_true, sameL_iff]; exact hws)
  clear hv hws
  have hq32 : q ≤ 32 := by rw [← hq, ← hwl, ← hl]; exact Nat.le_trans (wrL_len p P _) (by rw [hN]; omega)
  rw [ht] at hd
  have hdk : ¬ (k : Int) ≤ (t : Int) - 1 := by omega
  clear hok hkn hP h h1 h2 hl hvE hwl ht hq
  go_enter Tryd.func20, Tryd.ntmps20
  go_wp2_with (first
    | (go_at_call 42; (refine (fill_ok p A m c k vs bs _ HO.out hS0 hm hmp HKN.out hk hkm (by rw [HN.out]; exact hkl)).mono ?_); rintro e w1 ⟨⟨R, A3, c3, rfl, hown1, hT1⟩, hb1⟩
       have hbb1 := bnext hb0 hb1
       have hF1 := hF0.below hb1 hF0.lt
       have hR1 := hR0.below hb1 hR0.lt
       have hS1 := hS0.upto hb1
       have hI1 := hI0.upto hb1
       have hJ1 := hJ0.upto hb1
       have hcF1 : w1.cell? ⟨w.heap.size, 0, none⟩ = some (.int .i64 p) := (hF1.cell 0).trans rfl
       have hcR1 : w1.cell? ⟨w.heap.size + 1, 0, none⟩ = some (.slice A1 pn c1) := (hR1.cell 0).trans rfl
       clear hown1 hT1 hb1)
    | (go_at_call 43; (refine (pdeg_ok p A1 pn c1 P _ HO.out hI1 HPA.out hpc hpn).mono ?_); rintro e w2 ⟨rfl, hb2⟩
       rw [HT.out]
       have hbb2 := bnext hbb1 hb2
       have hF2 := hF1.below hb2 hF1.lt
       have hR2 := hR1.below hb2 hR1.lt
       have hS2 := hS1.upto hb2
       have hI2 := hI1.upto hb2
       have hJ2 := hJ1.upto hb2
       clear hb2)
    | (go_at_call 44; (refine (ucount_any A m c vs bs _ hS2 hm).mono ?_); rintro e w3 ⟨rfl, hb3⟩
       rw [HN.out]
       have hbb3 := bnext hbb2 hb3
       have hF3 := hF2.below hb3 hF2.lt
       have hR3 := hR2.below hb3 hR2.lt
       have hS3 := hS2.upto hb3
       have hI3 := hI2.upto hb3
       have hJ3 := hJ2.upto hb3
       have hcF3 : w3.cell? ⟨w.heap.size, 0, none⟩ = some (.int .i64 p) := (hF3.cell 0).trans rfl
       have hcR3 : w3.cell? ⟨w.heap.size + 1, 0, none⟩ = some (.slice A1 pn c1) := (hR3.cell 0).trans rfl
       clear hb3)
    | (go_at_call 25; (refine (uradius_ok N k _ hk hkl (by omega)).mono ?_); rintro e w' ⟨rfl, rfl⟩
       rw [HV.out])
    | (go_at_call 45; (refine (uwrongs_ok p A m c vs bs A1 pn c1 P _ hp hS3 hm hmp hI3 HPA.out hpn).mono ?_); rintro e w4 ⟨⟨A4, c4, rfl, hown4⟩, hb4⟩
       rw [HL.out, HWL.out, HWN.out] at hown4
       rw [HL.out, HWL.out, HWN.out]
       have hbb4 := bnext hbb3 hb4
       have hR4 := hR3.below hb4 hR3.lt
       have hJ4 := hJ3.upto hb4
       have hO4 := hown4.ints
       have hcR4 : w4.cell? ⟨w.heap.size + 1, 1, none⟩ = some (.slice A2 wn c2) := (hR4.cell 1).trans rfl
       clear hb4 hown4)
    | (go_at_call 46; (refine (equal_any A4 A2 q wn c4 c2 wl ws _ hO4 hJ4 (by omega) (by omega)).mono ?_); rintro e w5 ⟨rfl, q5, rfl⟩
       rw [HSL.out]))
  go_ret
  exact ⟨rfl, below_drewN hbb4 _⟩
set_option maxRecDepth 100000 in
set_option maxHeartbeats 1600000 in
theorem ucheck_same (p : Int) (A : Option Addr) (m c k : Nat) (vs : List Int) (bs : List Bool) (A1 A2 : Option Addr) (pn c1 wn c2 : Nat) (P ws : List Int) (w : World) (hok : okP p = true) (h : Cel w w.heap.size A m vs bs) (hm : m ≤ 32) (hmp : (m : Int) < p) (hkn : knOk p vs bs) (hk : 1 ≤ k) (hkm : k ≤ m) (hkl : k ≤ (knL vs bs).length)
    (h1 : Ints w w.heap.size A1 pn P) (hpc : pn ≤ c1) (hpn : pn ≤ 17592186044416) (h2 : Ints w w.heap.size A2 wn ws) (hwn : wn ≤ 17592186044416) (hP : allP p P = true) (hp5 : pn ≤ 512) (hd : tn P pn ≤ k) (hv : (wrL p P (knL vs bs)).length ≤ ((knL vs bs).length - k) / 2) (hws : wrL p P (knL vs bs) = ws) :
    Calls Tryd.prog 20 #[.agg #[.int .i64 p], .slice A m c, .int .i64 k, .agg #[.slice A1 pn c1, .slice A2 wn c2]] w fun e w' => e = .returned (.int .i64 0) ∧ Below w.heap.size w w' := by
  have hp := okP_pos hok
  have HO := Lib.hid hok
  have HKN := Lib.hid hkn
  have hln : (knL vs bs).length ≤ m := by have := knL_len vs bs; rw [h.1] at this; exact this
  obtain ⟨N, hN⟩ : ∃ N, (knL vs bs).length = N := ⟨_, rfl⟩
  have HN := Lib.hid hN
  rw [hN] at hln hkl
  have hb0 : Below w.heap.size w ((w.alloc (.cells #[.int .i64 p] 24)).alloc (.cells #[.slice A1 pn c1, .slice A2 wn c2] 27)) := ballocs (bbox _) _
  have hF0 := (Blk.new w 24 #[.int .i64 p]).alloc (.cells #[.slice A1 pn c1, .slice A2 wn c2] 27)
  have hR0 := Blk.new1 w (.cells #[.int .i64 p] 24) 27 #[.slice A1 pn c1, .slice A2 wn c2]
  have hS0 := (h.below hb0).more hb0.size
  have hI0 := h1.upto hb0
  have hJ0 := h2.upto hb0
  have hp64 : -9223372036854775808 ≤ p ∧ p ≤ 9223372036854775807 := by omega
  have HPA := Lib.hid hP
  have hpn := hp5
  obtain ⟨l, hl⟩ : ∃ l, knL vs bs = l := ⟨_, rfl⟩
  obtain ⟨v, hvE⟩ : ∃ v, (N - k) / 2 = v := ⟨_, rfl⟩
  obtain ⟨wl, hwl⟩ : ∃ wl, wrL p P l = wl := ⟨_, rfl⟩
  obtain ⟨q, hq⟩ : ∃ q, wl.length = q := ⟨_, rfl⟩
  obtain ⟨t, ht⟩ : ∃ t, tn P pn = t := ⟨_, rfl⟩
  have HL := Lib.hid hl
  have HV := Lib.hid hvE
  have HWL := Lib.hid hwl
  have HT := Lib.hid ht
  have HWN := Lib.hid hq
  have hv1 : ¬ (v : Int) < (q : Int) := by rw [hN, hvE, hl, hwl, hq] at hv; omega
  have HSL : Hid (sameL wl ws = true) := Lib.hid (by rw [hl, hwl] at hws; exact sameL_iff.2 hws)
  clear hv hws
  have hq32 : q ≤ 32 := by rw [← hq, ← hwl, ← hl]; exact Nat.le_trans (wrL_len p P _) (by rw [hN]; omega)
  rw [ht] at hd
  have hdk : ¬ (k : Int) ≤ (t : Int) - 1 := by omega
  clear hok hkn hP h h1 h2 hl hvE hwl ht hq
  go_enter Tryd.func20, Tryd.ntmps20
  go_wp2_with (first
    | (go_at_call 42; (refine (fill_ok p A m c k vs bs _ HO.out hS0 hm hmp HKN.out hk hkm (by rw [HN.out]; exact hkl)).mono ?_); rintro e w1 ⟨⟨R, A3, c3, rfl, hown1, hT1⟩, hb1⟩
       have hbb1 := bnext hb0 hb1
       have hF1 := hF0.below hb1 hF0.lt
       have hR1 := hR0.below hb1 hR0.lt
       have hS1 := hS0.upto hb1
       have hI1 := hI0.upto hb1
       have hJ1 := hJ0.upto hb1
       have hcF1 : w1.cell? ⟨w.heap.size, 0, none⟩ = some (.int .i64 p) := (hF1.cell 0).trans rfl
       have hcR1 : w1.cell? ⟨w.heap.size + 1, 0, none⟩ = some (.slice A1 pn c1) := (hR1.cell 0).trans rfl
       clear hown1 hT1 hb1)
    | (go_at_call 43; (refine (pdeg_ok p A1 pn c1 P _ HO.out hI1 HPA.out hpc hpn).mono ?_); rintro e w2 ⟨rfl, hb2⟩
       rw [HT.out]
       have hbb2 := bnext hbb1 hb2
       have hF2 := hF1.below hb2 hF1.lt
       have hR2 := hR1.below hb2 hR1.lt
       have hS2 := hS1.upto hb2
       have hI2 := hI1.upto hb2
       have hJ2 := hJ1.upto hb2
       clear hb2)
    | (go_at_call 44; (refine (ucount_any A m c vs bs _ hS2 hm).mono ?_); rintro e w3 ⟨rfl, hb3⟩
       rw [HN.out]
       have hbb3 := bnext hbb2 hb3
       have hF3 := hF2.below hb3 hF2.lt
       have hR3 := hR2.below hb3 hR2.lt
       have hS3 := hS2.upto hb3
       have hI3 := hI2.upto hb3
       have hJ3 := hJ2.upto hb3
       have hcF3 : w3.cell? ⟨w.heap.size, 0, none⟩ = some (.int .i64 p) := (hF3.cell 0).trans rfl
       have hcR3 : w3.cell? ⟨w.heap.size + 1, 0, none⟩ = some (.slice A1 pn c1) := (hR3.cell 0).trans rfl
       clear hb3)
    | (go_at_call 25; (refine (uradius_ok N k _ hk hkl (by omega)).mono ?_); rintro e w' ⟨rfl, rfl⟩
       rw [HV.out])
    | (go_at_call 45; (refine (uwrongs_ok p A m c vs bs A1 pn c1 P _ hp hS3 hm hmp hI3 HPA.out hpn).mono ?_); rintro e w4 ⟨⟨A4, c4, rfl, hown4⟩, hb4⟩
       rw [HL.out, HWL.out, HWN.out] at hown4
       rw [HL.out, HWL.out, HWN.out]
       have hbb4 := bnext hbb3 hb4
       have hR4 := hR3.below hb4 hR3.lt
       have hJ4 := hJ3.upto hb4
       have hO4 := hown4.ints
       have hcR4 : w4.cell? ⟨w.heap.size + 1, 1, none⟩ = some (.slice A2 wn c2) := (hR4.cell 1).trans rfl
       clear hb4 hown4)
    | (go_at_call 46; (refine (equal_any A4 A2 q wn c4 c2 wl ws _ hO4 hJ4 (by omega) (by omega)).mono ?_); rintro e w5 ⟨rfl, q5, rfl⟩
       rw [HSL.out]))
  go_ret
  exact ⟨rfl, below_drewN hbb4 _⟩
theorem ucheck_all (p : Int) (A : Option Addr) (m c k : Nat) (vs : List Int) (bs : List Bool) (A1 A2 : Option Addr) (pn c1 wn c2 : Nat) (P ws : List Int) (w : World) (hok : okP p = true) (h : Cel w w.heap.size A m vs bs) (hm : m ≤ 32) (hmp : (m : Int) < p) (hkn : knOk p vs bs) (hk : 1 ≤ k) (hkm : k ≤ m) (hkl : k ≤ (knL vs bs).length)
    (h1 : Ints w w.heap.size A1 pn P) (hpc : pn ≤ c1) (hpn : pn ≤ 17592186044416) (h2 : Ints w w.heap.size A2 wn ws) (hwn : wn ≤ 17592186044416) :
    Calls Tryd.prog 20 #[.agg #[.int .i64 p], .slice A m c, .int .i64 k, .agg #[.slice A1 pn c1, .slice A2 wn c2]] w fun e w' => e = .returned (.int .i64 (chkR p k (knL vs bs) P ws)) ∧ Below w.heap.size w w' := by
  unfold chkR
  rw [h1.len]
  by_cases h0 : errL p [P] = 0
  · by_cases hd : tn P pn ≤ k
    · rw [if_pos ⟨h0, hd⟩]
      have h9 := errL_one h0
      have hp5 : pn ≤ 512 := by (have h8 := h9.2.2); rw [h1.len] at h8; exact h8
      by_cases hv : (wrL p P (knL vs bs)).length ≤ ((knL vs bs).length - k) / 2
      · by_cases hws : wrL p P (knL vs bs) = ws
        · rw [if_pos ⟨hv, hws⟩]
          exact ucheck_same p A m c k vs bs A1 A2 pn c1 wn c2 P ws w hok h hm hmp hkn hk hkm hkl h1 hpc hpn h2 hwn h9.2.1 hp5 hd hv hws
        · rw [if_neg (fun h => hws h.2)]
          exact ucheck_other p A m c k vs bs A1 A2 pn c1 wn c2 P ws w hok h hm hmp hkn hk hkm hkl h1 hpc hpn h2 hwn h9.2.1 hp5 hd hv hws
      · rw [if_neg (fun h => hv h.1)]
        exact ucheck_far p A m c k vs bs A1 A2 pn c1 wn c2 P ws w hok h hm hmp hkn hk hkm hkl h1 hpc hpn h2 hwn h9.2.1 hp5 hd (by omega)
    · rw [if_neg (fun h => hd h.2)]
      exact ucheck_poly p A m c k vs bs A1 A2 pn c1 wn c2 P ws w hok h hm hmp hkn hk hkm hkl h1 hpc hpn h2 hwn (.inr ⟨h0, hd⟩)
  · rw [if_neg (fun h => h0 h.1)]
    exact ucheck_poly p A m c k vs bs A1 A2 pn c1 wn c2 P ws w hok h hm hmp hkn hk hkm hkl h1 hpc hpn h2 hwn (.inl h0)
end Go.Proofs.YtnjdjcgandfnfaaDoor

/-! CellAll -/
namespace Go.Proofs.YtnjdjcgandfnfaaDoor
open Go.RowKit Go.Shelf
set_option linter.unusedVariables false
attribute [local go_sem] Oper.semAt_some

set_option maxRecDepth 100000 in
set_option maxHeartbeats 4000000 in
theorem cells_bad (p : Int) (A : Option Addr) (m c : Nat) (vs : List Int) (bs : List Bool) (w : World) (hok : okP p = true) (h : Cel w w.heap.size A m vs bs) (hm : m ≤ 32) (hmp : (m : Int) < p) (hk : ¬ knOk p vs bs) :
    Calls Tryd.prog 65 #[.agg #[.int .i64 p], .slice A m c] w fun e w' => e = .returned (.tuple #[.int .i64 0, .int .i64 0, .int .i64 9]) ∧ Below w.heap.size w w' := by
  have hp := okP_pos hok
  have HO := Lib.hid hok
  have HKN := Lib.hid hk
  have hl := h.1
  have hmi : ¬ ((32 : Int) < (m : Int)) := by omega
  have hmiN : ¬ 32 < m := by omega
  have hmpi : ¬ (p ≤ (m : Int)) := by omega
  clear hok hk
  refine (callsIn_wide (n := 5)).1 ?_
  refine callsIn_of_wp_marks Tryd.func65 rfl trivial ?_ rfl
  simp only [Tryd.ntmps65, List.size_toArray, List.length_cons, List.length_nil, Nat.reduceAdd, Nat.reduceSub, Array.replicate_succ, Array.replicate_zero, List.push_toArray, List.append_toArray, List.nil_append, List.cons_append]
  have hw0 : Below w.heap.size w ((((w.alloc (.cells #[.int .i64 p] 24)).alloc (.cells #[.int .i64 0] 82)).alloc (.cells #[.int .i64 0] 3)).alloc (.cells #[.int .i64 0] 36)) := ballocs (ballocs (ballocs (bbox _) _) _) _
  have hB4 := blk4 w 24 82 3 36 #[.int .i64 p] #[.int .i64 0] #[.int .i64 0] #[.int .i64 0]
  gi_wp2_with (first
    | (refine ⟨trivial, ?_⟩; gi_at_call 80; refine (callsIn_wide.2 (of_yes p _ HO.out)).mono ?_; rintro e w1 ⟨rfl, hb1⟩
       have hF1 := hB4.1.below hb1 hB4.1.lt
       have hcF1 : (w1.alloc (.cells #[.int .i64 p] 82)).cell? ⟨w.heap.size, 0, none⟩ = some (.int .i64 p) := ((hF1.alloc _).cell 0).trans rfl
       have hR4 := hB4.2.1.below hb1 hB4.2.1.lt
       have hR5 := hB4.2.2.1.below hb1 hB4.2.2.1.lt
       have hR6 := hB4.2.2.2.below hb1 hB4.2.2.2.lt
       have hw1 := bnext hw0 hb1
       have hsz1 : w.heap.size + 4 ≤ w1.heap.size := by have := hb1.size; simp at this; omega
       clear hB4 hb1)
    | (refine ⟨trivial, ?_⟩; gi_at_call 81; refine (callsIn_wide.2 (known_any A m c _)).mono ?_; rintro e w' ⟨rfl, rfl⟩))
  obtain ⟨W4, hW4⟩ : ∃ W4, ((w1.alloc (.cells #[.int .i64 p] 82)).alloc (.cells #[.int .i64 0] 3)).alloc (.cells #[.slice A m c] 25) = W4 := ⟨_, rfl⟩
  have hsz : W4.heap.size = w1.heap.size + 3 := by rw [← hW4]; simp
  have hB3 := blk3 w1 82 3 25 #[.int .i64 p] #[.int .i64 0] #[.slice A m c]
  rw [hW4] at hB3
  obtain ⟨bP, bN, bL⟩ := hB3
  have hB0 : Below w.heap.size w W4 := by rw [← hW4]; exact ballocs (ballocs (ballocs hw1 _) _) _
  have hB14 : Below w1.heap.size w1 W4 := by rw [← hW4]; exact ballocs (ballocs (bbox _) _) _
  have bR4 := hR4.below hB14 hR4.lt
  have bR5 := hR5.below hB14 hR5.lt
  have bR6 := hR6.below hB14 hR6.lt
  have hC4 : Cel W4 (w1.heap.size + 1) A m vs bs := (h.below hB0).more (by omega)
  rw [hW4]
  clear hW4 hcF1 hF1 hR4 hR5 hR6 hw0 hw1 hB14
  refine wpIn_rangeFunc_ownG (α := KnElt vs bs) rfl (by omega) (gf := 88) (lb := #[.pointer (some ⟨w1.heap.size + 1 + 1, 0, none⟩)]) rfl trivial (enters_of Tryd.func88 (by kernel_rfl) rfl)
    (encs := fun y : KnElt vs bs => #[Value.int .i64 y.1.1, Value.int .i64 y.1.2]) (Kp := KeepsB (w1.heap.size + 3) (w1.heap.size + 1)) (S := fun ys => eltsOf ys = knL vs bs) (Sp := fun pre => ∃ k, eltsOf pre = (knL vs bs).take k) (N := (knL vs bs).length) (w0 := W4)
    (fun l J Jx W hW hJ _ hY h0 => known1_in _ (by omega) l (w1.heap.size + 1 + 1) (w1.heap.size + 3) (w1.heap.size + 1) m A c vs bs (by omega) J Jx hJ hY W (by have := hW.size; omega) (by omega) (by omega) (by omega) ((hW.cell (p := ⟨w1.heap.size + 1 + 1, 0, none⟩) (by simp; omega)).trans ((bL.cell 0).trans rfl)) (hC4.below (hW.mono (by omega))) h0)
    KeepsB.trans (KeepsB.put (by omega)) (Below.refl _ _) (fun _ => rfl)
    (fun pre W => KeepsB (w1.heap.size + 3) (w1.heap.size + 1) W4 W ∧ (W.cell? ⟨w1.heap.size + 1, 0, none⟩ = some (.int .i64 (pre.length : Int)) ∧ W.frozen? ⟨w1.heap.size + 1, 0, none⟩ = false) ∧ (∀ e ∈ eltsOf pre, inP p e.2 = true) ∧ Below w.heap.size w W)
    (fun cc pre W => cc = .ret ∧ W.cell? ⟨w.heap.size + 1, 0, none⟩ = some (.int .i64 0) ∧ W.cell? ⟨w.heap.size + 1 + 1, 0, none⟩ = some (.int .i64 0) ∧ W.cell? ⟨w.heap.size + 1 + 1 + 1, 0, none⟩ = some (.int .i64 9) ∧ Below w.heap.size w W)
    (fun s W W' row hs hg hr => by
      obtain ⟨h1, ⟨h2, h3⟩, h4, h5⟩ := hs
      have hr2 : ∀ r, row = some r → ∃ o : Obj, W.heap[r]? = some o ∧ o.isCells = false := fun r e => (hr r e).2
      exact ⟨ownFrom_keepsB (β := Unit) (by omega) (by omega) () W W' row h1 hg hr, ⟨cell_kept h2 hg hr2, (frozen_kept h2 hg hr2).trans h3⟩, h4, ownFrom_below (β := Unit) (Nat.le_refl _) (by omega) () W W' row h5 hg hr⟩)
    (fun cc s W W' row hs hg hr => by
      obtain ⟨h0, h1, h2, h3, h5⟩ := hs
      have hr2 : ∀ r, row = some r → ∃ o : Obj, W.heap[r]? = some o ∧ o.isCells = false := fun r e => (hr r e).2
      exact ⟨h0, cell_kept h1 hg hr2, cell_kept h2 hg hr2, cell_kept h3 hg hr2, ownFrom_below (β := Unit) (Nat.le_refl _) (by omega) () W W' row h5 hg hr⟩)
    ⟨KeepsB.refl _ _ _, ⟨(bN.cell 0).trans rfl, bN.frozen 0⟩, (fun e he => by cases he), hB0⟩
    (fun y => { tmps := #[.agg #[.int .i64 p], .slice A m c, .pointer (some ⟨w.heap.size, 0, none⟩), undef, .pointer (some ⟨w.heap.size + 1, 0, none⟩), .pointer (some ⟨w.heap.size + 1 + 1, 0, none⟩), .pointer (some ⟨w.heap.size + 1 + 1 + 1, 0, none⟩), .pointer (some ⟨w1.heap.size, 0, none⟩), .bool true, .pointer (some ⟨w1.heap.size + 1, 0, none⟩), undef, .int .i64 y.1.2, .tuple #[.int .i64 p, .bool true], .agg #[.int .i64 p], .tuple #[.int .i64 p, .bool true], .int .i64 p, .bool true, .bool true, .bool false, .slice A m c, .int .i64 m, .bool (decide ((32 : Int) < (m : Int))), .bool (decide ((32 : Int) < (m : Int))), .slice A m c, .int .i64 m, .pointer (some ⟨w.heap.size, 0, none⟩), .int .i64 p, .bool (decide (p ≤ (m : Int))), .bool (decide ((32 : Int) < (m : Int)) || decide (p ≤ (m : Int))), .slice A m c, .func (.func 88) #[] #[.pointer (some ⟨w1.heap.size + 1 + 1, 0, none⟩)], .int .i64 y.1.1, .int .i64 y.1.2, undef, undef, undef, undef, undef, undef, undef, undef], defers := [] }) ?assign ?body ?done ?stop
  case assign =>
    intro l y W K hK
    gi_wp2
    exact hK
  case body =>
    rintro l pre y W ⟨hKB, ⟨hcn, hfn⟩, hAll, hB⟩ hlt
    have hd : 1 ≤ 5 - 1 - 1 := by omega
    have hcp : W.cell? ⟨w1.heap.size, 0, none⟩ = some (.int .i64 p) := ((hKB.blk (by omega) (by omega) bP).cell 0).trans rfl
    have hkl := knL_len vs bs
    have hnw : IntKind.i64.wrap ((pre.length : Int) + 1) = (pre.length : Int) + 1 := IntWalk.i64_in _ (by omega)
    have HAll := Lib.hid hAll
    clear hAll
    by_cases hin : inP p y.1.2 = true
    · have HIN := Lib.hid hin
      have HA2 : Hid (∀ e ∈ eltsOf (pre ++ [y]), inP p e.2 = true) := Lib.hid (by
        rw [eltsOf_snoc]
        intro e he
        rcases List.mem_append.1 he with h1 | h1
        · exact HAll.out e h1
        · rw [List.mem_singleton.1 h1]; exact hin)
      clear hin
      gi_wp2_with (refine ⟨trivial, ?_⟩; gi_at_call 82; refine (CallsIn.inRound l (callsIn_wide.2 (has_any p y.1.2 _))).mono ?_; rintro e w' ⟨rfl, rfl⟩; rw [HIN.out])
      have hpl : ((pre ++ [y]).length : Int) = (pre.length : Int) + 1 := by simp
      exact ⟨(KeepsOthers.setCell _ _ _).from _, (KeepsB.refl _ _ _).setGs 0 _, hKB.setGs 0 _, ⟨(World.cell?_setCell_same' _ _ _ (by rw [hcn]; rfl)).trans (by rw [hpl]), (World.frozen?_setCell _ _ _ _).trans hfn⟩, HA2.out, hB.setCell (p := ⟨w1.heap.size + 1, 0, none⟩) (by simp; omega) _⟩
    · have hin2 : inP p y.1.2 = false := by simpa using hin
      have HIN := Lib.hid hin2
      clear hin hin2
      have gR4 := hKB.blk (by omega) (by omega) bR4
      have gR5 := hKB.blk (by omega) (by omega) bR5
      have gR6 := hKB.blk (by omega) (by omega) bR6
      have hc4 : W.cell? ⟨w.heap.size + 1, 0, none⟩ = some (.int .i64 0) := (gR4.cell 0).trans rfl
      have hc5 : W.cell? ⟨w.heap.size + 1 + 1, 0, none⟩ = some (.int .i64 0) := (gR5.cell 0).trans rfl
      have hc6 : W.cell? ⟨w.heap.size + 1 + 1 + 1, 0, none⟩ = some (.int .i64 0) := (gR6.cell 0).trans rfl
      have hf4 := gR4.frozen 0
      have hf5 := gR5.frozen 0
      have hf6 := gR6.frozen 0
      gi_wp2_with (refine ⟨trivial, ?_⟩; gi_at_call 82; refine (CallsIn.inRound l (callsIn_wide.2 (has_any p y.1.2 _))).mono ?_; rintro e w' ⟨rfl, rfl⟩; rw [HIN.out])
      refine ⟨(((KeepsOthers.setCell _ _ _).trans (KeepsOthers.setCell _ _ _)).trans (KeepsOthers.setCell _ _ _)).from _, rfl, ?_, ?_, ?_, ((hB.setCell (by simp) _).setCell (by simp; omega) _).setCell (by simp; omega) _⟩
      · go_simp
      · go_simp
      · go_simp
  case done =>
    rintro D ys W hD hS ⟨hKB, ⟨hcn, hfn⟩, hAll, hB⟩ hK
    exact absurd (fun e he => inP_iff.1 (hAll e (by rw [hS]; exact he))) HKN.out
  case stop =>
    rintro D cc pre W hD _ ⟨rfl, h4, h5, h6, hB⟩ hK
    gi_wp2
    refine leave3 (u := 0) (v := 0) (x := 9) (B := w.heap.size) (W0 := w) rfl rfl rfl rfl (fun w h => by go_simp) (fun w h => by go_simp) (fun w h => by go_simp) (by omega) (by omega) hK h4 h5 h6 hB (Nat.le_refl _) (fun w' hb => ⟨rfl, hb⟩)

set_option maxRecDepth 100000 in
theorem cells_field (p : Int) (A : Option Addr) (m c : Nat) (w : World) (hp64 : -9223372036854775808 ≤ p ∧ p ≤ 9223372036854775807) (hok : okP p = false) :
    Calls Tryd.prog 65 #[.agg #[.int .i64 p], .slice A m c] w fun e w' => e = .returned (.tuple #[.int .i64 0, .int .i64 0, .int .i64 9]) ∧ Below w.heap.size w w' := by
  have HO := Lib.hid hok
  clear hok
  have hw0 : Below w.heap.size w ((((w.alloc (.cells #[.int .i64 p] 24)).alloc (.cells #[.int .i64 0] 82)).alloc (.cells #[.int .i64 0] 3)).alloc (.cells #[.int .i64 0] 36)) := ballocs (ballocs (ballocs (bbox _) _) _) _
  have hB4 := blk4 w 24 82 3 36 #[.int .i64 p] #[.int .i64 0] #[.int .i64 0] #[.int .i64 0]
  go_enter Tryd.func65, Tryd.ntmps65
  go_wp2_with (go_at_call 80; refine (of_no p _ hp64 HO.out).mono ?_; rintro e w1 ⟨rfl, hb1⟩
               have hw1 := ballocs (bnext hw0 hb1) (.cells #[.int .i64 0] 82)
               have hR4 := (hB4.2.1.below hb1 hB4.2.1.lt).alloc (.cells #[.int .i64 0] 82)
               have hR5 := (hB4.2.2.1.below hb1 hB4.2.2.1.lt).alloc (.cells #[.int .i64 0] 82)
               have hR6 := (hB4.2.2.2.below hb1 hB4.2.2.2.lt).alloc (.cells #[.int .i64 0] 82)
               have hc4 : (w1.alloc (.cells #[.int .i64 0] 82)).cell? ⟨w.heap.size + 1, 0, none⟩ = some (.int .i64 0) := (hR4.cell 0).trans rfl
               have hc5 : (w1.alloc (.cells #[.int .i64 0] 82)).cell? ⟨w.heap.size + 1 + 1, 0, none⟩ = some (.int .i64 0) := (hR5.cell 0).trans rfl
               have hc6 : (w1.alloc (.cells #[.int .i64 0] 82)).cell? ⟨w.heap.size + 1 + 1 + 1, 0, none⟩ = some (.int .i64 0) := (hR6.cell 0).trans rfl
               have hf4 := hR4.frozen 0
               have hf5 := hR5.frozen 0
               have hf6 := hR6.frozen 0
               clear hb1 hw0)
  obtain ⟨W, hW⟩ : ∃ W, w1.alloc (.cells #[.int .i64 0] 82) = W := ⟨_, rfl⟩
  rw [hW] at hw1 hc4 hc5 hc6 hf4 hf5 hf6 ⊢
  have hg4 : (((W.setCell ⟨w.heap.size + 1, 0, none⟩ (.int .i64 0)).setCell ⟨w.heap.size + 1 + 1, 0, none⟩ (.int .i64 0)).setCell ⟨w.heap.size + 1 + 1 + 1, 0, none⟩ (.int .i64 9)).cell? ⟨w.heap.size + 1, 0, none⟩ = some (.int .i64 0) := by go_simp
  have hg5 : (((W.setCell ⟨w.heap.size + 1, 0, none⟩ (.int .i64 0)).setCell ⟨w.heap.size + 1 + 1, 0, none⟩ (.int .i64 0)).setCell ⟨w.heap.size + 1 + 1 + 1, 0, none⟩ (.int .i64 9)).cell? ⟨w.heap.size + 1 + 1, 0, none⟩ = some (.int .i64 0) := by go_simp
  have hg6 : (((W.setCell ⟨w.heap.size + 1, 0, none⟩ (.int .i64 0)).setCell ⟨w.heap.size + 1 + 1, 0, none⟩ (.int .i64 0)).setCell ⟨w.heap.size + 1 + 1 + 1, 0, none⟩ (.int .i64 9)).cell? ⟨w.heap.size + 1 + 1 + 1, 0, none⟩ = some (.int .i64 9) := by go_simp
  refine bodyPost_ret (v := .tuple #[.int .i64 0, .int .i64 0, .int .i64 9]) (by simp [results, Tryd.results65, go_sem, hg4, hg5, hg6]) rfl ⟨rfl, ((hw1.setCell (by simp) _).setCell (by simp; omega) _).setCell (by simp; omega) _⟩
end Go.Proofs.YtnjdjcgandfnfaaDoor

/-! FillG -/
namespace Go.Proofs.YtnjdjcgandfnfaaDoor
open Go.RowKit
set_option linter.unusedVariables false

/-- What filling finds: the error, too few, or the polynomial through the first known cells. -/
def FillR (p : Int) (vs : List Int) (bs : List Bool) (k : Int) (R : List Int) (er : Int) : Prop :=
  (beginE p vs bs k ≠ 0 ∧ R = [] ∧ er = beginE p vs bs k) ∨ (beginE p vs bs k = 0 ∧ ((knL vs bs).length : Int) < k ∧ R = [] ∧ er = 11) ∨
  (beginE p vs bs k = 0 ∧ k ≤ ((knL vs bs).length : Int) ∧ er = 0 ∧ Through p (ptK ((knL vs bs).take k.toNat)) (vlK ((knL vs bs).take k.toNat)) R)
/-- What Fill leaves. -/
def FillPost (p : Int) (vs : List Int) (bs : List Bool) (k : Int) (w : World) (e : Ending) (w' : World) : Prop :=
  ∃ (A : Option Addr) (n ca : Nat) (R : List Int) (er : Int), e = .returned (.tuple #[.slice A n ca, .int .i64 er]) ∧ n ≤ 32 ∧ n ≤ ca ∧ Ints w' w'.heap.size A n R ∧ FillR p vs bs k R er ∧ Below w.heap.size w w'
theorem fill_points {p : Int} {vs : List Int} {bs : List Bool} {k : Nat} (h : (vs.length : Int) < p) (hk : k ≤ (knL vs bs).length) : (ptK ((knL vs bs).take k)).Pairwise (fun x y => ¬ Cong p (y - x) 0) :=
  pairwise_of (by rw [ptK_take]; exact take_allP (ptK_allP vs bs h) k) fun i j h1 h2 => by
    rw [ptK_take]
    rw [ptK_take, List.length_take, ptK_len] at h2
    exact ((ptK_apart vs bs).take k) i j h1 (by rw [List.length_take, ptK_len]; omega)
theorem FillR.one {p : Int} {vs : List Int} {bs : List Bool} {k : Int} {R R' : List Int} {er er' : Int} (h : FillR p vs bs k R er) (h' : FillR p vs bs k R' er') : R = R' ∧ er = er' := by
  rcases h with ⟨h0, h1, h2⟩ | ⟨h0, h1, h2, h3⟩ | ⟨h0, h1, h2, h3⟩ <;> rcases h' with ⟨k0, k1, k2⟩ | ⟨k0, k1, k2, k3⟩ | ⟨k0, k1, k2, k3⟩
  · exact ⟨by rw [h1, k1], by rw [h2, k2]⟩
  · exact absurd k0 h0
  · exact absurd k0 h0
  · exact absurd h0 k0
  · exact ⟨by rw [h2, k2], by rw [h3, k3]⟩
  · omega
  · exact absurd h0 k0
  · omega
  · have hb := beginE_ok h0
    have hc := cellsE_ok hb.1
    refine ⟨?_, by rw [h2, k2]⟩
    have := Through.unique hc.1 h3 (fill_points hc.2.2.1 (by omega)) k3.al k3.ln k3.va
    rw [this, k3.tr.trimL]
set_option maxRecDepth 100000 in
theorem cells_size (p : Int) (A : Option Addr) (m c : Nat) (w : World) (hok : okP p = true) (hm : m ≤ 1000) (hs : 32 < m ∨ p ≤ (m : Int)) :
    Calls Tryd.prog 65 #[.agg #[.int .i64 p], .slice A m c] w fun e w' => e = .returned (.tuple #[.int .i64 0, .int .i64 0, .int .i64 4]) ∧ Below w.heap.size w w' := by
  have HO := Lib.hid hok
  clear hok
  have hw0 : Below w.heap.size w ((((w.alloc (.cells #[.int .i64 p] 24)).alloc (.cells #[.int .i64 0] 82)).alloc (.cells #[.int .i64 0] 3)).alloc (.cells #[.int .i64 0] 36)) := ballocs (ballocs (ballocs (bbox _) _) _) _
  have hB4 := blk4 w 24 82 3 36 #[.int .i64 p] #[.int .i64 0] #[.int .i64 0] #[.int .i64 0]
  by_cases h1 : 32 < m
  · have h1i : (32 : Int) < (m : Int) := by omega
    go_enter Tryd.func65, Tryd.ntmps65
    go_wp2_with (go_at_call 80; refine (of_yes p _ HO.out).mono ?_; rintro e w1 ⟨rfl, hb1⟩
                 have hw1 := ballocs (bnext hw0 hb1) (.cells #[.int .i64 p] 82)
                 have hF1 := (hB4.1.below hb1 hB4.1.lt).alloc (.cells #[.int .i64 p] 82)
                 have hR4 := (hB4.2.1.below hb1 hB4.2.1.lt).alloc (.cells #[.int .i64 p] 82)
                 have hR5 := (hB4.2.2.1.below hb1 hB4.2.2.1.lt).alloc (.cells #[.int .i64 p] 82)
                 have hR6 := (hB4.2.2.2.below hb1 hB4.2.2.2.lt).alloc (.cells #[.int .i64 p] 82)
                 have hcF1 : (w1.alloc (.cells #[.int .i64 p] 82)).cell? ⟨w.heap.size, 0, none⟩ = some (.int .i64 p) := (hF1.cell 0).trans rfl
                 have hc4 : (w1.alloc (.cells #[.int .i64 p] 82)).cell? ⟨w.heap.size + 1, 0, none⟩ = some (.int .i64 0) := (hR4.cell 0).trans rfl
                 have hc5 : (w1.alloc (.cells #[.int .i64 p] 82)).cell? ⟨w.heap.size + 1 + 1, 0, none⟩ = some (.int .i64 0) := (hR5.cell 0).trans rfl
                 have hc6 : (w1.alloc (.cells #[.int .i64 p] 82)).cell? ⟨w.heap.size + 1 + 1 + 1, 0, none⟩ = some (.int .i64 0) := (hR6.cell 0).trans rfl
                 have hf4 := hR4.frozen 0
                 have hf5 := hR5.frozen 0
                 have hf6 := hR6.frozen 0
                 clear hb1 hw0)
    obtain ⟨W, hW⟩ : ∃ W, w1.alloc (.cells #[.int .i64 p] 82) = W := ⟨_, rfl⟩
    rw [hW] at hw1 hc4 hc5 hc6 hf4 hf5 hf6 ⊢
    have hg4 : (((W.setCell ⟨w.heap.size + 1, 0, none⟩ (.int .i64 0)).setCell ⟨w.heap.size + 1 + 1, 0, none⟩ (.int .i64 0)).setCell ⟨w.heap.size + 1 + 1 + 1, 0, none⟩ (.int .i64 4)).cell? ⟨w.heap.size + 1, 0, none⟩ = some (.int .i64 0) := by go_simp
    have hg5 : (((W.setCell ⟨w.heap.size + 1, 0, none⟩ (.int .i64 0)).setCell ⟨w.heap.size + 1 + 1, 0, none⟩ (.int .i64 0)).setCell ⟨w.heap.size + 1 + 1 + 1, 0, none⟩ (.int .i64 4)).cell? ⟨w.heap.size + 1 + 1, 0, none⟩ = some (.int .i64 0) := by go_simp
    have hg6 : (((W.setCell ⟨w.heap.size + 1, 0, none⟩ (.int .i64 0)).setCell ⟨w.heap.size + 1 + 1, 0, none⟩ (.int .i64 0)).setCell ⟨w.heap.size + 1 + 1 + 1, 0, none⟩ (.int .i64 4)).cell? ⟨w.heap.size + 1 + 1 + 1, 0, none⟩ = some (.int .i64 4) := by go_simp
    exact bodyPost_ret (v := .tuple #[.int .i64 0, .int .i64 0, .int .i64 4]) (by simp [results, Tryd.results65, go_sem, hg4, hg5, hg6]) rfl ⟨rfl, ((hw1.setCell (by simp) _).setCell (by simp; omega) _).setCell (by simp; omega) _⟩
  · have h1i : ¬ (32 : Int) < (m : Int) := by omega
    have hge : p ≤ (m : Int) := by omega
    have hge5 : decide ((m : Int) ≥ p) = true := decide_eq_true hge
    go_enter Tryd.func65, Tryd.ntmps65
    go_wp2_with (go_at_call 80; refine (of_yes p _ HO.out).mono ?_; rintro e w1 ⟨rfl, hb1⟩
                 have hw1 := ballocs (bnext hw0 hb1) (.cells #[.int .i64 p] 82)
                 have hF1 := (hB4.1.below hb1 hB4.1.lt).alloc (.cells #[.int .i64 p] 82)
                 have hR4 := (hB4.2.1.below hb1 hB4.2.1.lt).alloc (.cells #[.int .i64 p] 82)
                 have hR5 := (hB4.2.2.1.below hb1 hB4.2.2.1.lt).alloc (.cells #[.int .i64 p] 82)
                 have hR6 := (hB4.2.2.2.below hb1 hB4.2.2.2.lt).alloc (.cells #[.int .i64 p] 82)
                 have hcF1 : (w1.alloc (.cells #[.int .i64 p] 82)).cell? ⟨w.heap.size, 0, none⟩ = some (.int .i64 p) := (hF1.cell 0).trans rfl
                 have hc4 : (w1.alloc (.cells #[.int .i64 p] 82)).cell? ⟨w.heap.size + 1, 0, none⟩ = some (.int .i64 0) := (hR4.cell 0).trans rfl
                 have hc5 : (w1.alloc (.cells #[.int .i64 p] 82)).cell? ⟨w.heap.size + 1 + 1, 0, none⟩ = some (.int .i64 0) := (hR5.cell 0).trans rfl
                 have hc6 : (w1.alloc (.cells #[.int .i64 p] 82)).cell? ⟨w.heap.size + 1 + 1 + 1, 0, none⟩ = some (.int .i64 0) := (hR6.cell 0).trans rfl
                 have hf4 := hR4.frozen 0
                 have hf5 := hR5.frozen 0
                 have hf6 := hR6.frozen 0
                 clear hb1 hw0)
    obtain ⟨W, hW⟩ : ∃ W, w1.alloc (.cells #[.int .i64 p] 82) = W := ⟨_, rfl⟩
    rw [hW] at hw1 hc4 hc5 hc6 hf4 hf5 hf6 ⊢
    have hg4 : (((W.setCell ⟨w.heap.size + 1, 0, none⟩ (.int .i64 0)).setCell ⟨w.heap.size + 1 + 1, 0, none⟩ (.int .i64 0)).setCell ⟨w.heap.size + 1 + 1 + 1, 0, none⟩ (.int .i64 4)).cell? ⟨w.heap.size + 1, 0, none⟩ = some (.int .i64 0) := by go_simp
    have hg5 : (((W.setCell ⟨w.heap.size + 1, 0, none⟩ (.int .i64 0)).setCell ⟨w.heap.size + 1 + 1, 0, none⟩ (.int .i64 0)).setCell ⟨w.heap.size + 1 + 1 + 1, 0, none⟩ (.int .i64 4)).cell? ⟨w.heap.size + 1 + 1, 0, none⟩ = some (.int .i64 0) := by go_simp
    have hg6 : (((W.setCell ⟨w.heap.size + 1, 0, none⟩ (.int .i64 0)).setCell ⟨w.heap.size + 1 + 1, 0, none⟩ (.int .i64 0)).setCell ⟨w.heap.size + 1 + 1 + 1, 0, none⟩ (.int .i64 4)).cell? ⟨w.heap.size + 1 + 1 + 1, 0, none⟩ = some (.int .i64 4) := by go_simp
    exact bodyPost_ret (v := .tuple #[.int .i64 0, .int .i64 0, .int .i64 4]) (by simp [results, Tryd.results65, go_sem, hg4, hg5, hg6]) rfl ⟨rfl, ((hw1.setCell (by simp) _).setCell (by simp; omega) _).setCell (by simp; omega) _⟩
theorem cells_err {p : Int} {A : Option Addr} {m c : Nat} {vs : List Int} {bs : List Bool} {w : World} (hp64 : -9223372036854775808 ≤ p ∧ p ≤ 9223372036854775807) (h : Cel w w.heap.size A m vs bs) (hm : m ≤ 1000) (he : cellsE p vs bs ≠ 0) :
    Calls Tryd.prog 65 #[.agg #[.int .i64 p], .slice A m c] w fun e w' => e = .returned (.tuple #[.int .i64 0, .int .i64 0, .int .i64 (cellsE p vs bs)]) ∧ Below w.heap.size w w' := by
  have hv := h.1
  by_cases hok : okP p = true
  · by_cases hs : 32 < m ∨ p ≤ (m : Int)
    · rw [cellsE_size hok (by rw [hv]; exact hs)]
      exact cells_size p A m c w hok hm hs
    · by_cases hk : knOk p vs bs
      · exact absurd (cellsE_yes hok (by rw [hv]; exact hs) hk) he
      · rw [cellsE_bad hok (by rw [hv]; exact hs) hk]
        exact cells_bad p A m c vs bs w hok h (by omega) (by omega) hk
  · have hokf : okP p = false := by simpa using hok
    rw [cellsE_field hokf]
    exact cells_field p A m c w hp64 hokf
set_option maxRecDepth 100000 in
theorem fill_err {p : Int} {A : Option Addr} {m c : Nat} {k : Int} {vs : List Int} {bs : List Bool} {w : World} (hp64 : -9223372036854775808 ≤ p ∧ p ≤ 9223372036854775807) (h : Cel w w.heap.size A m vs bs) (hm : m ≤ 1000) (hk64 : -9223372036854775808 ≤ k ∧ k ≤ 9223372036854775807) (he : beginE p vs bs k ≠ 0) :
    Calls Tryd.prog 42 #[.agg #[.int .i64 p], .slice A m c, .int .i64 k] w fun e w' => e = .returned (.tuple #[.slice none 0 0, .int .i64 (beginE p vs bs k)]) ∧ Below w.heap.size w w' := by
  have hb0 : Below w.heap.size w (w.alloc (.cells #[.int .i64 p] 24)) := bbox _
  have H0 := Lib.hid (h.upto hb0)
  have hv := h.1
  obtain ⟨ce, hce⟩ : ∃ ce, cellsE p vs bs = ce := ⟨_, rfl⟩
  by_cases h0 : ce = 0
  · have hbg : beginE p vs bs k = if k < 1 ∨ (m : Int) < k then 1 else 0 := by unfold beginE; rw [if_pos (by rw [hce, h0]), hv]
    have hc := cellsE_ok (hce.trans h0)
    have HC := Lib.hid hc
    have hkk : k < 1 ∨ (m : Int) < k := by
      rcases Decidable.em (k < 1 ∨ (m : Int) < k) with h1 | h1
      · exact h1
      · rw [if_neg h1] at hbg; exact absurd hbg he
    rw [if_pos hkk] at hbg
    rw [hbg]
    have hml : m ≤ 32 := by rw [← hv]; exact hc.2.1
    have hmp : (m : Int) < p := by rw [← hv]; exact hc.2.2.1
    clear hbg hce h0 he hc
    by_cases h1 : k < 1
    · go_enter Tryd.func42, Tryd.ntmps42
      go_wp2_with (go_at_call 65; refine (cells_ok p A m c vs bs _ HC.out.1 H0.out hml hmp HC.out.2.2.2).mono ?_; rintro e w1 ⟨rfl, hb1⟩
                   have hbb1 := bnext hb0 hb1)
      go_ret2
      exact ⟨rfl, hbb1⟩
    · have h2 : (m : Int) < k := by omega
      go_enter Tryd.func42, Tryd.ntmps42
      go_wp2_with (go_at_call 65; refine (cells_ok p A m c vs bs _ HC.out.1 H0.out hml hmp HC.out.2.2.2).mono ?_; rintro e w1 ⟨rfl, hb1⟩
                   have hbb1 := bnext hb0 hb1)
      go_ret2
      exact ⟨rfl, hbb1⟩
  · have HBG : Hid (beginE p vs bs k = ce) := Lib.hid (by unfold beginE; rw [hce, if_neg h0])
    have HCE := Lib.hid hce
    have HNE : Hid (cellsE p vs bs ≠ 0) := Lib.hid (by rw [hce]; exact h0)
    rw [HBG.out]
    clear hce HBG he
    go_enter Tryd.func42, Tryd.ntmps42
    go_wp2_with (go_at_call 65; refine (cells_err hp64 H0.out hm HNE.out).mono ?_; rintro e w1 ⟨rfl, hb1⟩; rw [HCE.out]
                 have hbb1 := bnext hb0 hb1)
    go_ret2
    exact ⟨rfl, hbb1⟩
theorem fill_all (p : Int) (A : Option Addr) (m c : Nat) (k : Int) (vs : List Int) (bs : List Bool) (w : World) (hp64 : -9223372036854775808 ≤ p ∧ p ≤ 9223372036854775807) (h : Cel w w.heap.size A m vs bs) (hm : m ≤ 1000) (hk64 : -9223372036854775808 ≤ k ∧ k ≤ 9223372036854775807) :
    Calls Tryd.prog 42 #[.agg #[.int .i64 p], .slice A m c, .int .i64 k] w (FillPost p vs bs k w) := by
  by_cases h0 : beginE p vs bs k = 0
  · have hb := beginE_ok h0
    have hc := cellsE_ok hb.1
    have hv := h.1
    obtain ⟨q, rfl⟩ : ∃ q : Nat, k = q := ⟨k.toNat, by omega⟩
    by_cases hl : (knL vs bs).length < q
    · refine (fill_few p A m c q vs bs w hc.1 h (by omega) (by omega) hc.2.2.2 (by omega) (by omega) hl).mono ?_
      rintro e w' ⟨rfl, hb⟩
      exact ⟨none, 0, 0, [], 11, rfl, by omega, by omega, Ints.nil_, .inr (.inl ⟨h0, by omega, rfl, rfl⟩), hb⟩
    · refine (fill_ok p A m c q vs bs w hc.1 h (by omega) (by omega) hc.2.2.2 (by omega) (by omega) (by omega)).mono ?_
      rintro e w' ⟨⟨R, A', c', rfl, hO, hT⟩, hb⟩
      have hRl : R.length ≤ 32 := by have := hT.ln; rw [ptK_len, List.length_take] at this; omega
      exact ⟨A', _, c', R, 0, rfl, hRl, hO.cap, hO.ints, .inr (.inr ⟨h0, by omega, rfl, hT⟩), hb⟩
  · refine (fill_err hp64 h hm hk64 h0).mono ?_
    rintro e w' ⟨rfl, hb⟩
    exact ⟨none, 0, 0, [], _, rfl, by omega, by omega, Ints.nil_, .inl ⟨h0, rfl, rfl⟩, hb⟩
theorem beginE_val {p : Int} {vs : List Int} {bs : List Bool} {k : Int} : beginE p vs bs k ≠ 11 := by
  have hc : cellsE p vs bs = 0 ∨ cellsE p vs bs = 4 ∨ cellsE p vs bs = 9 := by unfold cellsE; repeat' split
                                                                               all_goals simp
  unfold beginE
  repeat' split
  all_goals omega
end Go.Proofs.YtnjdjcgandfnfaaDoor

/-! UAll -/
namespace Go.Proofs.YtnjdjcgandfnfaaDoor
open Go.RowKit
set_option linter.unusedVariables false

/-- What Decode leaves. -/
def DecPost (p : Int) (vs : List Int) (bs : List Bool) (k : Int) (w : World) (e : Ending) (w' : World) : Prop :=
  ∃ (A : Option Addr) (n c : Nat) (A2 : Option Addr) (n2 c2 : Nat) (P ws : List Int) (er : Int), e = .returned (.tuple #[.agg #[.slice A n c, .slice A2 n2 c2], .int .i64 er]) ∧ n ≤ 32 ∧ n2 ≤ 32 ∧ n ≤ c ∧ n2 ≤ c2 ∧
    Ints w' w'.heap.size A n P ∧ Ints w' w'.heap.size A2 n2 ws ∧ DecIs p vs bs k P ws er ∧ Frs w.heap.size A n ∧ Frs w.heap.size A2 n2 ∧ Below w.heap.size w w'
theorem Frs.nil_ (B : Nat) : Frs B none 0 := fun b o s e => by cases e
theorem DecPost.of {p : Int} {vs : List Int} {bs : List Bool} {k v : Nat} {w w' : World} {e : Ending} (h0 : decE p vs bs k = 0) (hv : (((knL vs bs).length - k) / 2) = v) (hk : k ≤ 32) (hv32 : v ≤ 32) (h : UDPost (.int .i64 0) (.int .i64 12) p k v (knL vs bs) w e w') : DecPost p vs bs k w e w' := by
  subst hv
  rcases h with ⟨⟨hD, rfl⟩ | ⟨P, A1, c1, A2, c2, hD, rfl, hI1, hI2, hc1, hc2, hn1, hn2⟩, hb⟩
  · exact ⟨none, 0, 0, none, 0, 0, [], [], 12, rfl, by omega, by omega, by omega, by omega, Ints.nil_, Ints.nil_, .inr (.inl ⟨h0, hD, rfl, rfl, rfl⟩), Frs.nil_ _, Frs.nil_ _, hb⟩
  · exact ⟨A1, _, c1, A2, _, c2, P, _, 0, rfl, by have := hD.2.2.1; omega, by have := hD.2.2.2; omega, hc1, hc2, hI1, hI2, .inr (.inr ⟨h0, hD, rfl, rfl⟩), hn1, hn2, hb⟩
theorem DecPost.no {p : Int} {vs : List Int} {bs : List Bool} {k er : Int} {w w' : World} (h0 : decE p vs bs k = er) (h1 : er ≠ 0) (hb : Below w.heap.size w w') : DecPost p vs bs k w (.returned (.tuple #[.agg #[.slice none 0 0, .slice none 0 0], .int .i64 er])) w' :=
  ⟨none, 0, 0, none, 0, 0, [], [], er, rfl, by omega, by omega, by omega, by omega, Ints.nil_, Ints.nil_, .inl ⟨by rw [h0]; exact h1, rfl, rfl, h0.symm⟩, Frs.nil_ _, Frs.nil_ _, hb⟩

theorem uDecode_all (p : Int) (A : Option Addr) (m c : Nat) (k : Int) (vs : List Int) (bs : List Bool) (w : World) (hp64 : -9223372036854775808 ≤ p ∧ p ≤ 9223372036854775807) (h : Cel w w.heap.size A m vs bs) (hm : m ≤ 1000) (hk64 : -9223372036854775808 ≤ k ∧ k ≤ 9223372036854775807) (hW : ErrW w) :
    Calls Tryd.prog 18 #[.agg #[.int .i64 p], .slice A m c, .int .i64 k] w (DecPost p vs bs k w) := by
  by_cases hb0 : beginE p vs bs k = 0
  · have hb := beginE_ok hb0
    have hc := cellsE_ok hb.1
    have hv := h.1
    have hlen := knL_len vs bs
    obtain ⟨q, rfl⟩ : ∃ q : Nat, k = q := ⟨k.toNat, by omega⟩
    by_cases hl : (knL vs bs).length < q
    · refine (uDecode_few p A m c q vs bs w hc.1 h (by omega) (by omega) hc.2.2.2 (by omega) (by omega) hl hW).mono ?_
      rintro e w' ⟨rfl, hbw⟩
      exact DecPost.no (decE_few hb0 (by omega)) (by omega) hbw
    · refine (uDecode_ok p A m c q vs bs w hc.1 h (by omega) (by omega) hc.2.2.2 (by omega) (by omega) (by omega) hW).mono ?_
      intro e w' hP
      exact DecPost.of (decE_yes hb0 (by omega)) rfl (by omega) (by omega) hP
  · have hF : ∀ W, Below w.heap.size w W → Calls Tryd.prog 42 #[.agg #[.int .i64 p], .slice A m c, .int .i64 k] W fun e w' => e = .returned (.tuple #[.slice none 0 0, .int .i64 (beginE p vs bs k)]) ∧ Below W.heap.size W w' := fun W hB => fill_err hp64 ((h.below hB).more hB.size) hm hk64 hb0
    have hne : ∀ w : World, (binOp .eql 74 (failV (beginE p vs bs k)) (failV 12)).run Tryd.prog w = .ok (.bool false) w := fun w => by
      rcases beginE_vals (p := p) (vs := vs) (bs := bs) (k := k) with h1 | h1 | h1 | h1
      · exact absurd h1 hb0
      · rw [h1]; exact failNe1 w
      · rw [h1]; exact failNe4 w
      · rw [h1]; exact failNe9 w
    refine (uDecode_fail (beginE p vs bs k) p k A m c w hb0 hne hF hW).mono ?_
    rintro e w' ⟨rfl, hbw⟩
    exact DecPost.no (decE_no hb0) hb0 hbw

set_option maxRecDepth 100000 in
theorem ucheck_fail (v p k : Int) (A : Option Addr) (m c : Nat) (A1 A2 : Option Addr) (pn c1 wn c2 : Nat) (w : World) (hv : v ≠ 0) (hF : ∀ W, Below w.heap.size w W → Calls Tryd.prog 42 #[.agg #[.int .i64 p], .slice A m c, .int .i64 k] W fun e w' => e = .returned (.tuple #[.slice none 0 0, .int .i64 v]) ∧ Below W.heap.size W w') :
    Calls Tryd.prog 20 #[.agg #[.int .i64 p], .slice A m c, .int .i64 k, .agg #[.slice A1 pn c1, .slice A2 wn c2]] w fun e w' => e = .returned (.int .i64 v) ∧ Below w.heap.size w w' := by
  have hb0 : Below w.heap.size w ((w.alloc (.cells #[.int .i64 p] 24)).alloc (.cells #[.slice A1 pn c1, .slice A2 wn c2] 27)) := ballocs (bbox _) _
  have hvb : (v != 0) = true := by simpa using hv
  go_enter Tryd.func20, Tryd.ntmps20
  go_wp2_with (go_at_call 42; (refine (hF _ hb0).mono ?_); rintro e w1 ⟨rfl, hb1⟩
               have hbb1 := bnext hb0 hb1)
  go_ret
  exact ⟨rfl, hbb1⟩
theorem ucheckA_all (p : Int) (A : Option Addr) (m c : Nat) (k : Int) (vs : List Int) (bs : List Bool) (A1 A2 : Option Addr) (pn c1 wn c2 : Nat) (P ws : List Int) (w : World) (hp64 : -9223372036854775808 ≤ p ∧ p ≤ 9223372036854775807) (h : Cel w w.heap.size A m vs bs) (hm : m ≤ 1000) (hk64 : -9223372036854775808 ≤ k ∧ k ≤ 9223372036854775807)
    (h1 : Ints w w.heap.size A1 pn P) (hpc : pn ≤ c1) (hpn : pn ≤ 17592186044416) (h2 : Ints w w.heap.size A2 wn ws) (hwn : wn ≤ 17592186044416) :
    Calls Tryd.prog 20 #[.agg #[.int .i64 p], .slice A m c, .int .i64 k, .agg #[.slice A1 pn c1, .slice A2 wn c2]] w fun e w' => e = .returned (.int .i64 (chkA p vs bs k P ws)) ∧ Below w.heap.size w w' := by
  by_cases hb0 : beginE p vs bs k = 0
  · have hb := beginE_ok hb0
    have hc := cellsE_ok hb.1
    have hv := h.1
    obtain ⟨q, rfl⟩ : ∃ q : Nat, k = q := ⟨k.toNat, by omega⟩
    by_cases hl : (knL vs bs).length < q
    · have he := decE_few hb0 (show ((knL vs bs).length : Int) < (q : Int) by omega)
      rw [chkA_no P ws (by rw [he]; decide), he]
      exact ucheck_fail 11 p q A m c A1 A2 pn c1 wn c2 w (by decide) fun W hB => fill_few p A m c q vs bs W hc.1 ((h.below hB).more hB.size) (by omega) (by omega) hc.2.2.2 (by omega) (by omega) hl
    · have he := decE_yes hb0 (show (q : Int) ≤ ((knL vs bs).length : Int) by omega)
      rw [chkA_yes P ws he]
      exact ucheck_all p A m c q vs bs A1 A2 pn c1 wn c2 P ws w hc.1 h (by omega) (by omega) hc.2.2.2 (by omega) (by omega) (by omega) h1 hpc hpn h2 hwn
  · rw [chkA_no P ws (by rw [decE_no hb0]; exact hb0), decE_no hb0]
    exact ucheck_fail _ p k A m c A1 A2 pn c1 wn c2 w hb0 fun W hB => fill_err hp64 ((h.below hB).more hB.size) hm hk64 hb0

/-- What Key leaves for any arguments. -/
def KeyAll (p : Int) (vs : List Int) (bs : List Bool) (k wr : Int) (w : World) (e : Ending) (w' : World) : Prop :=
  (keyE p vs bs k wr ≠ 0 ∧ e = .returned (.tuple #[.agg #[.int .i64 0, .int .i64 0, .int .i64 0, .slice none 0 0, .slice none 0 0], .int .i64 (keyE p vs bs k wr)]) ∧ Below w.heap.size w w') ∨
  (keyE p vs bs k wr = 0 ∧ KeyPost p k.toNat wr.toNat (knL vs bs) w e w')
theorem keyE_yes {p : Int} {vs : List Int} {bs : List Bool} {k wr : Int} (h : beginE p vs bs k = 0) (h2 : ¬ (wr < 0 ∨ 32 < wr ∨ 32 < k + 2 * wr)) : keyE p vs bs k wr = 0 := by unfold keyE; rw [if_pos h, if_neg h2]
theorem ukey_all (p : Int) (A : Option Addr) (m c : Nat) (k wr : Int) (vs : List Int) (bs : List Bool) (w : World) (hp64 : -9223372036854775808 ≤ p ∧ p ≤ 9223372036854775807) (h : Cel w w.heap.size A m vs bs) (hm : m ≤ 1000) (hk64 : -9223372036854775808 ≤ k ∧ k ≤ 9223372036854775807) (hw64 : -9223372036854775808 ≤ wr ∧ wr ≤ 9223372036854775807) :
    Calls Tryd.prog 22 #[.agg #[.int .i64 p], .slice A m c, .int .i64 k, .int .i64 wr] w (KeyAll p vs bs k wr w) := by
  by_cases hb0 : beginE p vs bs k = 0
  · have hb := beginE_ok hb0
    have hc := cellsE_ok hb.1
    have hv := h.1
    obtain ⟨q, rfl⟩ : ∃ q : Nat, k = q := ⟨k.toNat, by omega⟩
    have hFA : ∀ W, Below w.heap.size w W → Calls Tryd.prog 42 #[.agg #[.int .i64 p], .slice A m c, .int .i64 (q : Int)] W (FillPost p vs bs q W) := fun W hB => fill_all p A m c q vs bs W hp64 ((h.below hB).more hB.size) hm hk64
    by_cases hr : wr < 0 ∨ 32 < wr ∨ 32 < (q : Int) + 2 * wr
    · have hk := keyE_range hb0 hr
      by_cases hl : (knL vs bs).length < q
      · refine (ukey_range 11 p wr q A m c w (by omega) (.inr rfl) hr fun W hB => (fill_few p A m c q vs bs W hc.1 ((h.below hB).more hB.size) (by omega) (by omega) hc.2.2.2 (by omega) (by omega) hl).mono ?_).mono ?_
        · rintro e w' ⟨rfl, hbw⟩; exact ⟨⟨_, _, _, rfl⟩, hbw⟩
        · rintro e w' ⟨rfl, hbw⟩; exact .inl ⟨by rw [hk]; decide, by rw [hk], hbw⟩
      · refine (ukey_range 0 p wr q A m c w (by omega) (.inl rfl) hr fun W hB => (fill_ok p A m c q vs bs W hc.1 ((h.below hB).more hB.size) (by omega) (by omega) hc.2.2.2 (by omega) (by omega) (by omega)).mono ?_).mono ?_
        · rintro e w' ⟨⟨R, A1, c1, rfl, _, _⟩, hbw⟩; exact ⟨⟨_, _, _, rfl⟩, hbw⟩
        · rintro e w' ⟨rfl, hbw⟩; exact .inl ⟨by rw [hk]; decide, by rw [hk], hbw⟩
    · obtain ⟨v, rfl⟩ : ∃ v : Nat, wr = v := ⟨wr.toNat, by omega⟩
      by_cases hl : (knL vs bs).length < q
      · refine (ukey_few p A m c q v vs bs w hc.1 h (by omega) (by omega) hc.2.2.2 (by omega) (by omega) hl (by omega)).mono ?_
        intro e w' hP; exact .inr ⟨keyE_yes hb0 hr, hP⟩
      · refine (ukey_ok p A m c q v vs bs w hc.1 h (by omega) (by omega) hc.2.2.2 (by omega) (by omega) (by omega) (by omega)).mono ?_
        intro e w' hP; exact .inr ⟨keyE_yes hb0 hr, hP⟩
  · have hk := keyE_no (wr := wr) hb0
    refine (ukey_fail (beginE p vs bs k) p k wr A m c w hb0 beginE_val fun W hB => fill_err hp64 ((h.below hB).more hB.size) hm hk64 hb0).mono ?_
    rintro e w' ⟨rfl, hbw⟩
    exact .inl ⟨by rw [hk]; exact hb0, by rw [hk], hbw⟩
end Go.Proofs.YtnjdjcgandfnfaaDoor
