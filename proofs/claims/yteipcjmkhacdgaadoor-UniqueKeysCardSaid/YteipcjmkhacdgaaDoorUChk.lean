/-
  What slices.Equal and unique's Check hand back. Conditions: the cells read as their values and marks, enough of them known; what is checked lies within the radius.
-/
import Derived.Test.YteipcjmkhacdgaaDoorSame
import Derived.Test.YteipcjmkhacdgaaDoorUCnt
import Derived.Test.YteipcjmkhacdgaaDoorFill
import Derived.Deep.QuietTactic
import Derived.BigQuiet
namespace Go.Proofs.YteipcjmkhacdgaaDoor
open Go.RowKit
set_option linter.unusedVariables false

theorem equal_any (A B : Option Addr) (n m c d : Nat) (xs ys : List Int) (w : World) {B1 B2 : Nat} (h : Ints w B1 A n xs) (h2 : Ints w B2 B m ys) (hn : n ≤ 17592186044416) (hm : m ≤ 17592186044416) :
    Calls Tryd.prog 46 #[.slice A n c, .slice B m d] w fun e w' => e = .returned (.bool (sameL xs ys)) ∧ ∃ q, w' = w.drewN q := by
  by_cases hl : n = m
  · subst hl
    have HL := Lib.hid h.len
    have HM := Lib.hid h2.len
    go_enter Tryd.func46, Tryd.ntmps46
    go_wp2
    go_loopw [13] (fun i wr => ∃ k q : Nat, k ≤ n ∧ i = .int .i64 k ∧ Hid (xs.take k = ys.take k) ∧ wr = w.drewN q) (fun i _ => n - (intOf i).toNat)
    case atStart => exact ⟨0, 0, Nat.zero_le _, rfl, Lib.hid rfl, rfl⟩
    case round =>
      obtain ⟨k, q, hk, rfl, HE, rfl⟩ := hrel
      by_cases hlt : k < n
      · obtain ⟨b1, o1, rfl, hb1, hc1⟩ := h.2 (by omega)
        obtain ⟨b2, o2, rfl, hb2, hc2⟩ := h2.2 (by omega)
        have hr1 := hc1 k hlt
        have hr2 := hc2 k hlt
        clear hc1 hc2
        have HT1 := Lib.hid (take_snoc_int xs k (by rw [HL.out]; exact hlt))
        have HT2 := Lib.hid (take_snoc_int ys k (by rw [HM.out]; exact hlt))
        have HX := Lib.hid (show ∀ j, xs = ys → xs.getD j 0 = ys.getD j 0 from fun j e => by rw [e])
        have HXk := Lib.hid (HX.out k)
        clear HX
        generalize xs.getD k 0 = x at *
        generalize ys.getD k 0 = y at *
        by_cases hxy : x = y
        · subst hxy
          go_wp2
          go_quiet (fail)
          go_wp2
          go_roundw
          case rel => exact ⟨k + 1, _, by omega, by go_num, Lib.hid (by rw [HT1.out, HT2.out, HE.out]), rfl⟩
          case measure => simp [intOf]; omega
        · have hxb : (x != y) = true := by simpa using hxy
          have hf : sameL xs ys = false := by
            rw [← Bool.not_eq_true, sameL_iff]; intro e; exact hxy (HXk.out e)
          have HF := Lib.hid hf
          clear hf hxy
          go_wp2
          go_quiet (fail)
          go_wp2
          go_ret
          exact ⟨ret_bool HF.out.symm, _, World.drewN_drewN _ _ _⟩
      · go_wp2
        go_ret
        refine ⟨ret_bool ?_, q, rfl⟩
        have := HE.out
        rw [List.take_of_length_le (by rw [HL.out]; omega), List.take_of_length_le (by rw [HM.out]; omega)] at this
        exact (sameL_iff.2 this).symm
  · have hf : sameL xs ys = false := by
      rw [← Bool.not_eq_true, sameL_iff]; intro e; apply hl; rw [← h.len, ← h2.len, e]
    have HF := Lib.hid hf
    have hne : ((n : Int) != (m : Int)) = true := by simp; omega
    clear hf
    go_enter Tryd.func46, Tryd.ntmps46
    go_wp2
    go_ret
    exact ⟨ret_bool HF.out.symm, 0, rfl⟩

set_option maxRecDepth 100000 in
set_option maxHeartbeats 1600000 in
/-- What lies within the radius is accepted. -/
theorem ucheck_yes (p : Int) (A : Option Addr) (m c k : Nat) (vs : List Int) (bs : List Bool) (A1 A2 : Option Addr) (pn c1 wn c2 : Nat) (P : List Int) (w : World) (hok : okP p = true) (h : Cel w w.heap.size A m vs bs) (hm : m ≤ 32) (hmp : (m : Int) < p) (hkn : knOk p vs bs) (hk : 1 ≤ k) (hkm : k ≤ m) (hkl : k ≤ (knL vs bs).length)
    (h1 : Ints w w.heap.size A1 pn P) (hP : allP p P = true) (hpc : pn ≤ c1) (hpn : pn ≤ 512) (hd : tn P pn ≤ k) (h2 : Ints w w.heap.size A2 wn (wrL p P (knL vs bs))) (hv : wn ≤ ((knL vs bs).length - k) / 2) :
    Calls Tryd.prog 20 #[.agg #[.int .i64 p], .slice A m c, .int .i64 k, .agg #[.slice A1 pn c1, .slice A2 wn c2]] w fun e w' => e = .returned (.int .i64 0) ∧ Below w.heap.size w w' := by
  have hp := okP_pos hok
  have HO := Lib.hid hok
  have HKN := Lib.hid hkn
  have HPA := Lib.hid hP
  have hln : (knL vs bs).length ≤ m := by have := knL_len vs bs; rw [h.1] at this; exact this
  obtain ⟨l, hl⟩ : ∃ l, knL vs bs = l := ⟨_, rfl⟩
  obtain ⟨N, hN⟩ : ∃ N, (knL vs bs).length = N := ⟨_, rfl⟩
  obtain ⟨v, hvE⟩ : ∃ v, (N - k) / 2 = v := ⟨_, rfl⟩
  obtain ⟨wl, hwl⟩ : ∃ wl, wrL p P l = wl := ⟨_, rfl⟩
  obtain ⟨t, ht⟩ : ∃ t, tn P pn = t := ⟨_, rfl⟩
  have HL := Lib.hid hl
  have HN := Lib.hid hN
  have HV := Lib.hid hvE
  have HWL := Lib.hid hwl
  have HT := Lib.hid ht
  rw [hl, hwl] at h2
  rw [hN, hvE] at hv
  rw [hN] at hln hkl
  rw [ht] at hd
  have HWN : Hid (wl.length = wn) := Lib.hid h2.len
  have HSL : Hid (sameL wl wl = true) := Lib.hid (by simp [sameL])
  have hwn32 : wn ≤ 32 := by omega
  have hdk : ¬ (k : Int) ≤ (t : Int) - 1 := by omega
  have hv1 : ¬ (v : Int) < (wn : Int) := by omega
  have hb0 : Below w.heap.size w ((w.alloc (.cells #[.int .i64 p] 24)).alloc (.cells #[.slice A1 pn c1, .slice A2 wn c2] 27)) := ballocs (bbox _) _
  have hF0 := (Blk.new w 24 #[.int .i64 p]).alloc (.cells #[.slice A1 pn c1, .slice A2 wn c2] 27)
  have hR0 := Blk.new1 w (.cells #[.int .i64 p] 24) 27 #[.slice A1 pn c1, .slice A2 wn c2]
  have hS0 := (h.below hb0).more hb0.size
  have hI0 := h1.upto hb0
  have hJ0 := h2.upto hb0
  clear hok hkn hP h h1 h2 hl hN hvE hwl ht
  go_enter Tryd.func20, Tryd.ntmps20
  go_wp2_with (first
    | (go_at_call 42; (refine (fill_ok p A m c k vs bs _ HO.out hS0 hm hmp HKN.out hk hkm (by rw [HN.out]; exact hkl)).mono ?_); rintro e w1 ⟨⟨R, A3, c3, rfl, hown1, hT1⟩, hb1⟩
       have hbb1 := bnext hb0 hb1
       have hF1 := hF0.below hb1 hF0.lt
       have hR1 := hR0.below hb1 hR0.lt
       have hS1 := hS0.upto hb1
       have hI1 := hI0.upto hb1
       have hJ1 := hJ0.upto hb1
       have hcF1 : w1.cell? ⟨w.heap.size, 0, none⟩ = some (.int .i64 p) := (hF1.cell 0).trans rfl
       have hcR1 : w1.cell? ⟨w.heap.size + 1, 0, none⟩ = some (.slice A1 pn c1) := (hR1.cell 0).trans rfl
       clear hown1 hT1 hb1)
    | (go_at_call 43; (refine (pdeg_ok p A1 pn c1 P _ HO.out hI1 HPA.out hpc hpn).mono ?_); rintro e w2 ⟨rfl, hb2⟩
       rw [HT.out]
       have hbb2 := bnext hbb1 hb2
       have hF2 := hF1.below hb2 hF1.lt
       have hR2 := hR1.below hb2 hR1.lt
       have hS2 := hS1.upto hb2
       have hI2 := hI1.upto hb2
       have hJ2 := hJ1.upto hb2
       clear hb2)
    | (go_at_call 44; (refine (ucount_any A m c vs bs _ hS2 hm).mono ?_); rintro e w3 ⟨rfl, hb3⟩
       rw [HN.out]
       have hbb3 := bnext hbb2 hb3
       have hF3 := hF2.below hb3 hF2.lt
       have hR3 := hR2.below hb3 hR2.lt
       have hS3 := hS2.upto hb3
       have hI3 := hI2.upto hb3
       have hJ3 := hJ2.upto hb3
       have hcF3 : w3.cell? ⟨w.heap.size, 0, none⟩ = some (.int .i64 p) := (hF3.cell 0).trans rfl
       have hcR3 : w3.cell? ⟨w.heap.size + 1, 0, none⟩ = some (.slice A1 pn c1) := (hR3.cell 0).trans rfl
       clear hb3)
    | (go_at_call 25; (refine (uradius_ok N k _ hk hkl (by omega)).mono ?_); rintro e w' ⟨rfl, rfl⟩
       rw [HV.out])
    | (go_at_call 45; (refine (uwrongs_ok p A m c vs bs A1 pn c1 P _ hp hS3 hm hmp hI3 HPA.out hpn).mono ?_); rintro e w4 ⟨⟨A4, c4, rfl, hown4⟩, hb4⟩
       rw [HL.out, HWL.out, HWN.out] at hown4
       rw [HL.out, HWL.out, HWN.out]
       have hbb4 := bnext hbb3 hb4
       have hR4 := hR3.below hb4 hR3.lt
       have hJ4 := hJ3.upto hb4
       have hO4 := hown4.ints
       have hcR4 : w4.cell? ⟨w.heap.size + 1, 1, none⟩ = some (.slice A2 wn c2) := (hR4.cell 1).trans rfl
       clear hb4 hown4)
    | (go_at_call 46; (refine (equal_any A4 A2 wn wn c4 c2 wl wl _ hO4 hJ4 (by omega) (by omega)).mono ?_); rintro e w5 ⟨rfl, q5, rfl⟩
       rw [HSL.out]))
  go_ret
  exact ⟨rfl, below_drewN hbb4 _⟩
end Go.Proofs.YteipcjmkhacdgaaDoor
