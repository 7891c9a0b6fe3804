/-
  What the second form's At, Join and Agree on shares hand back for any arguments: the result, or the error. Conditions: the shares read as their points and values.
-/
import Derived.Test.YtoblofilaegnaaaRShThr
namespace Go.Proofs.Ytoblofilaegnaaa
open Go.RowKit
set_option linter.unusedVariables false

theorem errL_val {p x : Int} {R : List Int} (hok : okP p = true) (hR : allP p R = true) (hx : 0 ≤ x ∧ x < p) (hl : R.length ≤ 512) : errL p [R, [x]] = 0 := by
  unfold errL
  rw [if_pos ⟨hok, by rw [allR_iff]; intro r hr; rcases List.mem_cons.1 hr with rfl | hr; exact hR; rw [List.mem_singleton.1 hr]; exact allP_iff.2 fun z hz => by rw [List.mem_singleton.1 hz]; exact hx⟩, if_neg (by simp; omega)]
set_option maxRecDepth 100000 in
set_option maxHeartbeats 800000 in
theorem rat_share_all (p m x : Int) (A : Option Addr) (n c : Nat) (us ys : List Int) (w : World) (hm64 : -9223372036854775808 ≤ m ∧ m ≤ 9223372036854775807) (h : Sh w w.heap.size A n us ys) (hn : n ≤ 100) (hc : n ≤ c) :
    Calls Try.prog 64 #[.agg #[.int .i64 p], .int .i64 m, .slice A n c, .int .i64 x] w (AtPost (okP p = true ∧ allP p [x] = true) p m us ys x w) := by
  have hb0 : Below w.heap.size w (w.alloc (.cells #[.int .i64 p] 24)) := bbox _
  have hF0 := Blk.new w 24 #[.int .i64 p]
  have hS0 := h.upto hb0
  go_enter Try.func64, Try.ntmps64
  go_wp2_with (go_at_call 143; refine (?_ : Hid _).out)
  refine Lib.hid ?_
  refine (rthrough_all p m x A n c us ys _ hm64 hS0 hn hc).mono ?_
  rintro e w1 ⟨er, hR, ⟨h0, rfl⟩ | ⟨rfl, R, A1, c1, rfl, hown1, hT⟩, hb1⟩
  · have HR := Lib.hid hR
    have H0 := Lib.hid h0
    have hbb1 := bnext hb0 hb1
    have h00 : ¬ er = 0 := h0
    clear hR h0 hb1
    go_wp2
    go_ret2
    exact ⟨0, er, rfl, ⟨HR.out, .inl ⟨H0.out, rfl⟩⟩, hbb1⟩
  · have HR := Lib.hid hR
    have hz := hR.zero
    have hx : 0 ≤ x ∧ x < p := allP_iff.1 hz.1.2 x List.mem_cons_self
    have HT := Lib.hid hT
    have hRL : R.length ≤ 10 := by have := hT.ln; rw [List.length_take] at this; have := hz.2.2.1; omega
    have HNR : Hid (numR (errL p [R, [x]]) (valueP p x R) = (valueP p x R, 0)) := Lib.hid (numR_yes _ (errL_val hz.1.1 hT.al hx (by omega)))
    obtain ⟨v, hv⟩ : ∃ v, valueP p x R = v := ⟨_, rfl⟩
    have HV := Lib.hid hv
    rw [hv] at HNR
    have hbb1 := bnext hb0 hb1
    have hF1 := hF0.below hb1 hF0.lt
    have hcF : w1.cell? ⟨w.heap.size, 0, none⟩ = some (.int .i64 p) := (hF1.cell 0).trans rfl
    have hI1 := hown1.ints
    clear hT hR hz hb1 hown1 hv
    go_wp2_with (go_at_call 47; refine (rValue_all p x A1 R.length c1 R _ hI1 (by omega)).mono ?_; rw [HV.out, HNR.out]; rintro e w2 ⟨rfl, hb2⟩
                 have hbb2 := bnext hbb1 hb2)
    go_ret2
    exact ⟨_, 0, rfl, ⟨HR.out, .inr ⟨rfl, R, HT.out, HV.out.symm⟩⟩, hbb2⟩
set_option maxRecDepth 100000 in
theorem rjoin_share_all (p m : Int) (A : Option Addr) (n c : Nat) (us ys : List Int) (w : World) (hm64 : -9223372036854775808 ≤ m ∧ m ≤ 9223372036854775807) (h : Sh w w.heap.size A n us ys) (hn : n ≤ 100) (hc : n ≤ c) :
    Calls Try.prog 60 #[.agg #[.int .i64 p], .int .i64 m, .slice A n c] w (AtPost (okP p = true ∧ allP p [0] = true) p m us ys 0 w) := by
  have hb0 : Below w.heap.size w (w.alloc (.cells #[.int .i64 p] 24)) := bbox _
  have hS0 := h.upto hb0
  go_enter Try.func60, Try.ntmps60
  go_wp2_with (go_at_call 64; (refine (rat_share_all p m 0 A n c us ys _ hm64 hS0 hn hc).mono ?_); rintro e w1 ⟨v, er, rfl, hR, hb1⟩
               have HR := Lib.hid hR
               clear hR)
  go_ret2
  exact ⟨v, er, rfl, HR.out, bnext hb0 hb1⟩

set_option maxRecDepth 100000 in
set_option maxHeartbeats 1600000 in
theorem ragree_share_all (p m : Int) (A : Option Addr) (n c : Nat) (us ys : List Int) (w : World) (hm64 : -9223372036854775808 ≤ m ∧ m ≤ 9223372036854775807) (h : Sh w w.heap.size A n us ys) (hn : n ≤ 100) (hc : n ≤ c) :
    Calls Try.prog 62 #[.agg #[.int .i64 p], .int .i64 m, .slice A n c] w (AgrPost (okP p = true ∧ allP p [0] = true) p m us ys w) := by
  have HLA := Lib.hid h.1
  have HLY := Lib.hid h.2.1
  have hb0 : Below w.heap.size w (w.alloc (.cells #[.int .i64 p] 24)) := bbox _
  have hF0 := Blk.new w 24 #[.int .i64 p]
  have hS0 := h.upto hb0
  go_enter Try.func62, Try.ntmps62
  go_wp2_with (go_at_call 143; refine (?_ : Hid _).out)
  refine Lib.hid ?_
  refine (rthrough_all p m 0 A n c us ys _ hm64 hS0 hn hc).mono ?_
  rintro e w1 ⟨er, hR, ⟨h0, rfl⟩ | ⟨rfl, R, A1, c1, rfl, hown1, hT⟩, hb1⟩
  · have HR := Lib.hid hR
    have H0 := Lib.hid h0
    have hbb1 := bnext hb0 hb1
    have h00 : ¬ er = 0 := h0
    clear hR h0 hb1
    go_wp2
    go_ret2
    exact ⟨false, er, rfl, ⟨HR.out, .inl ⟨H0.out, rfl⟩⟩, hbb1⟩
  · have HR := Lib.hid hR
    have hz := hR.zero
    have hp := okP_pos hz.1.1
    have HOK := Lib.hid hz.1.1
    have HA := Lib.hid hz.2.1.1
    have HT := Lib.hid hT
    have HRA := Lib.hid hT.al
    have hRL : R.length ≤ 10 := by have := hT.ln; rw [List.length_take] at this; have := hz.2.2.1; omega
    have hbb1 := bnext hb0 hb1
    have hF1 := hF0.below hb1 hF0.lt
    have hI1 := hown1.ints
    have hS1 := h.upto hbb1
    clear hT hR hz hb1 hown1
    go_wp2_with fail
    go_loopw [26] (fun i wz => ∃ k : Nat, k ≤ n ∧ i = .int .i64 k ∧ Hid (∀ i, i < k → valueP p (us.getD i 0) R = ys.getD i 0) ∧ Below w1.heap.size w1 wz) (fun i _ => n - (intOf i).toNat)
    case atStart => exact ⟨0, Nat.zero_le _, rfl, Lib.hid (fun i hi => absurd hi (by omega)), Below.refl _ _⟩
    case round =>
      obtain ⟨k, hk, rfl, HV, hbz⟩ := hrel
      by_cases hlt : k < n
      · obtain ⟨b, off, rfl, hbl, hcell⟩ := hS1.2.2 (by omega)
        have hcA := (hbz.cell (p := ⟨b, off + k * 2, none⟩) hbl).trans (hcell k hlt).1
        have hcY := (hbz.cell (p := ⟨b, off + k * 2 + 1, none⟩) hbl).trans (hcell k hlt).2
        clear hcell
        have hxe := allP_getD HA.out (k := k) (by rw [HLA.out]; exact hlt)
        obtain ⟨x, HX⟩ : ∃ x, Hid (us.getD k 0 = x) := ⟨_, Lib.hid rfl⟩
        obtain ⟨y, HYk⟩ : ∃ y, Hid (ys.getD k 0 = y) := ⟨_, Lib.hid rfl⟩
        rw [HX.out] at hcA hxe
        rw [HYk.out] at hcY
        obtain ⟨v, HVV⟩ : ∃ v, Hid (valueP p x R = v) := ⟨_, Lib.hid rfl⟩
        have HNR : Hid (numR (errL p [R, [x]]) (valueP p x R) = (v, 0)) := Lib.hid (by rw [numR_yes _ (errL_val HOK.out HRA.out hxe (by omega)), HVV.out])
        have hbzA := ballocs hbz (.cells #[.int .i64 x, .int .i64 y] 52)
        have hN := Blk.new wr 52 #[.int .i64 x, .int .i64 y]
        have hFz := (hF1.below hbz hF1.lt).alloc (.cells #[.int .i64 x, .int .i64 y] 52)
        have hcf : (wr.alloc (.cells #[.int .i64 x, .int .i64 y] 52)).cell? ⟨w.heap.size, 0, none⟩ = some (.int .i64 p) := (hFz.cell 0).trans rfl
        have hn0 : (wr.alloc (.cells #[.int .i64 x, .int .i64 y] 52)).cell? ⟨wr.heap.size, 0, none⟩ = some (.int .i64 x) := (hN.cell 0).trans rfl
        have hIA := hI1.upto hbzA
        by_cases hvy : v = y
        · have HN : Hid (∀ i, i < k + 1 → valueP p (us.getD i 0) R = ys.getD i 0) := Lib.hid fun i hi => by
            by_cases hik : i = k
            · rw [hik, HX.out, HVV.out, HYk.out]; exact hvy
            · exact HV.out i (by omega)
          have hvb : (v != y) = false := by simpa using hvy
          clear hvy
          go_wp2_with (go_at_call 47; refine (rValue_all p x A1 R.length c1 R _ hIA (by omega)).mono ?_; rw [HNR.out]; rintro e w2 ⟨rfl, hb2⟩
                       have hbz2 := bnext hbzA hb2
                       have hn1 : w2.cell? ⟨wr.heap.size, 1, none⟩ = some (.int .i64 y) := ((hN.below hb2 hN.lt).cell 1).trans rfl)
          go_roundw
          case rel => exact ⟨k + 1, by omega, by go_num, HN, hbz2⟩
          case measure => simp [intOf]; omega
        · have HF : Hid (agreeB p us ys R = false) := Lib.hid (by
            rw [← Bool.not_eq_true, agreeB_iff]
            intro hall
            have := hall k (by rw [HLA.out]; exact hlt)
            rw [HX.out, HVV.out, HYk.out] at this
            exact hvy this)
          have hvb : (v != y) = true := by simpa using hvy
          clear hvy
          go_wp2_with (go_at_call 47; refine (rValue_all p x A1 R.length c1 R _ hIA (by omega)).mono ?_; rw [HNR.out]; rintro e w2 ⟨rfl, hb2⟩
                       have hbz2 := bnext hbzA hb2
                       have hn1 : w2.cell? ⟨wr.heap.size, 1, none⟩ = some (.int .i64 y) := ((hN.below hb2 hN.lt).cell 1).trans rfl)
          go_ret2
          exact ⟨_, 0, rfl, ⟨HR.out, .inr ⟨rfl, R, HT.out, HF.out.symm⟩⟩, bnext hbb1 hbz2⟩
      · have HF : Hid (agreeB p us ys R = true) := Lib.hid (agreeB_iff.2 fun i hi => HV.out i (by rw [HLA.out] at hi; omega))
        go_wp2
        go_ret2
        exact ⟨_, 0, rfl, ⟨HR.out, .inr ⟨rfl, R, HT.out, HF.out.symm⟩⟩, bnext hbb1 hbz⟩
end Go.Proofs.Ytoblofilaegnaaa
