/-
  DigestDoes returns true: the walk of the law. Conditions: none beyond the reading of its arguments.
-/
import Derived.Test.YtdklcgpjdajkmaaFld
import Derived.Test.YtdklcgpjdajkmaaMkRows
import Derived.Test.YtdklcgpjdajkmaaRDAll
import Derived.Test.YtdklcgpjdajkmaaOff
import Derived.Test.YtdklcgpjdajkmaaSame
namespace Go.Proofs.Ytdklcgpjdajkmaa
open Go.RowKit
set_option linter.unusedVariables false

/-- Some answer; nothing changes. -/
def SomeBool (w : World) (e : Ending) (w' : World) : Prop := (∃ b, e = .returned (.bool b)) ∧ w = w'
/-- small: some answer; nothing changes. -/
theorem small11_any (A : Option Addr) (n c : Nat) (rows : List (List Int)) (w : World) {lo : Nat} (h : Mat w lo w.heap.size A n rows) (hn : n ≤ 17592186044416) :
    Calls Try.prog 44 #[.slice A n c] w (SomeBool w) := by
  go_enter Try.func44, Try.ntmps44
  go_wp2
  go_loop [3, 8] (fun s i => ∃ (k : Nat) (z : Int), k ≤ n ∧ i = .int .i64 k ∧ s = .int .i64 z) (fun _ i => n - (intOf i).toNat)
  case atStart => exact ⟨0, 0, Nat.zero_le _, rfl, rfl⟩
  case round =>
    obtain ⟨k, z, hk, rfl, rfl⟩ := hrel
    by_cases hlt : k < n
    · obtain ⟨b, off, B1, m, d1, rfl, _, hb1, hcell, hm, hI, _⟩ := h.at_ hlt
      go_wp2
      go_round
      case rel => exact ⟨k + 1, _, by omega, by go_num, rfl⟩
      case measure => simp [intOf]; omega
    · go_wp2
      go_ret
      exact ⟨⟨_, rfl⟩, rfl⟩

/-- Two of a kind, in a block of two. -/
theorem two_of {P : Nat → Prop} (h0 : P 0) (h1 : P 1) : ∀ i, i < 2 → P i := by
  intro i hi
  have : i = 0 ∨ i = 1 := by omega
  rcases this with rfl | rfl
  · exact h0
  · exact h1
theorem boolE {r : Bool × Int} {v : Bool} {er : Int} {P : Program} {f : FuncId} {args : Array Value} {w : World} (hr : Hid (r = (v, er))) (h : Calls P f args w (BoolPost r w)) : Calls P f args w fun e w' => e = .returned (.tuple #[.bool v, .int .i64 er]) ∧ Below w.heap.size w w' := by
  refine h.mono ?_
  rintro e w' ⟨he, hb⟩
  rw [hr.out] at he
  exact ⟨he, hb⟩

set_option maxHeartbeats 8000000 in
set_option maxRecDepth 100000 in
theorem digestDoes_walk (T : Option Addr) (n c : Nat) (xs : List Int) (pr : Int) (s : ByteArray) (A : Option Addr) (la ca : Nat) (ls : List Int) (Q : Option Addr) (lq cq : Nat) (qs : List Int) (X : Option Addr) (lx cx : Nat) (xx : List Int) (R : Option Addr) (lr cr : Nat) (rows : List (List Int)) (a0 b0 pt0 : Int) (w : World)
    (h : Ints w w.heap.size T n xs) (hpr : -9223372036854775808 ≤ pr ∧ pr ≤ 9223372036854775807) (hs : s.size ≤ maxLen) (hA : Ints w w.heap.size A la ls) (hAw : Wf64 ls) (hla : la ≤ 17592186043904) (hQ : Ints w w.heap.size Q lq qs) (hlq : lq ≤ 17592186043904) (hX : Ints w w.heap.size X lx xx) (hlx : lx ≤ 17592186043904)
    (hR : Mat w 0 w.heap.size R lr rows) (hlr : lr ≤ 17592186043904) (ha0 : -9223372036854775808 ≤ a0 ∧ a0 ≤ 9223372036854775807) (hb0 : -9223372036854775808 ≤ b0 ∧ b0 ≤ 9223372036854775807) (hpt0 : -9223372036854775808 ≤ pt0 ∧ pt0 ≤ 9223372036854775807) :
    Calls Try.prog 5 #[.slice T n c, .agg #[.int .i64 pr], .string s, .slice A la ca, .slice Q lq cq, .slice X lx cx, .slice R lr cr, .int .i64 a0, .int .i64 b0, .int .i64 pt0] w fun e w' => e = .returned (.bool true) ∧ Below w.heap.size w w' := by
  have hbx : Below w.heap.size w (w.alloc (.cells #[.int .i64 pr] 46)) := bbox _
  have hB0 := Blk.new w 46 #[.int .i64 pr]
  have HS := Lib.hid hs
  have hs2 : s.size ≤ 9223372036854775807 := by unfold maxLen at hs; omega
  clear hs
  by_cases hn : n ≤ 500
  · have hd : decide (n ≤ 500) = true := by simpa using hn
    by_cases hss : s.size ≤ 5000
    · have hss1 : ¬ 5000 < (s.size : Int) := by omega
      by_cases hab : la + lq + lx ≤ 1500
      · have hab1 : ¬ (1500 : Int) < (la : Int) + (lq : Int) + (lx : Int) := by omega
        obtain ⟨v1, HV1⟩ : ∃ v, Hid (dSum s.data.toList = v) := ⟨_, Lib.hid rfl⟩
        obtain ⟨v2, HV2⟩ : ∃ v, Hid (dRow ls = v) := ⟨_, Lib.hid rfl⟩
        obtain ⟨v3, HV3⟩ : ∃ v, Hid (dNode a0 b0 = v) := ⟨_, Lib.hid rfl⟩
        go_enter Try.func5, Try.ntmps5
        go_wp2_with (first
          | (go_at_call 43; refine (sane11_any _).mono ?_; rintro e w1 ⟨rfl, rfl⟩)
          | (go_at_call 11; refine (few_any T n c _).mono ?_; rintro e w' ⟨rfl, rfl⟩)
          | (go_at_call 44; refine (small11_any R lr cr rows _ (hR.upto hbx) (by omega)).mono ?_; rintro e w' ⟨⟨sb, rfl⟩, rfl⟩; cases sb)
          | (go_at_call 45; refine (dsum_any s _ HS.out).mono ?_; rintro e w' ⟨rfl, rfl⟩; rw [HV1.out])
          | (go_at_call 46; refine (rdsum_any s _ HS.out).mono ?_; rintro e w' ⟨rfl, rfl⟩; rw [HV1.out])
          | (go_at_call 47; refine (row_any A la ca ls _ (hA.upto hbx) hAw (by omega)).mono ?_; rintro e w' ⟨rfl, rfl⟩; rw [HV2.out])
          | (go_at_call 48; refine (rrow_any A la ca ls _ (hA.upto hbx) hAw (by omega)).mono ?_; rintro e w' ⟨rfl, rfl⟩; rw [HV2.out])
          | (go_at_call 49; refine (node_any a0 b0 _).mono ?_; rintro e w' ⟨rfl, rfl⟩; rw [HV3.out])
          | (go_at_call 50; refine (rnode_any a0 b0 _).mono ?_; rintro e w' ⟨rfl, rfl⟩; rw [HV3.out])
          | (go_at_call 12; refine (new_any T n c xs _ (h.upto hbx) hn).mono ?_; rintro e w2 ⟨⟨g, rfl, hge, hD2⟩, hb2⟩
             have hbb2 := bnext hbx hb2
             have hB2 := hB0.below hb2 hB0.lt
             have hg : w.heap.size < g := by rw [hge]; exact hB0.lt
             clear hge hb2)
          | (go_at_call 29; refine (field_any g T n c xs _ _ hD2).mono ?_; rintro e w3 ⟨p, q3, rfl, hkn, hD3, hS3⟩
             have hbb3 := ballocs (Step.below hbb2 hS3 hbb2.size (by omega)) (.cells #[.int .i64 p] 46)
             have hB3 := (Step.block hS3 hB2 (by omega)).alloc (.cells #[.int .i64 p] 46)
             have hF3 := Blk.new w3 46 #[.int .i64 p]
             have hD3' := hD3.alloc (.cells #[.int .i64 p] 46)
             have hgf : g < w3.heap.size := hD3.1.lt
             have hc3 : (w3.alloc (.cells #[.int .i64 p] 46)).cell? ⟨w3.heap.size, 0, none⟩ = some (.int .i64 p) := (hF3.cell 0).trans rfl
             have HO := Lib.hid (okP_known hkn)
             have hp := okP_pos (okP_known hkn)
             clear hkn hD3 hS3 hB2 hbb2))
        · go_ret
          exact ⟨rfl, hbx⟩
        clear HV1 HV2 HV3 HS hs2 hss hss1
        go_region_held3 (fun w' => w'.cell? ⟨w3.heap.size, 0, none⟩ = some (.int .i64 p)) (first | go_keep | exact hc3 | exact hc4 | exact hc5 | exact hc6)
          (first
            | (go_at_call 16; (with_reducible refine (next_any g T n c xs q4 5 w4 hD4 (by omega)).mono ?_); rintro e w5 ⟨s', q5, rfl, hs, hs0, hD5, hS5, hz5⟩
               obtain ⟨wd, rfl⟩ : ∃ r : Nat, s' = r := ⟨s'.toNat, by have := hs (by omega); omega⟩
               have hwd : wd < 5 := by have := hs (by omega); omega
               have hF5 := Step.block hS5 hF4 (by omega)
               have hc5 : w5.cell? ⟨w3.heap.size, 0, none⟩ = some (.int .i64 p) := (hF5.cell 0).trans rfl
               have hT5 := hT4.trans hS5
               clear hs hs0 hz5)
            | (go_at_call 16; refine (next_any g T n c xs q3 6 _ hD3'.drew (by omega)).mono ?_; rintro e w4 ⟨r', q4, rfl, hr, hr0, hD4, hS4, hz4⟩
               obtain ⟨k, rfl⟩ : ∃ r : Nat, r' = r := ⟨r'.toNat, by have := hr (by omega); omega⟩
               have hk6 : k < 6 := by have := hr (by omega); omega
               have hF4 := Step.block hS4 hF3.drew (by omega)
               have hc4 : w4.cell? ⟨w3.heap.size, 0, none⟩ = some (.int .i64 p) := (hF4.cell 0).trans rfl
               have hT4 := hS4
               clear hr hr0 hz4)
            | (go_at_call 30; (refine (rows_any g T n c xs q5 p k wd _ hD5 hp (by omega) (by omega)).mono ?_); rintro e w6 ⟨B1, d1, own, q6, rfl, hown6, hOR, hD6, hS6⟩
               have hF6 := Step.block hS6 hF5 (by omega)
               have hc6 : w6.cell? ⟨w3.heap.size, 0, none⟩ = some (.int .i64 p) := (hF6.cell 0).trans rfl
               have hT6 := hT5.trans hS6))
        rename_i K hk hHeld
        clear hHeld
        refine hk _ _ ?_
        clear hk
        go_wp2_with fail
        have hown := hown6
        have hol : own.length = k := hown6.len
        go_region_held3 (fun w' => w'.cell? ⟨w3.heap.size, 0, none⟩ = some (.int .i64 p)) (first | go_keep | exact hc6 | exact hc7 | exact hc8 | exact hc9)
          (first
            | (go_at_call 31; (with_reducible refine (elements_any g T n c xs q8 p m8 w8 hD8 hp (by omega)).mono ?_); rintro e w9 ⟨B3, d3, xo, q9, rfl, hown9, hXO, hD9, hS9⟩
               have hF9 := Step.block hS9 hF8 (by omega)
               have hc9 : w9.cell? ⟨w3.heap.size, 0, none⟩ = some (.int .i64 p) := (hF9.cell 0).trans rfl
               have hT9 := hT8.trans hS9)
            | (go_at_call 31; (refine (elements_any g T n c xs q6 p k _ hD6.drew hp (by omega)).mono ?_); rintro e w7 ⟨B2, d2, qo, q7, rfl, hown7, hQO, hD7, hS7⟩
               have hF7 := Step.block hS7 hF6.drew (by omega)
               have hc7 : w7.cell? ⟨w3.heap.size, 0, none⟩ = some (.int .i64 p) := (hF7.cell 0).trans rfl
               have hT7 := hS7)
            | (go_at_call 16; (refine (next_any g T n c xs q7 6 w7 hD7 (by omega)).mono ?_); rintro e w8 ⟨s', q8, rfl, hs, hs0, hD8, hS8, hz8⟩
               obtain ⟨m8, rfl⟩ : ∃ r : Nat, s' = r := ⟨s'.toNat, by have := hs (by omega); omega⟩
               have hm8 : m8 < 6 := by have := hs (by omega); omega
               have hF8 := Step.block hS8 hF7 (by omega)
               have hc8 : w8.cell? ⟨w3.heap.size, 0, none⟩ = some (.int .i64 p) := (hF8.cell 0).trans rfl
               have hT8 := hT7.trans hS8
               clear hs hs0 hz8))
        have hTT := hT6.drew.trans hT9
        have hbb9 := Step.below hbb3.drew hTT hbb3.size (by omega)
        have hB9 := Step.block hTT hB3.drew (by omega)
        have hr9 : w9.cell? ⟨w.heap.size, 0, none⟩ = some (.int .i64 pr) := (hB9.cell 0).trans rfl
        have hg5 : g < w5.heap.size := hD5.1.lt
        have hg6 : g < w6.drew.heap.size := hD6.1.lt
        have hg8 : g < w8.heap.size := hD8.1.lt
        have hOM := (MatO.of_mat (hown6.mat (Nat.le_refl _)) hg5)
        have hOM9 : MatO g w9 B1 k own := MatO.step (w := w6.drew) hOM hT9
        have hQO9 := (IntsO.of_own hown7 hg6).step (hS8.trans hS9)
        have hXO9 := IntsO.of_own hown9 hg8
        have hRO9 := hR.upto hbb9
        have hAO9 := hA.upto hbb9
        have hQI9 := hQ.upto hbb9
        have hXI9 := hX.upto hbb9
        have hOM9 := hOM9.mat
        have hQO9 := hQO9.ints
        have hXO9 := hXO9.ints
        clear hOM hT4 hT5 hT6 hT7 hT8 hT9 hTT hc3 hc4 hc5 hc6 hc7 hc8 hD2 hD3' hD4 hD5 hD6 hD7 hD8 hS4 hS5 hS6 hS7 hS8 hS9 hown hown6 hown7 hown9 hF3 hF4 hF5 hF6 hF7 hF8 hB3 hbb3 hbx hB0 hOR hQO hXO hn hd hab hab1 hB9 hg5 hg6 hg8 hol hAw
        go_wp2_with fail
        have hbW := ballocs hbb9 (.cells #[.int .i64 pr, .int .i64 p] 46)
        have hN := Blk.new w9 46 #[.int .i64 pr, .int .i64 p]
        have hFW := hF9.alloc (.cells #[.int .i64 pr, .int .i64 p] 46)
        have hb9W : Below w9.heap.size w9 (w9.alloc (.cells #[.int .i64 pr, .int .i64 p] 46)) := bbox _
        have hOW := hOM9.upto hb9W
        have hQW := hQO9.upto hb9W
        have hXW := hXO9.upto hb9W
        have hRW := hRO9.upto hb9W
        have hAW := hAO9.upto hb9W
        have hQIW := hQI9.upto hb9W
        have hXIW := hXI9.upto hb9W
        obtain ⟨gN, hgNe⟩ : ∃ gN, w9.heap.size = gN := ⟨_, rfl⟩
        obtain ⟨gF, hgFe⟩ : ∃ gF, w3.heap.size = gF := ⟨_, rfl⟩
        obtain ⟨W, hW⟩ : ∃ W, w9.alloc (.cells #[.int .i64 pr, .int .i64 p] 46) = W := ⟨_, rfl⟩
        rw [hW] at hbW hN hFW hOW hQW hXW hRW hAW hQIW hXIW
        rw [hgNe] at hN
        rw [hgFe] at hFW
        have hNl := hN.lt
        have hkl : k ≤ 17592186043904 := by omega
        have hml : m8 ≤ 17592186043904 := by omega
        have PGS := Lib.hid (two_of (P := fun j => ∃ pg : Int, W.cell? ⟨gN, j, none⟩ = some (.int .i64 pg) ∧ -9223372036854775808 ≤ pg ∧ pg ≤ 9223372036854775807) ⟨pr, (hN.cell 0).trans rfl, hpr⟩ ⟨p, (hN.cell 1).trans rfl, by omega, by omega⟩)
        rw [hgNe, hW, hgFe]
        clear hgNe hW hgFe hb9W hOM9 hQO9 hXO9 hRO9 hAO9 hQI9 hXI9 hF9 hc9 hD9 hbb9 hr9 hN hgf
        go_loopw [122] (fun i wr => ∃ j : Nat, j ≤ 2 ∧ i = .int .i64 j ∧ Below W.heap.size W wr) (fun i _ => 2 - (intOf i).toNat)
        case atStart => exact ⟨0, by omega, rfl, Below.refl _ _⟩
        case round =>
          obtain ⟨j, hj2, rfl, hS⟩ := hrel
          by_cases hj : j < 2
          · obtain ⟨pg, hpg, hpg64⟩ := PGS.out j hj
            have hjl : (j : Int) < 2 := by omega
            have hj0 : (0 : Int) ≤ (j : Int) := by omega
            have hv0 := (hS.cell (p := ⟨gN, j, none⟩) hNl).trans hpg
            have hS0 := ballocs hS (.cells #[.int .i64 pg] 46)
            have hG0 := Blk.new wr 46 #[.int .i64 pg]
            have hF0 := hFW.below hS0 hFW.lt
            have hf0 : (wr.alloc (.cells #[.int .i64 pg] 46)).cell? ⟨gF, 0, none⟩ = some (.int .i64 p) := (hF0.cell 0).trans rfl
            have hpm : 0 ≤ pt0 % p ∧ pt0 % p < p := ⟨Int.emod_nonneg _ (by omega), Int.emod_lt_of_pos _ (by omega)⟩
            obtain ⟨pt1, hpt1⟩ : ∃ v, pt0 % p = v := ⟨_, rfl⟩
            go_wp2_with (go_at_call 21; refine (mod_any pt0 p _ (by omega) (by omega)).mono ?_; rintro e w1 ⟨rfl, rfl⟩; rw [hpt1])
            have hS1 := ballocs hS0 (.cells #[.int .i64 pt0, .int .i64 pt1] 3)
            have hG1 := hG0.alloc (.cells #[.int .i64 pt0, .int .i64 pt1] 3)
            have hY1 := Blk.new (wr.alloc (.cells #[.int .i64 pg] 46)) 3 #[.int .i64 pt0, .int .i64 pt1]
            rw [World.size_alloc] at hY1
            obtain ⟨gP, hgP⟩ : ∃ gP, wr.heap.size = gP := ⟨_, rfl⟩
            obtain ⟨W1, hW1⟩ : ∃ W1, (wr.alloc (.cells #[.int .i64 pg] 46)).alloc (.cells #[.int .i64 pt0, .int .i64 pt1] 3) = W1 := ⟨_, rfl⟩
            rw [hW1] at hS1 hG1 hY1
            rw [hgP] at hG1 hY1
            have hY1l := hY1.lt
            have YSS := Lib.hid (two_of (P := fun i => ∃ yv : Int, W1.cell? ⟨gP + 1, i, none⟩ = some (.int .i64 yv)) ⟨pt0, (hY1.cell 0).trans rfl⟩ ⟨pt1, (hY1.cell 1).trans rfl⟩)
            have hO1 := hOW.upto hS1
            have hQ1 := hQW.upto hS1
            have hX1 := hXW.upto hS1
            have hR1 := hRW.upto hS1
            have hA1 := hAW.upto hS1
            have hQI1 := hQIW.upto hS1
            have hXI1 := hXIW.upto hS1
            rw [hgP, hW1]
            clear hgP hW1 hS hS0 hG0 hF0 hf0 hY1 hpm hpt1 hv0 hpg
            go_loopw [133] (fun i wr => ∃ i2 : Nat, i2 ≤ 2 ∧ i = .int .i64 i2 ∧ Below W1.heap.size W1 wr) (fun i _ => 2 - (intOf i).toNat)
            case atStart => exact ⟨0, by omega, rfl, Below.refl _ _⟩
            case round =>
              obtain ⟨i2, hi2, rfl, hS⟩ := hrel
              by_cases hi2' : i2 < 2
              · obtain ⟨yv, hyv⟩ := YSS.out i2 hi2'
                have hil2 : (i2 : Int) < 2 := by omega
                have hi02 : (0 : Int) ≤ (i2 : Int) := by omega
                have hv2 := (hS.cell (p := ⟨gP + 1, i2, none⟩) hY1l).trans hyv
                go_wp2_with fail
                have hS2 := ballocs hS (.cells #[.slice R lr cr, .slice B1 k d1] 47)
                have hZ2 := Blk.new wr 47 #[.slice R lr cr, .slice B1 k d1]
                obtain ⟨gZ, hgZ⟩ : ∃ gZ, wr.heap.size = gZ := ⟨_, rfl⟩
                obtain ⟨W2, hW2⟩ : ∃ W2, wr.alloc (.cells #[.slice R lr cr, .slice B1 k d1] 47) = W2 := ⟨_, rfl⟩
                rw [hW2] at hS2 hZ2
                rw [hgZ] at hZ2
                have hZ2l := hZ2.lt
                have hG2 := hG1.below hS2 hG1.lt
                have ZSS := Lib.hid (two_of (P := fun i => ∃ (Z : Option Addr) (zn zc : Nat) (zx : List (List Int)), W2.cell? ⟨gZ, i, none⟩ = some (.slice Z zn zc) ∧ Mat W2 0 W2.heap.size Z zn zx ∧ zn ≤ 17592186043904) ⟨R, lr, cr, rows, (hZ2.cell 0).trans rfl, hR1.upto hS2, hlr⟩ ⟨B1, k, d1, own, (hZ2.cell 1).trans rfl, hO1.upto hS2, hkl⟩)
                have hQ2 := hQ1.upto hS2
                have hX2 := hX1.upto hS2
                have hA2 := hA1.upto hS2
                have hQI2 := hQI1.upto hS2
                have hXI2 := hXI1.upto hS2
                rw [hgZ, hW2]
                clear hgZ hW2 hS hv2 hyv hZ2
                go_loopw [141] (fun i wr => ∃ i3 : Nat, i3 ≤ 2 ∧ i = .int .i64 i3 ∧ Below W2.heap.size W2 wr) (fun i _ => 2 - (intOf i).toNat)
                case atStart => exact ⟨0, by omega, rfl, Below.refl _ _⟩
                case round =>
                  obtain ⟨i3, hi3, rfl, hS⟩ := hrel
                  by_cases hi3' : i3 < 2
                  · obtain ⟨Z, zn, zc, zx, hzv, hZI, hzn⟩ := ZSS.out i3 hi3'
                    have hil3 : (i3 : Int) < 2 := by omega
                    have hi03 : (0 : Int) ≤ (i3 : Int) := by omega
                    have hv3 := (hS.cell (p := ⟨gZ, i3, none⟩) hZ2l).trans hzv
                    have hZI3 := hZI.upto hS
                    have hG3 := hG2.below hS hG2.lt
                    have hg3 : wr.cell? ⟨gP, 0, none⟩ = some (.int .i64 pg) := (hG3.cell 0).trans rfl
                    obtain ⟨r1, e1, HR1⟩ := pairE (linesR pg yv zx)
                    have HL1 := Lib.hid (linesR_len pg yv zx (by rw [hZI.len]; omega))
                    have HSA1 : Hid (sameL r1 r1 = true) := Lib.hid (by simp [sameL])
                    go_wp2_with (first
                      | (go_at_call 51; refine (vecE HR1 HL1 (lines_any pg yv Z zn zc zx _ hpg64 hZI3 hzn)).mono ?_; rintro e w4 ⟨U1, un1, uc1, rfl, hU1, hun1, hb4⟩
                         have hS4 := bnext hS hb4
                         have hZI4 := hZI3.upto hb4
                         have hG4 := hG3.below hb4 hG3.lt
                         have hg4 : w4.cell? ⟨gP, 0, none⟩ = some (.int .i64 pg) := (hG4.cell 0).trans rfl
                         have hUI4 := hU1.ints
                         clear hb4 hU1)
                      | (go_at_call 52; refine (vecE HR1 HL1 (rlines_any pg yv Z zn zc zx _ hZI4 hzn)).mono ?_; rintro e w5 ⟨U2, un2, uc2, rfl, hU2, hun2, hb5⟩
                         have hS5 := bnext hS4 hb5
                         have hUI5 := hUI4.upto hb5
                         have hVI5 := hU2.ints
                         have hG5 := hG4.below hb5 hG4.lt
                         clear hb5 hU2)
                      | (go_at_call 36; refine (same_any U1 U2 un1 un2 uc1 uc2 r1 r1 _ hUI5 hVI5 (by omega) (by omega)).mono ?_; rintro e w6 ⟨rfl, q6, rfl⟩; rw [HSA1.out]))
                    have hS6 := ballocs (below_drewN hS5 q6) (.cells #[.slice Q lq cq, .slice B2 k d2] 22)
                    have hM6 := Blk.new (w5.drewN q6) 22 #[.slice Q lq cq, .slice B2 k d2]
                    have hV6 := (hVI5.drewN q6).upto (bbox (w0 := w5.drewN q6) (.cells #[.slice Q lq cq, .slice B2 k d2] 22))
                    have hG6 := (Blk.drewN hG5 q6).alloc (.cells #[.slice Q lq cq, .slice B2 k d2] 22)
                    obtain ⟨gM, hgM⟩ : ∃ gM, w5.heap.size = gM := ⟨_, rfl⟩
                    obtain ⟨W3, hW3⟩ : ∃ W3, (w5.drewN q6).alloc (.cells #[.slice Q lq cq, .slice B2 k d2] 22) = W3 := ⟨_, rfl⟩
                    rw [hW3] at hS6 hM6 hV6 hG6
                    have hM6 : Blk W3 w5.heap.size 22 #[.slice Q lq cq, .slice B2 k d2] := hM6
                    rw [hgM] at hM6
                    have hM6l := hM6.lt
                    have MSS := Lib.hid (two_of (P := fun i => ∃ (M : Option Addr) (mn mc : Nat) (mx : List Int), W3.cell? ⟨gM, i, none⟩ = some (.slice M mn mc) ∧ Ints W3 W3.heap.size M mn mx ∧ mn ≤ 17592186043904) ⟨Q, lq, cq, qs, (hM6.cell 0).trans rfl, hQI2.upto hS6, hlq⟩ ⟨B2, k, d2, qo, (hM6.cell 1).trans rfl, hQ2.upto hS6, hkl⟩)
                    have hX6 := hX2.upto hS6
                    have hXI6 := hXI2.upto hS6
                    rw [hgM, hW3]
                    clear hgM hW3 hM6 hUI5 hVI5 hG5 hS5 hS4 hZI4 hZI3 hUI4 hG4 hg4 hg3 hG3 hv3 hzv hS
                    go_loopw [172] (fun i wr => ∃ i4 : Nat, i4 ≤ 2 ∧ i = .int .i64 i4 ∧ Below W3.heap.size W3 wr) (fun i _ => 2 - (intOf i).toNat)
                    case atStart => exact ⟨0, by omega, rfl, Below.refl _ _⟩
                    case round =>
                      obtain ⟨i4, hi4, rfl, hS⟩ := hrel
                      by_cases hi4' : i4 < 2
                      · obtain ⟨M, mn, mc, mx, hmv, hMI, hmn⟩ := MSS.out i4 hi4'
                        have hil4 : (i4 : Int) < 2 := by omega
                        have hi04 : (0 : Int) ≤ (i4 : Int) := by omega
                        have hv4 := (hS.cell (p := ⟨gM, i4, none⟩) hM6l).trans hmv
                        go_wp2_with fail
                        have hS7 := ballocs hS (.cells #[.slice X lx cx, .slice B3 m8 d3] 22)
                        have hK7 := Blk.new wr 22 #[.slice X lx cx, .slice B3 m8 d3]
                        obtain ⟨gK, hgK⟩ : ∃ gK, wr.heap.size = gK := ⟨_, rfl⟩
                        obtain ⟨W4, hW4⟩ : ∃ W4, wr.alloc (.cells #[.slice X lx cx, .slice B3 m8 d3] 22) = W4 := ⟨_, rfl⟩
                        rw [hW4] at hS7 hK7
                        rw [hgK] at hK7
                        have hK7l := hK7.lt
                        have KSS := Lib.hid (two_of (P := fun i => ∃ (M : Option Addr) (mn mc : Nat) (mx : List Int), W4.cell? ⟨gK, i, none⟩ = some (.slice M mn mc) ∧ Ints W4 W4.heap.size M mn mx ∧ mn ≤ 17592186043904) ⟨X, lx, cx, xx, (hK7.cell 0).trans rfl, hXI6.upto hS7, hlx⟩ ⟨B3, m8, d3, xo, (hK7.cell 1).trans rfl, hX6.upto hS7, hml⟩)
                        have hMI7 := hMI.upto hS7
                        have hV7 := hV6.upto hS7
                        have hG7 := hG6.below hS7 hG6.lt
                        rw [hgK, hW4]
                        clear hgK hW4 hK7 hv4 hmv hS
                        go_loopw [180] (fun i wr => ∃ i5 : Nat, i5 ≤ 2 ∧ i = .int .i64 i5 ∧ Below W4.heap.size W4 wr) (fun i _ => 2 - (intOf i).toNat)
                        case atStart => exact ⟨0, by omega, rfl, Below.refl _ _⟩
                        case round =>
                          obtain ⟨i5, hi5, rfl, hS⟩ := hrel
                          by_cases hi5' : i5 < 2
                          · obtain ⟨E, en, ec, ex, hev, hEI, hen⟩ := KSS.out i5 hi5'
                            have hil5 : (i5 : Int) < 2 := by omega
                            have hi05 : (0 : Int) ≤ (i5 : Int) := by omega
                            have hv5 := (hS.cell (p := ⟨gK, i5, none⟩) hK7l).trans hev
                            have hEI8 := hEI.upto hS
                            have hMI8 := hMI7.upto hS
                            have hV8 := hV7.upto hS
                            have hG8 := hG7.below hS hG7.lt
                            have hg8 : wr.cell? ⟨gP, 0, none⟩ = some (.int .i64 pg) := (hG8.cell 0).trans rfl
                            obtain ⟨fb, fe, HFR⟩ := pairE (fitsR pg yv r1 mx ex)
                            go_wp2_with (first
                              | (go_at_call 53; refine (boolE HFR (fits_any pg yv U2 M E un2 mn en uc2 mc ec r1 mx ex _ hpg64 hV8 hMI8 hEI8 (by omega) (by omega) (by omega))).mono ?_; rintro e w9 ⟨rfl, hb9⟩
                                 have hS9 := bnext hS hb9
                                 have hEI9 := hEI8.upto hb9
                                 have hMI9 := hMI8.upto hb9
                                 have hV9 := hV8.upto hb9
                                 have hG9 := hG8.below hb9 hG8.lt
                                 have hg9 : w9.cell? ⟨gP, 0, none⟩ = some (.int .i64 pg) := (hG9.cell 0).trans rfl
                                 clear hb9)
                              | (go_at_call 54; refine (boolE HFR (rfits_any pg yv U2 M E un2 mn en uc2 mc ec r1 mx ex _ hV9 hMI9 hEI9 (by omega) (by omega) (by omega))).mono ?_; rintro e w10 ⟨rfl, hb10⟩
                                 have hS10 := bnext hS9 hb10
                                 clear hb10))
                            go_roundw
                            case rel => exact ⟨i5 + 1, by omega, by go_num, hS10⟩
                            case measure => simp [intOf]; omega
                          · have hil5 : ¬ (i5 : Int) < 2 := by omega
                            have hS8 := hS7.trans (hS.mono hS7.size)
                            go_wp2
                            go_roundw
                            case rel => exact ⟨i4 + 1, by omega, by go_num, hS8⟩
                            case measure => simp [intOf]; omega
                      · have hil4 : ¬ (i4 : Int) < 2 := by omega
                        have hS7 := hS6.trans (hS.mono hS6.size)
                        go_wp2
                        go_roundw
                        case rel => exact ⟨i3 + 1, by omega, by go_num, hS7⟩
                        case measure => simp [intOf]; omega
                  · have hil3 : ¬ (i3 : Int) < 2 := by omega
                    have hG3 := hG2.below hS hG2.lt
                    have hS3 := hS2.trans (hS.mono hS2.size)
                    have hA3 := hA2.upto hS
                    have hX3 := hX2.upto hS
                    go_wp2_with fail
                    have hS4 := ballocs hS3 (.cells #[.slice A la ca, .slice B3 m8 d3] 22)
                    have hL4 := Blk.new wr 22 #[.slice A la ca, .slice B3 m8 d3]
                    have hG4 := hG3.alloc (.cells #[.slice A la ca, .slice B3 m8 d3] 22)
                    have hbx4 : Below wr.heap.size wr (wr.alloc (.cells #[.slice A la ca, .slice B3 m8 d3] 22)) := bbox _
                    have hA4 := hA3.upto hbx4
                    have hX4 := hX3.upto hbx4
                    obtain ⟨gL, hgL⟩ : ∃ gL, wr.heap.size = gL := ⟨_, rfl⟩
                    obtain ⟨W5, hW5⟩ : ∃ W5, wr.alloc (.cells #[.slice A la ca, .slice B3 m8 d3] 22) = W5 := ⟨_, rfl⟩
                    rw [hW5] at hS4 hL4 hG4 hA4 hX4
                    rw [hgL] at hL4
                    have hL4l := hL4.lt
                    have LSS := Lib.hid (two_of (P := fun i => ∃ (M : Option Addr) (mn mc : Nat) (mx : List Int), W5.cell? ⟨gL, i, none⟩ = some (.slice M mn mc) ∧ Ints W5 W5.heap.size M mn mx ∧ mn ≤ 17592186043904) ⟨A, la, ca, ls, (hL4.cell 0).trans rfl, hA4, hla⟩ ⟨B3, m8, d3, xo, (hL4.cell 1).trans rfl, hX4, hml⟩)
                    rw [hgL, hW5]
                    clear hgL hW5 hL4 hbx4 hA3 hX3 hS hS3 hG3
                    go_loopw [217] (fun i wr => ∃ i6 : Nat, i6 ≤ 2 ∧ i = .int .i64 i6 ∧ Below W5.heap.size W5 wr) (fun i _ => 2 - (intOf i).toNat)
                    case atStart => exact ⟨0, by omega, rfl, Below.refl _ _⟩
                    case round =>
                      obtain ⟨i6, hi6, rfl, hS⟩ := hrel
                      by_cases hi6' : i6 < 2
                      · obtain ⟨M, mn, mc, mx, hmv, hMI, hmn⟩ := LSS.out i6 hi6'
                        have hil6 : (i6 : Int) < 2 := by omega
                        have hi06 : (0 : Int) ≤ (i6 : Int) := by omega
                        have hv6 := (hS.cell (p := ⟨gL, i6, none⟩) hL4l).trans hmv
                        have hMI6 := hMI.upto hS
                        have hG6 := hG4.below hS hG4.lt
                        have hg6 : wr.cell? ⟨gP, 0, none⟩ = some (.int .i64 pg) := (hG6.cell 0).trans rfl
                        obtain ⟨lv, le, HLR⟩ := pairE (lineR pg yv mx)
                        go_wp2_with (first
                          | (go_at_call 55; refine (valE HLR (line_any pg yv M mn mc mx _ hpg64 hMI6 (by omega))).mono ?_; rintro e w7 ⟨rfl, hb7⟩
                             have hS7 := bnext hS hb7
                             have hMI7 := hMI6.upto hb7
                             have hG7 := hG6.below hb7 hG6.lt
                             have hg7 : w7.cell? ⟨gP, 0, none⟩ = some (.int .i64 pg) := (hG7.cell 0).trans rfl
                             clear hb7)
                          | (go_at_call 56; refine (valE HLR (rline_any pg yv M mn mc mx _ hMI7 (by omega))).mono ?_; rintro e w8 ⟨rfl, hb8⟩
                             have hS8 := bnext hS7 hb8
                             clear hb8))
                        go_roundw
                        case rel => exact ⟨i6 + 1, by omega, by go_num, hS8⟩
                        case measure => simp [intOf]; omega
                      · have hil6 : ¬ (i6 : Int) < 2 := by omega
                        have hS7 := hS4.trans (hS.mono hS4.size)
                        go_wp2
                        go_roundw
                        case rel => exact ⟨i2 + 1, by omega, by go_num, hS7⟩
                        case measure => simp [intOf]; omega
              · have hil2 : ¬ (i2 : Int) < 2 := by omega
                have hS2 := hS1.trans (hS.mono hS1.size)
                go_wp2
                go_roundw
                case rel => exact ⟨j + 1, by omega, by go_num, hS2⟩
                case measure => simp [intOf]; omega
          · have hjl : ¬ (j : Int) < 2 := by omega
            go_wp2
            go_ret
            exact ⟨rfl, hbW.trans (hS.mono hbW.size)⟩
      · have hab1 : (1500 : Int) < (la : Int) + (lq : Int) + (lx : Int) := by omega
        go_enter Try.func5, Try.ntmps5
        go_wp2_with (first
          | (go_at_call 43; refine (sane11_any _).mono ?_; rintro e w1 ⟨rfl, rfl⟩)
          | (go_at_call 11; refine (few_any T n c _).mono ?_; rintro e w' ⟨rfl, rfl⟩))
        go_ret
        exact ⟨rfl, hbx⟩
    · have hss1 : 5000 < (s.size : Int) := by omega
      go_enter Try.func5, Try.ntmps5
      go_wp2_with (first
        | (go_at_call 43; refine (sane11_any _).mono ?_; rintro e w1 ⟨rfl, rfl⟩)
        | (go_at_call 11; refine (few_any T n c _).mono ?_; rintro e w' ⟨rfl, rfl⟩))
      go_ret
      exact ⟨rfl, hbx⟩
  · have hd : decide (n ≤ 500) = false := by simpa using hn
    go_enter Try.func5, Try.ntmps5
    go_wp2_with (first
      | (go_at_call 43; refine (sane11_any _).mono ?_; rintro e w1 ⟨rfl, rfl⟩)
      | (go_at_call 11; refine (few_any T n c _).mono ?_; rintro e w' ⟨rfl, rfl⟩))
    go_ret
    exact ⟨rfl, hbx⟩
end Go.Proofs.Ytdklcgpjdajkmaa
