/-
  PolyZeros returns true: the walk of the law. Conditions: none beyond the reading of its arguments.
-/
import Derived.Test.YtpkieikiakikmaaP05
import Derived.Test.YtpkieikiakikmaaBig
import Derived.Test.YtpkieikiakikmaaZerosA
import Derived.Deep.QuietTactic
import Derived.BigQuiet
import Derived.Deep.RegionHeld3
namespace Go.Proofs.Ytpkieikiakikmaa
open Go.RowKit
set_option linter.unusedVariables false

set_option maxHeartbeats 6400000 in
set_option maxRecDepth 100000 in
theorem polyZeros_walk (A : Option Addr) (n c : Nat) (zs0 : List Int) (w : World) (w0 : IsRow .i64 w A n c zs0) :
    Calls Try.prog 8 #[.slice A n c] w fun e w' => e = .returned (.bool true) ∧ Below w.heap.size w w' := by
  obtain ⟨i0, hi0, hz0, hz1, hz2⟩ := info_parts info_int
  obtain ⟨h, hw⟩ := w0.ints
  generalize zs0.take n = xs at h hw
  clear w0
  by_cases hn : n ≤ 500
  · have hd : decide (n ≤ 500) = true := by simpa using hn
    go_enter Try.func8, Try.ntmps8
    go_wp2_with (first
      | (go_at_call 35; refine (sane05_any _).mono ?_; rintro e w1 ⟨rfl, hb1⟩)
      | (go_at_call 14; refine (few_any A n c _).mono ?_; rintro e w' ⟨rfl, rfl⟩)
      | (go_at_call 15; refine (new_any A n c xs _ (h.upto hb1) hn).mono ?_; rintro e w2 ⟨⟨g, rfl, hge, hD2⟩, hb2⟩
         have hbb2 := bnext hb1 hb2
         have hg : w.heap.size ≤ g := by rw [hge]; exact hb1.size
         clear hge)
      | (go_at_call 42; refine (big_any g A n c xs _ 2 _ hD2 (by omega)).mono ?_; rintro e w3 ⟨p, q3, rfl, hkn, _, hD3, hS3⟩
         have hok := okP_known hkn
         have hp := okP_pos hok
         have HO := Lib.hid hok
         have hg3 := hD3.1.lt
         have hbb3 := ballocs (ballocs (Step.below hbb2 hS3 hbb2.size hg) (.cells #[.int .i64 p] 47)) (.cells #[.int .i64 1] 3)
         have hF_3 := (Blk.new w3 47 #[.int .i64 p]).alloc (.cells #[.int .i64 1] 3)
         have hD3' := (hD3.alloc (.cells #[.int .i64 p] 47)).alloc (.cells #[.int .i64 1] 3)
         have hgf : w3.heap.size ≠ g := by omega
         have hw3 : w.heap.size ≤ w3.heap.size := (Step.below hbb2 hS3 hbb2.size hg).size
         have hoP3 : OwnI ((w3.alloc (.cells #[.int .i64 p] 47)).alloc (.cells #[.int .i64 1] 3)) (w3.alloc (.cells #[.int .i64 p] 47)).heap.size 3 (some ⟨(w3.alloc (.cells #[.int .i64 p] 47)).heap.size, 0, none⟩) 1 1 [1] := OwnI.made (Nat.le_refl _) (Blk.new (w3.alloc (.cells #[.int .i64 p] 47)) 3 #[.int .i64 1]) rfl (by unfold maxLen; omega)
         have HZ3 := Lib.hid (Zer.start (p := p) hp.1)
         rw [World.size_alloc] at hoP3
         have hg31 : g < w3.heap.size + 1 := by omega
         clear hok hkn hD2 hD3 hS3 hbb2 hb1 hb2)
      | (go_at_call 19; refine (next_any g A n c xs q3 5 _ hD3' (by omega)).mono ?_; rintro e w4 ⟨r', q4, rfl, hr, hr0, hD4, hS4, hz4⟩
         obtain ⟨K, rfl⟩ : ∃ r : Nat, r' = r := ⟨r'.toNat, by have := hr (by omega); omega⟩
         have hK : K ≤ 4 := by have := hr (by omega); omega
         have hF_4 := Step.block hS4 hF_3 hgf
         have hbb4 := Step.below hbb3 hS4 hbb3.size hg
         have hoP4 := hoP3.step hS4 hg31
         clear hr hr0 hz4 hS4 hD3' hF_3 hbb3 hoP3))
    go_loopw [5, 6, 7] (fun v5 v6 v7 wz => ∃ (k z pl : Nat) (P : Option Addr) (pc : Nat) (ps : List Int) (Z : Option Addr) (zc : Nat) (zs : List Int) (q : Nat), k + z ≤ 4 ∧ Hid (pl = z + 1) ∧ 0 < pl ∧ pl ≤ 5 ∧ pl ≤ pc ∧ v5 = .slice P pl pc ∧ v6 = .slice Z z zc ∧ v7 = .int .i64 k ∧
      OwnI wz (w3.heap.size + 1) 3 P pl pc ps ∧ OwnI wz (w3.heap.size + 1) 3 Z z zc zs ∧ Hid (Zer p zs ps ∧ ∀ a ∈ zs, 0 ≤ a ∧ a < p) ∧ Deck wz g A n c xs q ∧ Blk wz w3.heap.size 47 #[.int .i64 p] ∧ Below w.heap.size w wz) (fun _ _ v7 _ => (intOf v7).toNat)
    case atStart => exact ⟨K, 0, 1, _, 1, [1], none, 0, [], q4, by omega, Lib.hid rfl, by omega, by omega, Nat.le_refl _, rfl, rfl, rfl, hoP4, OwnI.nil_, Lib.hid ⟨HZ3.out, fun a ha => by simp at ha⟩, hD4, hF_4, hbb4⟩
    case round =>
      obtain ⟨k, z, pl, P, pc, ps, Z, zc, zs, q, hkz, HPL, hpl0, hpl, hplc, rfl, rfl, rfl, hoP, hoZ, HZ, hD, hF, hb⟩ := hrel
      have hc0 : wr.cell? ⟨w3.heap.size, 0, none⟩ = some (.int .i64 p) := (hF.cell 0).trans rfl
      by_cases hk0 : 0 < k
      · have hk1 : (0 : Int) < (k : Int) := by omega
        obtain ⟨k1, hk2⟩ : ∃ k1 : Nat, (k : Int) - 1 = k1 := ⟨k - 1, by omega⟩
        go_wp2_with (go_at_call 19; refine (next_any g A n c xs q _ _ hD (by omega)).mono ?_; rintro e w5 ⟨a, q5, rfl, hr, hr0, hD5, hS5, hz5⟩
                     have ha : 0 ≤ a ∧ a < p := by have := hr (by omega); omega
                     have hoP5 := hoP.step hS5 hg31
                     have hoZ5 := hoZ.step hS5 hg31
                     have hF5 := Step.block hS5 hF hgf
                     have hc5 : w5.cell? ⟨w3.heap.size, 0, none⟩ = some (.int .i64 p) := (hF5.cell 0).trans rfl
                     have hb5 := Step.below hb hS5 hb.size hg
                     clear hr hr0 hz5)
        all_goals
          obtain ⟨s, hs⟩ : ∃ s, (p - a) % p = s := ⟨_, rfl⟩
          have hst : (p - a).tmod p = s := by rw [Int.tmod_eq_emod_of_nonneg (by omega)]; exact hs
          have hsw : IntKind.i64.wrap (p - a) = p - a := IntWalk.i64_in _ (by omega)
          have hpn : ¬ p = 0 := by omega
          have hsin : 0 ≤ s ∧ s < p := by rw [← hs]; exact ⟨Int.emod_nonneg _ (by omega), Int.emod_lt_of_pos _ (by omega)⟩
          have HZS := Lib.hid (HZ.out.1.step HO.out a ha)
          rw [hs] at HZS
          obtain ⟨mp, HMP⟩ : ∃ mp, Hid (mulL p ps [s, 1] = mp) := ⟨_, Lib.hid rfl⟩
          rw [HMP.out] at HZS
          have hzl := hoZ.len
          have HML : Hid (mp.length = z + 1 + 1) := Lib.hid (by have := HZS.out.ln; rw [List.length_append, hzl] at this; exact this)
          have HPP := Lib.hid HZ.out.1.al
          have HZN : Hid (Zer p (zs ++ [a]) mp ∧ ∀ b ∈ zs ++ [a], 0 ≤ b ∧ b < p) := Lib.hid ⟨HZS.out, fun b hb => by
            rcases List.mem_append.1 hb with h1 | h1
            · exact HZ.out.2 b h1
            · rw [List.mem_singleton.1 h1]; exact ha⟩
          have HAL : Hid (allP p [s, 1] = true) := Lib.hid (allP_iff.2 fun x hx => by
            rcases List.mem_cons.1 hx with h1 | h1
            · rw [h1]; exact hsin
            · rw [List.mem_singleton.1 h1]; omega)
          have hcA : (w5.alloc (.cells #[.int .i64 s, .int .i64 1] 3)).drew.cell? ⟨w3.heap.size, 0, none⟩ = some (.int .i64 p) := ((hF5.alloc _).cell 0).trans rfl
          have hIPA := (hoP5.alloc (.cells #[.int .i64 s, .int .i64 1] 3)).drew.ints
          clear hs HZS hzl
          go_region_held3 (fun w' => w'.cell? ⟨w3.heap.size, 0, none⟩ = some (.int .i64 p)) (first | exact hc5 | exact hcA | exact hc6)
            (first
              | (go_at_call 43; refine (pmul_ok p P _ pl 2 pc 2 ps [s, 1] _ HO.out hIPA (by exact (Ints.lit w5 _ [s, 1] 3 2 w5.heap.size rfl rfl rfl).drew) HPP.out HAL.out hplc (by omega) (by omega)).mono ?_; rintro e w6 ⟨⟨A6, c6, rfl, hown6⟩, hb6⟩
                 rw [HMP.out] at hown6
                 rw [HMP.out]
                 have hF6 := (hF5.alloc (.cells #[.int .i64 s, .int .i64 1] 3)).drew.below hb6 (hF5.alloc (.cells #[.int .i64 s, .int .i64 1] 3)).lt
                 have hD6 := (hD5.alloc (.cells #[.int .i64 s, .int .i64 1] 3)).drew.belowAll hb6
                 have hoZ6 := (hoZ5.alloc (.cells #[.int .i64 s, .int .i64 1] 3)).drew.belowAll hb6
                 have hb66 := ballocs (bnext (ballocs hb5 (.cells #[.int .i64 s, .int .i64 1] 3)).drew hb6) (.cells #[.int .i64 a] 3)
                 have hl5 := hF5.lt
                 have hl6 := hF6.lt
                 have hap := own_apart (u := .slice A6 mp.length c6) (v := .slice Z z zc) (m := w5.heap.size) (fun g e => (World.ownsRow.lt hoZ5 g e).2) (fun g e => Nat.le_trans (Nat.le_of_lt (Blk.new w5 3 #[.int .i64 s, .int .i64 1]).lt) (hown6.row g e))
                 have hc6 : w6.cell? ⟨w3.heap.size, 0, none⟩ = some (.int .i64 p) := (hF6.cell 0).trans rfl))
          go_wp2_with (at_builtin
                       refine wpList_append_ints rfl _ _ _ rfl (w3.heap.size + 1) 3 i0 _ Try.underlying22 hi0 hz0 hz1 hz2 rfl Z z zc zs rfl (hoZ6.alloc _) _ _ 1 1 [a] rfl (Ints.one _ _ _) (z + 1) rfl (zs ++ [a]) rfl (by omega) (le_alloc hl6 _) ?_
                       intro Z2 zc2 w7 hoZ7 hgr7 hb7 _
                       have hoP7 := (hown6.alloc (.cells #[.int .i64 a] 3)).kept hgr7 hap
                       have hD7 := (hD6.alloc (.cells #[.int .i64 a] 3)).below hb7 hg31
                       have hF7 := (hF6.alloc (.cells #[.int .i64 a] 3)).below hb7 (Nat.lt_succ_self _)
                       have hb77 := hb66.trans (hb7.mono (by omega)))
          go_roundw
          case rel => exact ⟨k1, z + 1, mp.length, A6, c6, mp, Z2, zc2, zs ++ [a], q5, by omega, HML, by have := HML.out; omega, by have := HML.out; omega, hown6.cap, rfl, rfl, rfl, hoP7.base (Nat.le_of_lt (Nat.lt_of_le_of_lt hl5 (Blk.new w5 3 #[.int .i64 s, .int .i64 1]).lt)), hoZ7, HZN, hD7, hF7, hb77⟩
          case measure => simp [intOf]; omega
      · have hzl := hoZ.len
        have HZZ := Lib.hid HZ.out.1
        have HZA : Hid (allP p zs = true) := Lib.hid (allP_iff.2 HZ.out.2)
        have HPP := Lib.hid HZ.out.1.al
        have HTN : Hid (((tn ps pl : Nat) : Int) - 1 = z) := Lib.hid (by
          have h1 := trimL_len ps
          rw [HZ.out.1.tr.trimL, HZ.out.1.ln, hzl] at h1
          rw [HPL.out]
          omega)
        have HZV : Hid (∀ x : Nat, (x : Int) < p → (valueP p x ps == 0) = decide ((x : Int) ∈ zs)) := Lib.hid fun x hx => HZ.out.1.zero HO.out HZA.out ⟨by omega, hx⟩
        have HCL : Hid (∀ x, 0 ≤ cntZ zs x ∧ cntZ zs x ≤ z) := Lib.hid fun x => ⟨cntZ_nonneg zs x, by have := cntZ_le zs x; rw [hzl] at this; exact this⟩
        have HZL := Lib.hid hzl
        have hIP := hoP.ints
        have hIZ := hoZ.ints
        have hz4 : z ≤ 4 := by omega
        have hk00 : ¬ (0 : Int) < (k : Int) := by omega
        clear HZ hzl hi0 hz0 hz1 hz2
        go_wp2_with (go_at_call 44; refine (pdeg_ok p P pl pc ps _ HO.out hIP HPP.out hplc (by omega)).mono ?_; rintro e w8 ⟨rfl, hb8⟩
                     rw [HTN.out]
                     have hbb8 := bnext hb hb8
                     have hF8 := hF.below hb8 hF.lt
                     have hIP8 := hIP.upto hb8
                     have hIZ8 := hIZ.upto hb8)
        clear hb hb8 hF hIP hIZ hoP hoZ hD
        go_loopw [13, 14] (fun v13 v14 wz => ∃ (x : Nat) (ct : Int), (x : Int) ≤ p ∧ x ≤ 30 ∧ v13 = .int .i64 ct ∧ v14 = .int .i64 x ∧ Hid (ct = cntZ zs x) ∧ Below w8.heap.size w8 wz) (fun _ v14 _ => 30 - (intOf v14).toNat)
        case atStart => exact ⟨0, 0, by omega, by omega, rfl, rfl, Lib.hid rfl, Below.refl _ _⟩
        case round =>
          rename_i wz
          obtain ⟨x, ct, hxp, hx30, rfl, rfl, HCT, hbz⟩ := hrel
          have hct := HCL.out x
          rw [← HCT.out] at hct
          have hFz := hF8.below hbz hF8.lt
          have hcz : wr.cell? ⟨w3.heap.size, 0, none⟩ = some (.int .i64 p) := (hFz.cell 0).trans rfl
          by_cases hlt : (x : Int) < p ∧ x < 30
          · have hx1 : (x : Int) < p := hlt.1
            have hx2 : (x : Int) < 30 := by omega
            obtain ⟨y, HY⟩ : ∃ y, Hid (valueP p x ps = y) := ⟨_, Lib.hid rfl⟩
            obtain ⟨b, HB⟩ : ∃ b, Hid (decide ((x : Int) ∈ zs) = b) := ⟨_, Lib.hid rfl⟩
            have HYB : Hid ((y == 0) = b) := Lib.hid (by have := HZV.out x hx1; rw [HY.out, HB.out] at this; exact this)
            have HCS := Lib.hid (cntZ_succ zs x)
            clear hlt
            go_wp2_with (go_at_call 38; refine (pvalue_ok p x P pl pc ps _ HO.out (hIP8.upto hbz) HPP.out ⟨by omega, hx1⟩ (by omega)).mono ?_; rintro e w9 ⟨rfl, hb9⟩
                         rw [HY.out]
                         have hbz9 := bnext hbz hb9
                         have hIZ9 := (hIZ8.upto hbz).upto hb9)
            all_goals
              go_loop [17, 84] (fun v17 v84 => ∃ (t : Nat) (b' : Bool), t ≤ z ∧ v17 = .bool b' ∧ v84 = .int .i64 t ∧ Hid (decide ((x : Int) ∈ zs.take t) = b')) (fun _ v84 => z - (intOf v84).toNat)
              case atStart => exact ⟨0, false, Nat.zero_le _, rfl, rfl, Lib.hid (by simp)⟩
              case round =>
                obtain ⟨t, b', ht, rfl, rfl, HB'⟩ := hrel
                by_cases hlt2 : t < z
                · obtain ⟨b1, o1, rfl, hb1, hc1⟩ := hIZ9.2 (by omega)
                  have hct2 := hc1 t hlt2
                  clear hc1
                  have HTK := Lib.hid (take_succ_getD zs t (by rw [HZL.out]; exact hlt2))
                  generalize zs.getD t 0 = zt at *
                  cases b' with
                  | true =>
                    have HN : Hid (decide ((x : Int) ∈ zs.take (t + 1)) = true) := Lib.hid (by
                      rw [HTK.out, decide_eq_true_eq]
                      exact List.mem_append.2 (.inl (of_decide_eq_true HB'.out)))
                    go_wp2
                    go_round
                    case rel => exact ⟨t + 1, true, by omega, rfl, by go_num, HN⟩
                    case measure => simp [intOf]; omega
                  | false =>
                    have HNI : Hid ((x : Int) ∉ zs.take t) := Lib.hid (of_decide_eq_false HB'.out)
                    by_cases hzx : zt = (x : Int)
                    · have HN : Hid (decide ((x : Int) ∈ zs.take (t + 1)) = true) := Lib.hid (by
                        rw [HTK.out, decide_eq_true_eq, hzx]
                        exact List.mem_append.2 (.inr (by simp)))
                      have hzb : (zt == (x : Int)) = true := by simpa using hzx
                      clear hzx
                      go_wp2
                      go_round
                      case rel => exact ⟨t + 1, true, by omega, rfl, by go_num, HN⟩
                      case measure => simp [intOf]; omega
                    · have HN : Hid (decide ((x : Int) ∈ zs.take (t + 1)) = false) := Lib.hid (by
                        rw [HTK.out, decide_eq_false_iff_not]
                        intro hm
                        rcases List.mem_append.1 hm with h1 | h1
                        · exact HNI.out h1
                        · exact hzx (List.mem_singleton.1 h1).symm)
                      have hzb : (zt == (x : Int)) = false := by simpa using hzx
                      clear hzx
                      go_wp2
                      go_round
                      case rel => exact ⟨t + 1, false, by omega, rfl, by go_num, HN⟩
                      case measure => simp [intOf]; omega
                · have hbb : b' = b := by
                    have h1 := HB'.out
                    rw [List.take_of_length_le (by rw [HZL.out]; omega), HB.out] at h1
                    exact h1.symm
                  subst hbb
                  clear HB'
                  cases b' with
                  | true =>
                    have hy0 : y = 0 := by simpa using HYB.out
                    subst hy0
                    have HCN : Hid (ct + 1 = cntZ zs (x + 1)) := Lib.hid (by rw [HCS.out, if_pos (of_decide_eq_true HB.out), HCT.out])
                    go_wp2
                    go_roundw
                    case rel => exact ⟨x + 1, ct + 1, by omega, by omega, rfl, by go_num, HCN, hbz9⟩
                    case measure => simp [intOf]; omega
                  | false =>
                    have hy0 : (y == 0) = false := HYB.out
                    have HCN : Hid (ct = cntZ zs (x + 1)) := Lib.hid (by rw [HCS.out, if_neg (of_decide_eq_false HB.out), HCT.out, Int.add_zero])
                    go_wp2
                    go_roundw
                    case rel => exact ⟨x + 1, ct, by omega, by omega, rfl, by go_num, HCN, hbz9⟩
                    case measure => simp [intOf]; omega
          · have hct2 : ct ≤ (z : Int) := hct.2
            have hbw := bnext hbb8 hbz
            go_wp2
            all_goals first
              | (go_ret; exact ⟨rfl, hbw⟩)
              | (exfalso; omega)
  · have hd : decide (n ≤ 500) = false := by simpa using hn
    go_enter Try.func8, Try.ntmps8
    go_wp2_with (first
      | (go_at_call 35; refine (sane05_any _).mono ?_; rintro e w1 ⟨rfl, hb1⟩)
      | (go_at_call 14; refine (few_any A n c _).mono ?_; rintro e w' ⟨rfl, rfl⟩))
    go_ret
    exact ⟨rfl, hb1⟩
end Go.Proofs.Ytpkieikiakikmaa
