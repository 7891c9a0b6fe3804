/-
  UniqueKeys returns true: the walk of the law. Conditions: none beyond the reading of its arguments and of the variable errWrong.
-/
import Derived.Test.YteipcjmkhacdgaaDoorS09
import Derived.Test.YteipcjmkhacdgaaDoorUWord
import Derived.Test.YteipcjmkhacdgaaDoorRef5b
import Derived.Test.YteipcjmkhacdgaaDoorRSol
import Derived.Test.YteipcjmkhacdgaaDoorRDiv
namespace Go.Proofs.YteipcjmkhacdgaaDoor
open Go.RowKit
set_option linter.unusedVariables false

theorem ErrW.step {g : Nat} {w w' : World} (h : ErrW w) (hs : Step g w w') (hg : 0 < g) : ErrW w' :=
  ⟨(World.cell?_of_block (World.grownBy.block hs 0 h.2 (fun e => by injection e with e; omega))).trans h.1, Nat.lt_of_lt_of_le h.2 (World.grownBy.size hs)⟩
theorem errL_both {p : Int} {xs ys : List Int} (hok : okP p = true) (hx : allP p xs = true) (hy : allP p ys = true) (hn : xs.length ≤ 512) (hm : ys.length ≤ 512) : errL p [xs, ys] = 0 := by
  unfold errL
  rw [if_pos ⟨hok, by simp [allR, hx, hy]⟩, if_neg (by simp; omega)]

set_option maxRecDepth 100000 in
set_option maxHeartbeats 8000000 in
theorem uniqueKeys_walk (A : Option Addr) (n c : Nat) (zs : List Int) (w : World) (w0 : IsRow .i64 w A n c zs) (hW : ErrW w) :
    Calls Tryd.prog 7 #[.slice A n c] w fun e w' => e = .returned (.bool true) ∧ Below w.heap.size w w' := by
  obtain ⟨i0, hi0, hz0, hz1, hz2⟩ := info_parts info_int
  obtain ⟨h, hw⟩ := w0.ints
  generalize zs.take n = xs at h hw
  clear w0
  by_cases hn : n ≤ 500
  · have hd : decide (n ≤ 500) = true := by simpa using hn
    go_enter Tryd.func7, Tryd.ntmps7
    go_upto_region 6 with (first
      | (go_at_call 9; refine (sane09_any _ hW).mono ?_; rintro e w1 ⟨rfl, hb1⟩
         have hE1 := hW.below hb1)
      | (go_at_call 10; refine (few_any A n c _).mono ?_; rintro e w' ⟨rfl, rfl⟩)
      | (go_at_call 11; refine (new_any A n c xs _ (h.upto hb1) hn).mono ?_; rintro e w2 ⟨⟨g, rfl, hge, hD2⟩, hb2⟩
         have hbb2 := bnext hb1 hb2
         have hE2 := hE1.below hb2
         have hg : w.heap.size ≤ g := by rw [hge]; exact hb1.size
         have hg1 : 0 < g := by rw [hge]; exact hE1.2
         clear hge hb1 hb2 hE1)
      | (go_at_call 27; refine (uword_any g A n c xs 0 _ hD2).mono ?_; rintro e w3 ⟨p, k, N, B1, pn, d1, pl, B2, d2, vs, bs, q3, rfl, hok, hlp, hk1, hkN, hN10, hpnk, hpa, hO3, hC3, hkn, hkl, hwr, hD3, hS3⟩))
    have hbb3 := ballocs (Step.below hbb2 hS3 hbb2.size hg) (.cells #[.int .i64 p] 24)
    have hE3 := (hE2.step hS3 hg1).below (bbox (.cells #[.int .i64 p] 24))
    have hI3 := hO3.ints.upto (bbox (.cells #[.int .i64 p] 24))
    have hK3 := hC3.cel.upto (bbox (.cells #[.int .i64 p] 24))
    have hF3 := Blk.new w3 24 #[.int .i64 p]
    have hcap := hO3.cap
    obtain ⟨F, hF⟩ : ∃ F, w3.heap.size = F := ⟨_, rfl⟩
    obtain ⟨W, hWe⟩ : ∃ W, w3.alloc (.cells #[.int .i64 p] 24) = W := ⟨_, rfl⟩
    rw [hWe] at hbb3 hE3 hI3 hK3 hF3 ⊢
    rw [hF] at hF3 ⊢
    have hvl := hC3.1
    have hbl := hC3.2.1
    have HO := Lib.hid hok
    have hp := okP_pos hok
    have HPA := Lib.hid hpa
    have HKN := Lib.hid hkn
    have HKL := Lib.hid hkl
    have HWR := Lib.hid hwr
    have hln : (knL vs bs).length ≤ N := by have := knL_len vs bs; rw [hvl] at this; exact this
    have HAP : Hid ((ptK (knL vs bs)).Pairwise (fun x y => ¬ Cong p (y - x) 0)) := Lib.hid (knL_apart (by rw [hvl]; omega))
    have hcf : W.cell? ⟨F, 0, none⟩ = some (.int .i64 p) := (hF3.cell 0).trans rfl
    obtain ⟨l, hl⟩ : ∃ l, knL vs bs = l := ⟨_, rfl⟩
    have HL := Lib.hid hl
    have HW1 : Hid (∀ a, DecOf p k ((l.length - k) / 2) l a → a = some (trimL pl)) := Lib.hid fun a ha => by
      rw [← hl] at ha
      exact DecOf.one HO.out ha HAP.out (by omega) HPA.out (by rw [hO3.len]; exact hpnk) HWR.out
    have hplen := hO3.len
    have HPL := Lib.hid hplen
    obtain ⟨M, hM⟩ : ∃ M, l.length = M := ⟨_, rfl⟩
    have hNl := Lib.hid hM
    have hMN : M ≤ N := by rw [← hM, ← hl]; exact hln
    have hkM : k ≤ M := by rw [← hM, ← hl]; exact hkl
    rw [hl] at HAP
    clear hF hWe hvl hbl hok hpa hkn hkl hwr hO3 hC3 hS3 hD3 hD2 hE2 hbb2 hl hplen hM hln
    go_wp2_with fail
    go_at_call 18
    refine (uDecode_ok p B2 N d2 k vs bs _ HO.out hK3 (by omega) (by omega) HKN.out hk1 hkN HKL.out hE3).mono ?_
    rw [HL.out]
    rintro e w4 ⟨⟨hD, rfl⟩ | ⟨P, A1, c1, A2, c2, hD, rfl, hI1, hI2, hc1, hc2, hn1, hn2⟩, hb4⟩
    · exfalso
      have := HW1.out _ hD
      cases this
    · have hP : P = trimL pl := by
        have := HW1.out _ hD
        injection this
      have hwrl : wrL p P l = wrL p pl l := by rw [hP, wrL_trim p hp.1]
      rw [hwrl] at hI2 hc2
      rw [hwrl]
      obtain ⟨tl, htl⟩ : ∃ tl, trimL pl = tl := ⟨_, rfl⟩
      obtain ⟨tn1, htn⟩ : ∃ tn1, tl.length = tn1 := ⟨_, rfl⟩
      obtain ⟨bad, hbad⟩ : ∃ bad, wrL p pl l = bad := ⟨_, rfl⟩
      obtain ⟨bn, hbn⟩ : ∃ bn, bad.length = bn := ⟨_, rfl⟩
      rw [htl] at hP
      subst hP
      rw [htn] at hI1 hc1 ⊢
      rw [hbad, hbn] at hI2 hc2 ⊢
      have HTL := Lib.hid htl
      have HTN := Lib.hid htn
      have HBD := Lib.hid hbad
      have HBN := Lib.hid hbn
      have htk : tn1 ≤ k := by rw [← htn, ← htl]; exact Nat.le_trans (trimL_le_ pl) (by rw [HPL.out]; exact hpnk)
      have hwr1 := HWR.out
      rw [HL.out, HBD.out, HBN.out, hNl.out] at hwr1
      have hkv : k + 2 * bn ≤ 32 := by omega
      have hkM2 : k + 2 * bn ≤ M := by omega
      obtain ⟨cl, hcl⟩ : ∃ cl, k + 2 * bn = cl := ⟨_, rfl⟩
      obtain ⟨kv, hkvE⟩ : ∃ kv, k + bn = kv := ⟨_, rfl⟩
      have HCL := Lib.hid hcl
      have HKV := Lib.hid hkvE
      have e1 : (k : Int) + 2 * (bn : Int) = (cl : Int) := by omega
      have e2 : (k : Int) + (bn : Int) = (kv : Int) := by omega
      have hclw : IntKind.i64.wrap (cl : Int) = (cl : Int) := IntWalk.i64_in _ (by omega)
      have hkvw : IntKind.i64.wrap (kv : Int) = (kv : Int) := IntWalk.i64_in _ (by omega)
      have h2w : IntKind.i64.wrap (2 * (bn : Int)) = 2 * (bn : Int) := IntWalk.i64_in _ (by omega)
      have hN4 := Blk.new w4 27 #[.slice A1 tn1 c1, .slice A2 bn c2]
      have hbb4 := ballocs (bnext hbb3 hb4) (.cells #[.slice A1 tn1 c1, .slice A2 bn c2] 27)
      have hF4 := (hF3.below hb4 hF3.lt).alloc (.cells #[.slice A1 tn1 c1, .slice A2 bn c2] 27)
      have hI4 := (hI3.upto hb4).upto (bbox (.cells #[.slice A1 tn1 c1, .slice A2 bn c2] 27))
      have hK4 := (hK3.upto hb4).upto (bbox (.cells #[.slice A1 tn1 c1, .slice A2 bn c2] 27))
      have hcf4 : (w4.alloc (.cells #[.slice A1 tn1 c1, .slice A2 bn c2] 27)).cell? ⟨F, 0, none⟩ = some (.int .i64 p) := (hF4.cell 0).trans rfl
      clear htl htn hbad hbn hwrl hD hn1 hn2 hI1 hI2 hb4 hF3 hI3 hK3 hcf hE3 hwr1 hcl hkvE
      go_upto_region 9 with (first
        | (go_at_call 22; (refine (ukey_ok p B2 N d2 k bn vs bs _ HO.out hK4 (by omega) (by omega) HKN.out hk1 hkN HKL.out hkv).mono ?_); rintro e w5 ⟨C, nc, cc, D, cd, rfl, hEQ, hb5⟩
           rw [HL.out, hNl.out, HCL.out] at hEQ
           rw [HL.out, hNl.out, HCL.out]
           have HE5 := Lib.hid (hEQ.upto (bbox (.cells (eqC p M cl C nc cc D M cd) 46)))
           have hbb5 := ballocs (bnext hbb4 hb5) (.cells (eqC p M cl C nc cc D M cd) 46)
           have hF5 := (hF4.below hb5 hF4.lt).alloc (.cells (eqC p M cl C nc cc D M cd) 46)
           have hI5 := (hI4.upto hb5).upto (bbox (.cells (eqC p M cl C nc cc D M cd) 46))
           clear hb5 hEQ hK4 hN4 hcf4))
      go_wp2_with fail
      go_at_call 32
      refine (rsolve06_ok HE5.out).mono ?_
      rintro e w6 ⟨⟨hS, rfl⟩ | ⟨g6, x, hS, rfl, hown6⟩, hb6⟩
      · exfalso
        obtain ⟨x, hx1, hx2⟩ := key_has (l := l) (v := bn) HO.out HPA.out (by rw [HPL.out]; exact hpnk) hk1 (by rw [HBD.out, HBN.out]; exact Nat.le_refl _)
        rw [HCL.out, hNl.out] at hx2
        exact solveOf_noneU hp.1 hS (x := x) hx2
      · have hSol := solveOf_someU hp.1 hS
        have hXL := hSol.2.1
        have hXA := Lib.hid hSol.2.2
        have HSV := Lib.hid hSol.1
        have HDV : Hid (DivOf p (x.take kv) (x.drop kv ++ [1]) P []) := Lib.hid (by
          have h1 := key_div (l := l) (v := bn) (k := k) (P := pl) (x := x) HO.out HPA.out (by rw [HPL.out]; exact hpnk) hk1 (by rw [HBD.out, HBN.out]; exact Nat.le_refl _) HAP.out (by rw [hNl.out]; exact hkM2) (by rw [HCL.out]; exact hXL) hXA.out (by rw [HCL.out, hNl.out]; exact HSV.out)
          rwa [HKV.out, HTL.out] at h1)
        have hbb6 := bnext hbb5 hb6
        have hF6 := hF5.below hb6 hF5.lt
        have hI6 := hI5.upto hb6
        have hkvc : kv ≤ cl ∧ cl ≤ 32 := by have := HCL.out; have := HKV.out; omega
        have hX6 := hown6.ints
        have hem : cl - kv = bn := by have := HCL.out; have := HKV.out; omega
        have hcf6 : w6.cell? ⟨F, 0, none⟩ = some (.int .i64 p) := (hF6.cell 0).trans rfl
        obtain ⟨X, hX⟩ : ∃ X, (some ⟨g6, 0, none⟩ : Option Addr) = X := ⟨_, rfl⟩
        rw [hX] at hX6 ⊢
        have HI := Lib.hid (hX6.sub_ (Nat.le_refl _) kv bn (by omega))
        have HTD : Hid ((x.drop kv).take bn = x.drop kv) := Lib.hid (List.take_of_length_le (by rw [List.length_drop, hXL]; omega))
        rw [HTD.out] at HI
        obtain ⟨A4, hA4, HI4⟩ : ∃ A4 : Option Addr, (if cl = kv then X else Option.map (fun x => x.add kv) X) = A4 ∧ Hid (Ints w6 w6.heap.size A4 bn (x.drop kv)) := by
          refine ⟨_, rfl, ?_⟩
          have := HI
          rwa [Nat.mul_one] at this
        have hIk : Ints w6 w6.heap.size X kv (x.take kv) := ⟨by rw [List.length_take, hXL]; omega, fun h0 => by
          obtain ⟨b, o, e, hb, hc⟩ := hX6.2 (by omega)
          exact ⟨b, o, e, hb, fun j hj => (hc j (by omega)).trans (by rw [List.getD_eq_getElem?_getD, List.getD_eq_getElem?_getD, List.getElem?_take, if_pos hj])⟩⟩
        have HIK := Lib.hid hIk
        have HXL := Lib.hid hXL
        have HXK : Hid (allP p (x.take kv) = true) := Lib.hid (take_allP hXA.out kv)
        have HXE : Hid (allP p (x.drop kv ++ [1]) = true) := Lib.hid (allP_append.2 ⟨allP_iff.2 fun y hy => allP_iff.1 hXA.out y (List.mem_of_mem_drop hy), allP_iff.2 fun y hy => by rw [List.mem_singleton.1 hy]; omega⟩)
        have HER : Hid (errL p [x.take kv, x.drop kv ++ [1]] = 0) := Lib.hid (errL_both HO.out HXK.out HXE.out (by rw [List.length_take]; omega) (by rw [List.length_append, List.length_drop, hXL]; simp; omega))
        have HTNP : Hid (0 < tn (x.drop kv ++ [1]) (bn + 1)) := Lib.hid (by
          rcases Nat.eq_zero_or_pos (tn (x.drop kv ++ [1]) (bn + 1)) with h0 | h0
          · exfalso
            have h1 := tn_zero (l := x.drop kv ++ [1]) (n := bn + 1) (k := bn) (by omega) (by omega)
            rw [cf_append, if_neg (by rw [List.length_drop, HXL.out]; omega), List.length_drop, HXL.out, hem, Nat.sub_self] at h1
            exact absurd h1 (by show (1 : Int) ≠ 0; decide)
          · exact h0)
        have HDU : Hid (∀ Q R, DivOf p (x.take kv) (x.drop kv ++ [1]) Q R → Q = P ∧ R = []) := Lib.hid fun Q R h => DivOf.unique HO.out HXE.out h HDV.out
        clear hS hSol hXL hX HI hown6 hX6 hIk hb6 HE5
        have s1 : (0 : Int) ≤ (kv : Int) := by omega
        have s2 : (kv : Int) ≤ (cl : Int) := by omega
        have hpn32 : pn ≤ 32 := by omega
        go_upto_region 12 with fail
        go_cut [14, 15, 16] (fun sa sb sc wx => ∃ (A7 : Option Addr) (c7 : Nat) (A8 : Option Addr) (c8 : Nat), sa = .slice A7 tn1 c7 ∧ sb = .slice A8 0 c8 ∧ sc = .int .i64 0 ∧ Hid (Ints wx wx.heap.size A7 tn1 P) ∧ Below w6.heap.size w6 wx)
        case first =>
          have hFl := hF6.lt
          have hbxb : Below w6.heap.size w6 (w6.alloc (.cells #[.int .i64 1] 3)) := bbox _
          have hS0 : w6.cell? ⟨F, 0, none⟩ = some (.int .i64 p) := hcf6
          have hS0d : w6.drew.cell? ⟨F, 0, none⟩ = some (.int .i64 p) := hcf6
          have hS6n : (w6.alloc (.cells #[.int .i64 1] 3)).cell? ⟨F, 0, none⟩ = some (.int .i64 p) := (hbxb.cell (p := ⟨F, 0, none⟩) hFl).trans hcf6
          have hS6 : (w6.alloc (.cells #[.int .i64 1] 3)).drew.cell? ⟨F, 0, none⟩ = some (.int .i64 p) := hS6n
          have hId : Ints w6.drew w6.drew.heap.size A4 bn (x.drop kv) := HI4.out
          have hIb0 := HI4.out.upto hbxb
          have hIb : Ints (w6.alloc (.cells #[.int .i64 1] 3)).drew (w6.alloc (.cells #[.int .i64 1] 3)).drew.heap.size A4 bn (x.drop kv) := hIb0
          have hIyb : Ints (w6.alloc (.cells #[.int .i64 1] 3)) (w6.alloc (.cells #[.int .i64 1] 3)).heap.size (some ⟨w6.heap.size, 0, none⟩) 1 [1] := Ints.oneAt _ _ _ _ rfl
          have hled : w6.heap.size ≤ w6.drew.heap.size := Nat.le_refl _
          have hledb : w6.heap.size ≤ (w6.alloc (.cells #[.int .i64 1] 3)).drew.heap.size := hbxb.size
          have hbn32 : bn ≤ 32 := by omega
          have hkv32 : kv ≤ 32 := by omega
          have hxl : (x.take kv).length = kv := by rw [List.length_take, HXL.out]; omega
          go_region_held_law (fun w' => w'.cell? ⟨F, 0, none⟩ = some (.int .i64 p)) (first | with_reducible exact hS0 | with_reducible exact hS0d | with_reducible exact hS1 | with_reducible exact hS2 | with_reducible exact hS3 | with_reducible exact hS4 | with_reducible exact hS6 | with_reducible exact hS6n | go_keep) (first
            | ((refine step_append_intsR (w := w6.drew) rfl (.const (.slice none 0 0)) (.tmp 85) 22 rfl w6.heap.size 3 i0 _ Tryd.underlying22 hi0 hz0 hz1 hz2 rfl none 0 0 [] rfl OwnI.nil_ A4 bn _ (x.drop kv) (by first | rfl | simp [Act.eval] | simp [Act.eval, hem]) hId bn (Nat.zero_add _) (by omega) hled ?_); intro A5 c5 w7 hown7 hgr7 hbw7 hab7
               have hbw7 := Below_undrew hbw7
               have hS1 : w7.cell? ⟨F, 0, none⟩ = some (.int .i64 p) := (hbw7.cell (p := ⟨F, 0, none⟩) hFl).trans hcf6
               have hbx8 : Below w6.heap.size w6 (w7.alloc (.cells #[.int .i64 1] 3)) := hbw7.trans (bbox (.cells #[.int .i64 1] 3) |>.mono hbw7.size)
               have hS2 : (w7.alloc (.cells #[.int .i64 1] 3)).cell? ⟨F, 0, none⟩ = some (.int .i64 p) := (hbx8.cell (p := ⟨F, 0, none⟩) hFl).trans hcf6
               have hown8 := hown7.alloc (.cells #[.int .i64 1] 3)
               have hI8 : Ints (w7.alloc (.cells #[.int .i64 1] 3)) (w7.alloc (.cells #[.int .i64 1] 3)).heap.size (some ⟨w7.heap.size, 0, none⟩) 1 [1] := Ints.oneAt _ _ _ _ rfl
               have hle8 : w6.heap.size ≤ (w7.alloc (.cells #[.int .i64 1] 3)).heap.size := hbx8.size
               clear hgr7 hab7)
            | ((refine step_append_intsR (w := w7.alloc (.cells #[.int .i64 1] 3)) rfl (.tmp 86) (.tmp 87) 22 rfl w6.heap.size 3 i0 _ Tryd.underlying22 hi0 hz0 hz1 hz2 rfl A5 bn c5 ([] ++ x.drop kv) (by first | rfl | simp [Act.eval]) hown8 (some ⟨w7.heap.size, 0, none⟩) 1 1 [1] (by first | rfl | simp [Act.eval]) hI8 (bn + 1) rfl (by omega) hle8 ?_); intro A9 c9 w9 hown9 hgr9 hbw9 hab9
               have hb9 := hbx8.trans hbw9
               have hX9 : Ints w9 w9.heap.size A9 (bn + 1) (x.drop kv ++ [1]) := hown9.ints
               have hcap9 := hown9.cap
               have hS3 : w9.cell? ⟨F, 0, none⟩ = some (.int .i64 p) := (hb9.cell (p := ⟨F, 0, none⟩) hFl).trans hcf6
               clear hgr9 hab9)
            | ((refine step_append_intsR (w := (w6.alloc (.cells #[.int .i64 1] 3)).drew) rfl (.const (.slice none 0 0)) (.tmp 85) 22 rfl w6.heap.size 3 i0 _ Tryd.underlying22 hi0 hz0 hz1 hz2 rfl none 0 0 [] rfl OwnI.nil_ A4 bn _ (x.drop kv) (by first | rfl | simp [Act.eval] | simp [Act.eval, hem]) hIb bn (Nat.zero_add _) (by omega) hledb ?_); intro A5 c5 w8 hown8 hgr8 hbw8 hab8
               have hbx8 : Below w6.heap.size w6 w8 := hbxb.trans (Below_undrew hbw8)
               have hS2 : w8.cell? ⟨F, 0, none⟩ = some (.int .i64 p) := (hbx8.cell (p := ⟨F, 0, none⟩) hFl).trans hcf6
               have hI8 : Ints w8 w8.heap.size (some ⟨w6.heap.size, 0, none⟩) 1 [1] := Ints.grownAt (w := (w6.alloc (.cells #[.int .i64 1] 3)).drew) hIyb hgr8 (by simp [Value.ownBlock])
               have hle8 : w6.heap.size ≤ w8.heap.size := hbx8.size
               clear hgr8 hab8)
            | ((refine step_append_intsR (w := w8) rfl (.tmp 86) (.tmp 87) 22 rfl w6.heap.size 3 i0 _ Tryd.underlying22 hi0 hz0 hz1 hz2 rfl A5 bn c5 ([] ++ x.drop kv) (by first | rfl | simp [Act.eval]) hown8 (some ⟨w6.heap.size, 0, none⟩) 1 1 [1] (by first | rfl | simp [Act.eval]) hI8 (bn + 1) rfl (by omega) hle8 ?_); intro A9 c9 w9 hown9 hgr9 hbw9 hab9
               have hb9 := hbx8.trans hbw9
               have hX9 : Ints w9 w9.heap.size A9 (bn + 1) (x.drop kv ++ [1]) := hown9.ints
               have hcap9 := hown9.cap
               have hS3 : w9.cell? ⟨F, 0, none⟩ = some (.int .i64 p) := (hb9.cell (p := ⟨F, 0, none⟩) hFl).trans hcf6
               clear hgr9 hab9)
            | ((try go_simp); go_at_call 33; (with_reducible refine (rdivide_yes p X A9 kv (bn + 1) cl c9 (x.take kv) (x.drop kv ++ [1]) w9 HER.out (HIK.out.upto hb9) hX9 hkvc.1 hcap9 (by omega) (by omega) HTNP.out).mono ?_); rintro e w10 ⟨⟨Q, Rq, A7, c7, A8, c8, rfl, hQ, hRq, hDV⟩, hb10⟩
               have hQe : P = Q := (HDU.out _ _ hDV).1.symm
               have hRe : [] = Rq := (HDU.out _ _ hDV).2.symm
               subst hQe
               subst hRe
               rw [HTN.out] at hQ
               rw [HTN.out]
               have HQ := Lib.hid hQ.ints
               have hb10' := bnext hb9 hb10
               have hS4 : w10.cell? ⟨F, 0, none⟩ = some (.int .i64 p) := (hb10'.cell (p := ⟨F, 0, none⟩) hFl).trans hcf6
               clear hQ hRq hDV))
          all_goals go_wp2
          all_goals go_meet
          all_goals exact ⟨A7, c7, A8, c8, rfl, rfl, rfl, HQ, hb10'⟩
        case rest =>
        obtain ⟨A7, c7, A8, c8, rfl, rfl, rfl, HQ, hbc⟩ := hcut
        have hbb7 := bnext hbb6 hbc
        have hF7 := hF6.below hbc hF6.lt
        have hI7 := hI6.upto hbc
        have hQ7 := HQ.out
        have hcf7 : wc.cell? ⟨F, 0, none⟩ = some (.int .i64 p) := (hF7.cell 0).trans rfl
        clear HI4 HIK HER HDU hA4 hcf6
        go_wp2_with (first
          | (go_at_call 28; (refine (rTrim_ok p B1 pn d1 pl _ HO.out hI7 HPA.out hcap (by omega)).mono ?_); rintro e w8 ⟨⟨A9, c9, rfl, hO8⟩, hb8⟩
             rw [HTL.out, HTN.out] at hO8
             rw [HTL.out, HTN.out]
             have hbb8 := bnext hbb7 hb8
             have hQ8 := hQ7.upto hb8
             have hT8 := hO8.ints
             clear hb8)
          | (go_at_call 24; refine (same_any A7 A9 tn1 tn1 c7 c9 P P _ hQ8 hT8 (by omega) (by omega)).mono ?_
             rintro e w9 ⟨rfl, q1, rfl⟩
             rw [show sameL P P = true by simp [sameL]]))
        go_ret
        exact ⟨rfl, below_drewN hbb8 _⟩
  · have hd : decide (n ≤ 500) = false := by simpa using hn
    go_enter Tryd.func7, Tryd.ntmps7
    go_wp2_with (first
      | (go_at_call 9; refine (sane09_any _ hW).mono ?_; rintro e w1 ⟨rfl, hb1⟩)
      | (go_at_call 10; refine (few_any A n c _).mono ?_; rintro e w' ⟨rfl, rfl⟩))
    go_ret
    exact ⟨rfl, hb1⟩
end Go.Proofs.YteipcjmkhacdgaaDoor
