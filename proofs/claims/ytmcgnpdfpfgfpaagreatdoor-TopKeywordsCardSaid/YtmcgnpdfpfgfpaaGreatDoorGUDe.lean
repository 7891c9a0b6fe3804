/-
  Words for memory and contracts of small functions of the second form. Conditions: those of each lemma.
-/
import Derived.Test.YtmcgnpdfpfgfpaaGreatDoorUKey
import Derived.Test.YtmcgnpdfpfgfpaaGreatDoorGUni
import Derived.Test.YtmcgnpdfpfgfpaaGreatDoorGSol
import Derived.Test.YtmcgnpdfpfgfpaaGreatDoorRows
import Derived.LaidLaws
import Derived.LaidHandle
import Derived.ChangeSame
import Derived.ChangeVars
import Derived.ChangeArms
import Derived.JoinedOf
import Derived.WideShapes
import Derived.Stop.Joined
import Derived.Deep.DeepLaidRun
/-! UDec -/
namespace Go.Proofs.YtmcgnpdfpfgfpaaGreatDoor
open Go.RowKit
set_option linter.unusedVariables false

/-- The variable errWrong holds its failure. -/
def ErrW (w : World) : Prop := w.cell? ⟨0, 0, none⟩ = some (failV 12) ∧ 0 < w.heap.size
theorem ErrW.below {w w' : World} (h : ErrW w) (hb : Below w.heap.size w w') : ErrW w' := ⟨(hb.cell (p := ⟨0, 0, none⟩) h.2).trans h.1, Nat.lt_of_lt_of_le h.2 hb.size⟩

/-- The slice lies in new memory. -/
def Frs (B : Nat) (A : Option Addr) (n : Nat) : Prop := ∀ b o s, A = some ⟨b, o, s⟩ → 0 < n → B ≤ b

/-- What decode leaves: the error er, or what was decoded. -/
def UDPost (okE badE : Value) (p : Int) (k v : Nat) (l : List (Int × Int)) (w : World) (e : Ending) (w' : World) : Prop :=
  ((DecOf p k v l none ∧ e = .returned (.tuple #[.agg #[.slice none 0 0, .slice none 0 0], badE])) ∨
    ∃ (P : List Int) (A : Option Addr) (c : Nat) (A2 : Option Addr) (c2 : Nat), DecOf p k v l (some P) ∧ e = .returned (.tuple #[.agg #[.slice A P.length c, .slice A2 (wrL p P l).length c2], okE]) ∧
      Ints w' w'.heap.size A P.length P ∧ Ints w' w'.heap.size A2 (wrL p P l).length (wrL p P l) ∧ P.length ≤ c ∧ (wrL p P l).length ≤ c2 ∧ Frs w.heap.size A P.length ∧ Frs w.heap.size A2 (wrL p P l).length) ∧ Below w.heap.size w w'

theorem solveOf_noneU {p : Int} {c : Nat} {m0 : List (List Int)} {x : List Int} (hp : 2 ≤ p) (h : SolveOf p c m0 none) : ¬ Solv p c m0 x := fun hx => by
  obtain ⟨m, lead, h1, h2⟩ := h
  exact h2 ((h1.noClash_iff hp).2 ⟨x, hx⟩)
theorem solveOf_someU {p : Int} {c : Nat} {m0 : List (List Int)} {x : List Int} (hp : 2 ≤ p) (h : SolveOf p c m0 (some x)) : Solv p c m0 x ∧ x.length = c ∧ allP p x = true := by
  obtain ⟨m, lead, h1, h2, h3⟩ := h
  exact ⟨(h1.solv x).2 (h3.solv h1.inv h2), h3.ln, h3.all h1.inv hp h1.el⟩
set_option maxRecDepth 100000 in
set_option maxHeartbeats 8000000 in
theorem udecode_ok (p : Int) (A : Option Addr) (m c k : Nat) (vs : List Int) (bs : List Bool) (w : World) (hok : okP p = true) (h : Cel w w.heap.size A m vs bs) (hm : m ≤ 32) (hmp : (m : Int) < p) (hkn : knOk p vs bs) (hk : 1 ≤ k) (hkm : k ≤ m) (hkl : k ≤ (knL vs bs).length) (hW : ErrW w) :
    Calls Tryz.prog 131 #[.agg #[.int .i64 p], .slice A m c, .int .i64 k] w (UDPost .nilIface (failV 12) p k (((knL vs bs).length - k) / 2) (knL vs bs) w) := by
  obtain ⟨i0, hi0, hz0, hz1, hz2⟩ := info_parts info_int
  have hp := okP_pos hok
  have HO := Lib.hid hok
  have HKN := Lib.hid hkn
  have hln : (knL vs bs).length ≤ m := by have := knL_len vs bs; rw [h.1] at this; exact this
  have HVL := Lib.hid h.1
  obtain ⟨l, hl⟩ : ∃ l, knL vs bs = l := ⟨_, rfl⟩
  obtain ⟨N, hN⟩ : ∃ N, (knL vs bs).length = N := ⟨_, rfl⟩
  obtain ⟨v, hv⟩ : ∃ v, (N - k) / 2 = v := ⟨_, rfl⟩
  have HL := Lib.hid hl
  have HN := Lib.hid hN
  have HV := Lib.hid hv
  have hkv : k + 2 * v ≤ 32 := by omega
  obtain ⟨cl, hcl⟩ : ∃ cl, k + 2 * v = cl := ⟨_, rfl⟩
  obtain ⟨kv, hkvE⟩ : ∃ kv, k + v = kv := ⟨_, rfl⟩
  have e2 : (k : Int) + (v : Int) = (kv : Int) := by omega
  have HCL := Lib.hid hcl
  have HKV := Lib.hid hkvE
  have hvN : k + 2 * v ≤ N := by omega
  have hb0 : Below w.heap.size w ((w.alloc (.cells #[.int .i64 p] 44)).alloc (.cells #[.slice none 0 0, .slice none 0 0] 186)) := ballocs (bbox _) _
  have hF0 := (Blk.new w 44 #[.int .i64 p]).alloc (.cells #[.slice none 0 0, .slice none 0 0] 186)
  have hR0 := Blk.new1 w (.cells #[.int .i64 p] 44) 186 #[.slice none 0 0, .slice none 0 0]
  have hS0 := (h.below hb0).more hb0.size
  have hE0 := hW.below hb0
  have HKP : Hid (KeyPost p k v (knL vs bs) = KeyPost p k v l) := Lib.hid (by rw [hl])
  clear hok hkn h hW hcl hkvE
  rw [hN, hl, hv]
  rw [hN] at hkl hln
  have hNl : Hid (l.length = N) := Lib.hid (by rw [← hl]; exact hN)
  clear hN hl hv
  go_enter Tryz.func131, Tryz.ntmps131
  go_wp2_with (first
    | (go_at_call 64; (refine (fill_ok p A m c k vs bs _ HO.out hS0 hm hmp HKN.out hk hkm (by rw [HN.out]; exact hkl)).mono ?_); rintro e w1 ⟨⟨R, A1, c1, rfl, hown1, hT1⟩, hb1⟩
       have hbb1 := bnext hb0 hb1
       have hF1 := hF0.below hb1 hF0.lt
       have hR1 := hR0.below hb1 hR0.lt
       have hS1 := hS0.upto hb1
       have hE1 := hE0.below hb1
       clear hown1 hT1 hb1)
    | (go_at_call 161; (refine (ucount_any A m c vs bs _ hS1 hm).mono ?_); rintro e w2 ⟨rfl, hb2⟩
       rw [HN.out]
       have hbb2 := bnext hbb1 hb2
       have hF2 := hF1.below hb2 hF1.lt
       have hR2 := hR1.below hb2 hR1.lt
       have hS2 := hS1.upto hb2
       have hE2 := hE1.below hb2
       have hcF2 : w2.cell? ⟨w.heap.size, 0, none⟩ = some (.int .i64 p) := (hF2.cell 0).trans rfl
       clear hb2)
    | (go_at_call 160; (refine (uradius_ok N k _ hk hkl (by omega)).mono ?_); rintro e w' ⟨rfl, rfl⟩
       rw [HV.out])
    | (go_at_call 162; (refine (ukey_ok p A m c k v vs bs _ HO.out hS2 hm hmp HKN.out hk hkm (by rw [HN.out]; exact hkl) hkv).mono ?_); rintro e w3 ⟨C, nc, cc, D, cd, rfl, hEQ, hb3⟩
       rw [HL.out, hNl.out, HCL.out] at hEQ
       rw [HL.out, hNl.out, HCL.out]
       have HE3 := Lib.hid (hEQ.upto (bbox (.cells (eqC p N cl C nc cc D N cd) 237)))
       have hbb3 := ballocs (bnext hbb2 hb3) (.cells (eqC p N cl C nc cc D N cd) 237)
       have hF3 := (hF2.below hb3 hF2.lt).alloc (.cells (eqC p N cl C nc cc D N cd) 237)
       have hR3 := (hR2.below hb3 hR2.lt).alloc (.cells (eqC p N cl C nc cc D N cd) 237)
       have hS3 := (hS2.upto hb3).upto (bbox (.cells (eqC p N cl C nc cc D N cd) 237))
       have hE3 := (hE2.below hb3).below (bbox (.cells (eqC p N cl C nc cc D N cd) 237))
       clear hb3 hEQ))
  go_at_call 163
  refine (solve_ok HE3.out).mono ?_
  rintro e w4 ⟨⟨hS, rfl⟩ | ⟨g, x, hS, rfl, hown4⟩, hb4⟩
  · have hbb4 := bnext hbb3 hb4
    have hR4 := hR3.below hb4 hR3.lt
    have hE4 := hE3.below hb4
    have HD : Hid (DecOf p k v l none) := Lib.hid (decOf_unsolved HO.out hk (fun x hx => by
      have h1 := solveOf_noneU hp.1 hS (x := x)
      rw [HCL.out, hNl.out] at hx
      exact h1 hx))
    clear hS hb4
    go_wp2_with fail
    have hz0 : w4.cell? ⟨w.heap.size + 1, 0, none⟩ = some (.slice none 0 0) := (hR4.cell 0).trans rfl
    have hf0 := hR4.frozen 0
    have hz1 : w4.cell? ⟨w.heap.size + 1, 1, none⟩ = some (.slice none 0 0) := (hR4.cell 1).trans rfl
    have hf1 := hR4.frozen 1
    have hgl := hE4.1
    have hFB := (hR4.set_ 0 (.slice none 0 0)).set_ 1 (.slice none 0 0)
    have hfin0 : ((w4.setCell ⟨w.heap.size + 1, 0, none⟩ (.slice none 0 0)).setCell ⟨w.heap.size + 1, 1, none⟩ (.slice none 0 0)).cell? ⟨w.heap.size + 1, 0, none⟩ = some (.slice none 0 0) := (hFB.cell 0).trans rfl
    have hfin1 : ((w4.setCell ⟨w.heap.size + 1, 0, none⟩ (.slice none 0 0)).setCell ⟨w.heap.size + 1, 1, none⟩ (.slice none 0 0)).cell? ⟨w.heap.size + 1, 1, none⟩ = some (.slice none 0 0) := (hFB.cell 1).trans rfl
    have HPO : UDPost .nilIface (failV 12) p k v l w (.returned (.tuple #[.agg #[.slice none 0 0, .slice none 0 0], failV 12])) ((w4.setCell ⟨w.heap.size + 1, 0, none⟩ (.slice none 0 0)).setCell ⟨w.heap.size + 1, 1, none⟩ (.slice none 0 0)).drew := ⟨.inl ⟨HD.out, rfl⟩, ((hbb4.setCell (p := ⟨w.heap.size + 1, 0, none⟩) (by show w.heap.size ≤ w.heap.size + 1; omega) _).setCell (p := ⟨w.heap.size + 1, 1, none⟩) (by show w.heap.size ≤ w.heap.size + 1; omega) _).drew⟩
    clear hFB
    go_region
    all_goals go_wp2
    all_goals refine bodyPost_ret (v := .tuple #[.agg #[.slice none 0 0, .slice none 0 0], failV 12]) (by simp [results, Tryz.results131, go_sem, hfin0, hfin1]) rfl HPO
  · have hSol := solveOf_someU hp.1 hS
    have hXL := hSol.2.1
    have hXA := Lib.hid hSol.2.2
    have HSV := Lib.hid hSol.1
    have hbb4 := bnext hbb3 hb4
    have hR4 := hR3.below hb4 hR3.lt
    have hF4 := hF3.below hb4 hF3.lt
    have hS4 := hS3.upto hb4
    have hE4 := hE3.below hb4
    have hkvc : kv ≤ cl ∧ cl ≤ 32 := by have := HCL.out; have := HKV.out; omega
    have hI4 := hown4.ints
    have hem : cl - kv = v := by have := HCL.out; have := HKV.out; omega
    obtain ⟨X, hX⟩ : ∃ X, (some ⟨g, 0, none⟩ : Option Addr) = X := ⟨_, rfl⟩
    rw [hX] at hI4 ⊢
    have HI := Lib.hid (hI4.sub_ (Nat.le_refl _) kv v (by omega))
    have HTD : Hid ((x.drop kv).take v = x.drop kv) := Lib.hid (List.take_of_length_le (by rw [List.length_drop, hXL]; omega))
    rw [HTD.out] at HI
    obtain ⟨A4, hA4, HI4⟩ : ∃ A4 : Option Addr, (if cl = kv then X else Option.map (fun x => x.add kv) X) = A4 ∧ Hid (Ints w4 w4.heap.size A4 v (x.drop kv)) := by
      refine ⟨_, rfl, ?_⟩
      have := HI
      rwa [Nat.mul_one] at this
    have hIk : Ints w4 w4.heap.size X kv (x.take kv) := ⟨by rw [List.length_take, hXL]; omega, fun h0 => by
      obtain ⟨b, o, e, hb, hc⟩ := hI4.2 (by omega)
      exact ⟨b, o, e, hb, fun j hj => (hc j (by omega)).trans (by rw [List.getD_eq_getElem?_getD, List.getD_eq_getElem?_getD, List.getElem?_take, if_pos hj])⟩⟩
    have HIK := Lib.hid hIk
    have HXL := Lib.hid hXL
    clear hS hSol hXL hX HI hown4 hI4 hIk hb4 HE3
    have s1 : (0 : Int) ≤ (kv : Int) := by omega
    have s2 : (kv : Int) ≤ (cl : Int) := by omega
    have s3 : IntKind.i64.wrap (kv : Int) = (kv : Int) := IntWalk.i64_in _ (by omega)
    go_upto_region 11 with fail
    go_cut [15, 16] (fun sa sb wx => ∃ (A6 : Option Addr) (c6 : Nat), sa = .slice X kv cl ∧ sb = .slice A6 (v + 1) c6 ∧ Hid (OwnI wx w4.heap.size 3 A6 (v + 1) c6 (x.drop kv ++ [1])) ∧ Below w4.heap.size w4 wx)
    case first =>
      have hId : Ints w4.drew w4.drew.heap.size A4 v (x.drop kv) := HI4.out
      have hIa0 := HI4.out.upto (bbox (w0 := w4) (.cells #[.int .i64 1] 3))
      have hIa : Ints (w4.alloc (.cells #[.int .i64 1] 3)).drew (w4.alloc (.cells #[.int .i64 1] 3)).drew.heap.size A4 v (x.drop kv) := hIa0
      have hv32 : v ≤ 32 := by omega
      go_region_law (first
        | (go_simp; go_at_call 78; (try rw [hem]); (with_reducible refine (clone_any A4 v v (x.drop kv) _ hId (by omega)).mono ?_); rintro e w5 ⟨⟨A5, c5, rfl, hown5⟩, hb5⟩
           have hb5' : Below w4.heap.size w4 w5 := ⟨hb5.os, hb5.tape, hb5.output, hb5.size, hb5.block⟩
           have hba := hb5'.trans (bbox (w0 := w5) (.cells #[.int .i64 1] 3) |>.mono hb5'.size)
           have hTa : OwnI (w5.alloc (.cells #[.int .i64 1] 3)) w4.heap.size 3 A5 v c5 (x.drop kv) := hown5.alloc _
           have hRa : Ints (w5.alloc (.cells #[.int .i64 1] 3)) (w5.alloc (.cells #[.int .i64 1] 3)).heap.size (some ⟨w5.heap.size, 0, none⟩) 1 [1] := Ints.oneAt _ _ _ _ rfl
           have hla : w4.heap.size ≤ (w5.alloc (.cells #[.int .i64 1] 3)).heap.size := le_alloc hb5'.size _)
        | (go_simp; go_at_call 78; (try rw [hem]); (with_reducible refine (clone_any A4 v v (x.drop kv) _ hIa (by omega)).mono ?_); rintro e w5 ⟨⟨A5, c5, rfl, hown5⟩, hb5⟩
           have hb5a : Below (w4.alloc (.cells #[.int .i64 1] 3)).heap.size (w4.alloc (.cells #[.int .i64 1] 3)) w5 := ⟨hb5.os, hb5.tape, hb5.output, hb5.size, hb5.block⟩
           have hba := (bbox (w0 := w4) (.cells #[.int .i64 1] 3)).trans (hb5a.mono (by simp))
           have hTa := OwnI.base hown5 (base' := w4.heap.size) (by simp)
           have hRa := (Ints.oneAt w4 1 3 w4.heap.size rfl).upto hb5a
           have hla : w4.heap.size ≤ w5.heap.size := hba.size)
        | ((refine step_app (w := w5.alloc (.cells #[.int .i64 1] 3)) rfl (.tmp 71) (.tmp 72) 22 rfl w4.heap.size 3 i0 _ Tryz.underlying22 hi0 hz0 hz1 hz2 rfl A5 v c5 _ (by first | rfl | simp [Act.eval]) hTa (some ⟨w5.heap.size, 0, none⟩) 1 1 [1] (by first | rfl | simp [Act.eval]) hRa (v + 1) rfl (by omega) hla ?_); intro A6 c6 w9 hown9 hgr9 hbw9 hab9
           have HO9 := Lib.hid hown9
           have hb9 := hba.trans hbw9
           clear hown9 hgr9 hbw9 hab9)
        | ((refine step_app (w := w5) rfl (.tmp 71) (.tmp 72) 22 rfl w4.heap.size 3 i0 _ Tryz.underlying22 hi0 hz0 hz1 hz2 rfl A5 v c5 _ (by first | rfl | simp [Act.eval]) hTa (some ⟨w4.heap.size, 0, none⟩) 1 1 [1] (by first | rfl | simp [Act.eval]) hRa (v + 1) rfl (by omega) hla ?_); intro A6 c6 w9 hown9 hgr9 hbw9 hab9
           have HO9 := Lib.hid hown9
           have hb9 := hba.trans hbw9
           clear hown9 hgr9 hbw9 hab9))
      all_goals go_wp2
      all_goals go_meet
      all_goals exact ⟨A6, c6, rfl, rfl, HO9, hb9⟩
    case rest =>
    obtain ⟨A6, c6, rfl, rfl, HO6, hb6⟩ := hcut
    have hbb6 := bnext hbb4 hb6
    have hR6 := hR4.below hb6 hR4.lt
    have hF6 := hF4.below hb6 hF4.lt
    have hcF6 : wc.cell? ⟨w.heap.size, 0, none⟩ = some (.int .i64 p) := (hF6.cell 0).trans rfl
    have hS6 := hS4.upto hb6
    have hE6 := hE4.below hb6
    have hIX := HIK.out.upto hb6
    have hIE := HO6.out.ints
    have hcap6 := HO6.out.cap
    have HXK : Hid (allP p (x.take kv) = true) := Lib.hid (take_allP hXA.out kv)
    have HXE : Hid (allP p (x.drop kv ++ [1]) = true) := Lib.hid (allP_append.2 ⟨allP_iff.2 fun y hy => allP_iff.1 hXA.out y (List.mem_of_mem_drop hy), allP_iff.2 fun y hy => by rw [List.mem_singleton.1 hy]; omega⟩)
    have HTN : 0 < tn (x.drop kv ++ [1]) (v + 1) := by
      rcases Nat.eq_zero_or_pos (tn (x.drop kv ++ [1]) (v + 1)) with h0 | h0
      · exfalso
        have h1 := tn_zero (l := x.drop kv ++ [1]) (n := v + 1) (k := v) (by omega) (by omega)
        rw [cf_append, if_neg (by rw [List.length_drop, HXL.out]; omega), List.length_drop, HXL.out, hem, Nat.sub_self] at h1
        exact absurd h1 (by show (1 : Int) ≠ 0; decide)
      · exact h0
    clear HI4 HIK HO6 hb6 hF4 hR4 hS4 hE4 hbb4 hA4 s1 s2 s3
    go_wp2_with fail
    go_at_call 164
    refine (pdivide_ok p X A6 kv (v + 1) cl c6 (x.take kv) (x.drop kv ++ [1]) _ HO.out hIX hIE HXK.out HXE.out hkvc.1 hcap6 (by omega) (by omega) HTN).mono ?_
    rintro e w7 ⟨⟨Q, R7, A7, c7, A8, c8, rfl, hQ, hRs, hDv, hQl⟩, hb7⟩
    have HDC : Hid (DecOf p k v l (if R7 = [] ∧ Q.length ≤ k ∧ (wrL p Q l).length ≤ v then some Q else none)) := Lib.hid (decOf_div (x := x) HO.out hk (by rw [← HL.out]; exact knL_apart (by rw [HVL.out]; exact hmp)) (by rw [hNl.out]; exact hvN) (by rw [HXL.out, HCL.out]) hXA.out (by rw [HCL.out, hNl.out]; exact HSV.out) (by rw [HKV.out]; exact hDv))
    have hQall := Lib.hid hDv.aq
    have hQi := hQ.ints
    have hcap7 := hQ.cap
    have hQne : Hid (∀ b o s, A7 = some ⟨b, o, s⟩ → 0 < Q.length → w.heap.size + 2 ≤ b) := Lib.hid fun b o s e h0 => by
      obtain ⟨g2, e2, hl, _⟩ := hQ.form h0
      rw [e2] at e
      injection e with e
      injection e with e
      have := hR6.lt
      omega
    have hbb7 := bnext hbb6 hb7
    have hR7 := hR6.below hb7 hR6.lt
    have hF7 := hF6.below hb7 hF6.lt
    have hcF7 : w7.cell? ⟨w.heap.size, 0, none⟩ = some (.int .i64 p) := (hF7.cell 0).trans rfl
    have hS7 := hS6.upto hb7
    have hE7 := hE6.below hb7
    obtain ⟨rn, hrn⟩ : ∃ rn, R7.length = rn := ⟨_, rfl⟩
    obtain ⟨qn, hqn⟩ : ∃ qn, Q.length = qn := ⟨_, rfl⟩
    rw [hrn, hqn]
    rw [hqn] at hQi hQl hcap7
    have HRN := Lib.hid hrn
    have HQN := Lib.hid hqn
    clear hQ hRs hDv hrn hqn hb7 hcF6 hF6 hR6 hS6 hE6 hbb6 hIX hIE hcap6 HXK HXE HTN
    by_cases hr0 : 0 < rn
    · have hr1 : (0 : Int) < (rn : Int) := by omega
      have HD : Hid (DecOf p k v l none) := Lib.hid (by
        have h1 := HDC.out
        rwa [if_neg (fun hh => by rw [hh.1] at HRN; have := HRN.out; simp at this; omega)] at h1)
      clear HDC
      go_upto_region 14 with fail
      have hz0 : w7.cell? ⟨w.heap.size + 1, 0, none⟩ = some (.slice none 0 0) := (hR7.cell 0).trans rfl
      have hf0 := hR7.frozen 0
      have hz1 : w7.cell? ⟨w.heap.size + 1, 1, none⟩ = some (.slice none 0 0) := (hR7.cell 1).trans rfl
      have hf1 := hR7.frozen 1
      have hgl := hE7.1
      have hFB := (hR7.set_ 0 (.slice none 0 0)).set_ 1 (.slice none 0 0)
      have hfin0 : ((w7.setCell ⟨w.heap.size + 1, 0, none⟩ (.slice none 0 0)).setCell ⟨w.heap.size + 1, 1, none⟩ (.slice none 0 0)).cell? ⟨w.heap.size + 1, 0, none⟩ = some (.slice none 0 0) := (hFB.cell 0).trans rfl
      have hfin1 : ((w7.setCell ⟨w.heap.size + 1, 0, none⟩ (.slice none 0 0)).setCell ⟨w.heap.size + 1, 1, none⟩ (.slice none 0 0)).cell? ⟨w.heap.size + 1, 1, none⟩ = some (.slice none 0 0) := (hFB.cell 1).trans rfl
      have HPO : UDPost .nilIface (failV 12) p k v l w (.returned (.tuple #[.agg #[.slice none 0 0, .slice none 0 0], failV 12])) ((w7.setCell ⟨w.heap.size + 1, 0, none⟩ (.slice none 0 0)).setCell ⟨w.heap.size + 1, 1, none⟩ (.slice none 0 0)).drew := ⟨.inl ⟨HD.out, rfl⟩, ((hbb7.setCell (p := ⟨w.heap.size + 1, 0, none⟩) (by show w.heap.size ≤ w.heap.size + 1; omega) _).setCell (p := ⟨w.heap.size + 1, 1, none⟩) (by show w.heap.size ≤ w.heap.size + 1; omega) _).drew⟩
      clear hFB
      go_region
      all_goals go_wp2
      all_goals refine bodyPost_ret (v := .tuple #[.agg #[.slice none 0 0, .slice none 0 0], failV 12]) (by simp [results, Tryz.results131, go_sem, hfin0, hfin1]) rfl HPO
    · have hr00 : rn = 0 := by omega
      subst hr00
      have HR0 : Hid (R7 = []) := Lib.hid (List.eq_nil_of_length_eq_zero HRN.out)
      clear hr0
      by_cases hqk : k < qn
      · have hq1 : (k : Int) < (qn : Int) := by omega
        have HD : Hid (DecOf p k v l none) := Lib.hid (by
          have h1 := HDC.out
          rwa [if_neg (fun hh => by have := hh.2.1; have := HQN.out; omega)] at h1)
        clear HDC
        go_upto_region 14 with fail
        have hz0 : w7.cell? ⟨w.heap.size + 1, 0, none⟩ = some (.slice none 0 0) := (hR7.cell 0).trans rfl
        have hf0 := hR7.frozen 0
        have hz1 : w7.cell? ⟨w.heap.size + 1, 1, none⟩ = some (.slice none 0 0) := (hR7.cell 1).trans rfl
        have hf1 := hR7.frozen 1
        have hgl := hE7.1
        have hFB := (hR7.set_ 0 (.slice none 0 0)).set_ 1 (.slice none 0 0)
        have hfin0 : ((w7.setCell ⟨w.heap.size + 1, 0, none⟩ (.slice none 0 0)).setCell ⟨w.heap.size + 1, 1, none⟩ (.slice none 0 0)).cell? ⟨w.heap.size + 1, 0, none⟩ = some (.slice none 0 0) := (hFB.cell 0).trans rfl
        have hfin1 : ((w7.setCell ⟨w.heap.size + 1, 0, none⟩ (.slice none 0 0)).setCell ⟨w.heap.size + 1, 1, none⟩ (.slice none 0 0)).cell? ⟨w.heap.size + 1, 1, none⟩ = some (.slice none 0 0) := (hFB.cell 1).trans rfl
        have HPO : UDPost .nilIface (failV 12) p k v l w (.returned (.tuple #[.agg #[.slice none 0 0, .slice none 0 0], failV 12])) ((w7.setCell ⟨w.heap.size + 1, 0, none⟩ (.slice none 0 0)).setCell ⟨w.heap.size + 1, 1, none⟩ (.slice none 0 0)).drew := ⟨.inl ⟨HD.out, rfl⟩, ((hbb7.setCell (p := ⟨w.heap.size + 1, 0, none⟩) (by show w.heap.size ≤ w.heap.size + 1; omega) _).setCell (p := ⟨w.heap.size + 1, 1, none⟩) (by show w.heap.size ≤ w.heap.size + 1; omega) _).drew⟩
        clear hFB
        go_region
        all_goals go_wp2
        all_goals refine bodyPost_ret (v := .tuple #[.agg #[.slice none 0 0, .slice none 0 0], failV 12]) (by simp [results, Tryz.results131, go_sem, hfin0, hfin1]) rfl HPO
      · have hq1 : ¬ (k : Int) < (qn : Int) := by omega
        obtain ⟨wl, hwl⟩ : ∃ wl, wrL p Q l = wl := ⟨_, rfl⟩
        obtain ⟨wn, hwn⟩ : ∃ wn, wl.length = wn := ⟨_, rfl⟩
        have HWL := Lib.hid hwl
        have HWN := Lib.hid hwn
        clear hwl hwn
        by_cases hwv : v < wn
        · have hw1 : (v : Int) < (wn : Int) := by omega
          have HD : Hid (DecOf p k v l none) := Lib.hid (by
            have h1 := HDC.out
            rwa [if_neg (fun hh => by have := hh.2.2; rw [HWL.out, HWN.out] at this; omega)] at h1)
          clear HDC
          go_wp2_with (go_at_call 165; (refine (uwrongs_ok p A m c vs bs A7 qn c7 Q _ hp hS7 hm hmp hQi hQall.out (by omega)).mono ?_); rintro e w8 ⟨⟨A9, c9, rfl, hown9⟩, hb8⟩
                       rw [HL.out, HWL.out, HWN.out] at hown9
                       rw [HL.out, HWL.out, HWN.out]
                       have hW9 := (hown9.ints).upto (bbox (.cells #[.slice A7 qn c7, .slice A9 wn c9] 186))
                       have hcap9 := hown9.cap
                       have hWne : Hid (∀ b o s, A9 = some ⟨b, o, s⟩ → 0 < wn → w.heap.size + 2 ≤ b) := Lib.hid fun b o s e h0 => by
                         obtain ⟨g2, e2, hl, _⟩ := hown9.form h0
                         rw [e2] at e
                         injection e with e
                         injection e with e
                         have := hR7.lt
                         omega
                       have hQ9 := (hQi.upto hb8).upto (bbox (.cells #[.slice A7 qn c7, .slice A9 wn c9] 186))
                       have hbb8 := ballocs (bnext hbb7 hb8) (.cells #[.slice A7 qn c7, .slice A9 wn c9] 186)
                       have hR8 := (hR7.below hb8 hR7.lt).alloc (.cells #[.slice A7 qn c7, .slice A9 wn c9] 186)
                       have hE8 := (hE7.below hb8).below (bbox (.cells #[.slice A7 qn c7, .slice A9 wn c9] 186))
                       clear hown9)
          obtain ⟨W9, hW9e⟩ : ∃ W9, w8.alloc (.cells #[.slice A7 qn c7, .slice A9 wn c9] 186) = W9 := ⟨_, rfl⟩
          rw [hW9e] at hR8 hE8 hbb8 ⊢
          clear hW9e
          have hz0 : W9.cell? ⟨w.heap.size + 1, 0, none⟩ = some (.slice none 0 0) := (hR8.cell 0).trans rfl
          have hf0 := hR8.frozen 0
          have hz1 : W9.cell? ⟨w.heap.size + 1, 1, none⟩ = some (.slice none 0 0) := (hR8.cell 1).trans rfl
          have hf1 := hR8.frozen 1
          have hgl := hE8.1
          have hFB := (hR8.set_ 0 (.slice none 0 0)).set_ 1 (.slice none 0 0)
          have hfin0 : ((W9.setCell ⟨w.heap.size + 1, 0, none⟩ (.slice none 0 0)).setCell ⟨w.heap.size + 1, 1, none⟩ (.slice none 0 0)).cell? ⟨w.heap.size + 1, 0, none⟩ = some (.slice none 0 0) := (hFB.cell 0).trans rfl
          have hfin1 : ((W9.setCell ⟨w.heap.size + 1, 0, none⟩ (.slice none 0 0)).setCell ⟨w.heap.size + 1, 1, none⟩ (.slice none 0 0)).cell? ⟨w.heap.size + 1, 1, none⟩ = some (.slice none 0 0) := (hFB.cell 1).trans rfl
          have HPO : UDPost .nilIface (failV 12) p k v l w (.returned (.tuple #[.agg #[.slice none 0 0, .slice none 0 0], failV 12])) ((W9.setCell ⟨w.heap.size + 1, 0, none⟩ (.slice none 0 0)).setCell ⟨w.heap.size + 1, 1, none⟩ (.slice none 0 0)).drew := ⟨.inl ⟨HD.out, rfl⟩, ((hbb8.setCell (p := ⟨w.heap.size + 1, 0, none⟩) (by show w.heap.size ≤ w.heap.size + 1; omega) _).setCell (p := ⟨w.heap.size + 1, 1, none⟩) (by show w.heap.size ≤ w.heap.size + 1; omega) _).drew⟩
          clear hFB
          go_region
          all_goals go_wp2
          all_goals refine bodyPost_ret (v := .tuple #[.agg #[.slice none 0 0, .slice none 0 0], failV 12]) (by simp [results, Tryz.results131, go_sem, hfin0, hfin1]) rfl HPO
        · have hw1 : ¬ (v : Int) < (wn : Int) := by omega
          have HD : Hid (DecOf p k v l (some Q)) := Lib.hid (by
            have h1 := HDC.out
            rwa [if_pos ⟨HR0.out, by rw [HQN.out]; omega, by rw [HWL.out, HWN.out]; omega⟩] at h1)
          clear HDC
          go_upto_region 18 with (first
            | (go_at_call 165; (refine (uwrongs_ok p A m c vs bs A7 qn c7 Q _ hp hS7 hm hmp hQi hQall.out (by omega)).mono ?_); rintro e w8 ⟨⟨A9, c9, rfl, hown9⟩, hb8⟩
               rw [HL.out, HWL.out, HWN.out] at hown9
               rw [HL.out, HWL.out, HWN.out]
               have hW9 := (hown9.ints).upto (bbox (.cells #[.slice A7 qn c7, .slice A9 wn c9] 186))
               have hcap9 := hown9.cap
               have hWne : Hid (∀ b o s, A9 = some ⟨b, o, s⟩ → 0 < wn → w.heap.size + 2 ≤ b) := Lib.hid fun b o s e h0 => by
                 obtain ⟨g2, e2, hl, _⟩ := hown9.form h0
                 rw [e2] at e
                 injection e with e
                 injection e with e
                 have := hR7.lt
                 omega
               have hQ9 := (hQi.upto hb8).upto (bbox (.cells #[.slice A7 qn c7, .slice A9 wn c9] 186))
               have hbb8 := ballocs (bnext hbb7 hb8) (.cells #[.slice A7 qn c7, .slice A9 wn c9] 186)
               have hR8 := (hR7.below hb8 hR7.lt).alloc (.cells #[.slice A7 qn c7, .slice A9 wn c9] 186)
               have hE8 := (hE7.below hb8).below (bbox (.cells #[.slice A7 qn c7, .slice A9 wn c9] 186))
               clear hown9))
          obtain ⟨W9, hW9e⟩ : ∃ W9, w8.alloc (.cells #[.slice A7 qn c7, .slice A9 wn c9] 186) = W9 := ⟨_, rfl⟩
          have hK9 := Blk.new w8 186 #[.slice A7 qn c7, .slice A9 wn c9]
          rw [hW9e] at hR8 hbb8 hW9 hQ9 hK9 ⊢
          clear hW9e
          have hk0 : W9.cell? ⟨w8.heap.size, 0, none⟩ = some (.slice A7 qn c7) := (hK9.cell 0).trans rfl
          have hk1 : W9.cell? ⟨w8.heap.size, 1, none⟩ = some (.slice A9 wn c9) := (hK9.cell 1).trans rfl
          have hz0 : W9.cell? ⟨w.heap.size + 1, 0, none⟩ = some (.slice none 0 0) := (hR8.cell 0).trans rfl
          have hf0 := hR8.frozen 0
          have hz1 : W9.cell? ⟨w.heap.size + 1, 1, none⟩ = some (.slice none 0 0) := (hR8.cell 1).trans rfl
          have hf1 := hR8.frozen 1
          have hne : w8.heap.size ≠ w.heap.size + 1 := by have := hbb7.size; have := hR7.lt; have := hb8.size; omega
          have hFB := (hR8.set_ 0 (.slice A7 qn c7)).set_ 1 (.slice A9 wn c9)
          have hfin0 : ((W9.setCell ⟨w.heap.size + 1, 0, none⟩ (.slice A7 qn c7)).setCell ⟨w.heap.size + 1, 1, none⟩ (.slice A9 wn c9)).cell? ⟨w.heap.size + 1, 0, none⟩ = some (.slice A7 qn c7) := (hFB.cell 0).trans rfl
          have hfin1 : ((W9.setCell ⟨w.heap.size + 1, 0, none⟩ (.slice A7 qn c7)).setCell ⟨w.heap.size + 1, 1, none⟩ (.slice A9 wn c9)).cell? ⟨w.heap.size + 1, 1, none⟩ = some (.slice A9 wn c9) := (hFB.cell 1).trans rfl
          have hown2 : ∀ (B' : Option Addr) (bn : Nat) (zs : List Int), Ints W9 W9.heap.size B' bn zs → (∀ b o s, B' = some ⟨b, o, s⟩ → 0 < bn → b ≠ w.heap.size + 1) → Ints ((W9.setCell ⟨w.heap.size + 1, 0, none⟩ (.slice A7 qn c7)).setCell ⟨w.heap.size + 1, 1, none⟩ (.slice A9 wn c9)) ((W9.setCell ⟨w.heap.size + 1, 0, none⟩ (.slice A7 qn c7)).setCell ⟨w.heap.size + 1, 1, none⟩ (.slice A9 wn c9)).heap.size B' bn zs := fun B' bn zs hi hx => ⟨hi.1, fun h0 => by
            obtain ⟨b, o, e, hb, hc⟩ := hi.2 h0
            have hne2 := hx b o none e h0
            exact ⟨b, o, e, by simpa [World.setCell] using hb, fun j hj => by
              rw [World.cell?_setCell_other _ _ _ _ (fun e => hne2 (by injection e with e; exact e.symm)), World.cell?_setCell_other _ _ _ _ (fun e => hne2 (by injection e with e; exact e.symm))]
              exact hc j hj⟩⟩
          have HPO : UDPost .nilIface (failV 12) p k v l w (.returned (.tuple #[.agg #[.slice A7 qn c7, .slice A9 wn c9], .nilIface])) ((W9.setCell ⟨w.heap.size + 1, 0, none⟩ (.slice A7 qn c7)).setCell ⟨w.heap.size + 1, 1, none⟩ (.slice A9 wn c9)) := by
            refine ⟨.inr ⟨Q, A7, c7, A9, c9, HD.out, by rw [HQN.out, HWL.out, HWN.out], ?_, ?_, by rw [HQN.out]; exact hcap7, by rw [HWL.out, HWN.out]; exact hcap9, fun b o s e h0 => (by have := hQne.out b o s e h0; omega), by rw [HWL.out, HWN.out]; exact fun b o s e h0 => (by have := hWne.out b o s e h0; omega)⟩, (hbb8.setCell (p := ⟨w.heap.size + 1, 0, none⟩) (by show w.heap.size ≤ w.heap.size + 1; omega) _).setCell (p := ⟨w.heap.size + 1, 1, none⟩) (by show w.heap.size ≤ w.heap.size + 1; omega) _⟩
            · rw [HQN.out]; exact hown2 _ _ _ hQ9 (fun b o s e h0 => (by have := hQne.out b o s e (by rw [HQN.out]; exact h0); omega))
            · rw [HWL.out, HWN.out]; exact hown2 _ _ _ hW9 (fun b o s e h0 => (by have := hWne.out b o s e h0; omega))
          clear hFB hown2 hQ9 hW9 hK9
          go_wp2
          refine bodyPost_ret (v := .tuple #[.agg #[.slice A7 qn c7, .slice A9 wn c9], .nilIface]) (by simp [results, Tryz.results131, go_sem, hfin0, hfin1]) rfl HPO
end Go.Proofs.YtmcgnpdfpfgfpaaGreatDoor

/-! ULaid -/
namespace Go.Proofs.YtmcgnpdfpfgfpaaGreatDoor
open Go Go.ChangeShapes Go.WideShapes Go.RowKit
set_option linter.unusedVariables false

def laidL : List (String × DataW Unit) := [("privatefetch/unique.errWrong", Rows.laid_privatefetch_unique_errWrong)]

theorem glob0 : Tryz.prog.globalNamed "privatefetch/unique.errWrong" = some 0 := by kernel_rfl
theorem globT : (Tryz.prog.globals[0]?).map (·.type) = some 207 := by kernel_rfl
theorem rowsFail : ((List.range Tryz.prog.types.size).all fun u => Tryz.prog.typeName? 3 u != some "privatefetch/unique.failure" || u == 249) = true := by kernel_rfl
theorem cellsFail : Tryz.prog.cellsOf 249 = 1 := by kernel_rfl

/-- A type of that name is the type. -/
theorem typeName_named {P : Program} {nm : String} {tp : TypeId} (hrows : ((List.range P.types.size).all fun u => P.typeName? 3 u != some nm || u == tp) = true) (hstar : nm.toList.head? ≠ some '*')
    (u : TypeId) (hu : P.typeName? 3 u = some nm) : u = tp := by
  by_cases hlt : u < P.types.size
  · have := List.all_eq_true.1 hrows u (List.mem_range.2 hlt)
    simpa [hu] using this
  · exfalso
    unfold Program.typeName? at hu
    cases hi : P.info? u with
    | none => simp [hi] at hu
    | some i =>
      have hb := Tables.info?_beyond hlt hi
      simp only [hi] at hu
      cases hd : i.desc <;> simp only [hd, TypeDesc.tableOnly] at hu hb <;> try cases hb
      all_goals try cases hu
      rename_i e
      simp only [Option.map_eq_some_iff] at hu
      obtain ⟨n', hn', hs⟩ := hu
      apply hstar
      rw [← hs]
      simp [String.toList_append]

set_option maxRecDepth 100000 in
/-- What the condition gives a walk: the variable's cell. -/
theorem errW_of_laid {W : World} (h : laidMetH Tryz.prog laidL W) : ErrW W := by
  have h' : laidMet Tryz.prog laidL W := h
  obtain ⟨ps, hV, hnd, hrow⟩ := h'
  obtain ⟨g, t, cs, fuel, p, q, hg, ht, hv, htr, hq, rfl⟩ := hV
  obtain rfl := Option.some.inj (glob0.symm.trans hg)
  obtain rfl := Option.some.inj (globT.symm.trans ht)
  obtain ⟨f1, u, v, hcs, hn, h1⟩ := iface_of_trod Tryz.underlying207 htr
  obtain rfl := typeName_named rowsFail (by decide) u hn
  have hcs' : cs = #[.iface 249 v] := by cases cs; simp_all
  subst hcs'
  have hc0 : W.cell? ⟨0, 0, none⟩ = some (.iface 249 v) := by
    have := World.var?_cell glob0 hv 0
    simpa using this
  have hok := (hrow 0 0 (by simp [MemPlace.row])).2 _ _ hc0
  obtain ⟨vs, rfl, hsz⟩ := okWide_struct Tryz.underlying249 hok
  obtain ⟨y0, n, hx, hl, hy⟩ := trod_struct1 Tryz.underlying249 h1
  rw [cellsFail] at hl
  obtain ⟨c, hc⟩ : ∃ c, (Value.agg vs).cells.toList = [c] := by
    match hm : (Value.agg vs).cells.toList, hl with
    | [c], _ => exact ⟨c, rfl⟩
  rw [hc] at hy
  obtain ⟨m, hm, rfl, hwf⟩ := DataW.trod_int (k := .i64) Tryz.underlying40 hy
  have hm12 : m = 12 := by
    simp only [Prod.mk.injEq, DataW.agg.injEq, List.cons.injEq, DataW.lit.injEq, Lit.int.injEq, and_true] at hx
    exact hx.1.2.symm
  subst hm12
  have hvs : vs = #[.int .i64 12] := by
    have h1 : vs.toList = [c] := hc
    have h2 : [c] = [.int .i64 12] := hm
    cases vs
    simp_all
  subst hvs
  exact ⟨hc0, block_lt_of_cell hc0⟩

/-- A world that meets the condition: the settled one, the variable's cell laid. -/
noncomputable def laidWorld (os : Os) : World :=
  let w0 := World.holding Tryz.prog os ⟨#[], #[], []⟩
  { w0 with heap := w0.heap.modify 0 fun
      | .cells _ t frozen => .cells #[failV 12] t frozen
      | o => o }
theorem laidWorld_met (os : Os) (args : Array Value) : laidMetH Tryz.prog laidL ((laidWorld os).forCall (fun _ _ => 0) ⟨#[], args, []⟩).memory := by
  show laidMet Tryz.prog laidL _
  exact laidMet_of_run3 8 (by kernel_rfl) (by kernel_rfl) (by kernel_rfl)
end Go.Proofs.YtmcgnpdfpfgfpaaGreatDoor
