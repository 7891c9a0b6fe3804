/-
  Words for memory and contracts of small functions of the second form. Conditions: those of each lemma.
-/
import Derived.Test.YtnjdjcgandfnfaaDoorGKey
import Derived.Test.YtnjdjcgandfnfaaDoorGCnt
import Derived.Test.YtnjdjcgandfnfaaDoorGIs
import Derived.Test.YtnjdjcgandfnfaaDoorGSha
import Derived.Test.YtnjdjcgandfnfaaDoorClone
import Derived.Test.YtnjdjcgandfnfaaDoorSolvC
import Derived.Test.YtnjdjcgandfnfaaDoorDivide
import Derived.Deep.RegionWith
import Derived.Test.YtnjdjcgandfnfaaDoorRows
import Derived.LaidLaws
import Derived.LaidHandle
import Derived.ChangeSame
import Derived.ChangeVars
import Derived.ChangeArms
import Derived.JoinedOf
import Derived.WideShapes
import Derived.Stop.Joined
import Derived.Deep.DeepLaidRun
/-! UDec -/
namespace Go.Proofs.YtnjdjcgandfnfaaDoor
open Go.RowKit
set_option linter.unusedVariables false

/-- The variable errWrong holds its failure. -/
def ErrW (w : World) : Prop := w.cell? ⟨0, 0, none⟩ = some (failV 12) ∧ 0 < w.heap.size
theorem ErrW.below {w w' : World} (h : ErrW w) (hb : Below w.heap.size w w') : ErrW w' := ⟨(hb.cell (p := ⟨0, 0, none⟩) h.2).trans h.1, Nat.lt_of_lt_of_le h.2 hb.size⟩

/-- The slice lies in new memory. -/
def Frs (B : Nat) (A : Option Addr) (n : Nat) : Prop := ∀ b o s, A = some ⟨b, o, s⟩ → 0 < n → B ≤ b

/-- What decode leaves: the error er, or what was decoded. -/
def UDPost (okE badE : Value) (p : Int) (k v : Nat) (l : List (Int × Int)) (w : World) (e : Ending) (w' : World) : Prop :=
  ((DecOf p k v l none ∧ e = .returned (.tuple #[.agg #[.slice none 0 0, .slice none 0 0], badE])) ∨
    ∃ (P : List Int) (A : Option Addr) (c : Nat) (A2 : Option Addr) (c2 : Nat), DecOf p k v l (some P) ∧ e = .returned (.tuple #[.agg #[.slice A P.length c, .slice A2 (wrL p P l).length c2], okE]) ∧
      Ints w' w'.heap.size A P.length P ∧ Ints w' w'.heap.size A2 (wrL p P l).length (wrL p P l) ∧ P.length ≤ c ∧ (wrL p P l).length ≤ c2 ∧ Frs w.heap.size A P.length ∧ Frs w.heap.size A2 (wrL p P l).length) ∧ Below w.heap.size w w'

set_option maxRecDepth 100000 in
set_option maxHeartbeats 1600000 in
theorem udecode_few (p : Int) (A : Option Addr) (m c k : Nat) (vs : List Int) (bs : List Bool) (w : World) (hok : okP p = true) (h : Cel w w.heap.size A m vs bs) (hm : m ≤ 32) (hmp : (m : Int) < p) (hkn : knOk p vs bs) (hk : 1 ≤ k) (hkm : k ≤ m) (hkl : (knL vs bs).length < k) :
    Calls Tryd.prog 38 #[.agg #[.int .i64 p], .slice A m c, .int .i64 k] w fun e w' => e = .returned (.tuple #[.agg #[.slice none 0 0, .slice none 0 0], failV 11]) ∧ Below w.heap.size w w' := by
  have hb0 : Below w.heap.size w ((w.alloc (.cells #[.int .i64 p] 24)).alloc (.cells #[.slice none 0 0, .slice none 0 0] 27)) := ballocs (bbox _) _
  have hR0 := Blk.new1 w (.cells #[.int .i64 p] 24) 27 #[.slice none 0 0, .slice none 0 0]
  have hS0 := (h.below hb0).more hb0.size
  go_enter Tryd.func38, Tryd.ntmps38
  go_wp2_with (first
    | (go_at_call 42; (refine (fill_few p A m c k vs bs _ hok hS0 hm hmp hkn hk hkm hkl).mono ?_); rintro e w1 ⟨rfl, hb1⟩
       have hbb1 := bnext hb0 hb1
       have hR1 := hR0.below hb1 hR0.lt
       have hz0 : w1.cell? ⟨w.heap.size + 1, 0, none⟩ = some (.slice none 0 0) := (hR1.cell 0).trans rfl
       have hf0 := hR1.frozen 0
       have hz1 : w1.cell? ⟨w.heap.size + 1, 1, none⟩ = some (.slice none 0 0) := (hR1.cell 1).trans rfl
       have hf1 := hR1.frozen 1
       clear hb1)
    | (go_at_call 59; refine (of_few _).mono ?_; rintro e w' ⟨rfl, rfl⟩))
  have hFB := (hR1.set_ 0 (.slice none 0 0)).set_ 1 (.slice none 0 0)
  have hfin0 : ((w1.setCell ⟨w.heap.size + 1, 0, none⟩ (.slice none 0 0)).setCell ⟨w.heap.size + 1, 1, none⟩ (.slice none 0 0)).cell? ⟨w.heap.size + 1, 0, none⟩ = some (.slice none 0 0) := (hFB.cell 0).trans rfl
  have hfin1 : ((w1.setCell ⟨w.heap.size + 1, 0, none⟩ (.slice none 0 0)).setCell ⟨w.heap.size + 1, 1, none⟩ (.slice none 0 0)).cell? ⟨w.heap.size + 1, 1, none⟩ = some (.slice none 0 0) := (hFB.cell 1).trans rfl
  refine bodyPost_ret (v := .tuple #[.agg #[.slice none 0 0, .slice none 0 0], failV 11]) (by simp [results, Tryd.results38, go_sem, hfin0, hfin1]) rfl ⟨rfl, (hbb1.setCell (p := ⟨w.heap.size + 1, 0, none⟩) (by show w.heap.size ≤ w.heap.size + 1; omega) _).setCell (p := ⟨w.heap.size + 1, 1, none⟩) (by show w.heap.size ≤ w.heap.size + 1; omega) _⟩

theorem solveOf_noneU {p : Int} {c : Nat} {m0 : List (List Int)} {x : List Int} (hp : 2 ≤ p) (h : SolveOf p c m0 none) : ¬ Solv p c m0 x := fun hx => by
  obtain ⟨m, lead, h1, h2⟩ := h
  exact h2 ((h1.noClash_iff hp).2 ⟨x, hx⟩)
theorem solveOf_someU {p : Int} {c : Nat} {m0 : List (List Int)} {x : List Int} (hp : 2 ≤ p) (h : SolveOf p c m0 (some x)) : Solv p c m0 x ∧ x.length = c ∧ allP p x = true := by
  obtain ⟨m, lead, h1, h2, h3⟩ := h
  exact ⟨(h1.solv x).2 (h3.solv h1.inv h2), h3.ln, h3.all h1.inv hp h1.el⟩
theorem decT_ne_int : (27 : TypeId) ≠ 3 := by decide +kernel

set_option maxRecDepth 100000 in
set_option maxHeartbeats 8000000 in
theorem udecode_ok (p : Int) (A : Option Addr) (m c k : Nat) (vs : List Int) (bs : List Bool) (w : World) (hok : okP p = true) (h : Cel w w.heap.size A m vs bs) (hm : m ≤ 32) (hmp : (m : Int) < p) (hkn : knOk p vs bs) (hk : 1 ≤ k) (hkm : k ≤ m) (hkl : k ≤ (knL vs bs).length) (hW : ErrW w) :
    Calls Tryd.prog 38 #[.agg #[.int .i64 p], .slice A m c, .int .i64 k] w (UDPost .nilIface (failV 12) p k (((knL vs bs).length - k) / 2) (knL vs bs) w) := by
  obtain ⟨i0, hi0, hz0, hz1, hz2⟩ := info_parts info_int
  have hp := okP_pos hok
  have HO := Lib.hid hok
  have HKN := Lib.hid hkn
  have hln : (knL vs bs).length ≤ m := by have := knL_len vs bs; rw [h.1] at this; exact this
  have HVL := Lib.hid h.1
  obtain ⟨l, hl⟩ : ∃ l, knL vs bs = l := ⟨_, rfl⟩
  obtain ⟨N, hN⟩ : ∃ N, (knL vs bs).length = N := ⟨_, rfl⟩
  obtain ⟨v, hv⟩ : ∃ v, (N - k) / 2 = v := ⟨_, rfl⟩
  have HL := Lib.hid hl
  have HN := Lib.hid hN
  have HV := Lib.hid hv
  have hkv : k + 2 * v ≤ 32 := by omega
  obtain ⟨cl, hcl⟩ : ∃ cl, k + 2 * v = cl := ⟨_, rfl⟩
  obtain ⟨kv, hkvE⟩ : ∃ kv, k + v = kv := ⟨_, rfl⟩
  have e2 : (k : Int) + (v : Int) = (kv : Int) := by omega
  have HCL := Lib.hid hcl
  have HKV := Lib.hid hkvE
  have hvN : k + 2 * v ≤ N := by omega
  have hb0 : Below w.heap.size w ((w.alloc (.cells #[.int .i64 p] 24)).alloc (.cells #[.slice none 0 0, .slice none 0 0] 27)) := ballocs (bbox _) _
  have hF0 := (Blk.new w 24 #[.int .i64 p]).alloc (.cells #[.slice none 0 0, .slice none 0 0] 27)
  have hR0 := Blk.new1 w (.cells #[.int .i64 p] 24) 27 #[.slice none 0 0, .slice none 0 0]
  have hS0 := (h.below hb0).more hb0.size
  have hE0 := hW.below hb0
  have HKP : Hid (KeyPost p k v (knL vs bs) = KeyPost p k v l) := Lib.hid (by rw [hl])
  clear hok hkn h hW hcl hkvE
  rw [hN, hl, hv]
  rw [hN] at hkl hln
  have hNl : Hid (l.length = N) := Lib.hid (by rw [← hl]; exact hN)
  clear hN hl hv
  go_enter Tryd.func38, Tryd.ntmps38
  go_wp2_with (first
    | (go_at_call 42; (refine (fill_ok p A m c k vs bs _ HO.out hS0 hm hmp HKN.out hk hkm (by rw [HN.out]; exact hkl)).mono ?_); rintro e w1 ⟨⟨R, A1, c1, rfl, hown1, hT1⟩, hb1⟩
       have hbb1 := bnext hb0 hb1
       have hF1 := hF0.below hb1 hF0.lt
       have hR1 := hR0.below hb1 hR0.lt
       have hS1 := hS0.upto hb1
       have hE1 := hE0.below hb1
       clear hown1 hT1 hb1)
    | (go_at_call 44; (refine (ucount_any A m c vs bs _ hS1 hm).mono ?_); rintro e w2 ⟨rfl, hb2⟩
       rw [HN.out]
       have hbb2 := bnext hbb1 hb2
       have hF2 := hF1.below hb2 hF1.lt
       have hR2 := hR1.below hb2 hR1.lt
       have hS2 := hS1.upto hb2
       have hE2 := hE1.below hb2
       have hcF2 : w2.cell? ⟨w.heap.size, 0, none⟩ = some (.int .i64 p) := (hF2.cell 0).trans rfl
       clear hb2)
    | (go_at_call 25; (refine (uradius_ok N k _ hk hkl (by omega)).mono ?_); rintro e w' ⟨rfl, rfl⟩
       rw [HV.out])
    | (go_at_call 22; (refine (ukey_ok p A m c k v vs bs _ HO.out hS2 hm hmp HKN.out hk hkm (by rw [HN.out]; exact hkl) hkv).mono ?_); rintro e w3 ⟨C, nc, cc, D, cd, rfl, hEQ, hb3⟩
       rw [HL.out, hNl.out, HCL.out] at hEQ
       rw [HL.out, hNl.out, HCL.out]
       have HE3 := Lib.hid (hEQ.upto (bbox (.cells (eqC p N cl C nc cc D N cd) 46)))
       have hbb3 := ballocs (bnext hbb2 hb3) (.cells (eqC p N cl C nc cc D N cd) 46)
       have hF3 := (hF2.below hb3 hF2.lt).alloc (.cells (eqC p N cl C nc cc D N cd) 46)
       have hR3 := (hR2.below hb3 hR2.lt).alloc (.cells (eqC p N cl C nc cc D N cd) 46)
       have hS3 := (hS2.upto hb3).upto (bbox (.cells (eqC p N cl C nc cc D N cd) 46))
       have hE3 := (hE2.below hb3).below (bbox (.cells (eqC p N cl C nc cc D N cd) 46))
       clear hb3 hEQ))
  go_at_call 60
  refine (solve_ok HE3.out).mono ?_
  rintro e w4 ⟨⟨hS, rfl⟩ | ⟨g, x, hS, rfl, hown4⟩, hb4⟩
  · have hbb4 := bnext hbb3 hb4
    have hR4 := hR3.below hb4 hR3.lt
    have hE4 := hE3.below hb4
    have HD : Hid (DecOf p k v l none) := Lib.hid (decOf_unsolved HO.out hk (fun x hx => by
      have h1 := solveOf_noneU hp.1 hS (x := x)
      rw [HCL.out, hNl.out] at hx
      exact h1 hx))
    clear hS hb4
    go_wp2_with fail
    have hz0 : w4.cell? ⟨w.heap.size + 1, 0, none⟩ = some (.slice none 0 0) := (hR4.cell 0).trans rfl
    have hf0 := hR4.frozen 0
    have hz1 : w4.cell? ⟨w.heap.size + 1, 1, none⟩ = some (.slice none 0 0) := (hR4.cell 1).trans rfl
    have hf1 := hR4.frozen 1
    have hgl := hE4.1
    have hFB := (hR4.set_ 0 (.slice none 0 0)).set_ 1 (.slice none 0 0)
    have hfin0 : ((w4.setCell ⟨w.heap.size + 1, 0, none⟩ (.slice none 0 0)).setCell ⟨w.heap.size + 1, 1, none⟩ (.slice none 0 0)).cell? ⟨w.heap.size + 1, 0, none⟩ = some (.slice none 0 0) := (hFB.cell 0).trans rfl
    have hfin1 : ((w4.setCell ⟨w.heap.size + 1, 0, none⟩ (.slice none 0 0)).setCell ⟨w.heap.size + 1, 1, none⟩ (.slice none 0 0)).cell? ⟨w.heap.size + 1, 1, none⟩ = some (.slice none 0 0) := (hFB.cell 1).trans rfl
    have HPO : UDPost .nilIface (failV 12) p k v l w (.returned (.tuple #[.agg #[.slice none 0 0, .slice none 0 0], failV 12])) ((w4.setCell ⟨w.heap.size + 1, 0, none⟩ (.slice none 0 0)).setCell ⟨w.heap.size + 1, 1, none⟩ (.slice none 0 0)).drew := ⟨.inl ⟨HD.out, rfl⟩, ((hbb4.setCell (p := ⟨w.heap.size + 1, 0, none⟩) (by show w.heap.size ≤ w.heap.size + 1; omega) _).setCell (p := ⟨w.heap.size + 1, 1, none⟩) (by show w.heap.size ≤ w.heap.size + 1; omega) _).drew⟩
    clear hFB
    go_region
    all_goals go_wp2
    all_goals refine bodyPost_ret (v := .tuple #[.agg #[.slice none 0 0, .slice none 0 0], failV 12]) (by simp [results, Tryd.results38, go_sem, hfin0, hfin1]) rfl HPO
  · have hSol := solveOf_someU hp.1 hS
    have hXL := hSol.2.1
    have hXA := Lib.hid hSol.2.2
    have HSV := Lib.hid hSol.1
    have hbb4 := bnext hbb3 hb4
    have hR4 := hR3.below hb4 hR3.lt
    have hF4 := hF3.below hb4 hF3.lt
    have hS4 := hS3.upto hb4
    have hE4 := hE3.below hb4
    have hkvc : kv ≤ cl ∧ cl ≤ 32 := by have := HCL.out; have := HKV.out; omega
    have hI4 := hown4.ints
    have hem : cl - kv = v := by have := HCL.out; have := HKV.out; omega
    obtain ⟨X, hX⟩ : ∃ X, (some ⟨g, 0, none⟩ : Option Addr) = X := ⟨_, rfl⟩
    rw [hX] at hI4 ⊢
    have HI := Lib.hid (hI4.sub_ (Nat.le_refl _) kv v (by omega))
    have HTD : Hid ((x.drop kv).take v = x.drop kv) := Lib.hid (List.take_of_length_le (by rw [List.length_drop, hXL]; omega))
    rw [HTD.out] at HI
    obtain ⟨A4, hA4, HI4⟩ : ∃ A4 : Option Addr, (if cl = kv then X else Option.map (fun x => x.add kv) X) = A4 ∧ Hid (Ints w4 w4.heap.size A4 v (x.drop kv)) := by
      refine ⟨_, rfl, ?_⟩
      have := HI
      rwa [Nat.mul_one] at this
    have hIk : Ints w4 w4.heap.size X kv (x.take kv) := ⟨by rw [List.length_take, hXL]; omega, fun h0 => by
      obtain ⟨b, o, e, hb, hc⟩ := hI4.2 (by omega)
      exact ⟨b, o, e, hb, fun j hj => (hc j (by omega)).trans (by rw [List.getD_eq_getElem?_getD, List.getD_eq_getElem?_getD, List.getElem?_take, if_pos hj])⟩⟩
    have HIK := Lib.hid hIk
    have HXL := Lib.hid hXL
    clear hS hSol hXL hX HI hown4 hI4 hIk hb4 HE3
    have s1 : (0 : Int) ≤ (kv : Int) := by omega
    have s2 : (kv : Int) ≤ (cl : Int) := by omega
    have s3 : IntKind.i64.wrap (kv : Int) = (kv : Int) := IntWalk.i64_in _ (by omega)
    go_upto_region 11 with fail
    go_cut [15, 16] (fun sa sb wx => ∃ (A6 : Option Addr) (c6 : Nat), sa = .slice X kv cl ∧ sb = .slice A6 (v + 1) c6 ∧ Hid (OwnI wx w4.heap.size 3 A6 (v + 1) c6 (x.drop kv ++ [1])) ∧ Below w4.heap.size w4 wx)
    case first =>
      have hId : Ints w4.drew w4.drew.heap.size A4 v (x.drop kv) := HI4.out
      have hIa0 := HI4.out.upto (bbox (w0 := w4) (.cells #[.int .i64 1] 3))
      have hIa : Ints (w4.alloc (.cells #[.int .i64 1] 3)).drew (w4.alloc (.cells #[.int .i64 1] 3)).drew.heap.size A4 v (x.drop kv) := hIa0
      have hv32 : v ≤ 32 := by omega
      go_region_law (first
        | (go_simp; go_at_call 61; (try rw [hem]); (with_reducible refine (clone_any A4 v v (x.drop kv) _ hId (by omega)).mono ?_); rintro e w5 ⟨⟨A5, c5, rfl, hown5⟩, hb5⟩
           have hb5' : Below w4.heap.size w4 w5 := ⟨hb5.os, hb5.tape, hb5.output, hb5.size, hb5.block⟩
           have hba := hb5'.trans (bbox (w0 := w5) (.cells #[.int .i64 1] 3) |>.mono hb5'.size)
           have hTa : OwnI (w5.alloc (.cells #[.int .i64 1] 3)) w4.heap.size 3 A5 v c5 (x.drop kv) := hown5.alloc _
           have hRa : Ints (w5.alloc (.cells #[.int .i64 1] 3)) (w5.alloc (.cells #[.int .i64 1] 3)).heap.size (some ⟨w5.heap.size, 0, none⟩) 1 [1] := Ints.oneAt _ _ _ _ rfl
           have hla : w4.heap.size ≤ (w5.alloc (.cells #[.int .i64 1] 3)).heap.size := le_alloc hb5'.size _)
        | (go_simp; go_at_call 61; (try rw [hem]); (with_reducible refine (clone_any A4 v v (x.drop kv) _ hIa (by omega)).mono ?_); rintro e w5 ⟨⟨A5, c5, rfl, hown5⟩, hb5⟩
           have hb5a : Below (w4.alloc (.cells #[.int .i64 1] 3)).heap.size (w4.alloc (.cells #[.int .i64 1] 3)) w5 := ⟨hb5.os, hb5.tape, hb5.output, hb5.size, hb5.block⟩
           have hba := (bbox (w0 := w4) (.cells #[.int .i64 1] 3)).trans (hb5a.mono (by simp))
           have hTa := OwnI.base hown5 (base' := w4.heap.size) (by simp)
           have hRa := (Ints.oneAt w4 1 3 w4.heap.size rfl).upto hb5a
           have hla : w4.heap.size ≤ w5.heap.size := hba.size)
        | ((refine step_app (w := w5.alloc (.cells #[.int .i64 1] 3)) rfl (.tmp 71) (.tmp 72) 22 rfl w4.heap.size 3 i0 _ Tryd.underlying22 hi0 hz0 hz1 hz2 rfl A5 v c5 _ (by first | rfl | simp [Act.eval]) hTa (some ⟨w5.heap.size, 0, none⟩) 1 1 [1] (by first | rfl | simp [Act.eval]) hRa (v + 1) rfl (by omega) hla ?_); intro A6 c6 w9 hown9 hgr9 hbw9 hab9
           have HO9 := Lib.hid hown9
           have hb9 := hba.trans hbw9
           clear hown9 hgr9 hbw9 hab9)
        | ((refine step_app (w := w5) rfl (.tmp 71) (.tmp 72) 22 rfl w4.heap.size 3 i0 _ Tryd.underlying22 hi0 hz0 hz1 hz2 rfl A5 v c5 _ (by first | rfl | simp [Act.eval]) hTa (some ⟨w4.heap.size, 0, none⟩) 1 1 [1] (by first | rfl | simp [Act.eval]) hRa (v + 1) rfl (by omega) hla ?_); intro A6 c6 w9 hown9 hgr9 hbw9 hab9
           have HO9 := Lib.hid hown9
           have hb9 := hba.trans hbw9
           clear hown9 hgr9 hbw9 hab9))
      all_goals go_wp2
      all_goals go_meet
      all_goals exact ⟨A6, c6, rfl, rfl, HO9, hb9⟩
    case rest =>
    obtain ⟨A6, c6, rfl, rfl, HO6, hb6⟩ := hcut
    have hbb6 := bnext hbb4 hb6
    have hR6 := hR4.below hb6 hR4.lt
    have hF6 := hF4.below hb6 hF4.lt
    have hcF6 : wc.cell? ⟨w.heap.size, 0, none⟩ = some (.int .i64 p) := (hF6.cell 0).trans rfl
    have hS6 := hS4.upto hb6
    have hE6 := hE4.below hb6
    have hIX := HIK.out.upto hb6
    have hIE := HO6.out.ints
    have hcap6 := HO6.out.cap
    have HXK : Hid (allP p (x.take kv) = true) := Lib.hid (take_allP hXA.out kv)
    have HXE : Hid (allP p (x.drop kv ++ [1]) = true) := Lib.hid (allP_append.2 ⟨allP_iff.2 fun y hy => allP_iff.1 hXA.out y (List.mem_of_mem_drop hy), allP_iff.2 fun y hy => by rw [List.mem_singleton.1 hy]; omega⟩)
    have HTN : 0 < tn (x.drop kv ++ [1]) (v + 1) := by
      rcases Nat.eq_zero_or_pos (tn (x.drop kv ++ [1]) (v + 1)) with h0 | h0
      · exfalso
        have h1 := tn_zero (l := x.drop kv ++ [1]) (n := v + 1) (k := v) (by omega) (by omega)
        rw [cf_append, if_neg (by rw [List.length_drop, HXL.out]; omega), List.length_drop, HXL.out, hem, Nat.sub_self] at h1
        exact absurd h1 (by show (1 : Int) ≠ 0; decide)
      · exact h0
    clear HI4 HIK HO6 hb6 hF4 hR4 hS4 hE4 hbb4 hA4 s1 s2 s3
    go_wp2_with fail
    go_at_call 62
    refine (pdivide_ok p X A6 kv (v + 1) cl c6 (x.take kv) (x.drop kv ++ [1]) _ HO.out hIX hIE HXK.out HXE.out hkvc.1 hcap6 (by omega) (by omega) HTN).mono ?_
    rintro e w7 ⟨⟨Q, R7, A7, c7, A8, c8, rfl, hQ, hRs, hDv, hQl⟩, hb7⟩
    have HDC : Hid (DecOf p k v l (if R7 = [] ∧ Q.length ≤ k ∧ (wrL p Q l).length ≤ v then some Q else none)) := Lib.hid (decOf_div (x := x) HO.out hk (by rw [← HL.out]; exact knL_apart (by rw [HVL.out]; exact hmp)) (by rw [hNl.out]; exact hvN) (by rw [HXL.out, HCL.out]) hXA.out (by rw [HCL.out, hNl.out]; exact HSV.out) (by rw [HKV.out]; exact hDv))
    have hQall := Lib.hid hDv.aq
    have hQi := hQ.ints
    have hcap7 := hQ.cap
    have hQne : Hid (∀ b o s, A7 = some ⟨b, o, s⟩ → 0 < Q.length → w.heap.size + 2 ≤ b) := Lib.hid fun b o s e h0 => by
      obtain ⟨g2, e2, hl, _⟩ := hQ.form h0
      rw [e2] at e
      injection e with e
      injection e with e
      have := hR6.lt
      omega
    have hbb7 := bnext hbb6 hb7
    have hR7 := hR6.below hb7 hR6.lt
    have hF7 := hF6.below hb7 hF6.lt
    have hcF7 : w7.cell? ⟨w.heap.size, 0, none⟩ = some (.int .i64 p) := (hF7.cell 0).trans rfl
    have hS7 := hS6.upto hb7
    have hE7 := hE6.below hb7
    obtain ⟨rn, hrn⟩ : ∃ rn, R7.length = rn := ⟨_, rfl⟩
    obtain ⟨qn, hqn⟩ : ∃ qn, Q.length = qn := ⟨_, rfl⟩
    rw [hrn, hqn]
    rw [hqn] at hQi hQl hcap7
    have HRN := Lib.hid hrn
    have HQN := Lib.hid hqn
    clear hQ hRs hDv hrn hqn hb7 hcF6 hF6 hR6 hS6 hE6 hbb6 hIX hIE hcap6 HXK HXE HTN
    by_cases hr0 : 0 < rn
    · have hr1 : (0 : Int) < (rn : Int) := by omega
      have HD : Hid (DecOf p k v l none) := Lib.hid (by
        have h1 := HDC.out
        rwa [if_neg (fun hh => by rw [hh.1] at HRN; have := HRN.out; simp at this; omega)] at h1)
      clear HDC
      go_upto_region 14 with fail
      have hz0 : w7.cell? ⟨w.heap.size + 1, 0, none⟩ = some (.slice none 0 0) := (hR7.cell 0).trans rfl
      have hf0 := hR7.frozen 0
      have hz1 : w7.cell? ⟨w.heap.size + 1, 1, none⟩ = some (.slice none 0 0) := (hR7.cell 1).trans rfl
      have hf1 := hR7.frozen 1
      have hgl := hE7.1
      have hFB := (hR7.set_ 0 (.slice none 0 0)).set_ 1 (.slice none 0 0)
      have hfin0 : ((w7.setCell ⟨w.heap.size + 1, 0, none⟩ (.slice none 0 0)).setCell ⟨w.heap.size + 1, 1, none⟩ (.slice none 0 0)).cell? ⟨w.heap.size + 1, 0, none⟩ = some (.slice none 0 0) := (hFB.cell 0).trans rfl
      have hfin1 : ((w7.setCell ⟨w.heap.size + 1, 0, none⟩ (.slice none 0 0)).setCell ⟨w.heap.size + 1, 1, none⟩ (.slice none 0 0)).cell? ⟨w.heap.size + 1, 1, none⟩ = some (.slice none 0 0) := (hFB.cell 1).trans rfl
      have HPO : UDPost .nilIface (failV 12) p k v l w (.returned (.tuple #[.agg #[.slice none 0 0, .slice none 0 0], failV 12])) ((w7.setCell ⟨w.heap.size + 1, 0, none⟩ (.slice none 0 0)).setCell ⟨w.heap.size + 1, 1, none⟩ (.slice none 0 0)).drew := ⟨.inl ⟨HD.out, rfl⟩, ((hbb7.setCell (p := ⟨w.heap.size + 1, 0, none⟩) (by show w.heap.size ≤ w.heap.size + 1; omega) _).setCell (p := ⟨w.heap.size + 1, 1, none⟩) (by show w.heap.size ≤ w.heap.size + 1; omega) _).drew⟩
      clear hFB
      go_region
      all_goals go_wp2
      all_goals refine bodyPost_ret (v := .tuple #[.agg #[.slice none 0 0, .slice none 0 0], failV 12]) (by simp [results, Tryd.results38, go_sem, hfin0, hfin1]) rfl HPO
    · have hr00 : rn = 0 := by omega
      subst hr00
      have HR0 : Hid (R7 = []) := Lib.hid (List.eq_nil_of_length_eq_zero HRN.out)
      clear hr0
      by_cases hqk : k < qn
      · have hq1 : (k : Int) < (qn : Int) := by omega
        have HD : Hid (DecOf p k v l none) := Lib.hid (by
          have h1 := HDC.out
          rwa [if_neg (fun hh => by have := hh.2.1; have := HQN.out; omega)] at h1)
        clear HDC
        go_upto_region 14 with fail
        have hz0 : w7.cell? ⟨w.heap.size + 1, 0, none⟩ = some (.slice none 0 0) := (hR7.cell 0).trans rfl
        have hf0 := hR7.frozen 0
        have hz1 : w7.cell? ⟨w.heap.size + 1, 1, none⟩ = some (.slice none 0 0) := (hR7.cell 1).trans rfl
        have hf1 := hR7.frozen 1
        have hgl := hE7.1
        have hFB := (hR7.set_ 0 (.slice none 0 0)).set_ 1 (.slice none 0 0)
        have hfin0 : ((w7.setCell ⟨w.heap.size + 1, 0, none⟩ (.slice none 0 0)).setCell ⟨w.heap.size + 1, 1, none⟩ (.slice none 0 0)).cell? ⟨w.heap.size + 1, 0, none⟩ = some (.slice none 0 0) := (hFB.cell 0).trans rfl
        have hfin1 : ((w7.setCell ⟨w.heap.size + 1, 0, none⟩ (.slice none 0 0)).setCell ⟨w.heap.size + 1, 1, none⟩ (.slice none 0 0)).cell? ⟨w.heap.size + 1, 1, none⟩ = some (.slice none 0 0) := (hFB.cell 1).trans rfl
        have HPO : UDPost .nilIface (failV 12) p k v l w (.returned (.tuple #[.agg #[.slice none 0 0, .slice none 0 0], failV 12])) ((w7.setCell ⟨w.heap.size + 1, 0, none⟩ (.slice none 0 0)).setCell ⟨w.heap.size + 1, 1, none⟩ (.slice none 0 0)).drew := ⟨.inl ⟨HD.out, rfl⟩, ((hbb7.setCell (p := ⟨w.heap.size + 1, 0, none⟩) (by show w.heap.size ≤ w.heap.size + 1; omega) _).setCell (p := ⟨w.heap.size + 1, 1, none⟩) (by show w.heap.size ≤ w.heap.size + 1; omega) _).drew⟩
        clear hFB
        go_region
        all_goals go_wp2
        all_goals refine bodyPost_ret (v := .tuple #[.agg #[.slice none 0 0, .slice none 0 0], failV 12]) (by simp [results, Tryd.results38, go_sem, hfin0, hfin1]) rfl HPO
      · have hq1 : ¬ (k : Int) < (qn : Int) := by omega
        obtain ⟨wl, hwl⟩ : ∃ wl, wrL p Q l = wl := ⟨_, rfl⟩
        obtain ⟨wn, hwn⟩ : ∃ wn, wl.length = wn := ⟨_, rfl⟩
        have HWL := Lib.hid hwl
        have HWN := Lib.hid hwn
        clear hwl hwn
        by_cases hwv : v < wn
        · have hw1 : (v : Int) < (wn : Int) := by omega
          have HD : Hid (DecOf p k v l none) := Lib.hid (by
            have h1 := HDC.out
            rwa [if_neg (fun hh => by have := hh.2.2; rw [HWL.out, HWN.out] at this; omega)] at h1)
          clear HDC
          go_wp2_with (go_at_call 45; (refine (uwrongs_ok p A m c vs bs A7 qn c7 Q _ hp hS7 hm hmp hQi hQall.out (by omega)).mono ?_); rintro e w8 ⟨⟨A9, c9, rfl, hown9⟩, hb8⟩
                       rw [HL.out, HWL.out, HWN.out] at hown9
                       rw [HL.out, HWL.out, HWN.out]
                       have hW9 := (hown9.ints).upto (bbox (.cells #[.slice A7 qn c7, .slice A9 wn c9] 27))
                       have hcap9 := hown9.cap
                       have hWne : Hid (∀ b o s, A9 = some ⟨b, o, s⟩ → 0 < wn → w.heap.size + 2 ≤ b) := Lib.hid fun b o s e h0 => by
                         obtain ⟨g2, e2, hl, _⟩ := hown9.form h0
                         rw [e2] at e
                         injection e with e
                         injection e with e
                         have := hR7.lt
                         omega
                       have hQ9 := (hQi.upto hb8).upto (bbox (.cells #[.slice A7 qn c7, .slice A9 wn c9] 27))
                       have hbb8 := ballocs (bnext hbb7 hb8) (.cells #[.slice A7 qn c7, .slice A9 wn c9] 27)
                       have hR8 := (hR7.below hb8 hR7.lt).alloc (.cells #[.slice A7 qn c7, .slice A9 wn c9] 27)
                       have hE8 := (hE7.below hb8).below (bbox (.cells #[.slice A7 qn c7, .slice A9 wn c9] 27))
                       clear hown9)
          obtain ⟨W9, hW9e⟩ : ∃ W9, w8.alloc (.cells #[.slice A7 qn c7, .slice A9 wn c9] 27) = W9 := ⟨_, rfl⟩
          rw [hW9e] at hR8 hE8 hbb8 ⊢
          clear hW9e
          have hz0 : W9.cell? ⟨w.heap.size + 1, 0, none⟩ = some (.slice none 0 0) := (hR8.cell 0).trans rfl
          have hf0 := hR8.frozen 0
          have hz1 : W9.cell? ⟨w.heap.size + 1, 1, none⟩ = some (.slice none 0 0) := (hR8.cell 1).trans rfl
          have hf1 := hR8.frozen 1
          have hgl := hE8.1
          have hFB := (hR8.set_ 0 (.slice none 0 0)).set_ 1 (.slice none 0 0)
          have hfin0 : ((W9.setCell ⟨w.heap.size + 1, 0, none⟩ (.slice none 0 0)).setCell ⟨w.heap.size + 1, 1, none⟩ (.slice none 0 0)).cell? ⟨w.heap.size + 1, 0, none⟩ = some (.slice none 0 0) := (hFB.cell 0).trans rfl
          have hfin1 : ((W9.setCell ⟨w.heap.size + 1, 0, none⟩ (.slice none 0 0)).setCell ⟨w.heap.size + 1, 1, none⟩ (.slice none 0 0)).cell? ⟨w.heap.size + 1, 1, none⟩ = some (.slice none 0 0) := (hFB.cell 1).trans rfl
          have HPO : UDPost .nilIface (failV 12) p k v l w (.returned (.tuple #[.agg #[.slice none 0 0, .slice none 0 0], failV 12])) ((W9.setCell ⟨w.heap.size + 1, 0, none⟩ (.slice none 0 0)).setCell ⟨w.heap.size + 1, 1, none⟩ (.slice none 0 0)).drew := ⟨.inl ⟨HD.out, rfl⟩, ((hbb8.setCell (p := ⟨w.heap.size + 1, 0, none⟩) (by show w.heap.size ≤ w.heap.size + 1; omega) _).setCell (p := ⟨w.heap.size + 1, 1, none⟩) (by show w.heap.size ≤ w.heap.size + 1; omega) _).drew⟩
          clear hFB
          go_region
          all_goals go_wp2
          all_goals refine bodyPost_ret (v := .tuple #[.agg #[.slice none 0 0, .slice none 0 0], failV 12]) (by simp [results, Tryd.results38, go_sem, hfin0, hfin1]) rfl HPO
        · have hw1 : ¬ (v : Int) < (wn : Int) := by omega
          have HD : Hid (DecOf p k v l (some Q)) := Lib.hid (by
            have h1 := HDC.out
            rwa [if_pos ⟨HR0.out, by rw [HQN.out]; omega, by rw [HWL.out, HWN.out]; omega⟩] at h1)
          clear HDC
          go_upto_region 18 with (first
            | (go_at_call 45; (refine (uwrongs_ok p A m c vs bs A7 qn c7 Q _ hp hS7 hm hmp hQi hQall.out (by omega)).mono ?_); rintro e w8 ⟨⟨A9, c9, rfl, hown9⟩, hb8⟩
               rw [HL.out, HWL.out, HWN.out] at hown9
               rw [HL.out, HWL.out, HWN.out]
               have hW9 := (hown9.ints).upto (bbox (.cells #[.slice A7 qn c7, .slice A9 wn c9] 27))
               have hcap9 := hown9.cap
               have hWne : Hid (∀ b o s, A9 = some ⟨b, o, s⟩ → 0 < wn → w.heap.size + 2 ≤ b) := Lib.hid fun b o s e h0 => by
                 obtain ⟨g2, e2, hl, _⟩ := hown9.form h0
                 rw [e2] at e
                 injection e with e
                 injection e with e
                 have := hR7.lt
                 omega
               have hQ9 := (hQi.upto hb8).upto (bbox (.cells #[.slice A7 qn c7, .slice A9 wn c9] 27))
               have hbb8 := ballocs (bnext hbb7 hb8) (.cells #[.slice A7 qn c7, .slice A9 wn c9] 27)
               have hR8 := (hR7.below hb8 hR7.lt).alloc (.cells #[.slice A7 qn c7, .slice A9 wn c9] 27)
               have hE8 := (hE7.below hb8).below (bbox (.cells #[.slice A7 qn c7, .slice A9 wn c9] 27))
               clear hown9))
          obtain ⟨W9, hW9e⟩ : ∃ W9, w8.alloc (.cells #[.slice A7 qn c7, .slice A9 wn c9] 27) = W9 := ⟨_, rfl⟩
          have hK9 := Blk.new w8 27 #[.slice A7 qn c7, .slice A9 wn c9]
          rw [hW9e] at hR8 hbb8 hW9 hQ9 hK9 ⊢
          clear hW9e
          have hk0 : W9.cell? ⟨w8.heap.size, 0, none⟩ = some (.slice A7 qn c7) := (hK9.cell 0).trans rfl
          have hk1 : W9.cell? ⟨w8.heap.size, 1, none⟩ = some (.slice A9 wn c9) := (hK9.cell 1).trans rfl
          have hz0 : W9.cell? ⟨w.heap.size + 1, 0, none⟩ = some (.slice none 0 0) := (hR8.cell 0).trans rfl
          have hf0 := hR8.frozen 0
          have hz1 : W9.cell? ⟨w.heap.size + 1, 1, none⟩ = some (.slice none 0 0) := (hR8.cell 1).trans rfl
          have hf1 := hR8.frozen 1
          have hne : w8.heap.size ≠ w.heap.size + 1 := by have := hbb7.size; have := hR7.lt; have := hb8.size; omega
          have hFB := (hR8.set_ 0 (.slice A7 qn c7)).set_ 1 (.slice A9 wn c9)
          have hfin0 : ((W9.setCell ⟨w.heap.size + 1, 0, none⟩ (.slice A7 qn c7)).setCell ⟨w.heap.size + 1, 1, none⟩ (.slice A9 wn c9)).cell? ⟨w.heap.size + 1, 0, none⟩ = some (.slice A7 qn c7) := (hFB.cell 0).trans rfl
          have hfin1 : ((W9.setCell ⟨w.heap.size + 1, 0, none⟩ (.slice A7 qn c7)).setCell ⟨w.heap.size + 1, 1, none⟩ (.slice A9 wn c9)).cell? ⟨w.heap.size + 1, 1, none⟩ = some (.slice A9 wn c9) := (hFB.cell 1).trans rfl
          have hown2 : ∀ (B' : Option Addr) (bn : Nat) (zs : List Int), Ints W9 W9.heap.size B' bn zs → (∀ b o s, B' = some ⟨b, o, s⟩ → 0 < bn → b ≠ w.heap.size + 1) → Ints ((W9.setCell ⟨w.heap.size + 1, 0, none⟩ (.slice A7 qn c7)).setCell ⟨w.heap.size + 1, 1, none⟩ (.slice A9 wn c9)) ((W9.setCell ⟨w.heap.size + 1, 0, none⟩ (.slice A7 qn c7)).setCell ⟨w.heap.size + 1, 1, none⟩ (.slice A9 wn c9)).heap.size B' bn zs := fun B' bn zs hi hx => ⟨hi.1, fun h0 => by
            obtain ⟨b, o, e, hb, hc⟩ := hi.2 h0
            have hne2 := hx b o none e h0
            exact ⟨b, o, e, by simpa [World.setCell] using hb, fun j hj => by
              rw [World.cell?_setCell_other _ _ _ _ (fun e => hne2 (by injection e with e; exact e.symm)), World.cell?_setCell_other _ _ _ _ (fun e => hne2 (by injection e with e; exact e.symm))]
              exact hc j hj⟩⟩
          have HPO : UDPost .nilIface (failV 12) p k v l w (.returned (.tuple #[.agg #[.slice A7 qn c7, .slice A9 wn c9], .nilIface])) ((W9.setCell ⟨w.heap.size + 1, 0, none⟩ (.slice A7 qn c7)).setCell ⟨w.heap.size + 1, 1, none⟩ (.slice A9 wn c9)) := by
            refine ⟨.inr ⟨Q, A7, c7, A9, c9, HD.out, by rw [HQN.out, HWL.out, HWN.out], ?_, ?_, by rw [HQN.out]; exact hcap7, by rw [HWL.out, HWN.out]; exact hcap9, fun b o s e h0 => (by have := hQne.out b o s e h0; omega), by rw [HWL.out, HWN.out]; exact fun b o s e h0 => (by have := hWne.out b o s e h0; omega)⟩, (hbb8.setCell (p := ⟨w.heap.size + 1, 0, none⟩) (by show w.heap.size ≤ w.heap.size + 1; omega) _).setCell (p := ⟨w.heap.size + 1, 1, none⟩) (by show w.heap.size ≤ w.heap.size + 1; omega) _⟩
            · rw [HQN.out]; exact hown2 _ _ _ hQ9 (fun b o s e h0 => (by have := hQne.out b o s e (by rw [HQN.out]; exact h0); omega))
            · rw [HWL.out, HWN.out]; exact hown2 _ _ _ hW9 (fun b o s e h0 => (by have := hWne.out b o s e h0; omega))
          clear hFB hown2 hQ9 hW9 hK9
          go_wp2
          refine bodyPost_ret (v := .tuple #[.agg #[.slice A7 qn c7, .slice A9 wn c9], .nilIface]) (by simp [results, Tryd.results38, go_sem, hfin0, hfin1]) rfl HPO
end Go.Proofs.YtnjdjcgandfnfaaDoor

/-! UDecode -/
namespace Go.Proofs.YtnjdjcgandfnfaaDoor
open Go.RowKit
set_option linter.unusedVariables false

theorem Ints.setFar {w : World} {B n : Nat} {A : Option Addr} {xs : List Int} (h : Ints w B A n xs) (Q i : Nat) (v : Value) (hQ : ∀ b o s, A = some ⟨b, o, s⟩ → 0 < n → b ≠ Q) : Ints (w.setCell ⟨Q, i, none⟩ v) B A n xs := ⟨h.1, fun h0 => by
  obtain ⟨b, o, e, hb, hc⟩ := h.2 h0
  have hne := hQ b o none e h0
  exact ⟨b, o, e, hb, fun j hj => (World.cell?_setCell_other _ _ _ _ (fun e => hne (by injection e with e; exact e.symm))).trans (hc j hj)⟩⟩

set_option maxRecDepth 100000 in
set_option maxHeartbeats 1600000 in
theorem uDecode_few (p : Int) (A : Option Addr) (m c k : Nat) (vs : List Int) (bs : List Bool) (w : World) (hok : okP p = true) (h : Cel w w.heap.size A m vs bs) (hm : m ≤ 32) (hmp : (m : Int) < p) (hkn : knOk p vs bs) (hk : 1 ≤ k) (hkm : k ≤ m) (hkl : (knL vs bs).length < k) (hW : ErrW w) :
    Calls Tryd.prog 18 #[.agg #[.int .i64 p], .slice A m c, .int .i64 k] w fun e w' => e = .returned (.tuple #[.agg #[.slice none 0 0, .slice none 0 0], .int .i64 11]) ∧ Below w.heap.size w w' := by
  have hb0 : Below w.heap.size w ((w.alloc (.cells #[.int .i64 p] 24)).alloc (.cells #[.slice none 0 0, .slice none 0 0] 27)) := ballocs (bbox _) _
  have hR0 := Blk.new1 w (.cells #[.int .i64 p] 24) 27 #[.slice none 0 0, .slice none 0 0]
  have hS0 := (h.below hb0).more hb0.size
  have hE0 := hW.below hb0
  clear h hW
  go_enter Tryd.func18, Tryd.ntmps18
  go_upto_region 4 with (first
    | (go_at_call 38; (refine (udecode_few p A m c k vs bs _ hok hS0 hm hmp hkn hk hkm hkl).mono ?_); rintro e w1 ⟨rfl, hb1⟩
       have hbb1 := ballocs (bnext hb0 hb1) (.cells #[.slice none 0 0, .slice none 0 0] 27)
       have hR1 := (hR0.below hb1 hR0.lt).alloc (.cells #[.slice none 0 0, .slice none 0 0] 27)
       have hE1 := (hE0.below hb1).below (bbox (.cells #[.slice none 0 0, .slice none 0 0] 27))
       have hN1 := Blk.new w1 27 #[.slice none 0 0, .slice none 0 0]
       have hQl1 := (hR0.below hb1 hR0.lt).lt
       have hgl := hE1.1)
    | (go_at_call 39; refine (is_few _).mono ?_; rintro e w' ⟨rfl, rfl⟩))
  obtain ⟨W, hW⟩ : ∃ W, w1.alloc (.cells #[.slice none 0 0, .slice none 0 0] 27) = W := ⟨_, rfl⟩
  rw [hW] at hbb1 hR1 hE1 hN1 ⊢
  have hS1 : W.cell? ⟨w1.heap.size, 0, none⟩ = some (.slice none 0 0) ∧ W.cell? ⟨w1.heap.size, 1, none⟩ = some (.slice none 0 0) := ⟨(hN1.cell 0).trans rfl, (hN1.cell 1).trans rfl⟩
  have hQl : w.heap.size + 1 < w1.heap.size := hQl1
  have hN2 : Blk W w1.heap.size 27 #[.slice none 0 0, .slice none 0 0] := hN1
  have hk0 := hS1.1
  have hk1 := hS1.2
  have hz0 : W.cell? ⟨w.heap.size + 1, 0, none⟩ = some (.slice none 0 0) := (hR1.cell 0).trans rfl
  have hf0 := hR1.frozen 0
  have hz1 : W.cell? ⟨w.heap.size + 1, 1, none⟩ = some (.slice none 0 0) := (hR1.cell 1).trans rfl
  have hf1 := hR1.frozen 1
  clear hS1 hW
  go_region_held3 (fun w' => w'.cell? ⟨w1.heap.size, 0, none⟩ = some (.slice none 0 0) ∧ w'.cell? ⟨w1.heap.size, 1, none⟩ = some (.slice none 0 0)) (first | exact ⟨hk0, hk1⟩ | exact ⟨hm0, hm1⟩ | exact ⟨hp0, hp1⟩)
    (first
      | (go_at_call 40; refine (number_few _).mono ?_; rintro e w5 ⟨rfl, hb5⟩
         have hm0 : w5.cell? ⟨w1.heap.size, 0, none⟩ = some (.slice none 0 0) := ((hN2.drew.below hb5 hN2.lt).cell 0).trans rfl
         have hm1 : w5.cell? ⟨w1.heap.size, 1, none⟩ = some (.slice none 0 0) := ((hN2.drew.below hb5 hN2.lt).cell 1).trans rfl
         have hR5 := hR1.drew.below hb5 hR1.lt
         have hy0 : w5.cell? ⟨w.heap.size + 1, 0, none⟩ = some (.slice none 0 0) := (hR5.cell 0).trans rfl
         have hg0 := hR5.frozen 0
         have hy1 : w5.cell? ⟨w.heap.size + 1, 1, none⟩ = some (.slice none 0 0) := (hR5.cell 1).trans rfl
         have hg1 := hR5.frozen 1
         have hbb5 : Below w.heap.size w w5 := hbb1.drew.trans (hb5.mono hbb1.size)
         have hNf := ((hN2.drew.below hb5 hN2.lt).far (p := ⟨w.heap.size + 1, 0, none⟩) (by show w1.heap.size ≠ w.heap.size + 1; omega) (.slice none 0 0)).far (p := ⟨w.heap.size + 1, 1, none⟩) (by show w1.heap.size ≠ w.heap.size + 1; omega) (.slice none 0 0)
         have hp0 : ((w5.setCell ⟨w.heap.size + 1, 0, none⟩ (.slice none 0 0)).setCell ⟨w.heap.size + 1, 1, none⟩ (.slice none 0 0)).cell? ⟨w1.heap.size, 0, none⟩ = some (.slice none 0 0) := (hNf.cell 0).trans rfl
         have hp1 : ((w5.setCell ⟨w.heap.size + 1, 0, none⟩ (.slice none 0 0)).setCell ⟨w.heap.size + 1, 1, none⟩ (.slice none 0 0)).cell? ⟨w1.heap.size, 1, none⟩ = some (.slice none 0 0) := (hNf.cell 1).trans rfl))
  go_wp2
  have hFB := (hR5.set_ 0 (.slice none 0 0)).set_ 1 (.slice none 0 0)
  have hfin0 : ((w5.setCell ⟨w.heap.size + 1, 0, none⟩ (.slice none 0 0)).setCell ⟨w.heap.size + 1, 1, none⟩ (.slice none 0 0)).cell? ⟨w.heap.size + 1, 0, none⟩ = some (.slice none 0 0) := (hFB.cell 0).trans rfl
  have hfin1 : ((w5.setCell ⟨w.heap.size + 1, 0, none⟩ (.slice none 0 0)).setCell ⟨w.heap.size + 1, 1, none⟩ (.slice none 0 0)).cell? ⟨w.heap.size + 1, 1, none⟩ = some (.slice none 0 0) := (hFB.cell 1).trans rfl
  refine bodyPost_ret (v := .tuple #[.agg #[.slice none 0 0, .slice none 0 0], .int .i64 11]) (by simp [results, Tryd.results18, go_sem, hfin0, hfin1]) rfl ⟨rfl, (hbb5.setCell (p := ⟨w.heap.size + 1, 0, none⟩) (by show w.heap.size ≤ w.heap.size + 1; omega) _).setCell (p := ⟨w.heap.size + 1, 1, none⟩) (by show w.heap.size ≤ w.heap.size + 1; omega) _⟩

set_option maxRecDepth 100000 in
set_option maxHeartbeats 1600000 in
theorem uDecode_ok (p : Int) (A : Option Addr) (m c k : Nat) (vs : List Int) (bs : List Bool) (w : World) (hok : okP p = true) (h : Cel w w.heap.size A m vs bs) (hm : m ≤ 32) (hmp : (m : Int) < p) (hkn : knOk p vs bs) (hk : 1 ≤ k) (hkm : k ≤ m) (hkl : k ≤ (knL vs bs).length) (hW : ErrW w) :
    Calls Tryd.prog 18 #[.agg #[.int .i64 p], .slice A m c, .int .i64 k] w (UDPost (.int .i64 0) (.int .i64 12) p k (((knL vs bs).length - k) / 2) (knL vs bs) w) := by
  have hb0 : Below w.heap.size w ((w.alloc (.cells #[.int .i64 p] 24)).alloc (.cells #[.slice none 0 0, .slice none 0 0] 27)) := ballocs (bbox _) _
  have hR0 := Blk.new1 w (.cells #[.int .i64 p] 24) 27 #[.slice none 0 0, .slice none 0 0]
  have hS0 := (h.below hb0).more hb0.size
  have hE0 := hW.below hb0
  have HK := Lib.hid hkl
  have HOK := Lib.hid hok
  have HKN := Lib.hid hkn
  obtain ⟨l, hl⟩ : ∃ l, knL vs bs = l := ⟨_, rfl⟩
  obtain ⟨v, hv⟩ : ∃ v, ((knL vs bs).length - k) / 2 = v := ⟨_, rfl⟩
  have HL := Lib.hid hl
  have HV := Lib.hid hv
  rw [hv, hl]
  clear h hW hok hkn hkl hl hv
  go_enter Tryd.func18, Tryd.ntmps18
  go_wp2_with fail
  go_at_call 38
  refine (udecode_ok p A m c k vs bs _ HOK.out hS0 hm hmp HKN.out hk hkm HK.out hE0).mono ?_
  rw [HV.out, HL.out]
  rintro e w1 ⟨⟨hD, rfl⟩ | ⟨P, A1, c1, A2, c2, hD, rfl, hI1, hI2, hc1, hc2, hn1, hn2⟩, hb1⟩
  · have HD := Lib.hid hD
    have hbb1 := ballocs (bnext hb0 hb1) (.cells #[.slice none 0 0, .slice none 0 0] 27)
    have hR1 := (hR0.below hb1 hR0.lt).alloc (.cells #[.slice none 0 0, .slice none 0 0] 27)
    have hE1 := (hE0.below hb1).below (bbox (.cells #[.slice none 0 0, .slice none 0 0] 27))
    have hz0 : (w1.alloc (.cells #[.slice none 0 0, .slice none 0 0] 27)).cell? ⟨w.heap.size + 1, 0, none⟩ = some (.slice none 0 0) := (hR1.cell 0).trans rfl
    have hf0 := hR1.frozen 0
    have hz1 : (w1.alloc (.cells #[.slice none 0 0, .slice none 0 0] 27)).cell? ⟨w.heap.size + 1, 1, none⟩ = some (.slice none 0 0) := (hR1.cell 1).trans rfl
    have hf1 := hR1.frozen 1
    have hgl := hE1.1
    have hFB := (hR1.set_ 0 (.slice none 0 0)).set_ 1 (.slice none 0 0)
    have hfin0 : (((w1.alloc (.cells #[.slice none 0 0, .slice none 0 0] 27)).setCell ⟨w.heap.size + 1, 0, none⟩ (.slice none 0 0)).setCell ⟨w.heap.size + 1, 1, none⟩ (.slice none 0 0)).cell? ⟨w.heap.size + 1, 0, none⟩ = some (.slice none 0 0) := (hFB.cell 0).trans rfl
    have hfin1 : (((w1.alloc (.cells #[.slice none 0 0, .slice none 0 0] 27)).setCell ⟨w.heap.size + 1, 0, none⟩ (.slice none 0 0)).setCell ⟨w.heap.size + 1, 1, none⟩ (.slice none 0 0)).cell? ⟨w.heap.size + 1, 1, none⟩ = some (.slice none 0 0) := (hFB.cell 1).trans rfl
    clear hD hFB
    go_wp2_with (go_at_call 39; refine (is_same _).mono ?_; rintro e w' ⟨rfl, rfl⟩)
    refine bodyPost_ret (v := .tuple #[.agg #[.slice none 0 0, .slice none 0 0], .int .i64 12]) (by simp [results, Tryd.results18, go_sem, hfin0, hfin1]) rfl ⟨.inl ⟨HD.out, rfl⟩, (hbb1.setCell (p := ⟨w.heap.size + 1, 0, none⟩) (by show w.heap.size ≤ w.heap.size + 1; omega) _).setCell (p := ⟨w.heap.size + 1, 1, none⟩) (by show w.heap.size ≤ w.heap.size + 1; omega) _⟩
  · have HD := Lib.hid hD
    have hbb1 := ballocs (bnext hb0 hb1) (.cells #[.slice A1 P.length c1, .slice A2 (wrL p P l).length c2] 27)
    have hR1 := (hR0.below hb1 hR0.lt).alloc (.cells #[.slice A1 P.length c1, .slice A2 (wrL p P l).length c2] 27)
    have hE1 := (hE0.below hb1).below (bbox (.cells #[.slice A1 P.length c1, .slice A2 (wrL p P l).length c2] 27))
    have hN1 := Blk.new w1 27 #[.slice A1 P.length c1, .slice A2 (wrL p P l).length c2]
    have hgl := hE1.1
    have hJ1 := hI1.upto (bbox (.cells #[.slice A1 P.length c1, .slice A2 (wrL p P l).length c2] 27))
    have hJ2 := hI2.upto (bbox (.cells #[.slice A1 P.length c1, .slice A2 (wrL p P l).length c2] 27))
    obtain ⟨pn, hpn⟩ : ∃ pn, P.length = pn := ⟨_, rfl⟩
    obtain ⟨wn, hwn⟩ : ∃ wn, (wrL p P l).length = wn := ⟨_, rfl⟩
    rw [hpn, hwn] at hbb1 hR1 hE1 hN1 hgl hJ1 hJ2
    have HN1 : Hid (∀ b o s, A1 = some ⟨b, o, s⟩ → 0 < pn → w.heap.size + 2 ≤ b) := Lib.hid fun b o s e h0 => by
      have := hn1 b o s e (by rw [hpn]; exact h0)
      simpa using this
    have HN2 : Hid (∀ b o s, A2 = some ⟨b, o, s⟩ → 0 < wn → w.heap.size + 2 ≤ b) := Lib.hid fun b o s e h0 => by
      have := hn2 b o s e (by rw [hwn]; exact h0)
      simpa using this
    have HC1 := Lib.hid hc1
    have HC2 := Lib.hid hc2
    rw [hpn, hwn]
    have HPN := Lib.hid hpn
    have HWN := Lib.hid hwn
    have hQl := (hR0.below hb1 hR0.lt).lt
    clear hpn hwn hD hI1 hI2 hb1 hR0 hE0 hn1 hn2 hc1 hc2
    go_upto_region 4 with (go_at_call 39; refine (is_none _).mono ?_; rintro e w' ⟨rfl, rfl⟩)
    obtain ⟨W, hW⟩ : ∃ W, w1.alloc (.cells #[.slice A1 pn c1, .slice A2 wn c2] 27) = W := ⟨_, rfl⟩
    rw [hW] at hbb1 hR1 hE1 hN1 hJ1 hJ2 ⊢
    clear hW hgl
    have hk0 : W.cell? ⟨w1.heap.size, 0, none⟩ = some (.slice A1 pn c1) := (hN1.cell 0).trans rfl
    have hk1 : W.cell? ⟨w1.heap.size, 1, none⟩ = some (.slice A2 wn c2) := (hN1.cell 1).trans rfl
    have hz0 : W.cell? ⟨w.heap.size + 1, 0, none⟩ = some (.slice none 0 0) := (hR1.cell 0).trans rfl
    have hf0 := hR1.frozen 0
    have hz1 : W.cell? ⟨w.heap.size + 1, 1, none⟩ = some (.slice none 0 0) := (hR1.cell 1).trans rfl
    have hf1 := hR1.frozen 1
    have hFB := (hR1.set_ 0 (.slice A1 pn c1)).set_ 1 (.slice A2 wn c2)
    have hfin0 : ((W.setCell ⟨w.heap.size + 1, 0, none⟩ (.slice A1 pn c1)).setCell ⟨w.heap.size + 1, 1, none⟩ (.slice A2 wn c2)).cell? ⟨w.heap.size + 1, 0, none⟩ = some (.slice A1 pn c1) := (hFB.cell 0).trans rfl
    have hfin1 : ((W.setCell ⟨w.heap.size + 1, 0, none⟩ (.slice A1 pn c1)).setCell ⟨w.heap.size + 1, 1, none⟩ (.slice A2 wn c2)).cell? ⟨w.heap.size + 1, 1, none⟩ = some (.slice A2 wn c2) := (hFB.cell 1).trans rfl
    have HPO : UDPost (.int .i64 0) (.int .i64 12) p k v l w (.returned (.tuple #[.agg #[.slice A1 pn c1, .slice A2 wn c2], .int .i64 0])) ((W.setCell ⟨w.heap.size + 1, 0, none⟩ (.slice A1 pn c1)).setCell ⟨w.heap.size + 1, 1, none⟩ (.slice A2 wn c2)).drew := by
      have h2 : Below w.heap.size w ((W.setCell ⟨w.heap.size + 1, 0, none⟩ (.slice A1 pn c1)).setCell ⟨w.heap.size + 1, 1, none⟩ (.slice A2 wn c2)).drew := ((hbb1.setCell (p := ⟨w.heap.size + 1, 0, none⟩) (by show w.heap.size ≤ w.heap.size + 1; omega) _).setCell (p := ⟨w.heap.size + 1, 1, none⟩) (by show w.heap.size ≤ w.heap.size + 1; omega) _).drew
      have hz : ((W.setCell ⟨w.heap.size + 1, 0, none⟩ (.slice A1 pn c1)).setCell ⟨w.heap.size + 1, 1, none⟩ (.slice A2 wn c2)).drew.heap.size = W.heap.size := by simp [World.setCell]
      refine ⟨.inr ⟨P, A1, c1, A2, c2, HD.out, by rw [HPN.out, HWN.out], ?_, ?_, HC1.out, HC2.out, by rw [HPN.out]; exact fun b o s e h0 => (by have := HN1.out b o s e h0; omega), by rw [HWN.out]; exact fun b o s e h0 => (by have := HN2.out b o s e h0; omega)⟩, h2⟩
      · rw [HPN.out, hz]; exact (hJ1.setFar _ 0 _ (fun b o s e h0 => (by have := HN1.out b o s e h0; omega))).setFar _ 1 _ (fun b o s e h0 => (by have := HN1.out b o s e h0; omega))
      · rw [HWN.out, hz]; exact (hJ2.setFar _ 0 _ (fun b o s e h0 => (by have := HN2.out b o s e h0; omega))).setFar _ 1 _ (fun b o s e h0 => (by have := HN2.out b o s e h0; omega))
    clear hFB hJ1 hJ2 hR1 hN1
    go_region_law (first
      | (go_simp; go_at_call 40; refine (number_none _).mono ?_; rintro e w' ⟨rfl, rfl⟩))
    all_goals go_wp2
    all_goals refine bodyPost_ret (v := .tuple #[.agg #[.slice A1 pn c1, .slice A2 wn c2], .int .i64 0]) (by simp [results, Tryd.results18, go_sem, hfin0, hfin1]) rfl HPO
end Go.Proofs.YtnjdjcgandfnfaaDoor

/-! UDecF -/
namespace Go.Proofs.YtnjdjcgandfnfaaDoor
open Go.RowKit
set_option linter.unusedVariables false

set_option maxRecDepth 100000 in
set_option maxHeartbeats 1600000 in
theorem udecode_fail (v p k : Int) (A : Option Addr) (m c : Nat) (w : World) (hv : v ≠ 0) (hF : ∀ W, Below w.heap.size w W → Calls Tryd.prog 42 #[.agg #[.int .i64 p], .slice A m c, .int .i64 k] W fun e w' => e = .returned (.tuple #[.slice none 0 0, .int .i64 v]) ∧ Below W.heap.size W w') :
    Calls Tryd.prog 38 #[.agg #[.int .i64 p], .slice A m c, .int .i64 k] w fun e w' => e = .returned (.tuple #[.agg #[.slice none 0 0, .slice none 0 0], failV v]) ∧ Below w.heap.size w w' := by
  have hb0 : Below w.heap.size w ((w.alloc (.cells #[.int .i64 p] 24)).alloc (.cells #[.slice none 0 0, .slice none 0 0] 27)) := ballocs (bbox _) _
  have hR0 := Blk.new1 w (.cells #[.int .i64 p] 24) 27 #[.slice none 0 0, .slice none 0 0]
  have hvb : (v != 0) = true := by simpa using hv
  go_enter Tryd.func38, Tryd.ntmps38
  go_wp2_with (first
    | (go_at_call 42; (refine (hF _ hb0).mono ?_); rintro e w1 ⟨rfl, hb1⟩
       have hbb1 := bnext hb0 hb1
       have hR1 := hR0.below hb1 hR0.lt
       have hz0 : w1.cell? ⟨w.heap.size + 1, 0, none⟩ = some (.slice none 0 0) := (hR1.cell 0).trans rfl
       have hf0 := hR1.frozen 0
       have hz1 : w1.cell? ⟨w.heap.size + 1, 1, none⟩ = some (.slice none 0 0) := (hR1.cell 1).trans rfl
       have hf1 := hR1.frozen 1
       clear hb1)
    | (go_at_call 59; refine (of_fail v hv _).mono ?_; rintro e w' ⟨rfl, rfl⟩))
  have hFB := (hR1.set_ 0 (.slice none 0 0)).set_ 1 (.slice none 0 0)
  have hfin0 : ((w1.setCell ⟨w.heap.size + 1, 0, none⟩ (.slice none 0 0)).setCell ⟨w.heap.size + 1, 1, none⟩ (.slice none 0 0)).cell? ⟨w.heap.size + 1, 0, none⟩ = some (.slice none 0 0) := (hFB.cell 0).trans rfl
  have hfin1 : ((w1.setCell ⟨w.heap.size + 1, 0, none⟩ (.slice none 0 0)).setCell ⟨w.heap.size + 1, 1, none⟩ (.slice none 0 0)).cell? ⟨w.heap.size + 1, 1, none⟩ = some (.slice none 0 0) := (hFB.cell 1).trans rfl
  refine bodyPost_ret (v := .tuple #[.agg #[.slice none 0 0, .slice none 0 0], failV v]) (by simp [results, Tryd.results38, go_sem, hfin0, hfin1]) rfl ⟨rfl, (hbb1.setCell (p := ⟨w.heap.size + 1, 0, none⟩) (by show w.heap.size ≤ w.heap.size + 1; omega) _).setCell (p := ⟨w.heap.size + 1, 1, none⟩) (by show w.heap.size ≤ w.heap.size + 1; omega) _⟩
set_option maxRecDepth 100000 in
set_option maxHeartbeats 1600000 in
theorem uDecode_fail (v p k : Int) (A : Option Addr) (m c : Nat) (w : World) (hv : v ≠ 0) (hne : ∀ w : World, (binOp .eql 74 (failV v) (failV 12)).run Tryd.prog w = .ok (.bool false) w) (hF : ∀ W, Below w.heap.size w W → Calls Tryd.prog 42 #[.agg #[.int .i64 p], .slice A m c, .int .i64 k] W fun e w' => e = .returned (.tuple #[.slice none 0 0, .int .i64 v]) ∧ Below W.heap.size W w') (hW : ErrW w) :
    Calls Tryd.prog 18 #[.agg #[.int .i64 p], .slice A m c, .int .i64 k] w fun e w' => e = .returned (.tuple #[.agg #[.slice none 0 0, .slice none 0 0], .int .i64 v]) ∧ Below w.heap.size w w' := by
  have hb0 : Below w.heap.size w ((w.alloc (.cells #[.int .i64 p] 24)).alloc (.cells #[.slice none 0 0, .slice none 0 0] 27)) := ballocs (bbox _) _
  have hR0 := Blk.new1 w (.cells #[.int .i64 p] 24) 27 #[.slice none 0 0, .slice none 0 0]
  have hE0 := hW.below hb0
  clear hW
  go_enter Tryd.func18, Tryd.ntmps18
  go_upto_region 4 with (first
    | (go_at_call 38; (refine (udecode_fail v p k A m c _ hv (fun W hB => hF W (bnext hb0 hB))).mono ?_); rintro e w1 ⟨rfl, hb1⟩
       have hbb1 := ballocs (bnext hb0 hb1) (.cells #[.slice none 0 0, .slice none 0 0] 27)
       have hR1 := (hR0.below hb1 hR0.lt).alloc (.cells #[.slice none 0 0, .slice none 0 0] 27)
       have hE1 := (hE0.below hb1).below (bbox (.cells #[.slice none 0 0, .slice none 0 0] 27))
       have hN1 := Blk.new w1 27 #[.slice none 0 0, .slice none 0 0]
       have hQl1 := (hR0.below hb1 hR0.lt).lt
       have hgl := hE1.1)
    | (go_at_call 39; refine (is_other v hne _).mono ?_; rintro e w' ⟨rfl, rfl⟩))
  obtain ⟨W, hW⟩ : ∃ W, w1.alloc (.cells #[.slice none 0 0, .slice none 0 0] 27) = W := ⟨_, rfl⟩
  rw [hW] at hbb1 hR1 hE1 hN1 ⊢
  have hS1 : W.cell? ⟨w1.heap.size, 0, none⟩ = some (.slice none 0 0) ∧ W.cell? ⟨w1.heap.size, 1, none⟩ = some (.slice none 0 0) := ⟨(hN1.cell 0).trans rfl, (hN1.cell 1).trans rfl⟩
  have hQl : w.heap.size + 1 < w1.heap.size := hQl1
  have hN2 : Blk W w1.heap.size 27 #[.slice none 0 0, .slice none 0 0] := hN1
  have hk0 := hS1.1
  have hk1 := hS1.2
  have hz0 : W.cell? ⟨w.heap.size + 1, 0, none⟩ = some (.slice none 0 0) := (hR1.cell 0).trans rfl
  have hf0 := hR1.frozen 0
  have hz1 : W.cell? ⟨w.heap.size + 1, 1, none⟩ = some (.slice none 0 0) := (hR1.cell 1).trans rfl
  have hf1 := hR1.frozen 1
  clear hS1 hW
  go_region_held3 (fun w' => w'.cell? ⟨w1.heap.size, 0, none⟩ = some (.slice none 0 0) ∧ w'.cell? ⟨w1.heap.size, 1, none⟩ = some (.slice none 0 0)) (first | exact ⟨hk0, hk1⟩ | exact ⟨hm0, hm1⟩ | exact ⟨hp0, hp1⟩)
    (first
      | (go_at_call 40; refine (number_fail v _).mono ?_; rintro e w5 ⟨rfl, hb5⟩
         have hm0 : w5.cell? ⟨w1.heap.size, 0, none⟩ = some (.slice none 0 0) := ((hN2.drew.below hb5 hN2.lt).cell 0).trans rfl
         have hm1 : w5.cell? ⟨w1.heap.size, 1, none⟩ = some (.slice none 0 0) := ((hN2.drew.below hb5 hN2.lt).cell 1).trans rfl
         have hR5 := hR1.drew.below hb5 hR1.lt
         have hy0 : w5.cell? ⟨w.heap.size + 1, 0, none⟩ = some (.slice none 0 0) := (hR5.cell 0).trans rfl
         have hg0 := hR5.frozen 0
         have hy1 : w5.cell? ⟨w.heap.size + 1, 1, none⟩ = some (.slice none 0 0) := (hR5.cell 1).trans rfl
         have hg1 := hR5.frozen 1
         have hbb5 : Below w.heap.size w w5 := hbb1.drew.trans (hb5.mono hbb1.size)
         have hNf := ((hN2.drew.below hb5 hN2.lt).far (p := ⟨w.heap.size + 1, 0, none⟩) (by show w1.heap.size ≠ w.heap.size + 1; omega) (.slice none 0 0)).far (p := ⟨w.heap.size + 1, 1, none⟩) (by show w1.heap.size ≠ w.heap.size + 1; omega) (.slice none 0 0)
         have hp0 : ((w5.setCell ⟨w.heap.size + 1, 0, none⟩ (.slice none 0 0)).setCell ⟨w.heap.size + 1, 1, none⟩ (.slice none 0 0)).cell? ⟨w1.heap.size, 0, none⟩ = some (.slice none 0 0) := (hNf.cell 0).trans rfl
         have hp1 : ((w5.setCell ⟨w.heap.size + 1, 0, none⟩ (.slice none 0 0)).setCell ⟨w.heap.size + 1, 1, none⟩ (.slice none 0 0)).cell? ⟨w1.heap.size, 1, none⟩ = some (.slice none 0 0) := (hNf.cell 1).trans rfl))
  go_wp2
  have hFB := (hR5.set_ 0 (.slice none 0 0)).set_ 1 (.slice none 0 0)
  have hfin0 : ((w5.setCell ⟨w.heap.size + 1, 0, none⟩ (.slice none 0 0)).setCell ⟨w.heap.size + 1, 1, none⟩ (.slice none 0 0)).cell? ⟨w.heap.size + 1, 0, none⟩ = some (.slice none 0 0) := (hFB.cell 0).trans rfl
  have hfin1 : ((w5.setCell ⟨w.heap.size + 1, 0, none⟩ (.slice none 0 0)).setCell ⟨w.heap.size + 1, 1, none⟩ (.slice none 0 0)).cell? ⟨w.heap.size + 1, 1, none⟩ = some (.slice none 0 0) := (hFB.cell 1).trans rfl
  refine bodyPost_ret (v := .tuple #[.agg #[.slice none 0 0, .slice none 0 0], .int .i64 v]) (by simp [results, Tryd.results18, go_sem, hfin0, hfin1]) rfl ⟨rfl, (hbb5.setCell (p := ⟨w.heap.size + 1, 0, none⟩) (by show w.heap.size ≤ w.heap.size + 1; omega) _).setCell (p := ⟨w.heap.size + 1, 1, none⟩) (by show w.heap.size ≤ w.heap.size + 1; omega) _⟩
end Go.Proofs.YtnjdjcgandfnfaaDoor

/-! S09 -/
namespace Go.Proofs.YtnjdjcgandfnfaaDoor
open Go.RowKit
set_option linter.unusedVariables false

/-- A block of four cells reads as its values and marks. -/
theorem cel4 (w : World) (a b c d : Int) (x y z u : Bool) : Cel (w.alloc (.cells #[.int .i64 a, .bool x, .int .i64 b, .bool y, .int .i64 c, .bool z, .int .i64 d, .bool u] 59)) (w.alloc (.cells #[.int .i64 a, .bool x, .int .i64 b, .bool y, .int .i64 c, .bool z, .int .i64 d, .bool u] 59)).heap.size (some ⟨w.heap.size, 0, none⟩) 4 [a, b, c, d] [x, y, z, u] :=
  ⟨rfl, rfl, fun _ => ⟨w.heap.size, 0, rfl, by simp, fun j hj => by
    have hB : (w.alloc (.cells #[.int .i64 a, .bool x, .int .i64 b, .bool y, .int .i64 c, .bool z, .int .i64 d, .bool u] 59)).heap[w.heap.size]? = some (.cells #[.int .i64 a, .bool x, .int .i64 b, .bool y, .int .i64 c, .bool z, .int .i64 d, .bool u] 59 (0, 0)) := Blk.new w 59 _
    rcases (by omega : j = 0 ∨ j = 1 ∨ j = 2 ∨ j = 3) with rfl | rfl | rfl | rfl
    · exact ⟨(Blk.cell hB 0).trans rfl, (Blk.cell hB 1).trans rfl⟩
    · exact ⟨(Blk.cell hB 2).trans rfl, (Blk.cell hB 3).trans rfl⟩
    · exact ⟨(Blk.cell hB 4).trans rfl, (Blk.cell hB 5).trans rfl⟩
    · exact ⟨(Blk.cell hB 6).trans rfl, (Blk.cell hB 7).trans rfl⟩⟩⟩

set_option maxRecDepth 100000 in
set_option maxHeartbeats 1600000 in
theorem sane09_any (w : World) (hW : ErrW w) : Calls Tryd.prog 9 #[] w fun e w' => e = .returned (.bool true) ∧ Below w.heap.size w w' := by
  have h7 : okP 7 = true := okP_known (by simp [isKnown])
  have HO := Lib.hid h7
  have HK : Hid (knL [3, 5, 1, 2] [true, true, true, true] = [(1, 3), (2, 5), (3, 1), (4, 2)]) := Lib.hid (by decide)
  have HKO : Hid (knOk 7 [3, 5, 1, 2] [true, true, true, true]) := Lib.hid (by
    intro e he
    rw [HK.out] at he
    simp only [List.mem_cons, List.not_mem_nil, or_false] at he
    rcases he with rfl | rfl | rfl | rfl <;> decide)
  have HW : Hid (wrL 7 [1, 2] [(1, 3), (2, 5), (3, 1), (4, 2)] = [3]) := Lib.hid (by decide)
  have HD : Hid (∀ a, DecOf 7 2 1 [(1, 3), (2, 5), (3, 1), (4, 2)] a → a = some [1, 2]) := Lib.hid fun a h => by
    have h1 := DecOf.one h7 h (by have := knL_apart (p := 7) (vs := [3, 5, 1, 2]) (bs := [true, true, true, true]) (by decide); rwa [HK.out] at this) (by decide) (P := [1, 2]) (by decide) (by decide) (by rw [HW.out]; decide)
    rw [h1]; decide
  have HS1 : Hid (sameL [1, 2] [1, 2] = true) := Lib.hid (by decide)
  have HS2 : Hid (sameL [3] [3] = true) := Lib.hid (by decide)
  have hb0 : Below w.heap.size w ((w.alloc (.cells #[.int .i64 7] 24)).alloc (.cells #[.int .i64 3, .bool true, .int .i64 5, .bool true, .int .i64 1, .bool true, .int .i64 2, .bool true] 59)) := ballocs (bbox _) _
  have hF0 := (Blk.new w 24 #[.int .i64 7]).alloc (.cells #[.int .i64 3, .bool true, .int .i64 5, .bool true, .int .i64 1, .bool true, .int .i64 2, .bool true] 59)
  have hE0 := hW.below hb0
  have hC0 := cel4 (w.alloc (.cells #[.int .i64 7] 24)) 3 5 1 2 true true true true
  have hc0 : ((w.alloc (.cells #[.int .i64 7] 24)).alloc (.cells #[.int .i64 3, .bool true, .int .i64 5, .bool true, .int .i64 1, .bool true, .int .i64 2, .bool true] 59)).cell? ⟨w.heap.size, 0, none⟩ = some (.int .i64 7) := (hF0.cell 0).trans rfl
  clear h7 hW
  rw [show (w.alloc (.cells #[.int .i64 7] 24)).heap.size = w.heap.size + 1 by simp] at hC0
  go_enter Tryd.func9, Tryd.ntmps9
  go_wp2_with fail
  go_at_call 18
  refine (uDecode_ok 7 (some ⟨w.heap.size + 1, 0, none⟩) 4 4 2 [3, 5, 1, 2] [true, true, true, true] _ HO.out hC0 (by omega) (by omega) HKO.out (by omega) (by omega) (by rw [HK.out]; decide) hE0).mono ?_
  rw [HK.out]
  rintro e w1 ⟨⟨hD, rfl⟩ | ⟨P, A1, c1, A2, c2, hD, rfl, hI1, hI2, hc1, hc2, hn1, hn2⟩, hb1⟩
  · exfalso
    have := HD.out _ hD
    cases this
  · have hP : P = [1, 2] := by
      have := HD.out _ hD
      injection this
    subst hP
    rw [HW.out] at hI2 hc2
    rw [HW.out]
    clear hD hn1 hn2
    obtain ⟨W, hWe⟩ : ∃ W, w1.alloc (.cells #[.slice A1 2 c1, .slice A2 1 c2] 27) = W := ⟨_, rfl⟩
    have hbW : Below w1.heap.size w1 W := by rw [← hWe]; exact bbox _
    have hN : Blk W w1.heap.size 27 #[.slice A1 2 c1, .slice A2 1 c2] := by rw [← hWe]; exact Blk.new w1 _ _
    have hbb := bnext (bnext hb0 hb1) hbW
    have hF := (hF0.below hb1 hF0.lt).below hbW (hF0.below hb1 hF0.lt).lt
    have hC := (hC0.upto hb1).upto hbW
    have hJ1 := hI1.upto hbW
    have hJ2 := hI2.upto hbW
    have hlw := (hF0.below hb1 hF0.lt).lt
    clear hbW hE0 hC0 hc0 hF0 hb0 hI1 hI2
    go_upto_region 5 with (go_at_call 25; (refine (uradius_ok 4 2 _ (by omega) (by omega) (by omega)).mono ?_); rintro e w' ⟨rfl, rfl⟩)
    clear hWe
    have hc0 : W.cell? ⟨w1.heap.size, 0, none⟩ = some (.slice A1 2 c1) := (hN.cell 0).trans rfl
    have hL1 : Below W.heap.size W (W.alloc (.cells #[.int .i64 1, .int .i64 2] 3)) := bbox _
    have hIa : Ints (W.alloc (.cells #[.int .i64 1, .int .i64 2] 3)) (W.alloc (.cells #[.int .i64 1, .int .i64 2] 3)).heap.size A1 2 [1, 2] := hJ1.upto hL1
    have hNa := hN.alloc (.cells #[.int .i64 1, .int .i64 2] 3)
    have hLa : Ints (W.alloc (.cells #[.int .i64 1, .int .i64 2] 3)) (W.alloc (.cells #[.int .i64 1, .int .i64 2] 3)).heap.size (some ⟨W.heap.size, 0, none⟩) 2 [1, 2] := Ints.lit W _ [1, 2] 3 2 _ rfl rfl rfl
    go_wp2_with fail
    go_at_call 24
    refine (same_any A1 (some ⟨W.heap.size, 0, none⟩) 2 2 c1 2 [1, 2] [1, 2] _ hIa hLa (by omega) (by omega)).mono ?_
    rintro e w' ⟨rfl, q1, rfl⟩
    rw [HS1.out]
    obtain ⟨W5, hW5⟩ : ∃ W5, (W.alloc (.cells #[.int .i64 1, .int .i64 2] 3)).drewN q1 = W5 := ⟨_, rfl⟩
    have hL5 : Below W.heap.size W W5 := by rw [← hW5]; exact below_drewN hL1 q1
    rw [hW5]
    clear hLa hIa hNa hL1 hW5
    have hc15 : W5.cell? ⟨w1.heap.size, 1, none⟩ = some (.slice A2 1 c2) := ((hN.below hL5 hN.lt).cell 1).trans rfl
    have hIb : Ints (W5.alloc (.cells #[.int .i64 3] 3)) (W5.alloc (.cells #[.int .i64 3] 3)).heap.size A2 1 [3] := (hJ2.upto hL5).upto (bbox _)
    have hLb : Ints (W5.alloc (.cells #[.int .i64 3] 3)) (W5.alloc (.cells #[.int .i64 3] 3)).heap.size (some ⟨W5.heap.size, 0, none⟩) 1 [3] := Ints.lit W5 _ [3] 3 1 _ rfl rfl rfl
    go_wp2_with fail
    go_at_call 24
    refine (same_any A2 (some ⟨W5.heap.size, 0, none⟩) 1 1 c2 1 [3] [3] _ hIb hLb (by omega) (by omega)).mono ?_
    rintro e w' ⟨rfl, q2, rfl⟩
    rw [HS2.out]
    obtain ⟨W6, hW6⟩ : ∃ W6, (W5.alloc (.cells #[.int .i64 3] 3)).drewN q2 = W6 := ⟨_, rfl⟩
    have hL6 : Below W.heap.size W W6 := by rw [← hW6]; exact below_drewN (hL5.trans (bbox (w0 := W5) _ |>.mono hL5.size)) q2
    rw [hW6]
    clear hLb hIb hc15 hW6
    have hN6 := hN.below hL6 hN.lt
    have hF6 := hF.below hL6 hF.lt
    have hC6 := hC.upto hL6
    have hK1 := hJ1.upto hL6
    have hK2 := hJ2.upto hL6
    have hk0 : W6.cell? ⟨w1.heap.size, 0, none⟩ = some (.slice A1 2 c1) := (hN6.cell 0).trans rfl
    have hk1 : W6.cell? ⟨w1.heap.size, 1, none⟩ = some (.slice A2 1 c2) := (hN6.cell 1).trans rfl
    have hf0 : W6.cell? ⟨w.heap.size, 0, none⟩ = some (.int .i64 7) := (hF6.cell 0).trans rfl
    go_wp2_with fail
    go_at_call 20
    refine (ucheck_yes 7 (some ⟨w.heap.size + 1, 0, none⟩) 4 4 2 [3, 5, 1, 2] [true, true, true, true] A1 A2 2 c1 1 c2 [1, 2] W6 HO.out hC6 (by omega) (by omega) HKO.out (by omega) (by omega) (by rw [HK.out]; decide) hK1 (by decide) hc1 (by omega) (by decide) (by rw [HK.out, HW.out]; exact hK2) (by rw [HK.out]; decide)).mono ?_
    rintro e w7 ⟨rfl, hb7⟩
    go_wp2_with fail
    go_ret
    exact ⟨rfl, bnext (hbb.trans (hL6.mono hbb.size)) hb7⟩
end Go.Proofs.YtnjdjcgandfnfaaDoor

/-! ULaid -/
namespace Go.Proofs.YtnjdjcgandfnfaaDoor
open Go Go.ChangeShapes Go.WideShapes Go.RowKit
set_option linter.unusedVariables false

def laidL : List (String × DataW Unit) := [("privatefetch/unique.errWrong", Rows.laid_privatefetch_unique_errWrong)]

theorem glob0 : Tryd.prog.globalNamed "privatefetch/unique.errWrong" = some 0 := by kernel_rfl
theorem globT : (Tryd.prog.globals[0]?).map (·.type) = some 74 := by kernel_rfl
theorem rowsFail : ((List.range Tryd.prog.types.size).all fun u => Tryd.prog.typeName? 3 u != some "privatefetch/unique.failure" || u == 103) = true := by kernel_rfl
theorem cellsFail : Tryd.prog.cellsOf 103 = 1 := by kernel_rfl

/-- A type of that name is the type. -/
theorem typeName_named {P : Program} {nm : String} {tp : TypeId} (hrows : ((List.range P.types.size).all fun u => P.typeName? 3 u != some nm || u == tp) = true) (hstar : nm.toList.head? ≠ some '*')
    (u : TypeId) (hu : P.typeName? 3 u = some nm) : u = tp := by
  by_cases hlt : u < P.types.size
  · have := List.all_eq_true.1 hrows u (List.mem_range.2 hlt)
    simpa [hu] using this
  · exfalso
    unfold Program.typeName? at hu
    cases hi : P.info? u with
    | none => simp [hi] at hu
    | some i =>
      have hb := Tables.info?_beyond hlt hi
      simp only [hi] at hu
      cases hd : i.desc <;> simp only [hd, TypeDesc.tableOnly] at hu hb <;> try cases hb
      all_goals try cases hu
      rename_i e
      simp only [Option.map_eq_some_iff] at hu
      obtain ⟨n', hn', hs⟩ := hu
      apply hstar
      rw [← hs]
      simp [String.toList_append]

set_option maxRecDepth 100000 in
/-- What the condition gives a walk: the variable's cell. -/
theorem errW_of_laid {W : World} (h : laidMetH Tryd.prog laidL W) : ErrW W := by
  have h' : laidMet Tryd.prog laidL W := h
  obtain ⟨ps, hV, hnd, hrow⟩ := h'
  obtain ⟨g, t, cs, fuel, p, q, hg, ht, hv, htr, hq, rfl⟩ := hV
  obtain rfl := Option.some.inj (glob0.symm.trans hg)
  obtain rfl := Option.some.inj (globT.symm.trans ht)
  obtain ⟨f1, u, v, hcs, hn, h1⟩ := iface_of_trod Tryd.underlying74 htr
  obtain rfl := typeName_named rowsFail (by decide) u hn
  have hcs' : cs = #[.iface 103 v] := by cases cs; simp_all
  subst hcs'
  have hc0 : W.cell? ⟨0, 0, none⟩ = some (.iface 103 v) := by
    have := World.var?_cell glob0 hv 0
    simpa using this
  have hok := (hrow 0 0 (by simp [MemPlace.row])).2 _ _ hc0
  obtain ⟨vs, rfl, hsz⟩ := okWide_struct Tryd.underlying103 hok
  obtain ⟨y0, n, hx, hl, hy⟩ := trod_struct1 Tryd.underlying103 h1
  rw [cellsFail] at hl
  obtain ⟨c, hc⟩ : ∃ c, (Value.agg vs).cells.toList = [c] := by
    match hm : (Value.agg vs).cells.toList, hl with
    | [c], _ => exact ⟨c, rfl⟩
  rw [hc] at hy
  obtain ⟨m, hm, rfl, hwf⟩ := DataW.trod_int (k := .i64) Tryd.underlying36 hy
  have hm12 : m = 12 := by
    simp only [Prod.mk.injEq, DataW.agg.injEq, List.cons.injEq, DataW.lit.injEq, Lit.int.injEq, and_true] at hx
    exact hx.1.2.symm
  subst hm12
  have hvs : vs = #[.int .i64 12] := by
    have h1 : vs.toList = [c] := hc
    have h2 : [c] = [.int .i64 12] := hm
    cases vs
    simp_all
  subst hvs
  exact ⟨hc0, block_lt_of_cell hc0⟩

/-- A world that meets the condition: the settled one, the variable's cell laid. -/
noncomputable def laidWorld (os : Os) : World :=
  let w0 := World.holding Tryd.prog os ⟨#[], #[], []⟩
  { w0 with heap := w0.heap.modify 0 fun
      | .cells _ t frozen => .cells #[failV 12] t frozen
      | o => o }
theorem laidWorld_met (os : Os) (args : Array Value) : laidMetH Tryd.prog laidL ((laidWorld os).forCall (fun _ _ => 0) ⟨#[], args, []⟩).memory := by
  show laidMet Tryd.prog laidL _
  exact laidMet_of_run3 8 (by kernel_rfl) (by kernel_rfl) (by kernel_rfl)
end Go.Proofs.YtnjdjcgandfnfaaDoor
