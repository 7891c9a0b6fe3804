/-
  Words for memory and contracts of small functions of the second form. Conditions: those of each lemma.
-/
import Derived.Test.YtoblofilaegnaaaCode2
import Derived.Test.YtoblofilaegnaaaFill
import Derived.Test.YtoblofilaegnaaaPoly1
import Derived.Test.YtoblofilaegnaaaSplL
import Derived.Test.YtoblofilaegnaaaSame
import Derived.Deep.QuietTactic
import Derived.BigQuiet
import Derived.Deep.RegionHeld3
import Derived.Test.YtoblofilaegnaaaPlain
/-! Code3 -/
namespace Go.Proofs.Ytoblofilaegnaaa
open Go.RowKit
set_option linter.unusedVariables false

theorem distance_ok (n k : Nat) (w : World) (hk : 1 ≤ k) (hkn : k ≤ n) (hn : n ≤ 32) :
    Calls Try.prog 75 #[.int .i64 n, .int .i64 k] w fun e w' => e = .returned (.tuple #[.int .i64 ((n : Int) - k + 1), .int .i64 0]) ∧ w = w' := by
  have h1 : ¬ ((k : Int) < 1) := by omega
  have h1N : ¬ k < 1 := by omega
  have h2 : ¬ ((n : Int) < (k : Int)) := by omega
  have h2N : ¬ n < k := by omega
  have h3 : ¬ ((32 : Int) < (n : Int)) := by omega
  have h3N : ¬ 32 < n := by omega
  have h4 : IntKind.i64.wrap ((n : Int) - k) = (n : Int) - k := IntWalk.i64_in _ (by omega)
  have h5 : IntKind.i64.wrap ((n : Int) - k + 1) = (n : Int) - k + 1 := IntWalk.i64_in _ (by omega)
  go_enter Try.func75, Try.ntmps75
  go_wp2
  go_ret2
  exact ⟨rfl, rfl⟩

set_option maxRecDepth 100000 in
set_option maxHeartbeats 1600000 in
theorem encode_ok (p : Int) (C : Option Addr) (m c n : Nat) (cs : List Int) (w : World) (hok : okP p = true) (h : Ints w w.heap.size C m cs) (hca : allP p cs = true) (hmc : m ≤ c) (hm : m ≤ 512) (hn : n ≤ 32) (hnp : (n : Int) < p) :
    Calls Try.prog 67 #[.agg #[.int .i64 p], .slice C m c, .int .i64 n] w fun e w' => (∃ A' c', e = .returned (.tuple #[.slice A' n c', .int .i64 0]) ∧ OwnI w' w.heap.size 3 A' n c' (valsP p cs (ptsL n))) ∧ Below w.heap.size w w' := by
  obtain ⟨i0, hi0, hz0, hz1, hz2⟩ := info_parts info_int
  have hp := okP_pos hok
  have HO := Lib.hid hok
  have HC := Lib.hid hca
  have h1 : ¬ ((n : Int) < 0) := by omega
  have h3 : ¬ ((32 : Int) < (n : Int)) := by omega
  have h3N : ¬ 32 < n := by omega
  have h4 : ¬ (p ≤ (n : Int)) := by omega
  have hb0 : Below w.heap.size w (w.alloc (.cells #[.int .i64 p] 24)) := bbox _
  have hF0 := Blk.new w 24 #[.int .i64 p]
  have hS0 := h.upto hb0
  clear hok hca
  go_enter Try.func67, Try.ntmps67
  go_wp2_with (go_at_call 44; (refine (pdeg_ok p C m c cs _ HO.out hS0 HC.out hmc hm).mono ?_); rintro e w1 ⟨rfl, hb1⟩
               have hbb1 := bnext hb0 hb1
               have hF1 := hF0.below hb1 hF0.lt
               have hcF1 : w1.cell? ⟨w.heap.size, 0, none⟩ = some (.int .i64 p) := (hF1.cell 0).trans rfl
               have hC1 := hS0.upto hb1)
  go_loopw [10, 34] (fun s i wz => ∃ (k : Nat) (L : Option Addr) (lc : Nat), k ≤ n ∧ s = .slice L k lc ∧ i = .int .i64 k ∧ OwnI wz w1.heap.size 3 L k lc (valsP p cs (ptsL k)) ∧ Below w1.heap.size w1 wz) (fun _ i _ => n - (intOf i).toNat)
  case atStart => exact ⟨0, none, 0, Nat.zero_le _, rfl, rfl, OwnI.nil_, Below.refl _ _⟩
  case round =>
    obtain ⟨k, L, lc, hk, rfl, rfl, hown, hb⟩ := hrel
    by_cases hlt : k < n
    · have hki : (k : Int) < (n : Int) := by omega
      have hkw : IntKind.i64.wrap ((k : Int) + 1) = (k : Int) + 1 := IntWalk.i64_in _ (by omega)
      have hFz := hF1.below hb hF1.lt
      have hcz : wr.cell? ⟨w.heap.size, 0, none⟩ = some (.int .i64 p) := (hFz.cell 0).trans rfl
      have hCz := hC1.upto hb
      have hx : 0 ≤ (k : Int) + 1 ∧ (k : Int) + 1 < p := by omega
      obtain ⟨v, HV⟩ : ∃ v, Hid (valueP p ((k : Int) + 1) cs = v) := ⟨_, Lib.hid rfl⟩
      have HS : Hid (valsP p cs (ptsL (k + 1)) = valsP p cs (ptsL k) ++ [v]) := Lib.hid (by rw [ptsL_succ, valsP_snoc, HV.out])
      go_wp2_with (first
        | (go_at_call 138; refine (value_any p ((k : Int) + 1) C m c cs _ hp hx hCz HC.out (by omega)).mono ?_; rintro e w2 ⟨rfl, hb2⟩
           rw [HV.out]
           have hbz2 := bnext hb hb2
           have hbz3 := ballocs hbz2 (.cells #[.int .i64 v] 3)
           have hown2 := (hown.belowAll hb2).alloc (.cells #[.int .i64 v] 3))
        | (at_builtin
           refine wpList_append_ints rfl _ _ _ rfl w1.heap.size 3 i0 _ Try.underlying22 hi0 hz0 hz1 hz2 rfl L k lc _ rfl hown2 _ _ 1 1 [v] rfl (Ints.one _ _ _) (k + 1) rfl _ HS.out.symm (by omega) hbz3.size ?_
           intro A2 c2 w4 hown4 hgr hbw4 hab
           have hbz4 := hbz3.trans hbw4))
      go_roundw
      case rel => exact ⟨k + 1, A2, c2, by omega, rfl, by go_num, hown4, hbz4⟩
      case measure => simp [intOf]; omega
    · obtain rfl : k = n := by omega
      go_wp2
      go_ret2
      exact ⟨⟨L, lc, rfl, hown.base hbb1.size⟩, bnext hbb1 hb⟩

set_option maxRecDepth 100000 in
set_option maxHeartbeats 1600000 in
theorem sane08_any (w : World) : Calls Try.prog 65 #[] w fun e w' => e = .returned (.bool true) ∧ Below w.heap.size w w' := by
  have h7 : okP 7 = true := okP_known (by simp [isKnown])
  have HO := Lib.hid h7
  have HV : Hid (valsP 7 [1, 2] (ptsL 4) = [3, 5, 0, 2]) := Lib.hid (by decide)
  have HK : Hid (knL [0, 5, 0] [false, true, true] = [(2, 5), (3, 0)]) := Lib.hid (by decide)
  have HKO : Hid (knOk 7 [0, 5, 0] [false, true, true]) := Lib.hid (by
    intro e he
    rw [HK.out] at he
    simp only [List.mem_cons, List.not_mem_nil, or_false] at he
    rcases he with rfl | rfl <;> decide)
  have HR : Hid (∀ R, Through 7 (ptK ((knL [0, 5, 0] [false, true, true]).take 2)) (vlK ((knL [0, 5, 0] [false, true, true]).take 2)) R → R = [1, 2]) := Lib.hid fun R hR => by
    rw [HK.out] at hR
    have h1 := share_join h7 (cs := [1, 2]) (us := [2, 3]) (m := 2) (by decide) (by decide) (by decide) (fun j k h1 h2 => by
      have h3 : k < 2 := h2
      obtain rfl : k = 1 := by omega
      obtain rfl : j = 0 := by omega
      decide) (by decide) hR
    rw [h1]; decide
  have HS1 : Hid (sameL [3, 5, 0, 2] [3, 5, 0, 2] = true) := Lib.hid (by decide)
  have HS2 : Hid (sameL [1, 2] [1, 2] = true) := Lib.hid (by decide)
  have hb0 : Below w.heap.size w ((w.alloc (.cells #[.int .i64 7] 24)).alloc (.cells #[.int .i64 1, .int .i64 2] 3)) := ballocs (bbox _) _
  have hF0 := (Blk.new w 24 #[.int .i64 7]).alloc (.cells #[.int .i64 1, .int .i64 2] 3)
  clear h7
  go_enter Try.func65, Try.ntmps65
  go_wp2_with (first
    | (go_at_call 67; (refine (encode_ok 7 _ 2 2 4 [1, 2] _ HO.out (by exact Ints.lit _ _ [1, 2] 3 2 _ (by simp) rfl rfl) (by decide) (by omega) (by omega) (by omega) (by omega)).mono ?_); rintro e w1 ⟨⟨A1, c1, rfl, hown1⟩, hb1⟩
       rw [HV.out] at hown1
       have hbb1 := ballocs (bnext hb0 hb1) (.cells #[.int .i64 0, .bool false, .int .i64 5, .bool true, .int .i64 0, .bool true] 86)
       have hF1 := (hF0.below hb1 hF0.lt).alloc (.cells #[.int .i64 0, .bool false, .int .i64 5, .bool true, .int .i64 0, .bool true] 86)
       have hcF1 : w1.cell? ⟨w.heap.size, 0, none⟩ = some (.int .i64 7) := ((hF0.below hb1 hF0.lt).cell 0).trans rfl
       have hI1 := hown1.ints.upto (bbox (.cells #[.int .i64 0, .bool false, .int .i64 5, .bool true, .int .i64 0, .bool true] 86)))
    | (go_at_call 69; (refine (fill_ok 7 _ 3 3 2 [0, 5, 0] [false, true, true] _ HO.out (cel3 w1 0 5 0 false true true) (by omega) (by omega) HKO.out (by omega) (by omega) (by rw [HK.out]; decide)).mono ?_); rintro e w2 ⟨⟨R, A2, c2, rfl, hown2, hT⟩, hb2⟩
       have hRe := HR.out R hT
       subst hRe
       have hbb2 := bnext hbb1 hb2
       have hI12 := hI1.upto hb2
       have hI2 := hown2.ints
       clear hT)
    | (go_at_call 75; (refine (distance_ok 4 2 _ (by omega) (by omega) (by omega)).mono ?_); rintro e w' ⟨rfl, rfl⟩)
    | (go_at_call 27; (refine (same_any A1 _ 4 4 c1 4 [3, 5, 0, 2] [3, 5, 0, 2] _ (hI12.upto (bbox _)) (by exact Ints.lit w2 _ [3, 5, 0, 2] 3 4 _ rfl rfl rfl) (by omega) (by omega)).mono ?_); rintro e w' ⟨rfl, q1, rfl⟩
       rw [HS1.out]
       go_wp2_with (go_at_call 27; (refine (same_any A2 _ 2 2 c2 2 [1, 2] [1, 2] _ (((hI2.upto (bbox (.cells #[.int .i64 3, .int .i64 5, .int .i64 0, .int .i64 2] 3))).drewN q1).upto (bbox _)) (by exact Ints.lit _ _ [1, 2] 3 2 _ (by simp) rfl rfl) (by omega) (by omega)).mono ?_); rintro e w' ⟨rfl, q2, rfl⟩; rw [HS2.out])))
  go_ret
  exact ⟨rfl, below_drewN (ballocs (below_drewN (ballocs hbb2 _) _) _) _⟩
end Go.Proofs.Ytoblofilaegnaaa

/-! FillF -/
namespace Go.Proofs.Ytoblofilaegnaaa
open Go.RowKit
set_option linter.unusedVariables false

set_option maxRecDepth 100000 in
set_option maxHeartbeats 1600000 in
theorem fill_few (p : Int) (A : Option Addr) (m c k : Nat) (vs : List Int) (bs : List Bool) (w : World) (hok : okP p = true) (h : Cel w w.heap.size A m vs bs) (hm : m ≤ 32) (hmp : (m : Int) < p) (hkn : knOk p vs bs) (hk : 1 ≤ k) (hkm : k ≤ m) (hkl : (knL vs bs).length < k) :
    Calls Try.prog 69 #[.agg #[.int .i64 p], .slice A m c, .int .i64 k] w fun e w' => e = .returned (.tuple #[.slice none 0 0, .int .i64 11]) ∧ Below w.heap.size w w' := by
  have HO := Lib.hid hok
  have HKN := Lib.hid hkn
  obtain ⟨q, hq⟩ : ∃ q, (knL vs bs).length = q := ⟨_, rfl⟩
  have hkq : (q : Int) < (k : Int) := by omega
  have hkqN : q < k := by omega
  have hk1 : ¬ ((k : Int) < 1) := by omega
  have hk1N : ¬ k < 1 := by omega
  have hkmi : ¬ ((m : Int) < (k : Int)) := by omega
  have hkmiN : ¬ m < k := by omega
  have hb0 : Below w.heap.size w (w.alloc (.cells #[.int .i64 p] 24)) := bbox _
  have hS0 := h.upto hb0
  have HQ := Lib.hid hq
  clear hok hkn hq hkl
  go_enter Try.func69, Try.ntmps69
  go_wp2_with (go_at_call 145; (refine (cells_ok p A m c vs bs _ HO.out hS0 hm hmp HKN.out).mono ?_); rintro e w1 ⟨rfl, hb1⟩
               rw [HQ.out]
               have hbb1 := bnext hb0 hb1)
  go_ret2
  exact ⟨rfl, hbb1⟩

end Go.Proofs.Ytoblofilaegnaaa

/-! Code4 -/
namespace Go.Proofs.Ytoblofilaegnaaa
open Go.RowKit Go.Shelf
set_option linter.unusedVariables false
attribute [local go_sem] Oper.semAt_some

/-- How many of the known cells have the value of a polynomial. -/
def agr (p : Int) (cs : List Int) (l : List (Int × Int)) : Nat := (l.filter fun e => valueP p e.1 cs == e.2).length
theorem agr_snoc (p : Int) (cs : List Int) (l : List (Int × Int)) (e : Int × Int) : agr p cs (l ++ [e]) = agr p cs l + if valueP p e.1 cs = e.2 then 1 else 0 := by
  unfold agr
  rw [List.filter_append, List.length_append]
  by_cases h : valueP p e.1 cs = e.2 <;> simp [h]
theorem agr_le (p : Int) (cs : List Int) (l : List (Int × Int)) : agr p cs l ≤ l.length := List.length_filter_le _ _

theorem KeepsOthers.ofBelow {W W' : World} (h : Below W.heap.size W W') : KeepsOthers W W' := ⟨h.size, fun k o hk _ => (h.block k (Array.getElem?_eq_some_iff.1 hk).1).trans hk⟩

set_option maxRecDepth 100000 in
set_option maxHeartbeats 4000000 in
theorem agree_code_ok (p : Int) (A C : Option Addr) (m c n cc : Nat) (vs : List Int) (bs : List Bool) (cs : List Int) (w : World) (hok : okP p = true) (h : Cel w w.heap.size A m vs bs) (hm : m ≤ 32) (hmp : (m : Int) < p) (hk : knOk p vs bs) (hC : Ints w w.heap.size C n cs) (hca : allP p cs = true) (hnc : n ≤ cc) (hn : n ≤ 512) :
    Calls Try.prog 73 #[.agg #[.int .i64 p], .slice A m c, .slice C n cc] w fun e w' => e = .returned (.tuple #[.int .i64 (agr p cs (knL vs bs)), .int .i64 0]) ∧ Below w.heap.size w w' := by
  have hp := okP_pos hok
  have HO := Lib.hid hok
  have HKN := Lib.hid hk
  have HCA := Lib.hid hca
  have hl := h.1
  clear hok hk hca
  refine (callsIn_wide (n := 8)).1 ?_
  refine callsIn_of_wp_marks Try.func73 rfl trivial ?_ rfl
  simp only [Try.ntmps73, List.size_toArray, List.length_cons, List.length_nil, Nat.reduceAdd, Nat.reduceSub, Array.replicate_succ, Array.replicate_zero, List.push_toArray, List.append_toArray, List.nil_append, List.cons_append]
  have hw0 : Below w.heap.size w ((w.alloc (.cells #[.int .i64 p] 24)).alloc (.cells #[.slice C n cc] 22)) := ballocs (bbox _) _
  have hF0 := (Blk.new w 24 #[.int .i64 p]).alloc (.cells #[.slice C n cc] 22)
  have hS0 := Blk.new1 w (.cells #[.int .i64 p] 24) 22 #[.slice C n cc]
  have hCe0 := h.upto hw0
  gi_wp2_with (first
    | (refine ⟨trivial, ?_⟩; gi_at_call 145; refine (callsIn_wide.2 (cells_ok p A m c vs bs _ HO.out hCe0 hm hmp HKN.out)).mono ?_; rintro e w1 ⟨rfl, hb1⟩
       have hw1 := bnext hw0 hb1
       have hF1 := hF0.below hb1 hF0.lt
       have hS1 := hS0.below hb1 hS0.lt
       have hF1a := hF1.alloc (.cells #[.int .i64 p] 126)
       have hS1a := hS1.alloc (.cells #[.int .i64 p] 126)
       have hcF1 : (w1.alloc (.cells #[.int .i64 p] 126)).cell? ⟨w.heap.size, 0, none⟩ = some (.int .i64 p) := (hF1a.cell 0).trans rfl
       have hcS1 : (w1.alloc (.cells #[.int .i64 p] 126)).cell? ⟨w.heap.size + 1, 0, none⟩ = some (.slice C n cc) := (hS1a.cell 0).trans rfl
       have hw1a := ballocs hw1 (.cells #[.int .i64 p] 126)
       have hC1 := hC.upto hw1a
       have bP1 := Blk.new w1 126 #[.int .i64 p])
    | (refine ⟨trivial, ?_⟩; gi_at_call 44; refine (callsIn_wide.2 (pdeg_ok p C n cc cs _ HO.out hC1 HCA.out hnc hn)).mono ?_; rintro e w2 ⟨rfl, hb2⟩
       have hw2 := bnext hw1a hb2
       have hF2 := hF1a.below hb2 hF1a.lt
       have hS2 := hS1a.below hb2 hS1a.lt
       have bP2 := bP1.below hb2 bP1.lt)
    | (refine ⟨trivial, ?_⟩; gi_at_call 149; refine (callsIn_wide.2 (known_any A m c _)).mono ?_; rintro e w' ⟨rfl, rfl⟩))
  obtain ⟨W4, hW4⟩ : ∃ W4, (w2.alloc (.cells #[.int .i64 0] 3)).alloc (.cells #[.slice A m c] 77) = W4 := ⟨_, rfl⟩
  have hsz : W4.heap.size = w2.heap.size + 2 := by rw [← hW4]; simp
  have bN : Blk W4 w2.heap.size 3 #[.int .i64 0] := by rw [← hW4]; exact (Blk.new w2 3 #[.int .i64 0]).alloc _
  have bL : Blk W4 (w2.heap.size + 1) 77 #[.slice A m c] := by rw [← hW4]; exact Blk.new1 w2 _ _ _
  have hB24 : Below w2.heap.size w2 W4 := by rw [← hW4]; exact ballocs (bbox _) _
  have hB0 := bnext hw2 hB24
  have bF := hF2.below hB24 hF2.lt
  have bS := hS2.below hB24 hS2.lt
  have bP := bP2.below hB24 bP2.lt
  have hlS := hS2.lt
  have hlP := bP2.lt
  have hC4 : Cel W4 w2.heap.size A m vs bs := (h.below hB0).more (by have := hw2.size; omega)
  rw [hW4]
  clear hW4 hcF1 hcS1 hF1 hS1 hF1a hS1a bP1 hF2 hS2 bP2 hC1 hw0 hF0 hS0 hCe0
  refine wpIn_rangeFunc_ownG (α := KnElt vs bs) rfl (by omega) (gf := 173) (lb := #[.pointer (some ⟨w2.heap.size + 1, 0, none⟩)]) rfl trivial (enters_of Try.func173 (by kernel_rfl) rfl)
    (encs := fun y : KnElt vs bs => #[Value.int .i64 y.1.1, Value.int .i64 y.1.2]) (Kp := KeepsB (w2.heap.size + 2) w2.heap.size) (S := fun ys => eltsOf ys = knL vs bs) (Sp := fun pre => ∃ k, eltsOf pre = (knL vs bs).take k) (N := (knL vs bs).length) (w0 := W4)
    (fun l J Jx W hW hJ _ hY h0 => known1_in _ (by omega) l (w2.heap.size + 1) (w2.heap.size + 2) w2.heap.size m A c vs bs (by omega) J Jx hJ hY W (by have := hW.size; omega) (by omega) (by omega) (by omega) ((hW.cell (p := ⟨w2.heap.size + 1, 0, none⟩) (by simp; omega)).trans ((bL.cell 0).trans rfl)) (hC4.below (hW.mono (by omega))) h0)
    KeepsB.trans (KeepsB.put (by omega)) (Below.refl _ _) (fun _ => rfl)
    (fun pre W => KeepsB (w2.heap.size + 2) w2.heap.size W4 W ∧ (W.cell? ⟨w2.heap.size, 0, none⟩ = some (.int .i64 (agr p cs (eltsOf pre) : Int)) ∧ W.frozen? ⟨w2.heap.size, 0, none⟩ = false) ∧ Below w.heap.size w W)
    (fun _ _ _ => False)
    (OwnFrom.and (ownFrom_keepsB (by omega) (by omega)) (OwnFrom.and (Own.from (fun s A B row hs hg hr => ⟨cell_kept hs.1 hg hr, (frozen_kept hs.1 hg hr).trans hs.2⟩) _) (ownFrom_below (Nat.le_refl _) (by have := hB0.size; omega))))
    (fun _ _ _ _ _ hs _ _ => hs)
    ⟨KeepsB.refl _ _ _, ⟨(bN.cell 0).trans rfl, bN.frozen 0⟩, hB0⟩
    (fun y => { tmps := #[.agg #[.int .i64 p], .slice A m c, .slice C n cc, .pointer (some ⟨w.heap.size, 0, none⟩), undef, .pointer (some ⟨w.heap.size + 1, 0, none⟩), .int .i64 0, .int .i64 0, .pointer (some ⟨w1.heap.size, 0, none⟩), .int .i64 ((knL vs bs).length : Int), .int .i64 0, .int .i64 ((tn cs n : Nat) - 1 : Int), .int .i64 0, .pointer (some ⟨w2.heap.size, 0, none⟩), .int .i64 y.1.1, .int .i64 y.1.2, .tuple #[.int .i64 p, .int .i64 ((knL vs bs).length : Int), .int .i64 0], .agg #[.int .i64 p], .slice A m c, .tuple #[.int .i64 p, .int .i64 ((knL vs bs).length : Int), .int .i64 0], .int .i64 p, .int .i64 ((knL vs bs).length : Int), .int .i64 0, .int .i64 0, .bool false, undef, .tuple #[.int .i64 ((tn cs n : Nat) - 1 : Int), .int .i64 0], .agg #[.int .i64 p], .slice C n cc, .tuple #[.int .i64 ((tn cs n : Nat) - 1 : Int), .int .i64 0], .int .i64 ((tn cs n : Nat) - 1 : Int), .int .i64 0, .int .i64 0, .bool false, undef, .slice A m c, .func (.func 173) #[] #[.pointer (some ⟨w2.heap.size + 1, 0, none⟩)], .int .i64 y.1.1, .int .i64 y.1.2, undef, undef, undef, undef, undef, undef, undef, undef, undef], defers := [] }) ?assign ?body ?done ?stop
  case assign =>
    intro l y W K hK
    gi_wp2
    exact hK
  case body =>
    rintro l pre y W ⟨hKB, ⟨hcn, hfn⟩, hB⟩ hlt
    have hd : 1 ≤ 8 - 1 - 1 := by omega
    have hcp : W.cell? ⟨w1.heap.size, 0, none⟩ = some (.int .i64 p) := ((hKB.blk (by omega) (by omega) bP).cell 0).trans rfl
    have hcs : W.cell? ⟨w.heap.size + 1, 0, none⟩ = some (.slice C n cc) := ((hKB.blk (by omega) (by omega) bS).cell 0).trans rfl
    have hxb : 0 ≤ y.1.1 ∧ y.1.1 < p := by
      obtain ⟨j, h1, _, h3⟩ := knL_of y.2
      rw [h3]
      show 0 ≤ (j : Int) + 1 ∧ (j : Int) + 1 < p
      omega
    have hCW := hC.upto hB
    have hal := agr_le p cs (eltsOf pre)
    rw [eltsOf_len] at hal
    have hkl := knL_len vs bs
    obtain ⟨d, HD⟩ : ∃ d, Hid (agr p cs (eltsOf pre) = d) := ⟨_, Lib.hid rfl⟩
    rw [HD.out] at hcn hal
    have hdw : IntKind.i64.wrap ((d : Int) + 1) = (d : Int) + 1 := IntWalk.i64_in _ (by omega)
    have HSN := Lib.hid (agr_snoc p cs (eltsOf pre) y.1)
    obtain ⟨v, HV⟩ : ∃ v, Hid (valueP p y.1.1 cs = v) := ⟨_, Lib.hid rfl⟩
    rw [HV.out, HD.out] at HSN
    have hWs := hKB.1
    by_cases hev : v = y.1.2
    · have hevb : (v == y.1.2) = true := by simp [hev]
      gi_wp2_with (refine ⟨trivial, ?_⟩; gi_at_call 138; refine (CallsIn.inRound l (callsIn_wide.2 (value_any p y.1.1 C n cc cs _ hp hxb hCW HCA.out (by omega)))).mono ?_; rintro e w5 ⟨rfl, hb5⟩; rw [HV.out]; have hcn5 : w5.cell? ⟨w2.heap.size, 0, none⟩ = some (.int .i64 d) := (hb5.cell (p := ⟨w2.heap.size, 0, none⟩) (by show w2.heap.size < W.heap.size; omega)).trans hcn; have hfn5 : w5.frozen? ⟨w2.heap.size, 0, none⟩ = false := (World.frozen?_of_block (a := ⟨w2.heap.size, 0, none⟩) (hb5.block w2.heap.size (by omega))).trans hfn)
      refine ⟨((KeepsOthers.ofBelow hb5).trans (KeepsOthers.setCell _ _ _)).from _, ((KeepsB.refl _ _ W).belowAt (hb5.mono (by omega))).setGs 0 _, (hKB.belowAt (hb5.mono (by omega))).setGs 0 _, ⟨(World.cell?_setCell_same' _ _ _ (by rw [hcn5]; rfl)).trans ?_, (World.frozen?_setCell _ _ _ _).trans hfn5⟩, (bnext hB hb5).setCell (p := ⟨w2.heap.size, 0, none⟩) (by have := hB0.size; show w.heap.size ≤ w2.heap.size; omega) _⟩
      rw [eltsOf_snoc, HSN.out, if_pos hev]; rfl
    · have hevb : (v == y.1.2) = false := by simpa using hev
      gi_wp2_with (refine ⟨trivial, ?_⟩; gi_at_call 138; refine (CallsIn.inRound l (callsIn_wide.2 (value_any p y.1.1 C n cc cs _ hp hxb hCW HCA.out (by omega)))).mono ?_; rintro e w5 ⟨rfl, hb5⟩; rw [HV.out]; have hcn5 : w5.cell? ⟨w2.heap.size, 0, none⟩ = some (.int .i64 d) := (hb5.cell (p := ⟨w2.heap.size, 0, none⟩) (by show w2.heap.size < W.heap.size; omega)).trans hcn; have hfn5 : w5.frozen? ⟨w2.heap.size, 0, none⟩ = false := (World.frozen?_of_block (a := ⟨w2.heap.size, 0, none⟩) (hb5.block w2.heap.size (by omega))).trans hfn)
      refine ⟨(KeepsOthers.ofBelow hb5).from _, (KeepsB.refl _ _ W).belowAt (hb5.mono (by omega)), hKB.belowAt (hb5.mono (by omega)), ⟨hcn5.trans ?_, hfn5⟩, bnext hB hb5⟩
      rw [eltsOf_snoc, HSN.out, if_neg hev]; rfl
  case done =>
    rintro D ys W hD hS ⟨hKB, ⟨hcn, hfn⟩, hB⟩ hK
    rw [hS] at hcn
    gi_wp2
    refine ⟨by simp, .inl ⟨_, _, rfl, run_takeDeferred hK, ?_⟩⟩
    exact ⟨_, results_tmp2 rfl _ _ _, rfl, hB.trans (belowK_b (w := w) (Nat.le_refl _) W D _ _ (by have := hB0.size; omega) hK rfl rfl)⟩
  case stop =>
    rintro D cc' pre W _ _ hh _
    exact hh.elim

set_option maxRecDepth 100000 in
set_option maxHeartbeats 1600000 in
theorem right_few (p : Int) (A : Option Addr) (m c k : Nat) (vs : List Int) (bs : List Bool) (w : World) (hok : okP p = true) (h : Cel w w.heap.size A m vs bs) (hm : m ≤ 32) (hmp : (m : Int) < p) (hkn : knOk p vs bs) (hk : 1 ≤ k) (hkm : k ≤ m) (hkl : (knL vs bs).length < k) :
    Calls Try.prog 71 #[.agg #[.int .i64 p], .slice A m c, .int .i64 k] w fun e w' => e = .returned (.tuple #[.bool true, .int .i64 0]) ∧ Below w.heap.size w w' := by
  have HO := Lib.hid hok
  have HKN := Lib.hid hkn
  have HKL := Lib.hid hkl
  have hb0 : Below w.heap.size w (w.alloc (.cells #[.int .i64 p] 24)) := bbox _
  have hS0 := h.upto hb0
  clear hok hkn hkl
  go_enter Try.func71, Try.ntmps71
  go_wp2_with (go_at_call 69; (refine (fill_few p A m c k vs bs _ HO.out hS0 hm hmp HKN.out hk hkm HKL.out).mono ?_); rintro e w1 ⟨rfl, hb1⟩
               have hbb1 := bnext hb0 hb1)
  go_ret2
  exact ⟨rfl, hbb1⟩

set_option maxRecDepth 100000 in
set_option maxHeartbeats 1600000 in
theorem right_ok (p : Int) (A : Option Addr) (m c k : Nat) (vs : List Int) (bs : List Bool) (w : World) (hok : okP p = true) (h : Cel w w.heap.size A m vs bs) (hm : m ≤ 32) (hmp : (m : Int) < p) (hkn : knOk p vs bs) (hk : 1 ≤ k) (hkm : k ≤ m) (hkl : k ≤ (knL vs bs).length) :
    Calls Try.prog 71 #[.agg #[.int .i64 p], .slice A m c, .int .i64 k] w fun e w' =>
      (∃ R, e = .returned (.tuple #[.bool ((agr p R (knL vs bs) : Int) == ((knL vs bs).length : Int)), .int .i64 0]) ∧ Through p (ptK ((knL vs bs).take k)) (vlK ((knL vs bs).take k)) R) ∧ Below w.heap.size w w' := by
  have HO := Lib.hid hok
  have HKN := Lib.hid hkn
  have HKL := Lib.hid hkl
  have hb0 : Below w.heap.size w (w.alloc (.cells #[.int .i64 p] 24)) := bbox _
  have hF0 := Blk.new w 24 #[.int .i64 p]
  have hS0 := h.upto hb0
  clear hok hkn hkl
  go_enter Try.func71, Try.ntmps71
  go_wp2_with (first
    | (go_at_call 69; (refine (fill_ok p A m c k vs bs _ HO.out hS0 hm hmp HKN.out hk hkm HKL.out).mono ?_); rintro e w1 ⟨⟨R, A1, c1, rfl, hown1, hT⟩, hb1⟩
       have HT := Lib.hid hT
       have hRl : R.length ≤ 32 := by have := hT.ln; rw [ptK_len, List.length_take] at this; omega
       have HRA := Lib.hid hT.al
       have hbb1 := bnext hb0 hb1
       have hF1 := hF0.below hb1 hF0.lt
       have hcF1 : w1.cell? ⟨w.heap.size, 0, none⟩ = some (.int .i64 p) := (hF1.cell 0).trans rfl
       have hS1 := hS0.upto hb1
       have hIR := hown1.ints
       have hcR := hown1.cap
       clear hT)
    | (go_at_call 145; (refine (cells_ok p A m c vs bs _ HO.out hS1 hm hmp HKN.out).mono ?_); rintro e w2 ⟨rfl, hb2⟩
       have hbb2 := bnext hbb1 hb2
       have hF2 := hF1.below hb2 hF1.lt
       have hcF2 : w2.cell? ⟨w.heap.size, 0, none⟩ = some (.int .i64 p) := (hF2.cell 0).trans rfl
       have hS2 := hS1.upto hb2
       have hIR2 := hIR.upto hb2)
    | (go_at_call 73; (refine (agree_code_ok p A A1 m c R.length c1 vs bs R _ HO.out hS2 hm hmp HKN.out hIR2 HRA.out hcR (by omega)).mono ?_); rintro e w3 ⟨rfl, hb3⟩
       have hbb3 := bnext hbb2 hb3))
  go_ret2
  exact ⟨⟨R, rfl, HT.out⟩, hbb3⟩
end Go.Proofs.Ytoblofilaegnaaa
