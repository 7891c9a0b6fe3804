/-
  Words for memory and contracts of small functions of the second form. Conditions: those of each lemma.
-/
import Derived.Test.YtmcgnpdfpfgfpaaGreatDoorGSha
import Derived.Test.YtmcgnpdfpfgfpaaGreatDoorGBas
import Derived.OrdersHeld
import Derived.StillTail
import Derived.Deep.RegionHeldLaw
/-! Crv1 -/
namespace Go.Proofs.YtmcgnpdfpfgfpaaGreatDoor
open Go.RowKit
set_option linter.unusedVariables false

theorem cvalid_yes (S d : Nat) (w : World) (hS : 2 ≤ S ∧ S ≤ 10) (hd : 1 ≤ d ∧ d < S) :
    Calls Tryz.prog 102 #[.agg #[.int .i64 S, .int .i64 d]] w fun e w' => e = .returned (.bool true) ∧ Below w.heap.size w w' := by
  have h1 : (2 : Int) ≤ (S : Int) := by omega
  have h1N : 2 ≤ S := by omega
  have h2 : (S : Int) ≤ 10 := by omega
  have h2N : S ≤ 10 := by omega
  have h3 : (1 : Int) ≤ (d : Int) := by omega
  have h3N : 1 ≤ d := by omega
  have h4 : (d : Int) < (S : Int) := by omega
  have h4N : d < S := by omega
  clear hS hd
  go_enter Tryz.func102, Tryz.ntmps102
  go_wp2
  go_ret
  exact ⟨rfl, bbox _⟩

set_option maxRecDepth 100000 in
theorem cCheck_yes (p : Int) (S d : Nat) (w : World) (hok : okP p = true) (hS : 2 ≤ S ∧ S ≤ 10) (hd : 1 ≤ d ∧ d < S) (hp : (S : Int) < p) :
    Calls Tryz.prog 67 #[.agg #[.int .i64 p], .agg #[.int .i64 S, .int .i64 d]] w fun e w' => e = .returned (.int .i64 0) ∧ Below w.heap.size w w' := by
  have HO := Lib.hid hok
  have HS := Lib.hid hS
  have HD := Lib.hid hd
  have h5 : ¬ p ≤ (S : Int) := by omega
  have hb0 : Below w.heap.size w ((w.alloc (.cells #[.int .i64 p] 44)).alloc (.cells #[.int .i64 S, .int .i64 d] 54)) := ballocs (bbox _) _
  have hF0 := (Blk.new w 44 #[.int .i64 p]).alloc (.cells #[.int .i64 S, .int .i64 d] 54)
  have hP0 := Blk.new1 w (.cells #[.int .i64 p] 44) 54 #[.int .i64 S, .int .i64 d]
  clear hok hS hd
  go_enter Tryz.func67, Tryz.ntmps67
  go_wp2_with (first
    | (go_at_call 39; refine (of_yes p _ HO.out).mono ?_; rintro e w1 ⟨rfl, hb1⟩
       have hbb1 := bnext hb0 hb1
       have hF1 := hF0.below hb1 hF0.lt
       have hP1 := hP0.below hb1 hP0.lt
       have hp0 : w1.cell? ⟨w.heap.size + 1, 0, none⟩ = some (.int .i64 S) := (hP1.cell 0).trans rfl
       have hp1 : w1.cell? ⟨w.heap.size + 1, 1, none⟩ = some (.int .i64 d) := (hP1.cell 1).trans rfl
       clear hb1)
    | (go_at_call 102; refine (cvalid_yes S d _ HS.out HD.out).mono ?_; rintro e w2 ⟨rfl, hb2⟩
       have hbb2 := bnext hbb1 hb2
       have hF2 := hF1.below hb2 hF1.lt
       have hP2 := hP1.below hb2 hP1.lt
       have hf0 : w2.cell? ⟨w.heap.size, 0, none⟩ = some (.int .i64 p) := (hF2.cell 0).trans rfl
       have hp2 : w2.cell? ⟨w.heap.size + 1, 0, none⟩ = some (.int .i64 S) := (hP2.cell 0).trans rfl
       clear hb2))
  go_ret
  exact ⟨rfl, hbb2⟩

set_option maxRecDepth 100000 in
theorem ccheck_yes (p : Int) (S d n : Nat) (w : World) (hok : okP p = true) (hS : 2 ≤ S ∧ S ≤ 10) (hd : 1 ≤ d ∧ d < S) (hp : (S : Int) < p) (hn : 1 ≤ n ∧ n ≤ 1024) :
    Calls Tryz.prog 58 #[.agg #[.int .i64 p], .agg #[.int .i64 S, .int .i64 d], .int .i64 n] w fun e w' => e = .returned (.int .i64 0) ∧ Below w.heap.size w w' := by
  have HO := Lib.hid hok
  have h1 : ¬ (n : Int) < 1 := by omega
  have h1N : ¬ n < 1 := by omega
  have h2 : ¬ (1024 : Int) < (n : Int) := by omega
  have h2N : ¬ 1024 < n := by omega
  have hb0 : Below w.heap.size w ((w.alloc (.cells #[.int .i64 p] 44)).alloc (.cells #[.int .i64 S, .int .i64 d] 54)) := ballocs (bbox _) _
  clear hok
  go_enter Tryz.func58, Tryz.ntmps58
  go_wp2_with (go_at_call 67; refine (cCheck_yes p S d _ HO.out hS hd hp).mono ?_; rintro e w1 ⟨rfl, hb1⟩
               have hbb1 := bnext hb0 hb1
               clear hb1)
  go_ret
  exact ⟨rfl, hbb1⟩

set_option maxRecDepth 100000 in
theorem climits_ok (p : Int) (S d n N : Nat) (w : World) (hok : okP p = true) (hS : 2 ≤ S ∧ S ≤ 10) (hd : 1 ≤ d ∧ d < S) (hp : (S : Int) < p) (hn : 1 ≤ n ∧ n ≤ 1024) (hN : n * d = N) :
    Calls Tryz.prog 24 #[.agg #[.int .i64 p], .agg #[.int .i64 S, .int .i64 d], .int .i64 n] w fun e w' =>
      (∃ L lc, e = .returned (.tuple #[.slice L N lc, .int .i64 0]) ∧ OwnI w' w.heap.size 3 L N lc (List.replicate N p)) ∧ Below w.heap.size w w' := by
  obtain ⟨i0, hi0, hz0, hz1, hz2⟩ := info_parts info_int
  have HO := Lib.hid hok
  have HN : Hid (N ≤ 10240) := Lib.hid (by rw [← hN]; exact Nat.le_trans (Nat.mul_le_mul hn.2 (by omega : d ≤ 10)) (by omega))
  have hni : (n : Int) * (d : Int) = (N : Int) := by rw [← hN]; exact (Int.natCast_mul n d).symm
  have hNw : IntKind.i64.wrap (N : Int) = (N : Int) := IntWalk.i64_in _ (by have := HN.out; omega)
  have hb0 : Below w.heap.size w ((w.alloc (.cells #[.int .i64 p] 44)).alloc (.cells #[.int .i64 S, .int .i64 d] 54)) := ballocs (bbox _) _
  have hF0 := (Blk.new w 44 #[.int .i64 p]).alloc (.cells #[.int .i64 S, .int .i64 d] 54)
  have hP0 := Blk.new1 w (.cells #[.int .i64 p] 44) 54 #[.int .i64 S, .int .i64 d]
  clear hok hN
  go_enter Tryz.func24, Tryz.ntmps24
  go_wp2_with (go_at_call 58; refine (ccheck_yes p S d n _ HO.out hS hd hp hn).mono ?_; rintro e w1 ⟨rfl, hb1⟩
               have hbb1 := bnext hb0 hb1
               have hF1 := hF0.below hb1 hF0.lt
               have hP1 := hP0.below hb1 hP0.lt
               have hp1 : w1.cell? ⟨w.heap.size + 1, 1, none⟩ = some (.int .i64 d) := (hP1.cell 1).trans rfl
               clear hb1)
  go_loopw [9, 21] (fun v9 v21 wz => ∃ (k : Nat) (L : Option Addr) (lc : Nat), k ≤ N ∧ v9 = .slice L k lc ∧ v21 = .int .i64 k ∧ OwnI wz w1.heap.size 3 L k lc (List.replicate k p) ∧ Below w1.heap.size w1 wz) (fun _ v21 _ => N - (intOf v21).toNat)
  case atStart => exact ⟨0, none, 0, Nat.zero_le _, rfl, rfl, OwnI.nil_, Below.refl _ _⟩
  case round =>
    obtain ⟨k, L, lc, hk, rfl, rfl, hown, hbz⟩ := hrel
    have hFz := hF1.below hbz hF1.lt
    have hfz : wr.cell? ⟨w.heap.size, 0, none⟩ = some (.int .i64 p) := (hFz.cell 0).trans rfl
    by_cases hlt : k < N
    · have hlti : (k : Int) < (N : Int) := by omega
      have hNb : N ≤ 10240 := HN.out
      have HPS := Lib.hid (List.replicate_succ' (n := k) (a := p))
      go_wp2_with (at_builtin
                   refine wpList_append_ints rfl _ _ _ rfl w1.heap.size 3 i0 _ Tryz.underlying22 hi0 hz0 hz1 hz2 rfl L k lc (List.replicate k p) rfl (hown.alloc _) _ _ 1 1 [p] rfl (Ints.one _ _ _) (k + 1) rfl (List.replicate k p ++ [p]) rfl (by have := HN.out; omega) (le_alloc hbz.size _) ?_
                   intro L2 lc2 w4 hown2 _ hb4 _
                   have hbz4 := (hbz.alloc hbz.size (.cells #[.int .i64 p] 3)).trans hb4)
      go_roundw
      case rel => exact ⟨k + 1, L2, lc2, by omega, rfl, by go_num, by rw [HPS.out]; exact hown2, hbz4⟩
      case measure => simp [intOf]; omega
    · obtain rfl : k = N := by omega
      go_wp2
      go_ret2
      exact ⟨⟨L, lc, rfl, hown.base (by have := hbb1.size; omega)⟩, bnext hbb1 hbz⟩
end Go.Proofs.YtmcgnpdfpfgfpaaGreatDoor

/-! RegM -/
namespace Go.Proofs.YtmcgnpdfpfgfpaaGreatDoor
set_option linter.unusedVariables false

section
variable {P : Program} {ops : Array Oper} {Q : Exit → Act → World → Prop} {md : Region.Mode} {S : World → Prop} {n : Nat}

/-- Whatever order is picked from here on, and S holds behind every operation but the last one, number n. -/
def wpM (P : Program) (md : Region.Mode) (ops : Array Oper) (Q : Exit → Act → World → Prop) (S : World → Prop) (n : Nat) : Nat → Array Bool → Act → World → Prop
  | 0, l, a, w => Region.ready md ops l = [] ∧ Q .normal a w
  | f + 1, l, a, w => (Region.ready md ops l = [n] ∧ wpAny P md ops Q (f + 1) l a w) ∨
    (Region.ready md ops l ≠ [] ∧ ∀ i ∈ Region.ready md ops l, wpOp P ops Q i (fun a' w' => S w' ∧ wpM P md ops Q S n f (l.setIfInBounds i true) a' w') a w)
theorem wpAny_of_M : ∀ (f : Nat) (l : Array Bool) (a : Act) (w : World), wpM P md ops Q S n f l a w → wpAny P md ops Q f l a w
  | 0, _, _, _, h => h
  | f + 1, _, _, _, h => h.elim (fun h => h.2) (fun h => ⟨fun h0 => absurd h0 h.1, fun i hi => wpOp_mono (fun a' w' h' => wpAny_of_M f _ a' w' h'.2) (h.2 i hi)⟩)
theorem wpM_first {i : Nat} {oi : Oper} {v : Value} (hi : ops[i]? = some oi) (hsel : ∀ (j : Nat) (o : Oper) cs b, ops[j]? = some o → o.op ≠ .select cs b)
    (hQ : ∀ c a w, Q (.panic c) (a.put oi.dst v) w → Q (.panic c) a w) (hs : Region.sinkB md ops n = true) (hc : Region.chainB md ops n = true) (hn : n < ops.size) (hin : i < n) :
    ∀ (f : Nat) (l : Array Bool) (a : Act) (w : World), HeadInv md ops n l →
      (∀ j oj, ops[j]? = some oj → j ≠ i → l.getD j true = false → (∀ e ∈ oj.after, Region.binds md e = true → e.on ≠ i) → oi.apart ops oj = true) →
      i ∈ Region.ready md ops l → YieldsIf P ops S oi v a → S w →
      wpM P md ops Q S n f (l.setIfInBounds i true) (a.put oi.dst v) w → wpM P md ops Q S n (f + 1) l a w := by
  intro f
  induction f with
  | zero =>
    intro l a w inv _ hr hy hS H
    refine .inr ⟨fun h => (by rw [h] at hr; cases hr), fun j hj => ?_⟩
    by_cases hji : j = i
    · subst hji; exact hy.wpOp hi hS ⟨hS, H⟩
    · have := ready_mono hj hji
      rw [H.1] at this
      cases this
  | succ f ih =>
    intro l a w inv hfree hr hy hS H
    have hun := (mem_ready.1 hr).1
    refine .inr ⟨fun h => (by rw [h] at hr; cases hr), fun j hj => ?_⟩
    have hjn : j < n := by
      rcases Nat.lt_or_ge j n with h | h
      · exact h
      · exact absurd hj (tail_waits hs hc hn inv _ i rfl hin hun j h)
    by_cases hji : j = i
    · subst hji; exact hy.wpOp hi hS ⟨hS, H⟩
    · have hjr := ready_mono hj hji
      rcases H with ⟨H1, _⟩ | H
      · rw [H1] at hjr
        have : j = n := by simpa using hjr
        omega
      · have h1 := H.2 j hjr
        obtain ⟨hjun, oj, hoj, hall⟩ := mem_ready.1 hj
        have hnot : ∀ e ∈ oj.after, Region.binds md e = true → e.on ≠ i := fun e he hb heq => by
          have h1 := hall e he hb
          rw [heq, getD_both hun] at h1
          cases h1
        have h2 := wpOp_putIf hoj (hfree j oj hoj hji hjun hnot) (fun cs b => hsel i oi cs b hi) (fun cs b => hsel j oj cs b hoj) hQ hy h1
        have hfree' : ∀ k ok, ops[k]? = some ok → k ≠ i → (l.setIfInBounds j true).getD k true = false →
            (∀ e ∈ ok.after, Region.binds md e = true → e.on ≠ i) → oi.apart ops ok = true := fun k ok hk hki hun hno => by
          refine hfree k ok hk hki ?_ hno
          by_cases hjk : j = k
          · subst hjk; exact hjun
          · rw [getD_set_ne true hjk] at hun; exact hun
        refine wpOp_mono (fun a' w' h3 => ⟨h3.2.1, ih (l.setIfInBounds j true) a' w' (inv.set hj hjn) hfree' (ready_mono hr (Ne.symm hji)) h3.1 h3.2.1 ?_⟩) h2
        rw [Array.setIfInBounds_comm _ _ hji]
        exact h3.2.2
theorem wpM_take {i : Nat} {oi : Oper} {v : Value} {f : Nat} {l : Array Bool} {a : Act} {w : World} (hi : ops.toList[i]? = some oi) (hsel : Region.noSelect ops = true) (hf : Region.free md ops l i = true)
    (hr : (Region.ready md ops l).contains i = true) (hQ : ∀ c a w, Q (.panic c) (a.put oi.dst v) w → Q (.panic c) a w) (hs : Region.sinkB md ops n = true) (hc : Region.chainB md ops n = true)
    (hn : n < ops.size) (hin : i < n) (inv : HeadInv md ops n l) (hy : YieldsIf P ops S oi v a) (hS : S w)
    (h : HeadInv md ops n (l.setIfInBounds i true) → wpM P md ops Q S n f (l.setIfInBounds i true) (a.put oi.dst v) w) : wpM P md ops Q S n (f + 1) l a w := by
  have hi' : ops[i]? = some oi := by simpa using hi
  have hr' : i ∈ Region.ready md ops l := by simpa using hr
  exact wpM_first hi' (Region.noSelect_spec hsel) hQ hs hc hn hin f l a w inv (Region.free_spec hi' hf) hr' hy hS (h (inv.set hr' hin))
theorem wpM_one {k : Nat} {o : Oper} {f : Nat} {l : Array Bool} {a : Act} {w : World} (ho : ops.toList[k]? = some o) (hr : Region.ready md ops l = [k]) (hkn : k < n) (inv : HeadInv md ops n l)
    (h : ∀ K : Act → World → Prop, Shut (∀ a w, S w → (HeadInv md ops n (l.setIfInBounds k true) → S w → wpM P md ops Q S n f (l.setIfInBounds k true) a w) → K a w) →
      if Region.wanted o (yielded ops a.tmps) = true then Oper.wp P o a w K Q else K (a.put o.dst undef) w) : wpM P md ops Q S n (f + 1) l a w := by
  have ho' : ops[k]? = some o := by simpa using ho
  have hkr : k ∈ Region.ready md ops l := by rw [hr]; simp
  refine .inr ⟨by rw [hr]; simp, fun j hj => ?_⟩
  rw [hr] at hj
  obtain rfl : j = k := by simpa using hj
  exact wpOp_step ho' (fun K' hK => h K' (fun a w hS hW => hK a w ⟨hS, hW (inv.set hkr hkn) hS⟩))
theorem wpM_last {o : Oper} {f : Nat} {l : Array Bool} {a : Act} {w : World} (ho : ops.toList[n]? = some o) (hr : Region.ready md ops l = [n]) (hd : Region.ready md ops (l.setIfInBounds n true) = [])
    (h : ∀ K : Act → World → Prop, Shut (∀ a w, Q .normal a w → K a w) → if Region.wanted o (yielded ops a.tmps) = true then Oper.wp P o a w K Q else K (a.put o.dst undef) w) : wpM P md ops Q S n (f + 1) l a w := by
  have ho' : ops[n]? = some o := by simpa using ho
  refine .inl ⟨hr, fun h0 => (by rw [hr] at h0; cases h0), fun j hj => ?_⟩
  rw [hr] at hj
  obtain rfl : j = n := by simpa using hj
  refine wpOp_step ho' (fun K' hK => h K' (fun a w hq => hK a w ?_))
  cases f with
  | zero => exact ⟨hd, hq⟩
  | succ f => exact ⟨fun _ => hq, by rw [hd]; simp⟩
theorem wp_region_M {id : Nat} {a : Act} {w : World} (hm : P.follows .mixedOrders = true) (hS : S w.drew) (h : HeadInv .any ops n (Array.replicate ops.size false) → S w.drew → wpM P .any ops Q S n ops.size (Array.replicate ops.size false) a w.drew) : (Code.region id ops true).wp P Q a w :=
  wp_region_any hm (wpAny_of_M _ _ _ _ (h ⟨by simp, fun j oj _ hl => (by rw [getD_replicate_false] at hl; cases hl), fun t _ ht => getD_in (by simpa using ht) (getD_replicate_false _ _)⟩ hS))
end
end Go.Proofs.YtmcgnpdfpfgfpaaGreatDoor
