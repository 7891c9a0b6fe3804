/-
  Words for memory and contracts of small functions of the second form. Conditions: those of each lemma.
-/
import Derived.Test.YtnjdjcgandfnfaaDoorReduce
import Derived.Test.YtnjdjcgandfnfaaDoorSolvC
import Derived.Test.YtnjdjcgandfnfaaDoorPlain
import Derived.Test.YtnjdjcgandfnfaaDoorBase
import Derived.Laws.BitsLemmas
import Derived.Test.YtnjdjcgandfnfaaDoorGPoly
import Derived.Test.YtnjdjcgandfnfaaDoorChk
/-! StepA -/
namespace Go.Proofs.YtnjdjcgandfnfaaDoor
open Go.RowKit
set_option linter.unusedVariables false

/-- An append of some numbers to a row of the call's own, in a region that draws its order. -/
theorem step_append_intsR {P : Program} {ops : Array Oper} {o : Oper} {a : Act} {w : World} {K : Act → World → Prop} {Q : Exit → Act → World → Prop} {E : Prop}
    (hg : o.guard = none) (s x : Operand) (t : TypeId) (hop : o.op = Op.call { callee := Callee.builtin Builtin.append, args := #[s, x], argTypes := #[t, t] })
    (base : Nat) (e : TypeId) (i : TypeInfo) (z : Value) (ht : P.underlying t = some (.slice e)) (hi : P.info? e = some i) (hz : i.zero = some z) (hsize : i.size = 1) (hby : i.bytes = 8) (hzs : z.cells.size = 1)
    (A1 : Option Addr) (n1 c1 : Nat) (xs : List Int) (hs : a.eval s = .slice A1 n1 c1) (hT : OwnI w base e A1 n1 c1 xs)
    (A2 : Option Addr) (m c2 : Nat) (ys : List Int) (hx : a.eval x = .slice A2 m c2) (hI : Ints w w.heap.size A2 m ys) (N : Nat) (hN : n1 + m = N) (hcap : N ≤ 17592186044416) (hbase : base ≤ w.heap.size)
    (hK : ∀ A' c' w', OwnI w' base e A' N c' (xs ++ ys) → w.grownBy w' (Value.slice A1 n1 c1).ownBlock → Below base w w' →
      ((Value.slice A' N c').ownBlock = (Value.slice A1 n1 c1).ownBlock ∨ (Value.slice A' N c').ownBlock = some w.heap.size) → K (a.put o.dst (.slice A' N c')) w') :
    if Region.wanted o (yielded ops a.tmps) = true then Oper.wp P o a w K Q else E := by
  subst hN
  refine step_append_any (P := P) w hg s x t hop base e i z 1 8 ht hi hz hsize hby hzs (by omega) (.slice A1 n1 c1) n1 (vals xs) hs hT w.heap.size A2 m c2 (vals ys) hx hI.reads (vals_one _) (by unfold maxLen; omega) (by omega) hbase ?_
  intro v' w' hown' hgr hat
  rw [show vals xs ++ vals ys = vals (xs ++ ys) by simp [vals]] at hown'
  have hb : Below base w w' := (Below.refl base w).grown hgr hbase hT.row
  rcases hown'.2 with ⟨hv, hn⟩ | ⟨g, cap, cur, hv, _⟩
  · rw [hv] at hown' hat ⊢
    rw [hn] at hown' hK
    exact hK none 0 w' hown' hgr hb hat
  · rw [hv] at hown' hat ⊢
    exact hK _ cap w' hown' hgr hb hat

end Go.Proofs.YtnjdjcgandfnfaaDoor

/-! SolR -/
namespace Go.Proofs.YtnjdjcgandfnfaaDoor
open Go.RowKit
set_option linter.unusedVariables false

/-- The solution as it grows, leading column by leading column. -/
def solR (c : Nat) (lead : List Nat) (m : List (List Int)) (n : Nat) : List Int := (List.range c).map fun k => if k ∈ lead ∧ lead.idxOf k < n then mx m (lead.idxOf k) c else 0
theorem cf_solR (c : Nat) (lead : List Nat) (m : List (List Int)) (n k : Nat) : cf (solR c lead m n) k = if k < c then (if k ∈ lead ∧ lead.idxOf k < n then mx m (lead.idxOf k) c else 0) else 0 := by unfold solR; rw [cf_map_range]
theorem solR_len (c : Nat) (lead : List Nat) (m : List (List Int)) (n : Nat) : (solR c lead m n).length = c := by simp [solR]
theorem solR_zero (c : Nat) (lead : List Nat) (m : List (List Int)) : solR c lead m 0 = List.replicate c 0 := by
  unfold solR
  rw [List.eq_replicate_iff]
  refine ⟨by simp, fun b hb => ?_⟩
  obtain ⟨k, _, rfl⟩ := List.mem_map.1 hb
  rw [if_neg (by omega)]
theorem getD_idxOf_ {lead : List Nat} {k : Nat} (h : k ∈ lead) : lead.getD (lead.idxOf k) 0 = k := by
  have h1 := List.idxOf_lt_length_of_mem h
  rw [List.getD_eq_getElem?_getD, List.getElem?_eq_getElem h1]
  simp
theorem solR_set {p : Int} {c : Nat} {lead : List Nat} {m : List (List Int)} (h : RInv p c lead m) {n : Nat} (hn : n < lead.length) : (solR c lead m n).set (lead.getD n 0) (mx m n c) = solR c lead m (n + 1) := by
  refine cf_ext (by rw [List.length_set, solR_len, solR_len]) fun k => ?_
  show ((solR c lead m n).set (lead.getD n 0) _).getD k 0 = _
  rw [cf_solR, List.getD_eq_getElem?_getD, List.getElem?_set]
  have hl := h.lt n hn
  by_cases e : lead.getD n 0 = k
  · have hx := idxOf_lead h hn
    have hm := lead_mem hn
    rw [e] at hx hm hl
    rw [if_pos e, e, if_pos (by rw [solR_len]; exact hl), if_pos hl, if_pos ⟨hm, by omega⟩, hx]; rfl
  · rw [if_neg e, ← List.getD_eq_getElem?_getD]
    show cf (solR c lead m n) k = _
    rw [cf_solR]
    by_cases hk : k < c
    · rw [if_pos hk, if_pos hk]
      by_cases e2 : k ∈ lead ∧ lead.idxOf k < n
      · rw [if_pos e2, if_pos ⟨e2.1, by omega⟩]
      · rw [if_neg e2, if_neg (fun a => e2 ⟨a.1, by
          have h1 := getD_idxOf_ a.1
          have : lead.idxOf k ≠ n := fun e3 => e (by rw [← e3]; exact h1)
          omega⟩)]
    · rw [if_neg hk, if_neg hk]
theorem solR_all (c : Nat) (lead : List Nat) (m : List (List Int)) : solR c lead m lead.length = solL c lead m c := by
  refine cf_ext (by rw [solR_len, solL_len]) fun k => ?_
  rw [cf_solR, cf_solL]
  by_cases hk : k < c
  · rw [if_pos hk, if_pos hk]
    by_cases e : k ∈ lead
    · rw [if_pos ⟨e, List.idxOf_lt_length_of_mem e⟩, if_pos ⟨hk, e⟩]
    · rw [if_neg (fun a => e a.1), if_neg (fun a => e a.2)]
  · rw [if_neg hk, if_neg hk]
end Go.Proofs.YtnjdjcgandfnfaaDoor

/-! RefM -/
namespace Go.Proofs.YtnjdjcgandfnfaaDoor
open Go.RowKit
set_option linter.unusedVariables false

/-- A slice of rows of the call's own, and the rows. -/
structure RefW (w : World) (base wd : Nat) (R : Option Addr) (n cap : Nat) (bs : List (Nat × Nat)) (m : List (List Int)) : Prop where
  out : w.ownsRow base 22 1 (.slice R n cap) n (rowV wd bs)
  rws : Rws w base 3 wd bs m
  ln : m.length = n

section
variable {w w' : World} {base wd : Nat} {R : Option Addr} {n cap : Nat} {bs : List (Nat × Nat)} {m : List (List Int)}
theorem RefW.nil_ : RefW w base wd none 0 0 [] [] := ⟨World.ownsRow_nil _ _ _ _, Rws.nil_, rfl⟩
theorem RefW.drewN (h : RefW w base wd R n cap bs m) (k : Nat) : RefW (w.drewN k) base wd R n cap bs m := ⟨h.out, ⟨h.rws.ln, h.rws.apart, h.rws.own⟩, h.ln⟩
theorem RefW.drew (h : RefW w base wd R n cap bs m) : RefW w.drew base wd R n cap bs m := ⟨h.out, ⟨h.rws.ln, h.rws.apart, h.rws.own⟩, h.ln⟩
theorem RefW.below (h : RefW w base wd R n cap bs m) (hb : Below w.heap.size w w') : RefW w' base wd R n cap bs m :=
  ⟨by
    refine ⟨h.out.1, ?_⟩
    rcases h.out.2 with h0 | ⟨g, cap, cur, hv, hg, hh, r⟩
    · exact .inl h0
    · refine .inr ⟨g, cap, cur, hv, hg, ?_, r⟩
      rw [hb.block g (Blk.lt (t := 22) hh)]; exact hh, h.rws.belowAll hb, h.ln⟩
theorem RefW.form (h : RefW w base wd R n cap bs m) (hn : 0 < n) : ∃ go, R = some ⟨go, 0, none⟩ ∧ base ≤ go ∧ go < w.heap.size ∧ (∀ j, j < n → (bs.getD j (0, 0)).1 ≠ go) ∧ (∀ j, j < n → w.cell? ⟨go, j, none⟩ = some (.slice (some ⟨(bs.getD j (0, 0)).1, 0, none⟩) wd (bs.getD j (0, 0)).2) ∧ w.frozen? ⟨go, j, none⟩ = false) := by
  obtain ⟨go, cp, hv, h1, h2⟩ := World.ownsRow.form h.out hn
  injection hv with hA
  subst hA
  refine ⟨go, rfl, h1, h2, fun j hj => ?_, fun j hj => ⟨?_, World.ownsRow.frozenAt h.out j⟩⟩
  · intro e
    exact own_ne (h.rws.own j (by rw [h.ln]; exact hj)) h.out (fun e => types3.2.2 e.symm) e
  · have hl : j < bs.length := by rw [h.rws.ln, h.ln]; exact hj
    rw [World.ownsRow.cellAt h.out j (by omega)]
    exact rowV_at _ _ hl
theorem RefW.frame {row : Option Nat} (h : RefW w base wd R n cap bs m) (hg : w.grownBy w' row) (h2 : ∀ go, R = some ⟨go, 0, none⟩ → row ≠ some go) (h3 : ∀ j, j < m.length → row ≠ some (bs.getD j (0, 0)).1) : RefW w' base wd R n cap bs m :=
  ⟨World.ownsRow.kept h.out hg (by
    rcases hb : (Value.slice R n cap).ownBlock with _ | g
    · exact .inl rfl
    · refine .inr (fun e => ?_)
      rcases h.out.2 with ⟨hv, _⟩ | ⟨g2, cp, cur, hv, _⟩
      · rw [hv] at hb; cases hb
      · injection hv with hv1
        exact h2 g2 hv1 (by rw [← e, ← hb, hv1]; rfl)), h.rws.kept hg h3, h.ln⟩
/-- One row written. -/
theorem RefW.row_set (h : RefW w base wd R n cap bs m) {j : Nat} (hj : j < n) {l : List Int} (hg : Step (bs.getD j (0, 0)).1 w w') (hl : OwnI w' base 3 (some ⟨(bs.getD j (0, 0)).1, 0, none⟩) wd (bs.getD j (0, 0)).2 l) : RefW w' base wd R n cap bs (m.set j l) := by
  obtain ⟨go, hR, _, _, hbn, _⟩ := h.form (by omega)
  refine ⟨World.ownsRow.kept h.out hg (.inr (fun e => ?_)), h.rws.set_ (by rw [h.ln]; exact hj) hg hl, by rw [List.length_set]; exact h.ln⟩
  subst hR
  have e2 : some go = some (bs.getD j (0, 0)).1 := e
  injection e2 with e2
  exact hbn j hj e2.symm
/-- Two rows exchanged, the second place first. -/
theorem RefW.swapped {go r i : Nat} (h : RefW w base wd (some ⟨go, 0, none⟩) n cap bs m) (hr : r < n) (hi : i < n) :
    RefW ((w.setCell ⟨go, i, none⟩ (.slice (some ⟨(bs.getD r (0, 0)).1, 0, none⟩) wd (bs.getD r (0, 0)).2)).setCell ⟨go, r, none⟩ (.slice (some ⟨(bs.getD i (0, 0)).1, 0, none⟩) wd (bs.getD i (0, 0)).2)) base wd (some ⟨go, 0, none⟩) n cap (swapB bs i r) (swapM m i r)
    ∧ Step go w ((w.setCell ⟨go, i, none⟩ (.slice (some ⟨(bs.getD r (0, 0)).1, 0, none⟩) wd (bs.getD r (0, 0)).2)).setCell ⟨go, r, none⟩ (.slice (some ⟨(bs.getD i (0, 0)).1, 0, none⟩) wd (bs.getD i (0, 0)).2)) := by
  obtain ⟨go2, hR, h1, h2, hbn, _⟩ := h.form (by omega)
  injection hR with hR
  injection hR with hR
  subst hR
  have hl := h.ln
  have hbl : bs.length = n := by rw [h.rws.ln, h.ln]
  have hS := ((Step.refl go w).set i (.slice (some ⟨(bs.getD r (0, 0)).1, 0, none⟩) wd (bs.getD r (0, 0)).2)).set r (.slice (some ⟨(bs.getD i (0, 0)).1, 0, none⟩) wd (bs.getD i (0, 0)).2)
  have hO := (World.ownsRow.stored (World.ownsRow.stored h.out i (.slice (some ⟨(bs.getD r (0, 0)).1, 0, none⟩) wd (bs.getD r (0, 0)).2)).1 r (.slice (some ⟨(bs.getD i (0, 0)).1, 0, none⟩) wd (bs.getD i (0, 0)).2)).1
  rw [rowV_swap wd bs (by omega) (by omega)] at hO
  exact ⟨⟨hO, (h.rws.kept hS (fun j hj e => by injection e with e; exact hbn j (by omega) e.symm)).swap_ (by omega) (by omega), by rw [swapM_len]; exact hl⟩, hS⟩
/-- One row more. -/
theorem RefW.pushed {b cr : Nat} {row : List Int} {v' : Value} (h : RefW w base wd R n cap bs m) (hrow : OwnI w base 3 (some ⟨b, 0, none⟩) wd cr row) (hbn : ∀ j, j < m.length → (bs.getD j (0, 0)).1 ≠ b)
    (hown : w'.ownsRow base 22 1 v' (n + 1) (rowV wd bs ++ [.slice (some ⟨b, 0, none⟩) wd cr])) (hg : w.grownBy w' (Value.slice R n cap).ownBlock) (hbW : base ≤ w.heap.size) :
    ∃ R' cap', v' = .slice R' (n + 1) cap' ∧ RefW w' base wd R' (n + 1) cap' (bs ++ [(b, cr)]) (m ++ [row]) ∧ Below base w w' := by
  have hR : ∀ (g n2 d : Nat) (xs : List Int), OwnI w base 3 (some ⟨g, 0, none⟩) n2 d xs → (Value.slice R n cap).ownBlock ≠ some g := fun g n2 d xs hx e => by
    rcases h.out.2 with ⟨hv, _⟩ | ⟨g2, cp, cur, hv, _⟩
    · rw [hv] at e; cases e
    · injection hv with hv1 hv2 hv3
      have ho := h.out
      rw [hv1] at ho e
      have e2 : some g2 = some g := e
      injection e2 with e2
      exact own_ne hx ho (fun e => types3.2.2 e.symm) e2.symm
  have hrk := h.rws.kept hg (fun j hj => hR _ _ _ _ (h.rws.own j hj))
  have hrow7 := hrow.kept hg (.inr (fun e => hR b _ _ _ hrow (by rw [← e]; rfl)))
  have hs := hrk.snoc hrow7 hbn
  rcases hown.2 with ⟨hv, h0⟩ | ⟨g, cap', cur, hv, h1, h2⟩
  · omega
  · subst hv
    exact ⟨_, cap', rfl, ⟨by rw [rowV_snoc]; exact hown, hs, by rw [List.length_append, h.ln]; rfl⟩, (Below.refl base w).grown hg hbW (fun k hk => (World.ownsRow.lt h.out k hk).1)⟩
end
theorem swapM_comm (m : List (List Int)) {r i : Nat} (hr : r < m.length) (hi : i < m.length) : swapM m i r = swapM m r i := by
  refine rows_ext (by rw [swapM_len, swapM_len]) fun j _ => ?_
  rw [swapM_at m hi hr, swapM_at m hr hi]
  unfold swI
  by_cases h1 : j = r <;> by_cases h2 : j = i
  · subst h1 h2; rfl
  · subst h1; simp [h2]
  · subst h2; simp [h1]
  · simp [h1, h2]
end Go.Proofs.YtnjdjcgandfnfaaDoor

/-! RInv -/
namespace Go.Proofs.YtnjdjcgandfnfaaDoor
open Go.RowKit
set_option linter.unusedVariables false

theorem i64_and1 (n : Int) : bits .and .i64 n 1 = n % 2 := by
  have h1 : (BitVec.ofInt 64 1).toNat = 2 ^ 1 - 1 := by decide
  have key : (BitVec.ofInt 64 n &&& BitVec.ofInt 64 1).toNat = (n % ((2 ^ 64 : Nat) : Int)).toNat % 2 ^ 1 := by
    rw [BitVec.toNat_and, BitVec.toNat_ofInt, h1, Nat.and_two_pow_sub_one_eq_mod]
  show IntKind.i64.wrap ((BitVec.ofInt 64 n &&& BitVec.ofInt 64 1).toNat : Nat) = n % 2
  rw [key, IntKind.wrap_i64]
  omega

/-- Pow: a power. -/
def PowPost (p a : Int) (n : Nat) (w : World) (e : Ending) (w' : World) : Prop := ∃ r : Int, e = .returned (.int .i64 r) ∧ (0 ≤ r ∧ r < p) ∧ Hid (Cong p r (a ^ n)) ∧ Below w.heap.size w w'

set_option maxHeartbeats 800000 in
theorem rpow_ok (p a : Int) (n : Nat) (w : World) (hp : 2 ≤ p ∧ p ≤ 65521) (ha : 0 ≤ a ∧ a < p) (hn : n ≤ 1000000) :
    Calls Tryd.prog 50 #[.agg #[.int .i64 p], .int .i64 a, .int .i64 n] w (PowPost p a n w) := by
  have hF := Blk.new w 24 #[.int .i64 p]
  have hc : (w.alloc (.cells #[.int .i64 p] 24)).cell? ⟨w.heap.size, 0, none⟩ = some (.int .i64 p) := (hF.cell 0).trans rfl
  have h1p : (1 : Int) % p = 1 := Int.emod_eq_of_lt (by omega) (by omega)
  go_enter Tryd.func50, Tryd.ntmps50
  go_wp2
  go_loop [1, 2, 7] (fun v1 v2 v7 => ∃ (b x : Int) (k : Nat), v1 = .int .i64 b ∧ v2 = .int .i64 k ∧ v7 = .int .i64 x ∧ k ≤ 1000000 ∧ (0 ≤ b ∧ b < p) ∧ (0 ≤ x ∧ x < p) ∧ Hid (Cong p (x * b ^ k) (a ^ n))) (fun _ v2 _ => (intOf v2).toNat)
  case atStart => exact ⟨a, 1, n, rfl, rfl, by rw [h1p], hn, ha, by omega, Lib.hid (by rw [Int.one_mul]; exact Cong.refl _ _)⟩
  case round =>
    obtain ⟨b, x, k, rfl, rfl, rfl, hk, hb, hx, HC⟩ := hrel
    by_cases hk0 : 0 < k
    · have hbb : 0 ≤ b * b ∧ b * b ≤ 65521 * 65521 := ⟨Int.mul_nonneg hb.1 hb.1, Int.mul_le_mul (by omega) (by omega) hb.1 (by omega)⟩
      have hxb : 0 ≤ x * b ∧ x * b ≤ 65521 * 65521 := ⟨Int.mul_nonneg hx.1 hb.1, Int.mul_le_mul (by omega) (by omega) hb.1 (by omega)⟩
      have hst := pow_step HC.out
      have hb2 : 0 ≤ b * b % p ∧ b * b % p < p := ⟨Int.emod_nonneg _ (by omega), Int.emod_lt_of_pos _ (by omega)⟩
      have hx2 : 0 ≤ x * b % p ∧ x * b % p < p := ⟨Int.emod_nonneg _ (by omega), Int.emod_lt_of_pos _ (by omega)⟩
      have hk2 : ((k : Int) / 2) = ((k / 2 : Nat) : Int) := by omega
      have HK2 := Lib.hid hk2
      have hk3 : k / 2 ≤ 1000000 := by omega
      have hk4 : (intOf (Value.int .i64 ((k / 2 : Nat) : Int))).toNat < (intOf (Value.int .i64 (k : Int))).toNat := by simp [intOf]; omega
      have HK4 := Lib.hid hk4
      clear hk2 hk4
      by_cases h2 : k % 2 = 1
      · rw [if_pos h2] at hst
        have HN := Lib.hid hst
        have hand : bits .and .i64 (k : Int) 1 = 1 := by rw [i64_and1]; omega
        clear hst h2
        go_wp2
        rw [HK2.out]
        exact ⟨⟨_, _, _, rfl, rfl, rfl, hk3, hb2, hx2, HN⟩, HK4.out⟩
      · rw [if_neg h2] at hst
        have HN := Lib.hid hst
        have hand : bits .and .i64 (k : Int) 1 = 0 := by rw [i64_and1]; omega
        clear hst h2
        go_wp2
        rw [HK2.out]
        exact ⟨⟨_, _, _, rfl, rfl, rfl, hk3, hb2, hx, HN⟩, HK4.out⟩
    · obtain rfl : k = 0 := by omega
      have HC0 : Hid (Cong p x (a ^ n)) := Lib.hid (by have := HC.out; rwa [Int.pow_zero, Int.mul_one] at this)
      go_wp2
      go_ret
      exact ⟨x, rfl, hx, HC0, bbox _⟩

/-- Inv: the inverse. -/
theorem rinv_ok (p a : Int) (w : World) (hok : okP p = true) (ha : 0 < a ∧ a < p) :
    Calls Tryd.prog 57 #[.agg #[.int .i64 p], .int .i64 a] w fun e w' => (∃ v, e = .returned (.int .i64 v) ∧ (0 ≤ v ∧ v < p) ∧ Hid (Cong p (a * v) 1)) ∧ Below w.heap.size w w' := by
  have hp := okP_pos hok
  obtain ⟨n, hn⟩ : ∃ n : Nat, p - 2 = n := ⟨(p - 2).toNat, by omega⟩
  have HI : Hid (Cong p (a * a ^ n) 1) := Lib.hid (by have := inv_pow hok ha; rwa [hn, Int.toNat_natCast] at this)
  have hF := Blk.new w 24 #[.int .i64 p]
  have hc : (w.alloc (.cells #[.int .i64 p] 24)).cell? ⟨w.heap.size, 0, none⟩ = some (.int .i64 p) := (hF.cell 0).trans rfl
  have hnn : n ≤ 1000000 := by omega
  clear hok
  go_enter Tryd.func57, Tryd.ntmps57
  go_wp2_with (go_at_call 50; refine (rpow_ok p a n _ hp (by omega) hnn).mono ?_; rintro e w1 ⟨r, rfl, hr, HR, hb1⟩
               have hb := bnext (bbox _) hb1)
  go_ret
  exact ⟨⟨r, rfl, hr, Lib.hid (((Cong.refl p a).mul HR.out).trans HI.out)⟩, hb⟩
end Go.Proofs.YtnjdjcgandfnfaaDoor

/-! OpenA -/
namespace Go.Proofs.YtnjdjcgandfnfaaDoor
open Go.RowKit
set_option linter.unusedVariables false

/-- Are all elements of all rows elements? -/
def allR (p : Int) (rows : List (List Int)) : Bool := rows.all (allP p)
/-- The first error of lists of elements. -/
def errL (p : Int) (rows : List (List Int)) : Int := if okP p = true ∧ allR p rows = true then (if (rows.any fun r => decide (512 < r.length)) = true then 4 else 0) else 9
theorem allR_iff {p : Int} {rows : List (List Int)} : allR p rows = true ↔ ∀ r ∈ rows, allP p r = true := by simp [allR]

theorem any_take_succ (rows : List (List Int)) (k : Nat) (hk : k < rows.length) : ((rows.take (k + 1)).any fun r => decide (512 < r.length)) = (((rows.take k).any fun r => decide (512 < r.length)) || decide (512 < (rows.getD k []).length)) := by
  rw [List.take_succ_eq_append_getElem hk, List.any_append, List.getD_eq_getElem?_getD, List.getElem?_eq_getElem hk]
  simp only [List.any_cons, List.any_nil, Bool.or_false, Option.getD_some]
theorem take_mem_succR {P : List Int → Prop} {rows : List (List Int)} {k : Nat} (hk : k < rows.length) (h : ∀ r ∈ rows.take k, P r) (h1 : P (rows.getD k [])) : ∀ r ∈ rows.take (k + 1), P r := by
  rw [List.take_succ_eq_append_getElem hk]
  intro r hr
  rcases List.mem_append.1 hr with hr | hr
  · exact h r hr
  · rw [List.mem_singleton] at hr
    rw [List.getD_eq_getElem?_getD, List.getElem?_eq_getElem hk] at h1
    rw [hr]; exact h1
theorem errL_yes {p : Int} {rows : List (List Int)} (h : errL p rows = 0) : okP p = true ∧ ∀ r ∈ rows, allP p r = true ∧ r.length ≤ 512 := by
  unfold errL at h
  split at h
  · rename_i h1
    split at h
    · cases h
    · rename_i h2
      refine ⟨h1.1, fun r hr => ⟨allR_iff.1 h1.2 r hr, ?_⟩⟩
      have h3 : ∀ x ∈ rows, x.length ≤ 512 := by simpa using h2
      exact h3 r hr
  · cases h

/-- What open leaves. -/
def OpenPost (p er : Int) (w : World) (e : Ending) (w' : World) : Prop := e = .returned (.tuple #[.int .i64 (if er = 0 then p else 0), .int .i64 er]) ∧ Below w.heap.size w w'
def ErrPost (er : Int) (w : World) (e : Ending) (w' : World) : Prop := e = .returned (.int .i64 er) ∧ Below w.heap.size w w'

set_option maxRecDepth 100000 in
set_option maxHeartbeats 400000 in
theorem open_any (p : Int) (V : Option Addr) (n c : Nat) (rows : List (List Int)) (w : World) {lo : Nat} (hp64 : -9223372036854775808 ≤ p ∧ p ≤ 9223372036854775807) (hM : Mat w lo w.heap.size V n rows) (hn : n ≤ 1024) :
    Calls Tryd.prog 68 #[.agg #[.int .i64 p], .slice V n c] w (OpenPost p (errL p rows) w) := by
  by_cases hok : okP p = true
  · have HO := Lib.hid hok
    have HM := Lib.hid hM.len
    obtain ⟨ab, HAB⟩ : ∃ ab, Hid (allR p rows = ab) := ⟨_, Lib.hid rfl⟩
    obtain ⟨lb, HLB⟩ : ∃ lb, Hid ((rows.any fun r => decide (512 < r.length)) = lb) := ⟨_, Lib.hid rfl⟩
    have HE : Hid (errL p rows = if ab = true then (if lb = true then 4 else 0) else 9) := Lib.hid (by
      unfold errL; rw [HAB.out, HLB.out]
      cases ab
      · rw [if_neg (fun e => by cases e.2)]; rfl
      · rw [if_pos ⟨hok, rfl⟩]; rfl)
    clear hok
    go_enter Tryd.func68, Tryd.ntmps68
    go_wp2_with (go_at_call 80; refine (of_yes p _ HO.out).mono ?_; rintro e w1 ⟨rfl, hb1⟩
                 have hbb1 := bnext (bbox _) hb1
                 clear hb1)
    go_loopw [8, 20] (fun lg i wr => ∃ (k : Nat) (b : Bool), k ≤ n ∧ lg = .bool b ∧ i = .int .i64 k ∧ Hid (((rows.take k).any fun r => decide (512 < r.length)) = b) ∧ Hid (∀ r ∈ rows.take k, allP p r = true) ∧ Below w.heap.size w wr) (fun _ i _ => n - (intOf i).toNat)
    case atStart => exact ⟨0, false, Nat.zero_le _, rfl, rfl, Lib.hid (by simp), Lib.hid (by simp), hbb1⟩
    case round =>
      obtain ⟨k, bb, hk, rfl, rfl, HB, HA, hbr⟩ := hrel
      by_cases hlt : k < n
      · obtain ⟨b, off, B1, m, d1, rfl, _, hb1, hcell, hm, hI, _⟩ := (hM.upto hbr).at_ hlt
        have HN := Lib.hid (any_take_succ rows k (by rw [HM.out]; exact hlt))
        have HN1 : Hid (allP p (rows.getD k []) = true → ∀ r ∈ rows.take (k + 1), allP p r = true) := Lib.hid (fun h1 => take_mem_succR (by rw [HM.out]; exact hlt) HA.out h1)
        have HN3 : Hid (ab = true → allP p (rows.getD k []) = true) := Lib.hid (fun e => allR_iff.1 (HAB.out.trans e) _ (row_mem (by rw [HM.out]; exact hlt)))
        generalize rows.getD k [] = row at *
        have HD : Hid (decide (512 < row.length) = decide ((512 : Int) < (m : Int))) := Lib.hid (by rw [hI.len, decide_eq_decide]; omega)
        by_cases hin : allP p row = true
        · have HIN := Lib.hid hin
          have HN2 := Lib.hid (HN1.out hin)
          clear hin
          cases bb
          all_goals
            go_wp2_with (go_at_call 84; refine (all_any p B1 m d1 row _ hI (by omega)).mono ?_; rintro e w3 ⟨rfl, hb3⟩; rw [HIN.out]
                         have hbr3 := bnext hbr hb3
                         clear hb3)
            go_roundw
            case rel => exact ⟨k + 1, _, by omega, rfl, by go_num, Lib.hid (by rw [HN.out, HB.out, HD.out]; simp), HN2, hbr3⟩
            case measure => simp [intOf]; omega
        · have hin' : allP p row = false := by simpa using hin
          have HIN := Lib.hid hin'
          have hab : ab = false := by
            rw [← Bool.not_eq_true]; intro e
            exact hin (HN3.out e)
          subst hab
          clear hin hin'
          go_wp2_with (go_at_call 84; refine (all_any p B1 m d1 row _ hI (by omega)).mono ?_; rintro e w3 ⟨rfl, hb3⟩; rw [HIN.out]
                       have hbr3 := bnext hbr hb3
                       clear hb3)
          go_ret2
          exact ⟨by (rw [HE.out]; rfl), hbr3⟩
      · have hkn : k = n := by omega
        subst hkn
        have hab : ab = true := by
          rw [← HAB.out]; exact allR_iff.2 (by have := HA.out; rwa [List.take_of_length_le (by rw [HM.out]; omega)] at this)
        subst hab
        have hlb : bb = lb := by
          have := HB.out
          rw [List.take_of_length_le (by rw [HM.out]; omega)] at this
          rw [← this, ← HLB.out]
        subst hlb
        cases bb
        all_goals
          go_wp2
          go_ret2
          exact ⟨by (rw [HE.out]; rfl), hbr⟩
  · have hok' : okP p = false := by simpa using hok
    have HO := Lib.hid hok'
    have HE : Hid (errL p rows = 9) := Lib.hid (by unfold errL; rw [if_neg (fun e => hok e.1)])
    clear hok hok'
    go_enter Tryd.func68, Tryd.ntmps68
    go_wp2_with (go_at_call 80; refine (of_no p _ hp64 HO.out).mono ?_; rintro e w1 ⟨rfl, hb1⟩
                 have hb := bnext (bbox _) hb1)
    go_ret2
    exact ⟨by (rw [HE.out]; rfl), hb⟩

set_option maxRecDepth 100000 in
set_option maxHeartbeats 400000 in
theorem rlists_any (p : Int) (V : Option Addr) (n c : Nat) (rows : List (List Int)) (w : World) {lo : Nat} (hM : Mat w lo w.heap.size V n rows) (hn : n ≤ 1024) :
    Calls Tryd.prog 51 #[.agg #[.int .i64 p], .slice V n c] w (ErrPost (errL p rows) w) := by
  have hF0 := Blk.new w 24 #[.int .i64 p]
  by_cases hok : okP p = true
  · have HO := Lib.hid hok
    have HM := Lib.hid hM.len
    obtain ⟨ab, HAB⟩ : ∃ ab, Hid (allR p rows = ab) := ⟨_, Lib.hid rfl⟩
    obtain ⟨lb, HLB⟩ : ∃ lb, Hid ((rows.any fun r => decide (512 < r.length)) = lb) := ⟨_, Lib.hid rfl⟩
    have HE : Hid (errL p rows = if ab = true then (if lb = true then 4 else 0) else 9) := Lib.hid (by
      unfold errL; rw [HAB.out, HLB.out]
      cases ab
      · rw [if_neg (fun e => by cases e.2)]; rfl
      · rw [if_pos ⟨hok, rfl⟩]; rfl)
    clear hok
    go_enter Tryd.func51, Tryd.ntmps51
    go_wp2_with (go_at_call 71; refine (check_yes p _ HO.out).mono ?_; rintro e w1 ⟨rfl, hb1⟩
                 have hbb1 := bnext (bbox _) hb1
                 have hF1 := hF0.below hb1 hF0.lt
                 clear hb1)
    go_loopw [17] (fun i wr => ∃ k : Nat, k ≤ n ∧ i = .int .i64 k ∧ Below w.heap.size w wr ∧ Blk wr w.heap.size 24 #[.int .i64 p] ∧ Hid (∀ r ∈ rows.take k, allP p r = true)) (fun i _ => n - (intOf i).toNat)
    case atStart => exact ⟨0, Nat.zero_le _, rfl, hbb1, hF1, Lib.hid (by simp)⟩
    case round =>
      obtain ⟨k, hk, rfl, hbr, hFr, HA⟩ := hrel
      have hcF : wr.cell? ⟨w.heap.size, 0, none⟩ = some (.int .i64 p) := (hFr.cell 0).trans rfl
      by_cases hlt : k < n
      · obtain ⟨b, off, B1, m, d1, rfl, _, hb1, hcell, hm, hI, _⟩ := (hM.upto hbr).at_ hlt
        have HN1 : Hid (allP p (rows.getD k []) = true → ∀ r ∈ rows.take (k + 1), allP p r = true) := Lib.hid (fun h1 => take_mem_succR (by rw [HM.out]; exact hlt) HA.out h1)
        have HN3 : Hid (ab = true → allP p (rows.getD k []) = true) := Lib.hid (fun e => allR_iff.1 (HAB.out.trans e) _ (row_mem (by rw [HM.out]; exact hlt)))
        generalize rows.getD k [] = row at *
        by_cases hin : inF p row = true
        · have HIN := Lib.hid hin
          have HN2 := Lib.hid (HN1.out (inF_iff.1 hin).2)
          clear hin
          go_wp2_with (go_at_call 72; refine (in_any p B1 m d1 row _ hI (by omega)).mono ?_; rintro e w3 ⟨rfl, hb3⟩; rw [HIN.out]
                       have hbr3 := bnext hbr hb3
                       have hF3 := hFr.below hb3 hFr.lt
                       clear hb3)
          go_roundw
          case rel => exact ⟨k + 1, by omega, by go_num, hbr3, hF3, HN2⟩
          case measure => simp [intOf]; omega
        · have hin' : inF p row = false := by simpa using hin
          have HIN := Lib.hid hin'
          have hab : ab = false := by
            rw [← Bool.not_eq_true]; intro e
            exact hin (inF_iff.2 ⟨HO.out, HN3.out e⟩)
          subst hab
          clear hin hin'
          go_wp2_with (go_at_call 72; refine (in_any p B1 m d1 row _ hI (by omega)).mono ?_; rintro e w3 ⟨rfl, hb3⟩; rw [HIN.out]
                       have hbr3 := bnext hbr hb3
                       clear hb3)
          go_ret
          exact ⟨by (rw [HE.out]; rfl), hbr3⟩
      · have hkn : k = n := by omega
        subst hkn
        have hab : ab = true := by
          rw [← HAB.out]; exact allR_iff.2 (by have := HA.out; rwa [List.take_of_length_le (by rw [HM.out]; omega)] at this)
        subst hab
        go_wp2
        have hb0 := hbr
        go_loopw [28] (fun i wz => ∃ j : Nat, j ≤ k ∧ i = .int .i64 j ∧ wz = wr ∧ Hid (((rows.take j).any fun r => decide (512 < r.length)) = false)) (fun i _ => k - (intOf i).toNat)
        case atStart => exact ⟨0, Nat.zero_le _, rfl, rfl, Lib.hid (by simp)⟩
        case round =>
          obtain ⟨k2, hk2, rfl, rfl, HB⟩ := hrel
          by_cases hlt2 : k2 < k
          · obtain ⟨b, off, B1, m, d1, rfl, _, hb1, hcell, hm, hI, _⟩ := (hM.upto hb0).at_ hlt2
            have HN := Lib.hid (any_take_succ rows k2 (by rw [HM.out]; exact hlt2))
            have HM2 : Hid (512 < (rows.getD k2 []).length → lb = true) := Lib.hid (fun h1 => by
              rw [← HLB.out]; exact List.any_eq_true.2 ⟨_, row_mem (by rw [HM.out]; exact hlt2), by simpa using h1⟩)
            generalize rows.getD k2 [] = row at *
            rw [hI.len] at HM2 HN
            by_cases hm5 : 512 < m
            · have hm5i : (512 : Int) < (m : Int) := by omega
              have hlb := HM2.out hm5
              subst hlb
              go_wp2
              go_ret
              exact ⟨by (rw [HE.out]; rfl), hb0⟩
            · have hm5i : ¬ ((512 : Int) < (m : Int)) := by omega
              have HN4 : Hid (((rows.take (k2 + 1)).any fun r => decide (512 < r.length)) = false) := Lib.hid (by rw [HN.out, HB.out]; simpa using hm5)
              go_wp2
              go_roundw
              case rel => exact ⟨k2 + 1, by omega, by go_num, trivial, HN4⟩
              case measure => simp [intOf]; omega
          · have hkk : k2 = k := by omega
            subst hkk
            have hlb : lb = false := by
              have := HB.out
              rw [List.take_of_length_le (by rw [HM.out]; omega)] at this
              rw [← this, ← HLB.out]
            subst hlb
            go_wp2
            go_ret
            exact ⟨by (rw [HE.out]; rfl), hb0⟩
  · have hok' : okP p = false := by simpa using hok
    have HO := Lib.hid hok'
    have HE : Hid (errL p rows = 9) := Lib.hid (by unfold errL; rw [if_neg (fun e => hok e.1)])
    clear hok hok'
    go_enter Tryd.func51, Tryd.ntmps51
    go_wp2_with (go_at_call 71; refine (check_no p _ HO.out).mono ?_; rintro e w1 ⟨rfl, hb1⟩
                 have hb := bnext (bbox _) hb1)
    go_ret
    exact ⟨by (rw [HE.out]; try rfl), hb⟩
end Go.Proofs.YtnjdjcgandfnfaaDoor

/-! ErrL -/
namespace Go.Proofs.YtnjdjcgandfnfaaDoor
open Go.RowKit
set_option linter.unusedVariables false

theorem errL_one {p : Int} {xs : List Int} (h : errL p [xs] = 0) : okP p = true ∧ allP p xs = true ∧ xs.length ≤ 512 := by
  have h1 := errL_yes h
  exact ⟨h1.1, h1.2 xs List.mem_cons_self⟩
theorem errL_two {p : Int} {xs ys : List Int} (h : errL p [xs, ys] = 0) : okP p = true ∧ (allP p xs = true ∧ xs.length ≤ 512) ∧ (allP p ys = true ∧ ys.length ≤ 512) := by
  have h1 := errL_yes h
  exact ⟨h1.1, h1.2 xs List.mem_cons_self, h1.2 ys (List.mem_cons_of_mem _ List.mem_cons_self)⟩

/-- What Divide leaves: quotient and remainder, or the error. -/
def DivPost (p : Int) (xs ys : List Int) (w : World) (e : Ending) (w' : World) : Prop :=
  (¬ errL p [xs, ys] = 0 ∧ e = .returned (.tuple #[.slice none 0 0, .slice none 0 0, .int .i64 (errL p [xs, ys])]) ∧ Below w.heap.size w w') ∨
  (errL p [xs, ys] = 0 ∧ (trimL ys).length = 0 ∧ e = .returned (.tuple #[.slice none 0 0, .slice none 0 0, .int .i64 10]) ∧ Below w.heap.size w w') ∨
  (errL p [xs, ys] = 0 ∧ 0 < (trimL ys).length ∧ ∃ (Q R : Option Addr) (nq nr cq cr : Nat) (q r : List Int), e = .returned (.tuple #[.slice Q nq cq, .slice R nr cr, .int .i64 0]) ∧ OwnI w' w.heap.size 3 Q nq cq q ∧ OwnI w' w.heap.size 3 R nr cr r ∧ DivOf p xs ys q r ∧ Below w.heap.size w w')

end Go.Proofs.YtnjdjcgandfnfaaDoor
