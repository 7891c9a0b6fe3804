/-
  Words for memory and contracts of small functions of the second form. Conditions: those of each lemma.
-/
import Derived.Test.YtnjdjcgandfnfaaDoorMat
import Derived.Test.YtnjdjcgandfnfaaDoorPlain
import Derived.Test.YtnjdjcgandfnfaaDoorRes
import Derived.Outline
import Derived.Test.YtnjdjcgandfnfaaDoorRedM
import Derived.Test.YtnjdjcgandfnfaaDoorInv
import Derived.BigRegion
import Derived.Deep.DeepCutAuto
import Derived.Deep.QuietTactic
import Derived.BigQuiet
/-! AddT -/
namespace Go.Proofs.YtnjdjcgandfnfaaDoor
open Go.RowKit
set_option linter.unusedVariables false

set_option maxHeartbeats 800000 in
/-- residue's AddTimes: it writes into a row of the call's own. -/
theorem addTimes_any (p x : Int) (g : Nat) (n c d : Nat) (L : Option Addr) (ts l : List Int) (w : World) {base B : Nat} (hp : 2 ≤ p ∧ p ≤ 65521) (hx : 0 ≤ x ∧ x < p) (hT : OwnI w base 3 (some ⟨g, 0, none⟩) n c ts)
    (hl : Ints w B L n l) (hlg : ∀ b off s, L = some ⟨b, off, s⟩ → 0 < n → b ≠ g) (hta : allP p ts = true) (hla : allP p l = true) (hn : n ≤ 17592186044416) :
    Calls Tryd.prog 79 #[.int .i64 p, .slice (some ⟨g, 0, none⟩) n c, .int .i64 x, .slice L n d] w fun e w' =>
      e = .returned (.tuple #[]) ∧ OwnI w' base 3 (some ⟨g, 0, none⟩) n c (zipI (timesP p x) ts l) ∧ Step g w w' := by
  have HT := Lib.hid hT.len
  have HL := Lib.hid hl.len
  have HTA := Lib.hid hta
  have HLA := Lib.hid hla
  clear hta hla
  go_enter Tryd.func79, Tryd.ntmps79
  go_wp2
  go_loopw [12] (fun i wr => ∃ k : Nat, k ≤ n ∧ i = .int .i64 k ∧ OwnI wr base 3 (some ⟨g, 0, none⟩) n c (partly (timesP p x) ts l k) ∧ Step g w wr) (fun i _ => n - (intOf i).toNat)
  case atStart => exact ⟨0, Nat.zero_le _, rfl, by rw [partly_zero]; exact hT, Step.refl _ _⟩
  case round =>
    obtain ⟨k, hk, rfl, hown, hS⟩ := hrel
    by_cases hlt : k < n
    · obtain ⟨b, off, rfl, hb, hcell⟩ := hl.2 (by omega)
      have hbg := hlg b off none rfl (by omega)
      have hbw : b < w.heap.size := World.block_lt_of_cell? w _ (hcell 0 (by omega))
      have hrl : wr.cell? ⟨b, off + k, none⟩ = some (.int .i64 (l.getD k 0)) := (World.cell?_of_block (World.grownBy.block hS b hbw (fun e => hbg (by injection e)))).trans (hcell k hlt)
      have hrt := hown.cellAt hlt
      rw [partly_at _ ts l (by rw [HT.out, HL.out]) k (by rw [HT.out]; exact hlt)] at hrt
      have hfz := hown.frozenAt k
      have hst := hown.stored k (timesP p x (ts.getD k 0) (l.getD k 0))
      rw [partly_set _ ts l (by rw [HT.out, HL.out]) k (by rw [HT.out]; exact hlt)] at hst
      have hS2 := hS.set k (.int .i64 (timesP p x (ts.getD k 0) (l.getD k 0)))
      have htk := allP_getD HTA.out (k := k) (by rw [HT.out]; exact hlt)
      have hlk := allP_getD HLA.out (k := k) (by rw [HL.out]; exact hlt)
      have hm := mulP_in x (l.getD k 0) hp.1
      generalize ts.getD k 0 = t at *
      generalize l.getD k 0 = y at *
      have hk0 : (0 : Int) ≤ (k : Int) := by omega
      have hk1 : (k : Int) < (n : Int) := by omega
      have HS := Lib.hid hst
      have HS2 := Lib.hid hS2
      clear hst hS2 hcell
      go_wp2_with fail
      go_region_with (first
        | (go_at_call 47; refine (mulP_any p x y _ hp hx hlk).mono ?_; rintro e w' ⟨rfl, rfl⟩)
        | (go_at_call 86; refine (addP_any p t _ _ hp htk hm).mono ?_; rintro e w' ⟨rfl, rfl⟩))
      all_goals go_wp2
      all_goals go_roundw
      all_goals first
        | exact ⟨⟨k + 1, by omega, by go_num, HS.out.drew, HS2.out.drew⟩, by simp [intOf]; omega⟩
        | exact ⟨k + 1, by omega, by go_num, HS.out.drew, HS2.out.drew⟩
        | (simp [intOf]; omega)
    · have hkn : k = n := by omega
      subst hkn
      have HE : Hid (partly (timesP p x) ts l k = zipI (timesP p x) ts l) := Lib.hid (by have := partly_all (timesP p x) ts l (by rw [HT.out, HL.out]); rwa [HT.out] at this)
      rw [HE.out] at hown
      go_wp2
      go_end0
      exact ⟨rfl, hown, hS⟩

end Go.Proofs.YtnjdjcgandfnfaaDoor

/-! Lead -/
namespace Go.Proofs.YtnjdjcgandfnfaaDoor
open Go.RowKit
set_option linter.unusedVariables false

theorem Step.undrew {g : Nat} {a b : World} (h : Step g a.drew b) : Step g a b := by
  obtain ⟨h1, h2, h3, h4, h5⟩ : World.grownBy a.drew b (some g) := h
  exact ⟨h1, h2, h3, h4, h5⟩

/-- The inverse of an element. -/
def invF (p a : Int) : Int := a ^ (p - 2).toNat % p
theorem invF_in {p : Int} (hp : 2 ≤ p) (a : Int) : 0 ≤ invF p a ∧ invF p a < p := ⟨Int.emod_nonneg _ (by omega), Int.emod_lt_of_pos _ (by omega)⟩
theorem invF_mul {p a : Int} (h : okP p = true) (ha : 0 < a ∧ a < p) : Cong p (a * invF p a) 1 := ((Cong.refl p a).mul (Cong.mod p _)).trans (inv_pow h ha)
theorem inv_at (p a : Int) (w : World) (hok : okP p = true) (ha : 0 < a ∧ a < p) :
    Calls Tryd.prog 78 #[.int .i64 p, .int .i64 a] w fun e w' => e = .returned (.int .i64 (invF p a)) ∧ w = w' :=
  (inv_ok p a w hok ha).mono fun e w' ⟨⟨v, he, hv, hc⟩, hw⟩ => ⟨by rw [he, inv_unique hok hv (invF_in (okP_pos hok).1 a) hc.out (invF_mul hok ha)], hw⟩

theorem inv_eq (p a v : Int) (w : World) (hok : okP p = true) (ha : 0 < a ∧ a < p) (hv : invF p a = v) :
    Calls Tryd.prog 78 #[.int .i64 p, .int .i64 a] w fun e w' => e = .returned (.int .i64 v) ∧ w = w' := by
  rw [← hv]; exact inv_at p a w hok ha

/-- The first row from r on that is not 0 at column k, if there is one. -/
theorem find_row (m : List (List Int)) (k r : Nat) : ∀ d, (∀ q, r ≤ q → q < r + d → mx m q k = 0) ∨ ∃ i, r ≤ i ∧ i < r + d ∧ mx m i k ≠ 0 ∧ ∀ q, r ≤ q → q < i → mx m q k = 0
  | 0 => .inl fun q h1 h2 => by omega
  | d + 1 => by
    rcases find_row m k r d with h | ⟨i, h1, h2, h3, h4⟩
    · by_cases h5 : mx m (r + d) k = 0
      · exact .inl fun q h1 h2 => by
          by_cases e : q = r + d
          · rw [e]; exact h5
          · exact h q h1 (by omega)
      · exact .inr ⟨r + d, by omega, by omega, h5, fun q h1 h2 => h q h1 h2⟩
    · exact .inr ⟨i, h1, by omega, h3, h4⟩

/-- Two rows of different types of cells do not share a block. -/
theorem own_ne {w : World} {b1 b2 s1 s2 n1 n2 c1 c2 g g' : Nat} {e1 e2 : TypeId} {xs ys : List Value} (h1 : w.ownsRow b1 e1 s1 (.slice (some ⟨g, 0, none⟩) n1 c1) n1 xs) (h2 : w.ownsRow b2 e2 s2 (.slice (some ⟨g', 0, none⟩) n2 c2) n2 ys) (hne : e1 ≠ e2) : g ≠ g' := by
  rcases h1.2 with ⟨a, _⟩ | ⟨g3, cap3, cur3, a3, _, a4, _⟩
  · cases a
  · rcases h2.2 with ⟨b, _⟩ | ⟨g5, cap5, cur5, a5, _, a6, _⟩
    · cases b
    · injection a3 with a3
      injection a3 with a3
      injection a3 with a3
      injection a5 with a5
      injection a5 with a5
      injection a5 with a5
      subst a3 a5
      intro e
      subst e
      exact Blk.ne_ (t := e1) (t' := e2) a4 a6 hne rfl

/-- The block of a reduced form with its rows. -/
structure RedW (w : World) (base gs : Nat) (p : Int) (c : Nat) (R : Option Addr) (n cap : Nat) (bs : List (Nat × Nat)) (m : List (List Int)) (lead : List Nat) : Prop where
  blk : Blk w gs 119 (redC p c (.slice R n cap) lead.length (ldL lead))
  out : w.ownsRow base 22 1 (.slice R n cap) n (rowV (c + 1) bs)
  rws : Rws w base 3 (c + 1) bs m
  ln : m.length = n
  lo : base ≤ gs

theorem types3 : (119 : TypeId) ≠ 22 ∧ (119 : TypeId) ≠ 3 ∧ (22 : TypeId) ≠ 3 := by decide +kernel

section
variable {w w' : World} {base gs : Nat} {p : Int} {c : Nat} {R : Option Addr} {n cap : Nat} {bs : List (Nat × Nat)} {m : List (List Int)} {lead : List Nat}
theorem RedW.drewN (h : RedW w base gs p c R n cap bs m lead) (k : Nat) : RedW (w.drewN k) base gs p c R n cap bs m lead := ⟨h.blk, h.out, ⟨h.rws.ln, h.rws.apart, h.rws.own⟩, h.ln, h.lo⟩
theorem RedW.drew (h : RedW w base gs p c R n cap bs m lead) : RedW w.drew base gs p c R n cap bs m lead := ⟨h.blk, h.out, ⟨h.rws.ln, h.rws.apart, h.rws.own⟩, h.ln, h.lo⟩
theorem RedW.below (h : RedW w base gs p c R n cap bs m lead) (hb : Below w.heap.size w w') : RedW w' base gs p c R n cap bs m lead :=
  ⟨h.blk.below hb h.blk.lt, by
    refine ⟨h.out.1, ?_⟩
    rcases h.out.2 with h0 | ⟨g, cap, cur, hv, hg, hh, r⟩
    · exact .inl h0
    · refine .inr ⟨g, cap, cur, hv, hg, ?_, r⟩
      rw [hb.block g (Blk.lt (t := 22) hh)]; exact hh, h.rws.belowAll hb, h.ln, h.lo⟩
theorem RedW.form (h : RedW w base gs p c R n cap bs m lead) (hn : 0 < n) : ∃ go, R = some ⟨go, 0, none⟩ ∧ base ≤ go ∧ go < w.heap.size ∧ go ≠ gs ∧ (∀ j, j < n → (bs.getD j (0, 0)).1 ≠ go ∧ (bs.getD j (0, 0)).1 ≠ gs) ∧ (∀ j, j < n → w.cell? ⟨go, j, none⟩ = some (.slice (some ⟨(bs.getD j (0, 0)).1, 0, none⟩) (c + 1) (bs.getD j (0, 0)).2) ∧ w.frozen? ⟨go, j, none⟩ = false) := by
  obtain ⟨go, cp, hv, h1, h2⟩ := World.ownsRow.form h.out hn
  injection hv with hA
  subst hA
  refine ⟨go, rfl, h1, h2, ?_, fun j hj => ⟨?_, ?_⟩, fun j hj => ⟨?_, World.ownsRow.frozenAt h.out j⟩⟩
  · intro e
    exact own_blk_ne h.out h.blk (fun e => types3.1 e.symm) (by rw [← e]; rfl)
  · intro e
    have := own_ne (h.rws.own j (by rw [h.ln]; exact hj)) h.out (fun e => types3.2.2 e.symm)
    exact this e
  · intro e
    exact own_blk_ne (h.rws.own j (by rw [h.ln]; exact hj)) h.blk (fun e => types3.2.1 e.symm) (by rw [← e]; rfl)
  · have hl : j < bs.length := by rw [h.rws.ln, h.ln]; exact hj
    rw [World.ownsRow.cellAt h.out j (by omega)]
    exact rowV_at _ _ hl
end

section
variable {w w' : World} {base gs : Nat} {p : Int} {c : Nat} {R : Option Addr} {n cap : Nat} {bs : List (Nat × Nat)} {m : List (List Int)} {lead : List Nat}
theorem RedW.frame {row : Option Nat} (h : RedW w base gs p c R n cap bs m lead) (hg : w.grownBy w' row) (h1 : row ≠ some gs) (h2 : ∀ go, R = some ⟨go, 0, none⟩ → row ≠ some go) (h3 : ∀ j, j < m.length → row ≠ some (bs.getD j (0, 0)).1) : RedW w' base gs p c R n cap bs m lead :=
  ⟨h.blk.grown hg (fun e => h1 e.symm), World.ownsRow.kept h.out hg (by
    rcases hb : (Value.slice R n cap).ownBlock with _ | g
    · exact .inl rfl
    · refine .inr (fun e => ?_)
      rcases h.out.2 with ⟨hv, _⟩ | ⟨g2, cp, cur, hv, _⟩
      · rw [hv] at hb; cases hb
      · injection hv with hv1
        exact h2 g2 hv1 (by rw [← e, ← hb, hv1]; rfl)), h.rws.kept hg h3, h.ln, h.lo⟩
/-- One row written. -/
theorem RedW.row_set (h : RedW w base gs p c R n cap bs m lead) {j : Nat} (hj : j < n) {l : List Int} (hg : Step (bs.getD j (0, 0)).1 w w') (hl : OwnI w' base 3 (some ⟨(bs.getD j (0, 0)).1, 0, none⟩) (c + 1) (bs.getD j (0, 0)).2 l) : RedW w' base gs p c R n cap bs (m.set j l) lead := by
  obtain ⟨go, hR, _, _, _, hbn, _⟩ := h.form (by omega)
  refine ⟨h.blk.grown hg (fun e => by injection e with e; exact (hbn j hj).2 e.symm), World.ownsRow.kept h.out hg (.inr (fun e => ?_)), h.rws.set_ (by rw [h.ln]; exact hj) hg hl, by rw [List.length_set]; exact h.ln, h.lo⟩
  subst hR
  have e2 : some go = some (bs.getD j (0, 0)).1 := e
  injection e2 with e2
  exact (hbn j hj).1 e2.symm
/-- Two rows exchanged. -/
theorem RedW.swapped {go r i : Nat} (h : RedW w base gs p c (some ⟨go, 0, none⟩) n cap bs m lead) (hr : r < n) (hi : i < n) :
    RedW ((w.setCell ⟨go, r, none⟩ (.slice (some ⟨(bs.getD i (0, 0)).1, 0, none⟩) (c + 1) (bs.getD i (0, 0)).2)).setCell ⟨go, i, none⟩ (.slice (some ⟨(bs.getD r (0, 0)).1, 0, none⟩) (c + 1) (bs.getD r (0, 0)).2)) base gs p c (some ⟨go, 0, none⟩) n cap (swapB bs r i) (swapM m r i) lead
    ∧ Step go w ((w.setCell ⟨go, r, none⟩ (.slice (some ⟨(bs.getD i (0, 0)).1, 0, none⟩) (c + 1) (bs.getD i (0, 0)).2)).setCell ⟨go, i, none⟩ (.slice (some ⟨(bs.getD r (0, 0)).1, 0, none⟩) (c + 1) (bs.getD r (0, 0)).2)) := by
  obtain ⟨go2, hR, h1, h2, h3, hbn, _⟩ := h.form (by omega)
  injection hR with hR
  injection hR with hR
  subst hR
  have hl := h.ln
  have hbl : bs.length = n := by rw [h.rws.ln, h.ln]
  have hS := ((Step.refl go w).set r (.slice (some ⟨(bs.getD i (0, 0)).1, 0, none⟩) (c + 1) (bs.getD i (0, 0)).2)).set i (.slice (some ⟨(bs.getD r (0, 0)).1, 0, none⟩) (c + 1) (bs.getD r (0, 0)).2)
  have hO := (World.ownsRow.stored (World.ownsRow.stored h.out r (.slice (some ⟨(bs.getD i (0, 0)).1, 0, none⟩) (c + 1) (bs.getD i (0, 0)).2)).1 i (.slice (some ⟨(bs.getD r (0, 0)).1, 0, none⟩) (c + 1) (bs.getD r (0, 0)).2)).1
  rw [rowV_swap (c + 1) bs (by omega) (by omega)] at hO
  refine ⟨⟨h.blk.grown hS (fun e => by injection e with e; exact h3 e.symm), hO, (h.rws.kept hS (fun j hj e => by injection e with e; exact (hbn j (by omega)).1 e.symm)).swap_ (by omega) (by omega), by rw [swapM_len]; exact hl, h.lo⟩, hS⟩
/-- One more column is led. -/
theorem RedW.leads {k : Nat} (h : RedW w base gs p c R n cap bs m lead) (hk : k < 32) (hn : k ∉ lead) :
    RedW ((w.setCell ⟨gs, 3, none⟩ (.int .i64 ((lead.length : Int) + 1))).setCell ⟨gs, 4 + k, none⟩ (.int .i64 ((lead.length : Int) + 1))) base gs p c R n cap bs m (lead ++ [k]) ∧ Step gs w ((w.setCell ⟨gs, 3, none⟩ (.int .i64 ((lead.length : Int) + 1))).setCell ⟨gs, 4 + k, none⟩ (.int .i64 ((lead.length : Int) + 1))) := by
  have hS := ((Step.refl gs w).set 3 (.int .i64 ((lead.length : Int) + 1))).set (4 + k) (.int .i64 ((lead.length : Int) + 1))
  have hB := (h.blk.set_ 3 (.int .i64 ((lead.length : Int) + 1))).set_ (4 + k) (.int .i64 ((lead.length : Int) + 1))
  rw [redC_set_rank, redC_set_ld, ldL_set lead hk hn, show ((lead.length : Int) + 1) = ((lead ++ [k]).length : Int) by simp] at hB
  rw [show ((lead.length : Int) + 1) = ((lead ++ [k]).length : Int) by simp] at hS ⊢
  refine ⟨⟨hB, World.ownsRow.kept h.out hS ?_, h.rws.kept hS (fun j hj e => ?_), h.ln, h.lo⟩, hS⟩
  · rcases hb : (Value.slice R n cap).ownBlock with _ | g
    · exact .inl rfl
    · refine .inr (fun e => ?_)
      exact own_blk_ne h.out h.blk (fun e => types3.1 e.symm) (by rw [hb, ← e])
  · injection e with e
    have h0 : 0 < n := by have := h.ln; omega
    obtain ⟨go, _, _, _, _, hbn, _⟩ := h.form h0
    exact (hbn j (by rw [← h.ln]; exact hj)).2 e.symm
end

theorem scale_all (p v : Int) (row : List Int) : zipI (fun t _ => mulP p t v) row row = scaleP p v row := by
  unfold zipI scaleP
  rw [List.zipWith_self]
theorem elimM_set_at {p : Int} {k r n : Nat} {m : List (List Int)} (hn : n < m.length) (h : n ≠ r) (hne : cf (m.getD n []) k ≠ 0) : (elimM p k r n m).set n (zipI (timesP p (subP p 0 (cf (m.getD n []) k))) (m.getD n []) (m.getD r [])) = elimM p k r (n + 1) m := by
  rw [← elimM_step p k r n m hn h]
  congr 1
  unfold elimR; rw [if_neg hne]

/-- What is left of a step of the reduction. -/
def LeadPost (base gs : Nat) (p : Int) (c : Nat) (R : Option Addr) (n cap k : Nat) (m : List (List Int)) (w : World) (e : Ending) (w' : World) : Prop :=
  ∃ bs' m' lead', e = .returned (.tuple #[]) ∧ RedW w' base gs p c R n cap bs' m' lead' ∧ RInv p (k + 1) lead' m' ∧ Elts p (c + 1) m' ∧ (∀ z, Ker p (c + 1) m z ↔ Ker p (c + 1) m' z) ∧ Below base w w'

set_option maxHeartbeats 800000 in
set_option maxRecDepth 100000 in
/-- No row can lead. -/
theorem lead_no (base gs : Nat) (p : Int) (c : Nat) (R : Option Addr) (n cap : Nat) (bs : List (Nat × Nat)) (m : List (List Int)) (lead : List Nat) (k r : Nat) (w : World)
    (h : RedW w base gs p c R n cap bs m lead) (hI : RInv p k lead m) (he : Elts p (c + 1) m) (hk : k < c) (hc : c ≤ 32) (hn : n ≤ 32) (hr : Hid (lead.length = r)) (hrn : r ≤ n) (hz : Hid (∀ q, r ≤ q → q < n → mx m q k = 0)) :
    Calls Tryd.prog 87 #[.pointer (some ⟨gs, 0, none⟩), .int .i64 k] w (LeadPost base gs p c R n cap k m w) := by
  have hfin : Hid (LeadPost base gs p c R n cap k m w (.returned (.tuple #[])) w) := Lib.hid ⟨bs, m, lead, rfl, h, hI.skip (fun i h1 h2 => hz.out i (by rw [← hr.out]; exact h1) (by rw [← h.ln]; exact h2)), he, fun z => Iff.rfl, Below.refl _ _⟩
  have hc2 : w.cell? ⟨gs, 2, none⟩ = some (.slice R n cap) := (h.blk.cell 2).trans (redC_2 _ _ _ _ _)
  have hc3 : w.cell? ⟨gs, 3, none⟩ = some (.int .i64 r) := by rw [← hr.out]; exact (h.blk.cell 3).trans (redC_3 _ _ _ _ _)
  have hk0 : (0 : Int) ≤ (k : Int) := by omega
  have hkc : (k : Int) < ((c + 1 : Nat) : Int) := by omega
  have hkc2 : k < c + 1 := by omega
  have hF : 0 < n → ∃ go, R = some ⟨go, 0, none⟩ ∧ ∀ q, q < n → w.cell? ⟨go, q, none⟩ = some (.slice (some ⟨(bs.getD q (0, 0)).1, 0, none⟩) (c + 1) (bs.getD q (0, 0)).2) := fun h0 => by
    obtain ⟨go, h1, _, _, _, _, h2⟩ := h.form h0
    exact ⟨go, h1, fun q hq => (h2 q hq).1⟩
  have HF := Lib.hid hF
  have HC : Hid (∀ q, q < n → w.cell? ⟨(bs.getD q (0, 0)).1, k, none⟩ = some (.int .i64 (mx m q k))) := Lib.hid fun q hq => (h.rws.own q (by rw [h.ln]; exact hq)).cellAt (by omega)
  obtain ⟨c1, hc1⟩ : ∃ c1 : Nat, c + 1 = c1 := ⟨_, rfl⟩
  rw [hc1] at hkc hkc2 HF
  clear hF h hI he hr hc1
  go_enter Tryd.func87, Tryd.ntmps87
  go_wp2
  go_loop [4] (fun v => ∃ q : Nat, r ≤ q ∧ q ≤ n ∧ v = .int .i64 q) (fun v => n - (intOf v).toNat)
  case atStart => exact ⟨r, Nat.le_refl _, hrn, rfl⟩
  case round =>
    obtain ⟨q, hq1, hq2, rfl⟩ := hrel
    by_cases hlt : q < n
    · obtain ⟨go, hRe, hrow⟩ := HF.out (by omega)
      have hrq := hrow q hlt
      have hcq := HC.out q hlt
      rw [hz.out q hq1 hlt] at hcq
      subst hRe
      obtain ⟨bq, hbq⟩ : ∃ b, (bs.getD q (0, 0)).1 = b := ⟨_, rfl⟩
      obtain ⟨cq, hcq2⟩ : ∃ b, (bs.getD q (0, 0)).2 = b := ⟨_, rfl⟩
      rw [hbq] at hrq hcq
      rw [hcq2] at hrq
      clear hrow hbq hcq2
      have h1 : (q : Int) < (n : Int) := by omega
      have h0 : (0 : Int) ≤ (q : Int) := by omega
      go_wp2
      go_round
      case rel => exact ⟨q + 1, by omega, by omega, by go_num⟩
      case measure => simp [intOf]; omega
    · obtain rfl : q = n := by omega
      go_wp2
      go_end0
      exact hfin.out
end Go.Proofs.YtnjdjcgandfnfaaDoor

/-! Lead2 -/
namespace Go.Proofs.YtnjdjcgandfnfaaDoor
open Go.RowKit
set_option linter.unusedVariables false

set_option maxHeartbeats 8000000 in
set_option maxRecDepth 100000 in
/-- A row leads. -/
theorem lead_yes (base gs : Nat) (p : Int) (c : Nat) (R : Option Addr) (n cap : Nat) (bs : List (Nat × Nat)) (m : List (List Int)) (lead : List Nat) (k r i : Nat) (w : World)
    (h : RedW w base gs p c R n cap bs m lead) (hok : okP p = true) (hI : RInv p k lead m) (he : Elts p (c + 1) m) (hk : k < c) (hc : c ≤ 32) (hn : n ≤ 32) (hr : Hid (lead.length = r)) (hri : r ≤ i) (hin : i < n) (hne : mx m i k ≠ 0) (hz : Hid (∀ q, r ≤ q → q < i → mx m q k = 0)) :
    Calls Tryd.prog 87 #[.pointer (some ⟨gs, 0, none⟩), .int .i64 k] w (LeadPost base gs p c R n cap k m w) := by
  have hp := okP_pos hok
  have hx0 := he.mx_in hp.1 (i := i) (by rw [h.ln]; exact hin) k
  have hx1 : 0 < mx m i k ∧ mx m i k < p := by omega
  have HV := Lib.hid (invF_mul hok hx1)
  obtain ⟨go, hRe, hgb, hgl, hgg, hbn, hrow⟩ := h.form (by omega)
  subst hRe
  have hrl : r < n := by omega
  have hc0 : w.cell? ⟨gs, 0, none⟩ = some (.int .i64 p) := (h.blk.cell 0).trans (redC_0 _ _ _ _ _)
  have hc2 : w.cell? ⟨gs, 2, none⟩ = some (.slice (some ⟨go, 0, none⟩) n cap) := (h.blk.cell 2).trans (redC_2 _ _ _ _ _)
  have hc3 : w.cell? ⟨gs, 3, none⟩ = some (.int .i64 r) := by rw [← hr.out]; exact (h.blk.cell 3).trans (redC_3 _ _ _ _ _)
  have hk0 : (0 : Int) ≤ (k : Int) := by omega
  have hkc : (k : Int) < ((c + 1 : Nat) : Int) := by omega
  have hkc2 : k < c + 1 := by omega
  have HF := Lib.hid (fun q (hq : q < n) => (hrow q hq).1)
  have HC : Hid (∀ q, q < n → w.cell? ⟨(bs.getD q (0, 0)).1, k, none⟩ = some (.int .i64 (mx m q k))) := Lib.hid fun q hq => (h.rws.own q (by rw [h.ln]; exact hq)).cellAt (by omega)
  have hri2 := HF.out r hrl
  have hii := HF.out i hin
  have hfr := (hrow r hrl).2
  have hfi := (hrow i hin).2
  have hci := HC.out i hin
  -- the rows exchanged
  have hbl : bs.length = n := by rw [h.rws.ln, h.ln]
  have HSW := Lib.hid (h.swapped (r := r) (i := i) hrl hin)
  have hml := h.ln
  have HROW : Hid ((swapM m r i).getD r [] = m.getD i []) := Lib.hid (by rw [swapM_at m (by omega) (by omega)]; unfold swI; rw [if_pos rfl])
  have HBR1 : Hid ((swapB bs r i).getD r (0, 0) = bs.getD i (0, 0)) := Lib.hid (by rw [swapB_at bs (by omega) (by omega)]; unfold swI; rw [if_pos rfl])
  have HE := Lib.hid he
  have hE0 := Lib.hid he
  have HI := Lib.hid hI
  have HH := Lib.hid h
  have HB := Lib.hid hbn
  obtain ⟨bi, hbi⟩ : ∃ b, (bs.getD i (0, 0)).1 = b := ⟨_, rfl⟩
  obtain ⟨ci, hci2⟩ : ∃ b, (bs.getD i (0, 0)).2 = b := ⟨_, rfl⟩
  obtain ⟨br, hbr⟩ : ∃ b, (bs.getD r (0, 0)).1 = b := ⟨_, rfl⟩
  obtain ⟨cr, hcr⟩ : ∃ b, (bs.getD r (0, 0)).2 = b := ⟨_, rfl⟩
  rw [hbi, hci2] at hii
  rw [hbi] at hci
  rw [hbr, hcr] at hri2
  obtain ⟨x0, hx0e⟩ : ∃ x, mx m i k = x := ⟨_, rfl⟩
  rw [hx0e] at hci hx1
  have hx2 : ¬ x0 = 0 := by omega
  obtain ⟨vy, hvy⟩ := cell?_setCell_some (w := w) (p := ⟨go, r, none⟩) (x := .slice (some ⟨bi, 0, none⟩) (c + 1) ci) (q := ⟨go, i, none⟩) (v := .slice (some ⟨bi, 0, none⟩) (c + 1) ci) hii
  have HX := Lib.hid hx0e
  have HXX : Hid ((m.getD i []).getD k 0 = x0) := Lib.hid hx0e
  have HR0 := hr
  have HBI := Lib.hid hbi
  have HBR := Lib.hid hbr
  have HCI := Lib.hid hci2
  have HCR := Lib.hid hcr
  obtain ⟨c1, hc1⟩ : ∃ c1 : Nat, c + 1 = c1 := ⟨_, rfl⟩
  rw [hc1] at hkc hkc2 hii hri2 hvy HF
  have HC1 := Lib.hid hc1
  have hc33 : c1 ≤ 33 := by omega
  have h1i : (i : Int) < (n : Int) := by omega
  have h1r : (r : Int) < (n : Int) := by omega
  have h0i : (0 : Int) ≤ (i : Int) := by omega
  have h0r : (0 : Int) ≤ (r : Int) := by omega
  have hine : ¬ (i : Int) = (n : Int) := by omega
  have HRA := Lib.hid (he i (by omega)).2
  have HRL : Hid ((m.getD i []).length = c1) := Lib.hid (by rw [← hc1]; exact (he i (by omega)).1)
  obtain ⟨row, hrw⟩ : ∃ l, m.getD i [] = l := ⟨_, rfl⟩
  rw [hrw] at HROW HXX HRA HRL
  have HRW0 := Lib.hid hrw
  obtain ⟨v, hv⟩ : ∃ v, invF p x0 = v := ⟨_, rfl⟩
  have hv0 : 0 ≤ v ∧ v < p := by rw [← hv]; exact invF_in hp.1 _
  have HVE := Lib.hid hv
  have hbg : bi ≠ gs := by rw [← hbi]; exact (hbn i hin).2
  have hkl : k ∉ lead := fun e => by have := hI.mem_lt e; omega
  have hgsl := h.blk.lt
  have hlo := h.lo
  have hmn : m.length = n := hml
  have HMN := Lib.hid hmn
  clear hmn hml hv hrw
  clear h hI he hr hc1 hrow hbn hbi hci2 hbr hcr hx0e hx0 hne hbl
  go_enter Tryd.func87, Tryd.ntmps87
  go_wp2
  go_loop [4] (fun v => ∃ q : Nat, r ≤ q ∧ q ≤ i ∧ v = .int .i64 q) (fun v => i - (intOf v).toNat)
  case atStart => exact ⟨r, Nat.le_refl _, hri, rfl⟩
  case round =>
    obtain ⟨q, hq1, hq2, rfl⟩ := hrel
    by_cases hlt : q < i
    · have hrq := HF.out q (by omega)
      have hcq := HC.out q (by omega)
      rw [hz.out q hq1 hlt] at hcq
      obtain ⟨bq, hbq⟩ : ∃ b, (bs.getD q (0, 0)).1 = b := ⟨_, rfl⟩
      obtain ⟨cq, hcq2⟩ : ∃ b, (bs.getD q (0, 0)).2 = b := ⟨_, rfl⟩
      rw [hbq] at hrq hcq
      rw [hcq2] at hrq
      clear hbq hcq2
      have h1 : (q : Int) < (n : Int) := by omega
      have h0 : (0 : Int) ≤ (q : Int) := by omega
      go_wp2
      go_round
      case rel => exact ⟨q + 1, by omega, by omega, by go_num⟩
      case measure => simp [intOf]; omega
    · obtain rfl : i = q := by omega
      go_wp2
      have hsw := HSW.out
      rw [HBI.out, HCI.out, HBR.out, HCR.out, HC1.out] at hsw
      obtain ⟨W, hW⟩ : ∃ W, (w.setCell ⟨go, r, none⟩ (.slice (some ⟨bi, 0, none⟩) c1 ci)).setCell ⟨go, i, none⟩ (.slice (some ⟨br, 0, none⟩) c1 cr) = W := ⟨_, rfl⟩
      rw [hW] at hsw
      have HWE := Lib.hid hW
      clear hW
      go_cut [4] (fun s4 wx => s4 = .int .i64 i ∧ wx = W.drew)
      case first =>
        as_aux_lemma =>
          clear hsw
          go_region
          go_wp2
          go_meet
          case rel => exact ⟨rfl, by rw [← HWE.out]⟩
      case rest =>
      obtain ⟨rfl, rfl⟩ := hcut
      obtain ⟨hRW, hSt⟩ := hsw
      have hown1 := hRW.rws.own r (by rw [hRW.ln]; exact hrl)
      rw [HBR1.out, HBI.out, HCI.out, HROW.out, HC1.out] at hown1
      have hw0 : W.cell? ⟨gs, 0, none⟩ = some (.int .i64 p) := (hRW.blk.cell 0).trans (redC_0 _ _ _ _ _)
      have hw2 : W.cell? ⟨gs, 2, none⟩ = some (.slice (some ⟨go, 0, none⟩) n cap) := (hRW.blk.cell 2).trans (redC_2 _ _ _ _ _)
      have hw3 : W.cell? ⟨gs, 3, none⟩ = some (.int .i64 r) := by rw [← HR0.out]; exact (hRW.blk.cell 3).trans (redC_3 _ _ _ _ _)
      obtain ⟨go2, hgo2, _, _, _, _, hrow2⟩ := hRW.form (by omega)
      injection hgo2 with hgo2
      injection hgo2 with hgo2
      subst hgo2
      have hwr := (hrow2 r hrl).1
      rw [HBR1.out, HBI.out, HCI.out, HC1.out] at hwr
      have hwk := hown1.cellAt hkc2
      rw [HXX.out] at hwk
      clear hc0 hc2 hc3 hvy hri2 hii hfr hfi hci HSW hrow2
      have HRW := Lib.hid hRW
      have HOW := Lib.hid hown1
      have HST := Lib.hid hSt
      clear hRW hown1 hSt
      go_wp2_with fail
      go_quiet (fail)
      go_wp2_with fail
      go_quiet ((go_at_call 78; exact quiet_add_left (inv_eq p x0 v _ hok hx1 HVE.out)))
      go_wp2_with fail
      have hWgs : gs < W.heap.size := HRW.out.blk.lt
      have hbW : bi < W.heap.size := (World.ownsRow.lt HOW.out bi rfl).2
      go_loopw [97] (fun i97 wr => ∃ q : Nat, q ≤ c1 ∧ i97 = .int .i64 q ∧ OwnI wr base 3 (some ⟨bi, 0, none⟩) c1 ci (partly (fun t _ => mulP p t v) row row q) ∧ Step bi W wr) (fun i _ => c1 - (intOf i).toNat)
      case atStart => exact ⟨0, Nat.zero_le _, rfl, by rw [partly_zero]; exact HOW.out.drewN _, (Step.refl _ _).drewN _⟩
      case round =>
        obtain ⟨q, hq, rfl, hown, hS⟩ := hrel
        by_cases hlt : q < c1
        · have hz0 : wr.cell? ⟨gs, 0, none⟩ = some (.int .i64 p) := (World.cell?_of_block (World.grownBy.block hS gs hWgs (fun e => hbg (by injection e with e; exact e.symm)))).trans hw0
          have hzx := hown.cellAt hlt
          rw [partly_at _ row row rfl q (by rw [HRL.out]; exact hlt)] at hzx
          have hfz := hown.frozenAt q
          have hst := hown.stored q (mulP p (row.getD q 0) v)
          rw [partly_set (fun t _ => mulP p t v) row row rfl q (by rw [HRL.out]; exact hlt)] at hst
          have hS2 := hS.set q (.int .i64 (mulP p (row.getD q 0) v))
          have hy := allP_getD HRA.out (k := q) (by rw [HRL.out]; exact hlt)
          generalize row.getD q 0 = y at *
          have HS := Lib.hid hst
          have HS2 := Lib.hid hS2
          clear hst hS2 hown hS
          have h1 : (q : Int) < (c1 : Int) := by omega
          have h0 : (0 : Int) ≤ (q : Int) := by omega
          go_wp2_with (go_at_call 47; refine (mulP_any p y v _ hp hy hv0).mono ?_; rintro e w' ⟨rfl, rfl⟩)
          go_roundw
          case rel => exact ⟨q + 1, by omega, by go_num, HS.out, HS2.out⟩
          case measure => simp [intOf]; omega
        · obtain rfl : c1 = q := by omega
          have HSC : Hid (partly (fun t _ => mulP p t v) row row c1 = scaleP p v row) := Lib.hid (by have := partly_all (fun t _ => mulP p t v) row row rfl; rw [HRL.out] at this; rw [this, scale_all])
          rw [HSC.out] at hown
          have hR2 := HRW.out.row_set (j := r) hrl (l := scaleP p v row) (w' := wr) (by rw [HBR1.out, HBI.out]; exact hS) (by rw [HBR1.out, HBI.out, HCI.out, HC1.out]; exact hown)
          have hm2 : (swapM m r i).set r (scaleP p v row) = scaleM p v (swapM m r i) r := by unfold scaleM; rw [HROW.out]
          rw [hm2] at hR2
          have hBW : Below base w wr := Step.below (Step.below (Below.refl base w) HST.out (by omega) hgb) hS (by have := HRW.out.lo; omega) (by have := World.ownsRow.lt hown bi rfl; exact this.1)
          have hE2 : Elts p c1 (scaleM p v (swapM m r i) r) := by
            have := scaleM_elts (v := v) hp.1 (swapM_elts (n := c1) (r := r) (i := i) (by rw [← HC1.out]; exact HE.out) (by rw [HMN.out]; exact hrl) (by rw [HMN.out]; exact hin)) (r := r) (by rw [swapM_len, HMN.out]; exact hrl)
            exact this
          have hM2 : (scaleM p v (swapM m r i) r).length = n := by rw [scaleM_len, swapM_len]; exact HMN.out
          have HLM : Hid (∀ z : List (List Int), elimM p k r n (scaleM p v (swapM m r i) r) = z → leadM p v k r i m = z) := Lib.hid fun z hz2 => by unfold leadM; rw [HMN.out]; exact hz2
          have HM2 := Lib.hid hM2
          have HE2 := Lib.hid hE2
          have hz2 : wr.cell? ⟨gs, 2, none⟩ = some (.slice (some ⟨go, 0, none⟩) n cap) := (hR2.blk.cell 2).trans (redC_2 _ _ _ _ _)
          obtain ⟨m2, hm2e⟩ : ∃ m2, scaleM p v (swapM m r i) r = m2 := ⟨_, rfl⟩
          rw [hm2e] at hR2 HM2 HE2 HLM
          have HB1 := Lib.hid HBR1.out
          obtain ⟨bs1, hbs1⟩ : ∃ b, swapB bs r i = b := ⟨_, rfl⟩
          rw [hbs1] at hR2 HB1
          have HR2 := Lib.hid hR2
          have HBW := Lib.hid hBW
          clear hR2 hown hS hm2 hM2 hE2 hm2e hbs1 hBW hw0 hw2 hw3 hwr hwk
          go_wp2_with fail
          have HMA : Hid (∀ q z, q < n → (elimM p k r z m2).getD q [] = if q < z ∧ q ≠ r then elimR p k (m2.getD r []) (m2.getD q []) else m2.getD q []) := Lib.hid fun q z hq => elimM_at _ _ _ _ _ (by rw [HM2.out]; exact hq)
          go_loopw [118] (fun i118 wz => ∃ q : Nat, q ≤ n ∧ i118 = .int .i64 q ∧ Hid (RedW wz base gs p c (some ⟨go, 0, none⟩) n cap bs1 (elimM p k r q m2) lead) ∧ Below base w wz) (fun i _ => n - (intOf i).toNat)
          case atStart => exact ⟨0, Nat.zero_le _, rfl, Lib.hid (by rw [elimM_zero]; exact HR2.out), HBW.out⟩
          case round =>
            rename_i wo _
            obtain ⟨q, hq, rfl, HR3, hbz⟩ := hrel
            by_cases hlt : q < n
            · have hz0 : wr.cell? ⟨gs, 0, none⟩ = some (.int .i64 p) := (HR3.out.blk.cell 0).trans (redC_0 _ _ _ _ _)
              have hz3 : wr.cell? ⟨gs, 3, none⟩ = some (.int .i64 r) := by rw [← HR0.out]; exact (HR3.out.blk.cell 3).trans (redC_3 _ _ _ _ _)
              obtain ⟨go3, hgo3, _, _, _, hbn3, hrow3⟩ := HR3.out.form (by omega)
              injection hgo3 with hgo3
              injection hgo3 with hgo3
              subst hgo3
              have hzr := (hrow3 q hlt).1
              have hownq := HR3.out.rws.own q (by rw [elimM_len, HM2.out]; exact hlt)
              have hown1 := HR3.out.rws.own r (by rw [elimM_len, HM2.out]; exact hrl)
              rw [HMA.out q q hlt, if_neg (by omega)] at hownq
              rw [HMA.out r q hrl, if_neg (by omega), HB1.out, HBI.out, HCI.out, HC1.out] at hown1
              rw [HC1.out] at hownq hzr
              have hLe := HE2.out q (by rw [HM2.out]; exact hlt)
              have hL1 := HE2.out r (by rw [HM2.out]; exact hrl)
              have hapq : q ≠ r → (bs1.getD q (0, 0)).1 ≠ bi := fun hne e => hne (HR3.out.rws.apart q r (by rw [elimM_len, HM2.out]; exact hlt) (by rw [elimM_len, HM2.out]; exact hrl) (by rw [HB1.out, HBI.out]; exact e))
              have hbq0 := HR3.out.rws.row (j := q) (by rw [elimM_len, HM2.out]; exact hlt)
              have HSET : Hid (∀ (l : List Int) (w2 : World), Step (bs1.getD q (0, 0)).1 wr w2 → OwnI w2 base 3 (some ⟨(bs1.getD q (0, 0)).1, 0, none⟩) c1 (bs1.getD q (0, 0)).2 l → RedW w2 base gs p c (some ⟨go, 0, none⟩) n cap bs1 ((elimM p k r q m2).set q l) lead) := Lib.hid fun l w2 h1 h2 => HR3.out.row_set hlt h1 (by rw [HC1.out]; exact h2)
              have hzk := hownq.cellAt hkc2
              have HSK : Hid (q = r ∨ cf (m2.getD q []) k = 0 → elimM p k r q m2 = elimM p k r (q + 1) m2) := Lib.hid fun h => elimM_skip p k r q m2 h
              have HST2 : Hid (q ≠ r → cf (m2.getD q []) k ≠ 0 → (elimM p k r q m2).set q (zipI (timesP p (subP p 0 (cf (m2.getD q []) k))) (m2.getD q []) (m2.getD r [])) = elimM p k r (q + 1) m2) := Lib.hid fun h1 h2 => elimM_set_at (by rw [HM2.out]; exact hlt) h1 h2
              have hyin := allP_getD hLe.2 (k := k) (by rw [hLe.1]; exact hkc2)
              have HAPQ := Lib.hid hapq
              obtain ⟨bq, hbq⟩ : ∃ b, (bs1.getD q (0, 0)).1 = b := ⟨_, rfl⟩
              obtain ⟨cq, hcq⟩ : ∃ b, (bs1.getD q (0, 0)).2 = b := ⟨_, rfl⟩
              obtain ⟨rq, hrq⟩ : ∃ l, m2.getD q [] = l := ⟨_, rfl⟩
              obtain ⟨r1, hr1⟩ : ∃ l, m2.getD r [] = l := ⟨_, rfl⟩
              rw [hbq] at hzr hownq HSET hzk HAPQ hbq0
              rw [hcq] at hzr hownq HSET
              rw [hrq] at hownq hLe HSK HST2 hzk hyin
              rw [hr1] at hown1 hL1 HST2
              obtain ⟨y, hy⟩ : ∃ y, rq.getD k 0 = y := ⟨_, rfl⟩
              have hycf : cf rq k = y := hy
              rw [hy] at hzk hyin
              rw [hycf] at HSK HST2
              have HOQ := Lib.hid hownq
              have HO1 := Lib.hid hown1
              have HLE := Lib.hid hLe
              have HL1 := Lib.hid hL1
              have h1 : (q : Int) < (n : Int) := by omega
              have h0 : (0 : Int) ≤ (q : Int) := by omega
              clear hbq hcq hrq hr1 hy hycf hownq hown1 hrow3 hbn3 hLe hL1 hapq
              by_cases hqr : q = r
              · obtain rfl : r = q := hqr.symm
                have HRZ : Hid (RedW wr base gs p c (some ⟨go, 0, none⟩) n cap bs1 (elimM p k r (r + 1) m2) lead) := Lib.hid (by rw [← HSK.out (.inl rfl)]; exact HR3.out)
                clear hqr
                go_wp2_with fail
                go_roundw
                case rel => exact ⟨r + 1, by omega, by go_num, HRZ, hbz⟩
                case measure => simp [intOf]; omega
              · have hqr2 : ¬ (q : Int) = (r : Int) := by omega
                by_cases hy0 : y = 0
                · have HRZ : Hid (RedW wr base gs p c (some ⟨go, 0, none⟩) n cap bs1 (elimM p k r (q + 1) m2) lead) := Lib.hid (by rw [← HSK.out (.inr hy0)]; exact HR3.out)
                  go_wp2_with fail
                  go_roundw
                  case rel => exact ⟨q + 1, by omega, by go_num, HRZ, hbz⟩
                  case measure => simp [intOf]; omega
                · have HSZ := Lib.hid (HST2.out hqr hy0)
                  have hbqi := HAPQ.out hqr
                  have hsy := subP_in 0 y hp.1
                  obtain ⟨sy, hsy2⟩ : ∃ s, subP p 0 y = s := ⟨_, rfl⟩
                  rw [hsy2] at hsy HSZ
                  have HSY := Lib.hid hsy2
                  clear hsy2
                  have hyin2 : 0 ≤ y ∧ y < p := hyin
                  have hyb1 : (y == 0) = false := by simpa using hy0
                  have hyb2 : (y != 0) = true := by simpa using hy0
                  have hsize := World.ownsRow.lt HOQ.out bq rfl
                  have hTd : OwnI wr.drew base 3 (some ⟨bq, 0, none⟩) c1 cq rq := HOQ.out.drew
                  have hld : Ints wr.drew wr.drew.heap.size (some ⟨bi, 0, none⟩) c1 r1 := HO1.out.ints
                  have HLG : Hid (∀ b off s, (some ⟨bi, 0, none⟩ : Option Addr) = some ⟨b, off, s⟩ → 0 < c1 → b ≠ bq) := Lib.hid fun b off s e _ e2 => by
                    injection e with e
                    injection e with e
                    exact hbqi (by rw [← e2, e])
                  have hc4 : c1 ≤ 17592186044416 := by omega
                  have hsz : base ≤ wr.heap.size := by omega
                  go_wp2_with fail
                  go_region_with (first
                    | (go_at_call 48; refine (subP_any p 0 y _ hp (by omega) hyin2).mono ?_; rintro e w1 ⟨rfl, rfl⟩; rw [HSY.out])
                    | (go_at_call 79; refine (addTimes_any p sy bq c1 cq ci (some ⟨bi, 0, none⟩) rq r1 _ hp hsy hTd hld HLG.out HLE.out.2 HL1.out.2 hc4).mono ?_; rintro e w2 ⟨rfl, hown3, hS3⟩; have hS4 : Step bq wr w2 := hS3.undrew; have hRz := HSET.out _ _ hS4 hown3; rw [HSZ.out] at hRz; have HRz := Lib.hid hRz; have hbz4 := Step.below hbz hS4 hsz hbq0.1; clear hS3 hS4 hown3 hRz))
                  all_goals go_wp2
                  all_goals go_roundw
                  all_goals first
                    | exact ⟨⟨q + 1, by omega, by go_num, HRz, hbz4⟩, by simp [intOf]; omega⟩
                    | exact ⟨q + 1, by omega, by go_num, HRz, hbz4⟩
                    | exact ⟨⟨q + 1, by omega, by go_num, Lib.hid HRz.out.drew, hbz4.drew⟩, by simp [intOf]; omega⟩
                    | exact ⟨q + 1, by omega, by go_num, Lib.hid HRz.out.drew, hbz4.drew⟩
                    | (simp [intOf]; omega)
            · obtain rfl : n = q := by omega
              have HM3 := Lib.hid (HLM.out _ rfl)
              have hz3 : wr.cell? ⟨gs, 3, none⟩ = some (.int .i64 r) := by rw [← HR0.out]; exact (HR3.out.blk.cell 3).trans (redC_3 _ _ _ _ _)
              have hf3 := HR3.out.blk.frozen 3
              have hblk3 := HR3.out.blk.set_ 3 (.int .i64 ((r : Int) + 1))
              rw [redC_set_rank] at hblk3
              have hc4 := (hblk3.cell (4 + k)).trans (redC_ld _ _ _ _ (ldL_len lead) (by omega))
              have hf4 := hblk3.frozen (4 + k)
              have hRL := HR3.out.leads (k := k) (by omega) hkl
              rw [← HM3.out, HR0.out] at hRL
              have HRL2 := Lib.hid hRL
              have hk32 : (k : Int) < 32 := by omega
              clear hblk3 hRL
              go_wp2_with fail
              go_region
              go_wp2
              go_end0
              have h9 := hE0.out
              have hrm : r < m.length := by rw [HMN.out]; exact hrl
              have him : i < m.length := by rw [HMN.out]; exact hin
              have hri4 : lead.length ≤ i := by rw [HR0.out]; exact hri
              have hv4 : Cong p (mx m i k * v) 1 := by rw [HX.out, ← HVE.out, ← HX.out]; exact HV.out
              have h10 := HI.out.lead_ hp.1 h9 hri4 him hv4
              rw [HR0.out] at h10
              exact ⟨bs1, _, lead ++ [k], rfl, HRL2.out.1.drew, h10, leadM_elts hp.1 h9 hrm him, leadM_ker hp.1 h9 hrm him hv4, (Step.below hbz HRL2.out.2 (by have := HR3.out.blk.lt; omega) hlo).drew⟩
end Go.Proofs.YtnjdjcgandfnfaaDoor

/-! Lead3 -/
namespace Go.Proofs.YtnjdjcgandfnfaaDoor
open Go.RowKit
set_option linter.unusedVariables false

/-- A step of the reduction. -/
theorem lead_any (base gs : Nat) (p : Int) (c : Nat) (R : Option Addr) (n cap : Nat) (bs : List (Nat × Nat)) (m : List (List Int)) (lead : List Nat) (k : Nat) (w : World)
    (h : RedW w base gs p c R n cap bs m lead) (hok : okP p = true) (hI : RInv p k lead m) (he : Elts p (c + 1) m) (hk : k < c) (hc : c ≤ 32) (hn : n ≤ 32) :
    Calls Tryd.prog 87 #[.pointer (some ⟨gs, 0, none⟩), .int .i64 k] w (LeadPost base gs p c R n cap k m w) := by
  have hrn : lead.length ≤ n := by rw [← h.ln]; exact hI.rm
  rcases find_row m k lead.length (n - lead.length) with h1 | ⟨i, h1, h2, h3, h4⟩
  · exact lead_no base gs p c R n cap bs m lead k lead.length w h hI he hk hc hn (Lib.hid rfl) hrn (Lib.hid fun q hq1 hq2 => h1 q hq1 (by omega))
  · exact lead_yes base gs p c R n cap bs m lead k lead.length i w h hok hI he hk hc hn (Lib.hid rfl) h1 (by omega) h3 (Lib.hid h4)
end Go.Proofs.YtnjdjcgandfnfaaDoor
