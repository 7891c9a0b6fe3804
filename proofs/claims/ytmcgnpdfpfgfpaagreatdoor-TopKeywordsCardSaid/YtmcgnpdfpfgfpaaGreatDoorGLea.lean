/-
  Words for memory and contracts of small functions of the second form. Conditions: those of each lemma.
-/
import Derived.Test.YtmcgnpdfpfgfpaaGreatDoorGBas
import Derived.Test.YtmcgnpdfpfgfpaaGreatDoorPlain
import Derived.Outline
import Derived.BigRegion
/-! RedM -/
namespace Go.Proofs.YtmcgnpdfpfgfpaaGreatDoor
open Go.RowKit
set_option linter.unusedVariables false

/-- The slices of rows with these blocks and capacities. -/
def rowV (wd : Nat) (bs : List (Nat × Nat)) : List Value := bs.map fun b => .slice (some ⟨b.1, 0, none⟩) wd b.2
theorem rowV_at (wd : Nat) (bs : List (Nat × Nat)) {j : Nat} (hj : j < bs.length) : (rowV wd bs)[j]? = some (.slice (some ⟨(bs.getD j (0, 0)).1, 0, none⟩) wd (bs.getD j (0, 0)).2) := by
  unfold rowV
  rw [List.getElem?_map, List.getElem?_eq_getElem hj, List.getD_eq_getElem?_getD, List.getElem?_eq_getElem hj]; rfl
theorem rowV_snoc (wd : Nat) (bs : List (Nat × Nat)) (b c : Nat) : rowV wd (bs ++ [(b, c)]) = rowV wd bs ++ [.slice (some ⟨b, 0, none⟩) wd c] := by simp [rowV]
theorem getD_set_pair (bs : List (Nat × Nat)) (i j : Nat) (l : Nat × Nat) (hi : i < bs.length) : (bs.set i l).getD j (0, 0) = if i = j then l else bs.getD j (0, 0) := by
  rw [List.getD_eq_getElem?_getD, List.getElem?_set, List.getD_eq_getElem?_getD]
  by_cases h : i = j
  · subst h; rw [if_pos rfl, if_pos rfl, if_pos hi]; rfl
  · rw [if_neg h, if_neg h]
def swapB (bs : List (Nat × Nat)) (r i : Nat) : List (Nat × Nat) := (bs.set r (bs.getD i (0, 0))).set i (bs.getD r (0, 0))
theorem swapB_len (bs : List (Nat × Nat)) (r i : Nat) : (swapB bs r i).length = bs.length := by simp [swapB]
theorem swapB_at (bs : List (Nat × Nat)) {r i : Nat} (hr : r < bs.length) (hi : i < bs.length) (j : Nat) : (swapB bs r i).getD j (0, 0) = bs.getD (swI r i j) (0, 0) := by
  unfold swapB swI
  rw [getD_set_pair _ _ _ _ (by simpa using hi), getD_set_pair _ _ _ _ hr]
  by_cases h1 : i = j
  · subst h1
    rw [if_pos rfl]
    by_cases h2 : i = r
    · rw [if_pos h2, h2]
    · rw [if_neg h2, if_pos rfl]
  · rw [if_neg h1]
    by_cases h2 : r = j
    · rw [if_pos h2, if_pos h2.symm]
    · rw [if_neg h2, if_neg (fun e => h2 e.symm), if_neg (fun e => h1 e.symm)]
theorem rowV_swap (wd : Nat) (bs : List (Nat × Nat)) {r i : Nat} (hr : r < bs.length) (hi : i < bs.length) :
    ((rowV wd bs).set r (.slice (some ⟨(bs.getD i (0, 0)).1, 0, none⟩) wd (bs.getD i (0, 0)).2)).set i (.slice (some ⟨(bs.getD r (0, 0)).1, 0, none⟩) wd (bs.getD r (0, 0)).2) = rowV wd (swapB bs r i) := by
  unfold rowV swapB
  rw [List.map_set, List.map_set]

/-- Rows of numbers that the call made: each has a block of its own. -/
structure Rws (w : World) (base : Nat) (e : TypeId) (wd : Nat) (bs : List (Nat × Nat)) (m : List (List Int)) : Prop where
  ln : bs.length = m.length
  apart : ∀ i j, i < m.length → j < m.length → (bs.getD i (0, 0)).1 = (bs.getD j (0, 0)).1 → i = j
  own : ∀ j, j < m.length → OwnI w base e (some ⟨(bs.getD j (0, 0)).1, 0, none⟩) wd (bs.getD j (0, 0)).2 (m.getD j [])

section
variable {w w' : World} {base wd : Nat} {e : TypeId} {bs : List (Nat × Nat)} {m : List (List Int)}
theorem Rws.nil_ : Rws w base e wd [] [] := ⟨rfl, fun i j h => absurd h (by simp), fun j h => absurd h (by simp)⟩
theorem Rws.row (h : Rws w base e wd bs m) {j : Nat} (hj : j < m.length) : base ≤ (bs.getD j (0, 0)).1 ∧ (bs.getD j (0, 0)).1 < w.heap.size := World.ownsRow.lt (h.own j hj) _ rfl
theorem Rws.belowAll (h : Rws w base e wd bs m) (hb : Below w.heap.size w w') : Rws w' base e wd bs m := ⟨h.ln, h.apart, fun j hj => (h.own j hj).belowAll hb⟩
theorem Rws.kept {row : Option Nat} (h : Rws w base e wd bs m) (hg : w.grownBy w' row) (hne : ∀ j, j < m.length → row ≠ some (bs.getD j (0, 0)).1) : Rws w' base e wd bs m :=
  ⟨h.ln, h.apart, fun j hj => (h.own j hj).kept hg (.inr (fun e1 => hne j hj (by rw [← e1]; rfl)))⟩
/-- One row written. -/
theorem Rws.set_ (h : Rws w base e wd bs m) {j : Nat} (hj : j < m.length) {l : List Int} (hg : w.grownBy w' (some (bs.getD j (0, 0)).1)) (hl : OwnI w' base e (some ⟨(bs.getD j (0, 0)).1, 0, none⟩) wd (bs.getD j (0, 0)).2 l) : Rws w' base e wd bs (m.set j l) := by
  refine ⟨by rw [List.length_set]; exact h.ln, fun a b ha hb => h.apart a b (by simpa using ha) (by simpa using hb), fun a ha => ?_⟩
  rw [List.length_set] at ha
  rw [getD_set_row _ _ _ _ hj]
  by_cases h1 : j = a
  · subst h1; rw [if_pos rfl]; exact hl
  · rw [if_neg h1]
    exact (h.own a ha).kept hg (.inr (fun e1 => h1 (h.apart j a hj ha (by injection e1 with e1; exact e1.symm))))
theorem Rws.swap_ (h : Rws w base e wd bs m) {r i : Nat} (hr : r < m.length) (hi : i < m.length) : Rws w base e wd (swapB bs r i) (swapM m r i) := by
  have hl := h.ln
  refine ⟨by rw [swapB_len, swapM_len, hl], fun a b ha hb hab => ?_, fun a ha => ?_⟩
  · rw [swapM_len] at ha hb
    rw [swapB_at bs (by omega) (by omega), swapB_at bs (by omega) (by omega)] at hab
    have := h.apart _ _ (swI_lt hr hi ha) (swI_lt hr hi hb) hab
    rw [← swI_swI r i a, this, swI_swI]
  · rw [swapM_len] at ha
    rw [swapB_at bs (by omega) (by omega), swapM_at m hr hi]
    exact h.own _ (swI_lt hr hi ha)
theorem Rws.snoc {b c : Nat} {l : List Int} (h : Rws w base e wd bs m) (hl : OwnI w base e (some ⟨b, 0, none⟩) wd c l) (hb : ∀ j, j < m.length → (bs.getD j (0, 0)).1 ≠ b) : Rws w base e wd (bs ++ [(b, c)]) (m ++ [l]) := by
  have hn := h.ln
  have hat : ∀ j, (bs ++ [(b, c)]).getD j (0, 0) = if j < m.length then bs.getD j (0, 0) else if j = m.length then (b, c) else (0, 0) := by
    intro j
    rw [List.getD_eq_getElem?_getD, List.getElem?_append, hn]
    by_cases h1 : j < m.length
    · rw [if_pos h1, if_pos h1, List.getD_eq_getElem?_getD]
    · rw [if_neg h1, if_neg h1]
      by_cases h2 : j = m.length
      · rw [if_pos h2, h2, Nat.sub_self]; rfl
      · rw [if_neg h2, List.getElem?_eq_none (by simp; omega)]; rfl
  refine ⟨by simp [hn], fun i j hi hj hij => ?_, fun j hj => ?_⟩
  · simp only [List.length_append, List.length_cons, List.length_nil] at hi hj
    rw [hat, hat] at hij
    by_cases h1 : i < m.length <;> by_cases h2 : j < m.length
    · rw [if_pos h1, if_pos h2] at hij; exact h.apart i j h1 h2 hij
    · rw [if_pos h1, if_neg h2, if_pos (by omega)] at hij; exact absurd hij (hb i h1)
    · rw [if_neg h1, if_pos (by omega), if_pos h2] at hij; exact absurd hij.symm (hb j h2)
    · omega
  · simp only [List.length_append, List.length_cons, List.length_nil] at hj
    have hrow : (m ++ [l]).getD j [] = if j < m.length then m.getD j [] else l := by
      rw [List.getD_eq_getElem?_getD, List.getElem?_append]
      by_cases h1 : j < m.length
      · rw [if_pos h1, if_pos h1, List.getD_eq_getElem?_getD]
      · rw [if_neg h1, if_neg h1, show j - m.length = 0 by omega]; rfl
    rw [hat, hrow]
    by_cases h1 : j < m.length
    · rw [if_pos h1, if_pos h1]; exact h.own j h1
    · rw [if_neg h1, if_neg h1, if_pos (by omega)]; exact hl
end

/-- The leading rows of 32 columns, plus 1. -/
def ldL (lead : List Nat) : List Int := (List.range 32).map fun k => if k ∈ lead then (lead.idxOf k : Int) + 1 else 0
theorem ldL_len (lead : List Nat) : (ldL lead).length = 32 := by simp [ldL]
theorem ldL_at (lead : List Nat) {k : Nat} (hk : k < 32) : (ldL lead).getD k 0 = if k ∈ lead then (lead.idxOf k : Int) + 1 else 0 := by
  unfold ldL
  rw [List.getD_eq_getElem?_getD, List.getElem?_map, List.getElem?_range hk]; rfl
theorem ldL_set (lead : List Nat) {k : Nat} (hk : k < 32) (hn : k ∉ lead) : (ldL lead).set k ((lead.length : Int) + 1) = ldL (lead ++ [k]) := by
  refine cf_ext (by rw [List.length_set, ldL_len, ldL_len]) fun j => ?_
  by_cases hj : j < 32
  · show ((ldL lead).set k _).getD j 0 = (ldL (lead ++ [k])).getD j 0
    rw [ldL_at _ hj, List.getD_eq_getElem?_getD, List.getElem?_set]
    by_cases h1 : k = j
    · subst h1
      rw [if_pos rfl, if_pos (by rw [ldL_len]; exact hj), if_pos (by simp), List.idxOf_append, if_neg hn]; simp
    · rw [if_neg h1, ← List.getD_eq_getElem?_getD, ldL_at _ hj, List.idxOf_append]
      by_cases h2 : j ∈ lead
      · rw [if_pos h2, if_pos (by simp [h2]), if_pos h2]
      · rw [if_neg h2, if_neg (by simp [h2]; exact fun e => h1 e.symm)]
  · rw [cf_out (by rw [List.length_set, ldL_len]; omega), cf_out (by rw [ldL_len]; omega)]

/-- The cells of a reduced form. -/
def redC (p c : Int) (R : Value) (rank : Int) (ld : List Int) : Array Value := #[.int .i64 p, .int .i64 c, R, .int .i64 rank] ++ (ld.map (Value.int .i64)).toArray
theorem redC_ld (p c : Int) (R : Value) (rank : Int) {ld : List Int} (hl : ld.length = 32) {k : Nat} (hk : k < 32) : (redC p c R rank ld)[4 + k]? = some (.int .i64 (ld.getD k 0)) := by
  unfold redC
  rw [Array.getElem?_append_right (by simp)]
  simp [hl, hk, List.getD_eq_getElem?_getD]
theorem redC_set_ld (p c : Int) (R : Value) (rank x : Int) {ld : List Int} (k : Nat) : (redC p c R rank ld).setIfInBounds (4 + k) (.int .i64 x) = redC p c R rank (ld.set k x) := by
  unfold redC
  rw [Array.setIfInBounds_append_right (by simp)]
  simp [List.map_set]
theorem redC_set_rank (p c : Int) (R : Value) (rank x : Int) (ld : List Int) : (redC p c R rank ld).setIfInBounds 3 (.int .i64 x) = redC p c R x ld := by
  unfold redC
  rw [Array.setIfInBounds_append_left (by simp)]; rfl
theorem redC_set_rows (p c : Int) (R R' : Value) (rank : Int) (ld : List Int) : (redC p c R rank ld).setIfInBounds 2 R' = redC p c R' rank ld := by
  unfold redC
  rw [Array.setIfInBounds_append_left (by simp)]; rfl
theorem redC_0 (p c : Int) (R : Value) (rank : Int) (ld : List Int) : (redC p c R rank ld)[0]? = some (.int .i64 p) := by unfold redC; rw [Array.getElem?_append_left (by simp)]; rfl
theorem redC_1 (p c : Int) (R : Value) (rank : Int) (ld : List Int) : (redC p c R rank ld)[1]? = some (.int .i64 c) := by unfold redC; rw [Array.getElem?_append_left (by simp)]; rfl
theorem redC_2 (p c : Int) (R : Value) (rank : Int) (ld : List Int) : (redC p c R rank ld)[2]? = some R := by unfold redC; rw [Array.getElem?_append_left (by simp)]; rfl
theorem redC_3 (p c : Int) (R : Value) (rank : Int) (ld : List Int) : (redC p c R rank ld)[3]? = some (.int .i64 rank) := by unfold redC; rw [Array.getElem?_append_left (by simp)]; rfl
end Go.Proofs.YtmcgnpdfpfgfpaaGreatDoor

/-! AddT -/
namespace Go.Proofs.YtmcgnpdfpfgfpaaGreatDoor
open Go.RowKit
set_option linter.unusedVariables false

set_option maxHeartbeats 800000 in
/-- residue's AddTimes: it writes into a row of the call's own. -/
theorem addTimes_any (p x : Int) (g : Nat) (n c d : Nat) (L : Option Addr) (ts l : List Int) (w : World) {base B : Nat} (hp : 2 ≤ p ∧ p ≤ 65521) (hx : 0 ≤ x ∧ x < p) (hT : OwnI w base 3 (some ⟨g, 0, none⟩) n c ts)
    (hl : Ints w B L n l) (hlg : ∀ b off s, L = some ⟨b, off, s⟩ → 0 < n → b ≠ g) (hta : allP p ts = true) (hla : allP p l = true) (hn : n ≤ 17592186044416) :
    Calls Tryz.prog 92 #[.int .i64 p, .slice (some ⟨g, 0, none⟩) n c, .int .i64 x, .slice L n d] w fun e w' =>
      e = .returned (.tuple #[]) ∧ OwnI w' base 3 (some ⟨g, 0, none⟩) n c (zipI (timesP p x) ts l) ∧ Step g w w' := by
  have HT := Lib.hid hT.len
  have HL := Lib.hid hl.len
  have HTA := Lib.hid hta
  have HLA := Lib.hid hla
  clear hta hla
  go_enter Tryz.func92, Tryz.ntmps92
  go_wp2
  go_loopw [12] (fun i wr => ∃ k : Nat, k ≤ n ∧ i = .int .i64 k ∧ OwnI wr base 3 (some ⟨g, 0, none⟩) n c (partly (timesP p x) ts l k) ∧ Step g w wr) (fun i _ => n - (intOf i).toNat)
  case atStart => exact ⟨0, Nat.zero_le _, rfl, by rw [partly_zero]; exact hT, Step.refl _ _⟩
  case round =>
    obtain ⟨k, hk, rfl, hown, hS⟩ := hrel
    by_cases hlt : k < n
    · obtain ⟨b, off, rfl, hb, hcell⟩ := hl.2 (by omega)
      have hbg := hlg b off none rfl (by omega)
      have hbw : b < w.heap.size := World.block_lt_of_cell? w _ (hcell 0 (by omega))
      have hrl : wr.cell? ⟨b, off + k, none⟩ = some (.int .i64 (l.getD k 0)) := (World.cell?_of_block (World.grownBy.block hS b hbw (fun e => hbg (by injection e)))).trans (hcell k hlt)
      have hrt := hown.cellAt hlt
      rw [partly_at _ ts l (by rw [HT.out, HL.out]) k (by rw [HT.out]; exact hlt)] at hrt
      have hfz := hown.frozenAt k
      have hst := hown.stored k (timesP p x (ts.getD k 0) (l.getD k 0))
      rw [partly_set _ ts l (by rw [HT.out, HL.out]) k (by rw [HT.out]; exact hlt)] at hst
      have hS2 := hS.set k (.int .i64 (timesP p x (ts.getD k 0) (l.getD k 0)))
      have htk := allP_getD HTA.out (k := k) (by rw [HT.out]; exact hlt)
      have hlk := allP_getD HLA.out (k := k) (by rw [HL.out]; exact hlt)
      have hm := mulP_in x (l.getD k 0) hp.1
      generalize ts.getD k 0 = t at *
      generalize l.getD k 0 = y at *
      have hk0 : (0 : Int) ≤ (k : Int) := by omega
      have hk1 : (k : Int) < (n : Int) := by omega
      have HS := Lib.hid hst
      have HS2 := Lib.hid hS2
      clear hst hS2 hcell
      go_wp2_with fail
      go_region_with (first
        | (go_at_call 119; refine (mulP_any p x y _ hp hx hlk).mono ?_; rintro e w' ⟨rfl, rfl⟩)
        | (go_at_call 118; refine (addP_any p t _ _ hp htk hm).mono ?_; rintro e w' ⟨rfl, rfl⟩))
      all_goals go_wp2
      all_goals go_roundw
      all_goals first
        | exact ⟨⟨k + 1, by omega, by go_num, HS.out.drew, HS2.out.drew⟩, by simp [intOf]; omega⟩
        | exact ⟨k + 1, by omega, by go_num, HS.out.drew, HS2.out.drew⟩
        | (simp [intOf]; omega)
    · have hkn : k = n := by omega
      subst hkn
      have HE : Hid (partly (timesP p x) ts l k = zipI (timesP p x) ts l) := Lib.hid (by have := partly_all (timesP p x) ts l (by rw [HT.out, HL.out]); rwa [HT.out] at this)
      rw [HE.out] at hown
      go_wp2
      go_end0
      exact ⟨rfl, hown, hS⟩

end Go.Proofs.YtmcgnpdfpfgfpaaGreatDoor

/-! Lead -/
namespace Go.Proofs.YtmcgnpdfpfgfpaaGreatDoor
open Go.RowKit
set_option linter.unusedVariables false

theorem Step.undrew {g : Nat} {a b : World} (h : Step g a.drew b) : Step g a b := by
  obtain ⟨h1, h2, h3, h4, h5⟩ : World.grownBy a.drew b (some g) := h
  exact ⟨h1, h2, h3, h4, h5⟩

/-- The inverse of an element. -/
def invF (p a : Int) : Int := a ^ (p - 2).toNat % p
theorem invF_in {p : Int} (hp : 2 ≤ p) (a : Int) : 0 ≤ invF p a ∧ invF p a < p := ⟨Int.emod_nonneg _ (by omega), Int.emod_lt_of_pos _ (by omega)⟩
theorem invF_mul {p a : Int} (h : okP p = true) (ha : 0 < a ∧ a < p) : Cong p (a * invF p a) 1 := ((Cong.refl p a).mul (Cong.mod p _)).trans (inv_pow h ha)
theorem inv_at (p a : Int) (w : World) (hok : okP p = true) (ha : 0 < a ∧ a < p) :
    Calls Tryz.prog 123 #[.int .i64 p, .int .i64 a] w fun e w' => e = .returned (.int .i64 (invF p a)) ∧ w = w' :=
  (inv_ok p a w hok ha).mono fun e w' ⟨⟨v, he, hv, hc⟩, hw⟩ => ⟨by rw [he, inv_unique hok hv (invF_in (okP_pos hok).1 a) hc.out (invF_mul hok ha)], hw⟩

theorem inv_eq (p a v : Int) (w : World) (hok : okP p = true) (ha : 0 < a ∧ a < p) (hv : invF p a = v) :
    Calls Tryz.prog 123 #[.int .i64 p, .int .i64 a] w fun e w' => e = .returned (.int .i64 v) ∧ w = w' := by
  rw [← hv]; exact inv_at p a w hok ha

/-- The first row from r on that is not 0 at column k, if there is one. -/
theorem find_row (m : List (List Int)) (k r : Nat) : ∀ d, (∀ q, r ≤ q → q < r + d → mx m q k = 0) ∨ ∃ i, r ≤ i ∧ i < r + d ∧ mx m i k ≠ 0 ∧ ∀ q, r ≤ q → q < i → mx m q k = 0
  | 0 => .inl fun q h1 h2 => by omega
  | d + 1 => by
    rcases find_row m k r d with h | ⟨i, h1, h2, h3, h4⟩
    · by_cases h5 : mx m (r + d) k = 0
      · exact .inl fun q h1 h2 => by
          by_cases e : q = r + d
          · rw [e]; exact h5
          · exact h q h1 (by omega)
      · exact .inr ⟨r + d, by omega, by omega, h5, fun q h1 h2 => h q h1 h2⟩
    · exact .inr ⟨i, h1, by omega, h3, h4⟩

/-- Two rows of different types of cells do not share a block. -/
theorem own_ne {w : World} {b1 b2 s1 s2 n1 n2 c1 c2 g g' : Nat} {e1 e2 : TypeId} {xs ys : List Value} (h1 : w.ownsRow b1 e1 s1 (.slice (some ⟨g, 0, none⟩) n1 c1) n1 xs) (h2 : w.ownsRow b2 e2 s2 (.slice (some ⟨g', 0, none⟩) n2 c2) n2 ys) (hne : e1 ≠ e2) : g ≠ g' := by
  rcases h1.2 with ⟨a, _⟩ | ⟨g3, cap3, cur3, a3, _, a4, _⟩
  · cases a
  · rcases h2.2 with ⟨b, _⟩ | ⟨g5, cap5, cur5, a5, _, a6, _⟩
    · cases b
    · injection a3 with a3
      injection a3 with a3
      injection a3 with a3
      injection a5 with a5
      injection a5 with a5
      injection a5 with a5
      subst a3 a5
      intro e
      subst e
      exact Blk.ne_ (t := e1) (t' := e2) a4 a6 hne rfl

/-- The block of a reduced form with its rows. -/
structure RedW (w : World) (base gs : Nat) (p : Int) (c : Nat) (R : Option Addr) (n cap : Nat) (bs : List (Nat × Nat)) (m : List (List Int)) (lead : List Nat) : Prop where
  blk : Blk w gs 265 (redC p c (.slice R n cap) lead.length (ldL lead))
  out : w.ownsRow base 22 1 (.slice R n cap) n (rowV (c + 1) bs)
  rws : Rws w base 3 (c + 1) bs m
  ln : m.length = n
  lo : base ≤ gs

theorem types3 : (265 : TypeId) ≠ 22 ∧ (265 : TypeId) ≠ 3 ∧ (22 : TypeId) ≠ 3 := by decide +kernel

section
variable {w w' : World} {base gs : Nat} {p : Int} {c : Nat} {R : Option Addr} {n cap : Nat} {bs : List (Nat × Nat)} {m : List (List Int)} {lead : List Nat}
theorem RedW.drew (h : RedW w base gs p c R n cap bs m lead) : RedW w.drew base gs p c R n cap bs m lead := ⟨h.blk, h.out, ⟨h.rws.ln, h.rws.apart, h.rws.own⟩, h.ln, h.lo⟩
theorem RedW.below (h : RedW w base gs p c R n cap bs m lead) (hb : Below w.heap.size w w') : RedW w' base gs p c R n cap bs m lead :=
  ⟨h.blk.below hb h.blk.lt, by
    refine ⟨h.out.1, ?_⟩
    rcases h.out.2 with h0 | ⟨g, cap, cur, hv, hg, hh, r⟩
    · exact .inl h0
    · refine .inr ⟨g, cap, cur, hv, hg, ?_, r⟩
      rw [hb.block g (Blk.lt (t := 22) hh)]; exact hh, h.rws.belowAll hb, h.ln, h.lo⟩
theorem RedW.form (h : RedW w base gs p c R n cap bs m lead) (hn : 0 < n) : ∃ go, R = some ⟨go, 0, none⟩ ∧ base ≤ go ∧ go < w.heap.size ∧ go ≠ gs ∧ (∀ j, j < n → (bs.getD j (0, 0)).1 ≠ go ∧ (bs.getD j (0, 0)).1 ≠ gs) ∧ (∀ j, j < n → w.cell? ⟨go, j, none⟩ = some (.slice (some ⟨(bs.getD j (0, 0)).1, 0, none⟩) (c + 1) (bs.getD j (0, 0)).2) ∧ w.frozen? ⟨go, j, none⟩ = false) := by
  obtain ⟨go, cp, hv, h1, h2⟩ := World.ownsRow.form h.out hn
  injection hv with hA
  subst hA
  refine ⟨go, rfl, h1, h2, ?_, fun j hj => ⟨?_, ?_⟩, fun j hj => ⟨?_, World.ownsRow.frozenAt h.out j⟩⟩
  · intro e
    exact own_blk_ne h.out h.blk (fun e => types3.1 e.symm) (by rw [← e]; rfl)
  · intro e
    have := own_ne (h.rws.own j (by rw [h.ln]; exact hj)) h.out (fun e => types3.2.2 e.symm)
    exact this e
  · intro e
    exact own_blk_ne (h.rws.own j (by rw [h.ln]; exact hj)) h.blk (fun e => types3.2.1 e.symm) (by rw [← e]; rfl)
  · have hl : j < bs.length := by rw [h.rws.ln, h.ln]; exact hj
    rw [World.ownsRow.cellAt h.out j (by omega)]
    exact rowV_at _ _ hl
end

section
variable {w w' : World} {base gs : Nat} {p : Int} {c : Nat} {R : Option Addr} {n cap : Nat} {bs : List (Nat × Nat)} {m : List (List Int)} {lead : List Nat}
/-- One row written. -/
theorem RedW.row_set (h : RedW w base gs p c R n cap bs m lead) {j : Nat} (hj : j < n) {l : List Int} (hg : Step (bs.getD j (0, 0)).1 w w') (hl : OwnI w' base 3 (some ⟨(bs.getD j (0, 0)).1, 0, none⟩) (c + 1) (bs.getD j (0, 0)).2 l) : RedW w' base gs p c R n cap bs (m.set j l) lead := by
  obtain ⟨go, hR, _, _, _, hbn, _⟩ := h.form (by omega)
  refine ⟨h.blk.grown hg (fun e => by injection e with e; exact (hbn j hj).2 e.symm), World.ownsRow.kept h.out hg (.inr (fun e => ?_)), h.rws.set_ (by rw [h.ln]; exact hj) hg hl, by rw [List.length_set]; exact h.ln, h.lo⟩
  subst hR
  have e2 : some go = some (bs.getD j (0, 0)).1 := e
  injection e2 with e2
  exact (hbn j hj).1 e2.symm
/-- Two rows exchanged. -/
theorem RedW.swapped {go r i : Nat} (h : RedW w base gs p c (some ⟨go, 0, none⟩) n cap bs m lead) (hr : r < n) (hi : i < n) :
    RedW ((w.setCell ⟨go, r, none⟩ (.slice (some ⟨(bs.getD i (0, 0)).1, 0, none⟩) (c + 1) (bs.getD i (0, 0)).2)).setCell ⟨go, i, none⟩ (.slice (some ⟨(bs.getD r (0, 0)).1, 0, none⟩) (c + 1) (bs.getD r (0, 0)).2)) base gs p c (some ⟨go, 0, none⟩) n cap (swapB bs r i) (swapM m r i) lead
    ∧ Step go w ((w.setCell ⟨go, r, none⟩ (.slice (some ⟨(bs.getD i (0, 0)).1, 0, none⟩) (c + 1) (bs.getD i (0, 0)).2)).setCell ⟨go, i, none⟩ (.slice (some ⟨(bs.getD r (0, 0)).1, 0, none⟩) (c + 1) (bs.getD r (0, 0)).2)) := by
  obtain ⟨go2, hR, h1, h2, h3, hbn, _⟩ := h.form (by omega)
  injection hR with hR
  injection hR with hR
  subst hR
  have hl := h.ln
  have hbl : bs.length = n := by rw [h.rws.ln, h.ln]
  have hS := ((Step.refl go w).set r (.slice (some ⟨(bs.getD i (0, 0)).1, 0, none⟩) (c + 1) (bs.getD i (0, 0)).2)).set i (.slice (some ⟨(bs.getD r (0, 0)).1, 0, none⟩) (c + 1) (bs.getD r (0, 0)).2)
  have hO := (World.ownsRow.stored (World.ownsRow.stored h.out r (.slice (some ⟨(bs.getD i (0, 0)).1, 0, none⟩) (c + 1) (bs.getD i (0, 0)).2)).1 i (.slice (some ⟨(bs.getD r (0, 0)).1, 0, none⟩) (c + 1) (bs.getD r (0, 0)).2)).1
  rw [rowV_swap (c + 1) bs (by omega) (by omega)] at hO
  refine ⟨⟨h.blk.grown hS (fun e => by injection e with e; exact h3 e.symm), hO, (h.rws.kept hS (fun j hj e => by injection e with e; exact (hbn j (by omega)).1 e.symm)).swap_ (by omega) (by omega), by rw [swapM_len]; exact hl, h.lo⟩, hS⟩
/-- One more column is led. -/
theorem RedW.leads {k : Nat} (h : RedW w base gs p c R n cap bs m lead) (hk : k < 32) (hn : k ∉ lead) :
    RedW ((w.setCell ⟨gs, 3, none⟩ (.int .i64 ((lead.length : Int) + 1))).setCell ⟨gs, 4 + k, none⟩ (.int .i64 ((lead.length : Int) + 1))) base gs p c R n cap bs m (lead ++ [k]) ∧ Step gs w ((w.setCell ⟨gs, 3, none⟩ (.int .i64 ((lead.length : Int) + 1))).setCell ⟨gs, 4 + k, none⟩ (.int .i64 ((lead.length : Int) + 1))) := by
  have hS := ((Step.refl gs w).set 3 (.int .i64 ((lead.length : Int) + 1))).set (4 + k) (.int .i64 ((lead.length : Int) + 1))
  have hB := (h.blk.set_ 3 (.int .i64 ((lead.length : Int) + 1))).set_ (4 + k) (.int .i64 ((lead.length : Int) + 1))
  rw [redC_set_rank, redC_set_ld, ldL_set lead hk hn, show ((lead.length : Int) + 1) = ((lead ++ [k]).length : Int) by simp] at hB
  rw [show ((lead.length : Int) + 1) = ((lead ++ [k]).length : Int) by simp] at hS ⊢
  refine ⟨⟨hB, World.ownsRow.kept h.out hS ?_, h.rws.kept hS (fun j hj e => ?_), h.ln, h.lo⟩, hS⟩
  · rcases hb : (Value.slice R n cap).ownBlock with _ | g
    · exact .inl rfl
    · refine .inr (fun e => ?_)
      exact own_blk_ne h.out h.blk (fun e => types3.1 e.symm) (by rw [hb, ← e])
  · injection e with e
    have h0 : 0 < n := by have := h.ln; omega
    obtain ⟨go, _, _, _, _, hbn, _⟩ := h.form h0
    exact (hbn j (by rw [← h.ln]; exact hj)).2 e.symm
end

theorem scale_all (p v : Int) (row : List Int) : zipI (fun t _ => mulP p t v) row row = scaleP p v row := by
  unfold zipI scaleP
  rw [List.zipWith_self]
theorem elimM_set_at {p : Int} {k r n : Nat} {m : List (List Int)} (hn : n < m.length) (h : n ≠ r) (hne : cf (m.getD n []) k ≠ 0) : (elimM p k r n m).set n (zipI (timesP p (subP p 0 (cf (m.getD n []) k))) (m.getD n []) (m.getD r [])) = elimM p k r (n + 1) m := by
  rw [← elimM_step p k r n m hn h]
  congr 1
  unfold elimR; rw [if_neg hne]

/-- What is left of a step of the reduction. -/
def LeadPost (base gs : Nat) (p : Int) (c : Nat) (R : Option Addr) (n cap k : Nat) (m : List (List Int)) (w : World) (e : Ending) (w' : World) : Prop :=
  ∃ bs' m' lead', e = .returned (.tuple #[]) ∧ RedW w' base gs p c R n cap bs' m' lead' ∧ RInv p (k + 1) lead' m' ∧ Elts p (c + 1) m' ∧ (∀ z, Ker p (c + 1) m z ↔ Ker p (c + 1) m' z) ∧ Below base w w'

set_option maxHeartbeats 800000 in
set_option maxRecDepth 100000 in
/-- No row can lead. -/
theorem lead_no (base gs : Nat) (p : Int) (c : Nat) (R : Option Addr) (n cap : Nat) (bs : List (Nat × Nat)) (m : List (List Int)) (lead : List Nat) (k r : Nat) (w : World)
    (h : RedW w base gs p c R n cap bs m lead) (hI : RInv p k lead m) (he : Elts p (c + 1) m) (hk : k < c) (hc : c ≤ 32) (hn : n ≤ 32) (hr : Hid (lead.length = r)) (hrn : r ≤ n) (hz : Hid (∀ q, r ≤ q → q < n → mx m q k = 0)) :
    Calls Tryz.prog 184 #[.pointer (some ⟨gs, 0, none⟩), .int .i64 k] w (LeadPost base gs p c R n cap k m w) := by
  have hfin : Hid (LeadPost base gs p c R n cap k m w (.returned (.tuple #[])) w) := Lib.hid ⟨bs, m, lead, rfl, h, hI.skip (fun i h1 h2 => hz.out i (by rw [← hr.out]; exact h1) (by rw [← h.ln]; exact h2)), he, fun z => Iff.rfl, Below.refl _ _⟩
  have hc2 : w.cell? ⟨gs, 2, none⟩ = some (.slice R n cap) := (h.blk.cell 2).trans (redC_2 _ _ _ _ _)
  have hc3 : w.cell? ⟨gs, 3, none⟩ = some (.int .i64 r) := by rw [← hr.out]; exact (h.blk.cell 3).trans (redC_3 _ _ _ _ _)
  have hk0 : (0 : Int) ≤ (k : Int) := by omega
  have hkc : (k : Int) < ((c + 1 : Nat) : Int) := by omega
  have hkc2 : k < c + 1 := by omega
  have hF : 0 < n → ∃ go, R = some ⟨go, 0, none⟩ ∧ ∀ q, q < n → w.cell? ⟨go, q, none⟩ = some (.slice (some ⟨(bs.getD q (0, 0)).1, 0, none⟩) (c + 1) (bs.getD q (0, 0)).2) := fun h0 => by
    obtain ⟨go, h1, _, _, _, _, h2⟩ := h.form h0
    exact ⟨go, h1, fun q hq => (h2 q hq).1⟩
  have HF := Lib.hid hF
  have HC : Hid (∀ q, q < n → w.cell? ⟨(bs.getD q (0, 0)).1, k, none⟩ = some (.int .i64 (mx m q k))) := Lib.hid fun q hq => (h.rws.own q (by rw [h.ln]; exact hq)).cellAt (by omega)
  obtain ⟨c1, hc1⟩ : ∃ c1 : Nat, c + 1 = c1 := ⟨_, rfl⟩
  rw [hc1] at hkc hkc2 HF
  clear hF h hI he hr hc1
  go_enter Tryz.func184, Tryz.ntmps184
  go_wp2
  go_loop [4] (fun v => ∃ q : Nat, r ≤ q ∧ q ≤ n ∧ v = .int .i64 q) (fun v => n - (intOf v).toNat)
  case atStart => exact ⟨r, Nat.le_refl _, hrn, rfl⟩
  case round =>
    obtain ⟨q, hq1, hq2, rfl⟩ := hrel
    by_cases hlt : q < n
    · obtain ⟨go, hRe, hrow⟩ := HF.out (by omega)
      have hrq := hrow q hlt
      have hcq := HC.out q hlt
      rw [hz.out q hq1 hlt] at hcq
      subst hRe
      obtain ⟨bq, hbq⟩ : ∃ b, (bs.getD q (0, 0)).1 = b := ⟨_, rfl⟩
      obtain ⟨cq, hcq2⟩ : ∃ b, (bs.getD q (0, 0)).2 = b := ⟨_, rfl⟩
      rw [hbq] at hrq hcq
      rw [hcq2] at hrq
      clear hrow hbq hcq2
      have h1 : (q : Int) < (n : Int) := by omega
      have h0 : (0 : Int) ≤ (q : Int) := by omega
      go_wp2
      go_round
      case rel => exact ⟨q + 1, by omega, by omega, by go_num⟩
      case measure => simp [intOf]; omega
    · obtain rfl : q = n := by omega
      go_wp2
      go_end0
      exact hfin.out
end Go.Proofs.YtmcgnpdfpfgfpaaGreatDoor
