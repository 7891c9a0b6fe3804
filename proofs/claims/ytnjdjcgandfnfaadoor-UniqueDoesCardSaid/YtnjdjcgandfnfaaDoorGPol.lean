/-
  Words for memory and contracts of small functions of the second form. Conditions: those of each lemma.
-/
import Derived.Test.YtnjdjcgandfnfaaDoorRPre
import Derived.Test.YtnjdjcgandfnfaaDoorPlain
import Derived.Test.YtnjdjcgandfnfaaDoorGPoly
/-! PolR -/
namespace Go.Proofs.YtnjdjcgandfnfaaDoor
open Go.RowKit
set_option linter.unusedVariables false

/-- What a function leaves that makes a list or gives an error. -/
def VecPost (r : List Int × Int) (w : World) (e : Ending) (w' : World) : Prop :=
  (∃ A' n' c', e = .returned (.tuple #[.slice A' n' c', .int .i64 r.2]) ∧ OwnI w' w.heap.size 3 A' n' c' r.1) ∧ Below w.heap.size w w'
/-- What a function leaves that gives a number or an error. -/
def ValPost (r : Int × Int) (w : World) (e : Ending) (w' : World) : Prop := e = .returned (.tuple #[.int .i64 r.1, .int .i64 r.2]) ∧ Below w.heap.size w w'
/-- A list, or the error. -/
def polyR (er : Int) (r : List Int) : List Int × Int := if er = 0 then (r, 0) else ([], er)
def numR (er v : Int) : Int × Int := if er = 0 then (v, 0) else (0, er)
theorem polyR_yes {er : Int} (r : List Int) (h : er = 0) : polyR er r = (r, 0) := by unfold polyR; rw [if_pos h]
theorem polyR_no {er : Int} (r : List Int) (h : ¬ er = 0) : polyR er r = ([], er) := by unfold polyR; rw [if_neg h]
theorem numR_yes {er : Int} (v : Int) (h : er = 0) : numR er v = (v, 0) := by unfold numR; rw [if_pos h]
theorem numR_no {er : Int} (v : Int) (h : ¬ er = 0) : numR er v = (0, er) := by unfold numR; rw [if_neg h]
theorem openI {p er : Int} {w w' : World} {e : Ending} (h0 : ¬ er = 0) (h : OpenPost p er w e w') : e = .returned (.tuple #[.int .i64 0, .int .i64 er]) ∧ Below w.heap.size w w' := by
  unfold OpenPost at h; rwa [if_neg h0] at h
theorem openI0 {p : Int} {w w' : World} {e : Ending} (h : OpenPost p 0 w e w') : e = .returned (.tuple #[.int .i64 p, .int .i64 0]) ∧ Below w.heap.size w w' := h
end Go.Proofs.YtnjdjcgandfnfaaDoor

/-! PDeg -/
namespace Go.Proofs.YtnjdjcgandfnfaaDoor
open Go.RowKit
set_option linter.unusedVariables false

/-- poly's Degree. -/
theorem pdeg_ok (p : Int) (A : Option Addr) (n c : Nat) (xs : List Int) (w : World) (hok : okP p = true) (h : Ints w w.heap.size A n xs) (hx : allP p xs = true) (hc : n ≤ c) (hn : n ≤ 512) :
    Calls Tryd.prog 43 #[.agg #[.int .i64 p], .slice A n c] w fun e w' => e = .returned (.tuple #[.int .i64 ((tn xs n : Nat) - 1), .int .i64 0]) ∧ Below w.heap.size w w' := by
  have HO := Lib.hid hok
  have HR : Hid (∀ r ∈ [xs], allP p r = true ∧ r.length ≤ 512) := Lib.hid fun r hr => by rw [List.mem_singleton.1 hr]; exact ⟨hx, by rw [h.len]; exact hn⟩
  have ht := tn_le xs n
  clear hok hx
  obtain ⟨t, HT⟩ : ∃ t, Hid (tn xs n = t) := ⟨_, Lib.hid rfl⟩
  rw [HT.out] at ht
  rw [HT.out]
  go_enter Tryd.func43, Tryd.ntmps43
  go_wp2_with (first
    | (go_at_call 68; (refine (open_ok p _ 1 1 [xs] _ HO.out (by exact Mat.one _ A n c xs 22 _ (by simp) (h.upto (bbox _)) (by omega)) (by omega) HR.out).mono ?_); rintro e w1 ⟨rfl, hb1⟩
       have hbb1 := bnext (ballocs (bbox _) _) hb1
       clear hb1)
    | (go_at_call 69; refine (trim_any A n c xs _ (h.upto hbb1) hc (by omega)).mono ?_; rintro e w2 ⟨rfl, rfl⟩
       rw [HT.out]))
  go_ret2
  exact ⟨rfl, hbb1⟩
set_option maxRecDepth 100000 in
theorem pdeg_all (p : Int) (A : Option Addr) (n c : Nat) (xs : List Int) (w : World) (hp64 : -9223372036854775808 ≤ p ∧ p ≤ 9223372036854775807) (h : Ints w w.heap.size A n xs) (hc : n ≤ c) (hn : n ≤ 17592186044416) :
    Calls Tryd.prog 43 #[.agg #[.int .i64 p], .slice A n c] w (ValPost (numR (errL p [xs]) ((tn xs n : Int) - 1)) w) := by
  have hl := h.len
  by_cases h0 : errL p [xs] = 0
  · have h1 := errL_one h0
    rw [numR_yes _ h0]
    exact pdeg_ok p A n c xs w h1.1 h h1.2.1 hc (by omega)
  · obtain ⟨er, HER⟩ : ∃ er, Hid (errL p [xs] = er) := ⟨_, Lib.hid rfl⟩
    rw [HER.out] at h0 ⊢
    have hne : (er != 0) = true := by simpa using h0
    have H0 := Lib.hid h0
    clear h0 hl
    go_enter Tryd.func43, Tryd.ntmps43
    go_wp2_with (go_at_call 68; refine (open_any p _ 1 1 [xs] _ hp64 (by exact Mat.one _ A n c xs 22 _ (by simp) (h.upto (bbox _)) hn) (by omega)).mono ?_; rw [HER.out]; intro e w1 ho; obtain ⟨rfl, hb1⟩ := openI H0.out ho
                 clear ho
                 have hbb1 := bnext (ballocs (bbox _) _) hb1)
    go_ret2
    exact ⟨by (rw [numR_no _ H0.out]; try rfl), hbb1⟩
end Go.Proofs.YtnjdjcgandfnfaaDoor

/-! ItpP -/
namespace Go.Proofs.YtnjdjcgandfnfaaDoor
open Go.RowKit
set_option linter.unusedVariables false

/-- No number stands twice. -/
def Dist (us : List Int) : Prop := ∀ j k, j < k → k < us.length → us.getD j 0 ≠ us.getD k 0
/-- What Interpolate leaves: the error of the lists, or of a point that is there twice, or the polynomial. -/
def ItpPost (p : Int) (us ys : List Int) (w : World) (e : Ending) (w' : World) : Prop :=
  (¬ errL p [us, ys] = 0 ∧ e = .returned (.tuple #[.slice none 0 0, .int .i64 (errL p [us, ys])]) ∧ Below w.heap.size w w') ∨
  (errL p [us, ys] = 0 ∧ ¬ Dist us ∧ e = .returned (.tuple #[.slice none 0 0, .int .i64 7]) ∧ Below w.heap.size w w') ∨
  (errL p [us, ys] = 0 ∧ Dist us ∧ ∃ (R : List Int) (A' : Option Addr) (c' : Nat), e = .returned (.tuple #[.slice A' R.length c', .int .i64 0]) ∧ OwnI w' w.heap.size 3 A' R.length c' R ∧ Through p us ys R ∧ Below w.heap.size w w')
theorem Dist.take_succ {us : List Int} {j : Nat} (hj : j < us.length) (h : Dist (us.take j)) (hn : us.getD j 0 ∉ us.take j) : Dist (us.take (j + 1)) := by
  intro a b hab hb
  rw [List.length_take] at hb
  have ga : ∀ i, i < j + 1 → (us.take (j + 1)).getD i 0 = us.getD i 0 := fun i hi => by rw [List.getD_eq_getElem?_getD, List.getElem?_take, if_pos hi, ← List.getD_eq_getElem?_getD]
  have gb : ∀ i, i < j → (us.take j).getD i 0 = us.getD i 0 := fun i hi => by rw [List.getD_eq_getElem?_getD, List.getElem?_take, if_pos hi, ← List.getD_eq_getElem?_getD]
  rw [ga a (by omega), ga b (by omega)]
  by_cases hbj : b = j
  · subst hbj
    intro e
    apply hn
    rw [← e, ← gb a hab]
    rw [List.getD_eq_getElem?_getD, List.getElem?_eq_getElem (by rw [List.length_take]; omega)]
    exact List.getElem_mem _
  · have := h a b hab (by rw [List.length_take]; omega)
    rwa [gb a (by omega), gb b (by omega)] at this
end Go.Proofs.YtnjdjcgandfnfaaDoor
