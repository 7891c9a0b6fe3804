/-
  What poly's Trim, Degree and Value hand back for valid arguments. Conditions: the lists read as their numbers, all of them elements.
-/
import Derived.Test.YtoblofilaegnaaaPoly1
namespace Go.Proofs.Ytoblofilaegnaaa
open Go.RowKit
set_option linter.unusedVariables false

/-- poly's Trim. -/
theorem ptrim_ok (p : Int) (A : Option Addr) (n c : Nat) (xs : List Int) (w : World) (hok : okP p = true) (h : Ints w w.heap.size A n xs) (hx : allP p xs = true) (hc : n ≤ c) (hn : n ≤ 512) :
    Calls Try.prog 42 #[.agg #[.int .i64 p], .slice A n c] w fun e w' => (∃ A' c', e = .returned (.tuple #[.slice A' (tn xs n) c', .int .i64 0]) ∧ OwnI w' w.heap.size 3 A' (tn xs n) c' (trimL xs)) ∧ Below w.heap.size w w' := by
  have HO := Lib.hid hok
  have HR : Hid (∀ r ∈ [xs], allP p r = true ∧ r.length ≤ 512) := Lib.hid fun r hr => by rw [List.mem_singleton.1 hr]; exact ⟨hx, by rw [h.len]; exact hn⟩
  clear hok hx
  obtain ⟨t, HT⟩ : ∃ t, Hid (tn xs n = t) := ⟨_, Lib.hid rfl⟩
  rw [HT.out]
  go_enter Try.func42, Try.ntmps42
  go_wp2_with (first
    | (go_at_call 129; (refine (open_ok p _ 1 1 [xs] _ HO.out (by exact Mat.one _ A n c xs 22 _ (by simp) (h.upto (bbox _)) (by omega)) (by omega) HR.out).mono ?_); rintro e w1 ⟨rfl, hb1⟩
       have hbb1 := bnext (ballocs (bbox _) _) hb1
       clear hb1)
    | (go_at_call 130; refine (own_any A n c xs _ (h.upto hbb1) hc (by omega)).mono ?_; rintro e w2 ⟨⟨A2, c2, rfl, hown2⟩, hb2⟩
       rw [HT.out] at hown2
       rw [HT.out]
       have hbb2 := bnext hbb1 hb2))
  go_ret2
  exact ⟨⟨A2, c2, rfl, hown2.base hbb1.size⟩, hbb2⟩

/-- poly's Degree. -/
theorem pdeg_ok (p : Int) (A : Option Addr) (n c : Nat) (xs : List Int) (w : World) (hok : okP p = true) (h : Ints w w.heap.size A n xs) (hx : allP p xs = true) (hc : n ≤ c) (hn : n ≤ 512) :
    Calls Try.prog 44 #[.agg #[.int .i64 p], .slice A n c] w fun e w' => e = .returned (.tuple #[.int .i64 ((tn xs n : Nat) - 1), .int .i64 0]) ∧ Below w.heap.size w w' := by
  have HO := Lib.hid hok
  have HR : Hid (∀ r ∈ [xs], allP p r = true ∧ r.length ≤ 512) := Lib.hid fun r hr => by rw [List.mem_singleton.1 hr]; exact ⟨hx, by rw [h.len]; exact hn⟩
  have ht := tn_le xs n
  clear hok hx
  obtain ⟨t, HT⟩ : ∃ t, Hid (tn xs n = t) := ⟨_, Lib.hid rfl⟩
  rw [HT.out] at ht
  rw [HT.out]
  go_enter Try.func44, Try.ntmps44
  go_wp2_with (first
    | (go_at_call 129; (refine (open_ok p _ 1 1 [xs] _ HO.out (by exact Mat.one _ A n c xs 22 _ (by simp) (h.upto (bbox _)) (by omega)) (by omega) HR.out).mono ?_); rintro e w1 ⟨rfl, hb1⟩
       have hbb1 := bnext (ballocs (bbox _) _) hb1
       clear hb1)
    | (go_at_call 133; refine (trim_any A n c xs _ (h.upto hbb1) hc (by omega)).mono ?_; rintro e w2 ⟨rfl, rfl⟩
       rw [HT.out]))
  go_ret2
  exact ⟨rfl, hbb1⟩

/-- poly's Value. -/
theorem pvalue_ok (p x : Int) (A : Option Addr) (n c : Nat) (xs : List Int) (w : World) (hok : okP p = true) (h : Ints w w.heap.size A n xs) (hx : allP p xs = true) (hx2 : 0 ≤ x ∧ x < p) (hn : n ≤ 512) :
    Calls Try.prog 46 #[.agg #[.int .i64 p], .slice A n c, .int .i64 x] w fun e w' => e = .returned (.tuple #[.int .i64 (valueP p x xs), .int .i64 0]) ∧ Below w.heap.size w w' := by
  have HO := Lib.hid hok
  have HX := Lib.hid hx
  have hp := okP_pos hok
  have HR : Hid (∀ r ∈ [xs, [x]], allP p r = true ∧ r.length ≤ 512) := Lib.hid fun r hr => by
    simp only [List.mem_cons, List.not_mem_nil, or_false] at hr
    rcases hr with rfl | rfl
    · exact ⟨hx, by rw [h.len]; exact hn⟩
    · exact ⟨allP_iff.2 (by simpa using hx2), by simp⟩
  clear hok hx
  obtain ⟨v, HV⟩ : ∃ v, Hid (valueP p x xs = v) := ⟨_, Lib.hid rfl⟩
  rw [HV.out]
  go_enter Try.func46, Try.ntmps46
  go_wp2_with (first
    | (go_at_call 129; (refine (open_ok p _ 2 2 [xs, [x]] _ HO.out (by exact Mat.two _ A _ n 1 c 1 xs [x] 22 _ (by simp) ((h.upto (bbox _)).upto (bbox _)) (Ints.oneAt _ x _ _ (by simp)) (by omega) (by omega)) (by omega) HR.out).mono ?_); rintro e w1 ⟨rfl, hb1⟩
       have hbb1 := bnext (ballocs (ballocs (bbox _) _) _) hb1
       clear hb1)
    | (go_at_call 138; refine (value_any p x A n c xs _ hp hx2 (h.upto hbb1) HX.out (by omega)).mono ?_; rintro e w2 ⟨rfl, hb2⟩
       rw [HV.out]
       have hbb2 := bnext hbb1 hb2))
  go_ret2
  exact ⟨rfl, hbb2⟩
end Go.Proofs.Ytoblofilaegnaaa
