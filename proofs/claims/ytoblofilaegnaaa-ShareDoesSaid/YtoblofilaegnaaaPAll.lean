/-
  What poly's Trim, Degree, Value, Add, Mul and Divide hand back for any arguments: the result or the error. Conditions: the lists read as their numbers.
-/
import Derived.Test.YtoblofilaegnaaaErrL
import Derived.Test.YtoblofilaegnaaaPolyT
import Derived.Test.YtoblofilaegnaaaPolyS
import Derived.Test.YtoblofilaegnaaaDivide
import Derived.Test.YtoblofilaegnaaaVAll
namespace Go.Proofs.Ytoblofilaegnaaa
open Go.RowKit
set_option linter.unusedVariables false

/-- A list, or the error. -/
def polyR (er : Int) (r : List Int) : List Int × Int := if er = 0 then (r, 0) else ([], er)
def numR (er v : Int) : Int × Int := if er = 0 then (v, 0) else (0, er)
theorem polyR_yes {er : Int} (r : List Int) (h : er = 0) : polyR er r = (r, 0) := by unfold polyR; rw [if_pos h]
theorem polyR_no {er : Int} (r : List Int) (h : ¬ er = 0) : polyR er r = ([], er) := by unfold polyR; rw [if_neg h]
theorem numR_yes {er : Int} (v : Int) (h : er = 0) : numR er v = (v, 0) := by unfold numR; rw [if_pos h]
theorem numR_no {er : Int} (v : Int) (h : ¬ er = 0) : numR er v = (0, er) := by unfold numR; rw [if_neg h]
/-- A product, or the error. -/
def mulR (p : Int) (xs ys : List Int) : List Int × Int := if errL p [xs, ys] = 0 then (if 0 < (trimL xs).length ∧ 0 < (trimL ys).length ∧ 513 < (trimL xs).length + (trimL ys).length then ([], 4) else (mulL p xs ys, 0)) else ([], errL p [xs, ys])
theorem openI {p er : Int} {w w' : World} {e : Ending} (h0 : ¬ er = 0) (h : OpenPost p er w e w') : e = .returned (.tuple #[.int .i64 0, .int .i64 er]) ∧ Below w.heap.size w w' := by
  unfold OpenPost at h; rwa [if_neg h0] at h
theorem openI0 {p : Int} {w w' : World} {e : Ending} (h : OpenPost p 0 w e w') : e = .returned (.tuple #[.int .i64 p, .int .i64 0]) ∧ Below w.heap.size w w' := h
set_option maxRecDepth 100000 in
theorem ptrim_all (p : Int) (A : Option Addr) (n c : Nat) (xs : List Int) (w : World) (hp64 : -9223372036854775808 ≤ p ∧ p ≤ 9223372036854775807) (h : Ints w w.heap.size A n xs) (hc : n ≤ c) (hn : n ≤ 17592186044416) :
    Calls Try.prog 42 #[.agg #[.int .i64 p], .slice A n c] w (VecPost (polyR (errL p [xs]) (trimL xs)) w) := by
  have hl := h.len
  by_cases h0 : errL p [xs] = 0
  · have h1 := errL_one h0
    rw [polyR_yes _ h0]
    refine (ptrim_ok p A n c xs w h1.1 h h1.2.1 hc (by omega)).mono ?_
    rintro e w' ⟨⟨A', c', rfl, hown⟩, hb⟩
    exact ⟨⟨A', _, c', rfl, hown⟩, hb⟩
  · obtain ⟨er, HER⟩ : ∃ er, Hid (errL p [xs] = er) := ⟨_, Lib.hid rfl⟩
    rw [HER.out] at h0 ⊢
    have hne : (er != 0) = true := by simpa using h0
    have H0 := Lib.hid h0
    clear h0 hl
    go_enter Try.func42, Try.ntmps42
    go_wp2_with (go_at_call 129; refine (open_any p _ 1 1 [xs] _ hp64 (by exact Mat.one _ A n c xs 22 _ (by simp) (h.upto (bbox _)) hn) (by omega)).mono ?_; rw [HER.out]; intro e w1 ho; obtain ⟨rfl, hb1⟩ := openI H0.out ho
                 clear ho
                 have hbb1 := bnext (ballocs (bbox _) _) hb1)
    go_ret2
    exact ⟨⟨none, 0, 0, by (rw [polyR_no _ H0.out]; try rfl), by rw [polyR_no _ H0.out]; exact OwnI.nil_⟩, hbb1⟩

set_option maxRecDepth 100000 in
theorem pdeg_all (p : Int) (A : Option Addr) (n c : Nat) (xs : List Int) (w : World) (hp64 : -9223372036854775808 ≤ p ∧ p ≤ 9223372036854775807) (h : Ints w w.heap.size A n xs) (hc : n ≤ c) (hn : n ≤ 17592186044416) :
    Calls Try.prog 44 #[.agg #[.int .i64 p], .slice A n c] w (ValPost (numR (errL p [xs]) ((tn xs n : Int) - 1)) w) := by
  have hl := h.len
  by_cases h0 : errL p [xs] = 0
  · have h1 := errL_one h0
    rw [numR_yes _ h0]
    exact pdeg_ok p A n c xs w h1.1 h h1.2.1 hc (by omega)
  · obtain ⟨er, HER⟩ : ∃ er, Hid (errL p [xs] = er) := ⟨_, Lib.hid rfl⟩
    rw [HER.out] at h0 ⊢
    have hne : (er != 0) = true := by simpa using h0
    have H0 := Lib.hid h0
    clear h0 hl
    go_enter Try.func44, Try.ntmps44
    go_wp2_with (go_at_call 129; refine (open_any p _ 1 1 [xs] _ hp64 (by exact Mat.one _ A n c xs 22 _ (by simp) (h.upto (bbox _)) hn) (by omega)).mono ?_; rw [HER.out]; intro e w1 ho; obtain ⟨rfl, hb1⟩ := openI H0.out ho
                 clear ho
                 have hbb1 := bnext (ballocs (bbox _) _) hb1)
    go_ret2
    exact ⟨by (rw [numR_no _ H0.out]; try rfl), hbb1⟩

set_option maxRecDepth 100000 in
theorem pvalue_all (p x : Int) (A : Option Addr) (n c : Nat) (xs : List Int) (w : World) (hp64 : -9223372036854775808 ≤ p ∧ p ≤ 9223372036854775807) (h : Ints w w.heap.size A n xs) (hn : n ≤ 17592186044416) :
    Calls Try.prog 46 #[.agg #[.int .i64 p], .slice A n c, .int .i64 x] w (ValPost (numR (errL p [xs, [x]]) (valueP p x xs)) w) := by
  have hl := h.len
  by_cases h0 : errL p [xs, [x]] = 0
  · have h1 := errL_two h0
    rw [numR_yes _ h0]
    exact pvalue_ok p x A n c xs w h1.1 h h1.2.1.1 (by have := allP_iff.1 h1.2.2.1 x List.mem_cons_self; exact this) (by omega)
  · obtain ⟨er, HER⟩ : ∃ er, Hid (errL p [xs, [x]] = er) := ⟨_, Lib.hid rfl⟩
    rw [HER.out] at h0 ⊢
    have hne : (er != 0) = true := by simpa using h0
    have H0 := Lib.hid h0
    clear h0 hl
    go_enter Try.func46, Try.ntmps46
    go_wp2_with (go_at_call 129; refine (open_any p _ 2 2 [xs, [x]] _ hp64 (by exact Mat.two _ A _ n 1 c 1 xs [x] 22 _ (by simp) ((h.upto (bbox _)).upto (bbox _)) (by exact Ints.oneAt _ x 3 _ (by simp)) hn (by omega)) (by omega)).mono ?_; rw [HER.out]; intro e w1 ho; obtain ⟨rfl, hb1⟩ := openI H0.out ho
                 clear ho
                 have hbb1 := bnext (ballocs (ballocs (bbox _) _) _) hb1)
    go_ret2
    exact ⟨by (rw [numR_no _ H0.out]; try rfl), hbb1⟩

set_option maxRecDepth 100000 in
theorem padd_all (p : Int) (A B : Option Addr) (n m c d : Nat) (xs ys : List Int) (w : World) (hp64 : -9223372036854775808 ≤ p ∧ p ≤ 9223372036854775807) (h : Ints w w.heap.size A n xs) (h2 : Ints w w.heap.size B m ys) (hc : n ≤ c) (hd : m ≤ d) (hn : n ≤ 17592186044416) (hm : m ≤ 17592186044416) :
    Calls Try.prog 36 #[.agg #[.int .i64 p], .slice A n c, .slice B m d] w (VecPost (polyR (errL p [xs, ys]) (addL p xs ys)) w) := by
  have hl := h.len
  have hl2 := h2.len
  by_cases h0 : errL p [xs, ys] = 0
  · have h1 := errL_two h0
    rw [polyR_yes _ h0]
    refine (padd_ok p A B n m c d xs ys w h1.1 h h2 h1.2.1.1 h1.2.2.1 (by omega) (by omega)).mono ?_
    rintro e w' ⟨⟨A', c', rfl, hown⟩, hb⟩
    exact ⟨⟨A', _, c', rfl, hown⟩, hb⟩
  · obtain ⟨er, HER⟩ : ∃ er, Hid (errL p [xs, ys] = er) := ⟨_, Lib.hid rfl⟩
    have HE := Lib.hid (polyR_no (addL p xs ys) h0)
    rw [HER.out] at h0 HE
    have hne : (er != 0) = true := by simpa using h0
    have H0 := Lib.hid h0
    clear h0 hl hl2
    go_enter Try.func36, Try.ntmps36
    go_wp2_with (go_at_call 129; refine (open_any p _ 2 2 [xs, ys] _ hp64 (by exact Mat.two _ A B n m c d xs ys 22 _ (by simp) (h.upto (bbox _)) (h2.upto (bbox _)) hn hm) (by omega)).mono ?_; rw [HER.out]; intro e w1 ho; obtain ⟨rfl, hb1⟩ := openI H0.out ho
                 clear ho
                 have hbb1 := bnext (ballocs (bbox _) _) hb1)
    go_ret2
    exact ⟨⟨none, 0, 0, by (rw [HER.out, HE.out]; try rfl), by rw [HER.out, HE.out]; exact OwnI.nil_⟩, hbb1⟩

set_option maxRecDepth 100000 in
theorem pmul_all (p : Int) (A B : Option Addr) (n m c d : Nat) (xs ys : List Int) (w : World) (hp64 : -9223372036854775808 ≤ p ∧ p ≤ 9223372036854775807) (h : Ints w w.heap.size A n xs) (h2 : Ints w w.heap.size B m ys) (hc : n ≤ c) (hd : m ≤ d) (hn : n ≤ 17592186044416) (hm : m ≤ 17592186044416) :
    Calls Try.prog 38 #[.agg #[.int .i64 p], .slice A n c, .slice B m d] w (VecPost (mulR p xs ys) w) := by
  have hl := h.len
  have hl2 := h2.len
  by_cases h0 : errL p [xs, ys] = 0
  · have h1 := errL_two h0
    by_cases hlim : 0 < (trimL xs).length ∧ 0 < (trimL ys).length ∧ 513 < (trimL xs).length + (trimL ys).length
    · have HE : Hid (mulR p xs ys = ([], 4)) := Lib.hid (by unfold mulR; rw [if_pos h0, if_pos hlim])
      have HS : Hid (tn xs n = (trimL xs).length) := Lib.hid (by rw [trimL_len, hl])
      have HT : Hid (tn ys m = (trimL ys).length) := Lib.hid (by rw [trimL_len, hl2])
      have hs0 : (trimL xs).length ≤ 512 := by rw [← HS.out]; have := tn_le xs n; omega
      have ht0 : (trimL ys).length ≤ 512 := by rw [← HT.out]; have := tn_le ys m; omega
      obtain ⟨s, hs⟩ : ∃ s, (trimL xs).length = s := ⟨_, rfl⟩
      obtain ⟨t, ht⟩ : ∃ t, (trimL ys).length = t := ⟨_, rfl⟩
      rw [hs] at HS hs0 hlim
      rw [ht] at HT ht0 hlim
      have H0 := Lib.hid h0
      have hsb : ((s : Int) == 0) = false := by simp; omega
      have htb : ((t : Int) == 0) = false := by simp; omega
      have hst : (512 : Int) < (s : Int) + (t : Int) - 1 := by omega
      clear h0 hl hl2 hs ht h1
      go_enter Try.func38, Try.ntmps38
      go_wp2_with (first
        | (go_at_call 129; refine (open_any p _ 2 2 [xs, ys] _ hp64 (by exact Mat.two _ A B n m c d xs ys 22 _ (by simp) (h.upto (bbox _)) (h2.upto (bbox _)) hn hm) (by omega)).mono ?_; rw [H0.out]; intro e w1 ho; obtain ⟨rfl, hb1⟩ := openI0 ho
           clear ho
           have hbb1 := bnext (ballocs (bbox _) _) hb1)
        | (go_at_call 133; (with_reducible refine (trim_any A n c xs _ (h.upto hbb1) hc (by omega)).mono ?_); rintro e w2 ⟨rfl, rfl⟩
           rw [HS.out])
        | (go_at_call 133; (refine (trim_any B m d ys _ (h2.upto hbb1) hd (by omega)).mono ?_); rintro e w2 ⟨rfl, rfl⟩
           rw [HT.out]))
      go_ret2
      exact ⟨⟨none, 0, 0, by (rw [HE.out]; try rfl), by rw [HE.out]; exact OwnI.nil_⟩, hbb1⟩
    · have HE : Hid (mulR p xs ys = (mulL p xs ys, 0)) := Lib.hid (by unfold mulR; rw [if_pos h0, if_neg hlim])
      rw [HE.out]
      by_cases hz : (trimL xs).length = 0 ∨ (trimL ys).length = 0 ∨ (trimL xs).length + (trimL ys).length ≤ 513
      · have hs0 : tn xs n ≤ 512 := by have := tn_le xs n; omega
        have ht0 : tn ys m ≤ 512 := by have := tn_le ys m; omega
        have hsx : tn xs n = (trimL xs).length := by rw [trimL_len, hl]
        have hsy : tn ys m = (trimL ys).length := by rw [trimL_len, hl2]
        refine (pmul_gen p A B n m c d xs ys w h1.1 h h2 h1.2.1.1 h1.2.2.1 hc hd (by omega) (by omega) (by omega)).mono ?_
        rintro e w' ⟨⟨A', c', rfl, hown⟩, hb⟩
        exact ⟨⟨A', _, c', rfl, hown⟩, hb⟩
      · exfalso; omega
  · obtain ⟨er, HER⟩ : ∃ er, Hid (errL p [xs, ys] = er) := ⟨_, Lib.hid rfl⟩
    have HE := Lib.hid (show mulR p xs ys = ([], errL p [xs, ys]) by unfold mulR; rw [if_neg h0])
    rw [HER.out] at h0 HE
    have hne : (er != 0) = true := by simpa using h0
    have H0 := Lib.hid h0
    clear h0 hl hl2
    go_enter Try.func38, Try.ntmps38
    go_wp2_with (go_at_call 129; refine (open_any p _ 2 2 [xs, ys] _ hp64 (by exact Mat.two _ A B n m c d xs ys 22 _ (by simp) (h.upto (bbox _)) (h2.upto (bbox _)) hn hm) (by omega)).mono ?_; rw [HER.out]; intro e w1 ho; obtain ⟨rfl, hb1⟩ := openI H0.out ho
                 clear ho
                 have hbb1 := bnext (ballocs (bbox _) _) hb1)
    go_ret2
    exact ⟨⟨none, 0, 0, by (rw [HE.out]; try rfl), by rw [HE.out]; exact OwnI.nil_⟩, hbb1⟩

set_option maxRecDepth 100000 in
theorem pdivide_all (p : Int) (A B : Option Addr) (n m c d : Nat) (xs ys : List Int) (w : World) (hp64 : -9223372036854775808 ≤ p ∧ p ≤ 9223372036854775807) (h : Ints w w.heap.size A n xs) (h2 : Ints w w.heap.size B m ys) (hc : n ≤ c) (hd : m ≤ d) (hn : n ≤ 17592186044416) (hm : m ≤ 17592186044416) :
    Calls Try.prog 40 #[.agg #[.int .i64 p], .slice A n c, .slice B m d] w (DivPost p xs ys w) := by
  have hl := h.len
  have hl2 := h2.len
  by_cases h0 : errL p [xs, ys] = 0
  · have h1 := errL_two h0
    by_cases hz : tn ys m = 0
    · refine (pdivide_zero p A B n m c d xs ys w h1.1 h h2 h1.2.1.1 h1.2.2.1 hc hd (by omega) (by omega) hz).mono ?_
      rintro e w' ⟨rfl, hb⟩
      exact .inr (.inl ⟨h0, by rw [trimL_len, hl2]; exact hz, rfl, hb⟩)
    · refine (pdivide_ok p A B n m c d xs ys w h1.1 h h2 h1.2.1.1 h1.2.2.1 hc hd (by omega) (by omega) (by omega)).mono ?_
      rintro e w' ⟨⟨Q, R, A1, c1, A2, c2, rfl, ho1, ho2, hD, _⟩, hb⟩
      exact .inr (.inr ⟨h0, by rw [trimL_len, hl2]; omega, A1, A2, _, _, c1, c2, Q, R, rfl, ho1, ho2, hD, hb⟩)
  · obtain ⟨er, HER⟩ : ∃ er, Hid (errL p [xs, ys] = er) := ⟨_, Lib.hid rfl⟩
    have h00 := Lib.hid h0
    rw [HER.out] at h0
    have hne : (er != 0) = true := by simpa using h0
    have H0 := Lib.hid h0
    clear h0 hl hl2
    go_enter Try.func40, Try.ntmps40
    go_wp2_with (go_at_call 129; refine (open_any p _ 2 2 [xs, ys] _ hp64 (by exact Mat.two _ A B n m c d xs ys 22 _ (by simp) (h.upto (bbox _)) (h2.upto (bbox _)) hn hm) (by omega)).mono ?_; rw [HER.out]; intro e w1 ho; obtain ⟨rfl, hb1⟩ := openI H0.out ho
                 clear ho
                 have hbb1 := bnext (ballocs (bbox _) _) hb1)
    refine bodyPost_ret (v := .tuple #[.slice none 0 0, .slice none 0 0, .int .i64 er]) (by simp [results, Try.results40, go_sem]) rfl (.inl ⟨h00.out, by rw [HER.out], hbb1⟩)
end Go.Proofs.Ytoblofilaegnaaa
