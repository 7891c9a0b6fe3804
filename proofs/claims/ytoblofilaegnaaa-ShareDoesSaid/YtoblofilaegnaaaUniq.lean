/-
  Quotients and interpolations have one answer for given arguments, whoever reckons them. No program in sight. No conditions.
-/
import Derived.Test.YtoblofilaegnaaaRItp
import Derived.Test.YtoblofilaegnaaaRDiv
import Derived.Test.YtoblofilaegnaaaPlain
import Derived.Test.YtoblofilaegnaaaRAll
namespace Go.Proofs.Ytoblofilaegnaaa
open Go.RowKit
set_option linter.unusedVariables false

theorem DivOf.qlen {p : Int} (hok : okP p = true) {a b q r : List Int} (hb : allP p b = true) (h : DivOf p a b q r) : q.length ≤ a.length := by
  have hp := (okP_pos hok).1
  cases hql : q.length with
  | zero => omega
  | succ i =>
    have hln := h.ln
    rw [← trimL_len] at hln
    obtain ⟨j, hj⟩ : ∃ j, (trimL b).length = j + 1 := ⟨(trimL b).length - 1, by omega⟩
    have h1 := h.eq (i + j)
    rw [cf_out (l := r) (by omega), ← conv_trim q b, h.tq.trimL, conv_last hql hj, Int.add_zero] at h1
    rcases Nat.lt_or_ge (i + j) a.length with h2 | h2
    · omega
    · rw [cf_out (l := a) h2] at h1
      exfalso
      rcases Cong.mul_zero hok h1 with h3 | h3
      · exact h.tq i hql ((Cong.elt_zero (cf_in hp h.aq i)).1 h3)
      · exact trimL_trimd b j hj ((Cong.elt_zero (cf_in hp (trimL_allP hb) j)).1 h3)

/-- A quotient and a remainder, or an error, somewhere. -/
def DivP (q r : List Int) (er : Int) (w : World) (e : Ending) (w' : World) : Prop :=
  ∃ (Q R : Option Addr) (nq nr cq cr : Nat), e = .returned (.tuple #[.slice Q nq cq, .slice R nr cr, .int .i64 er]) ∧ Ints w' w'.heap.size Q nq q ∧ Ints w' w'.heap.size R nr r ∧ nq ≤ 17592186044416 ∧ nr ≤ 17592186044416 ∧ Below w.heap.size w w'
theorem div_one (p : Int) (xs ys : List Int) : ∃ (q r : List Int) (er : Int), Hid (∀ w e w', DivPost p xs ys w e w' → DivP q r er w e w') := by
  by_cases h0 : errL p [xs, ys] = 0
  · by_cases hz : (trimL ys).length = 0
    · refine ⟨[], [], 10, Lib.hid ?_⟩
      rintro w e w' (⟨h, _⟩ | ⟨_, _, rfl, hb⟩ | ⟨_, h, _⟩)
      · exact absurd h0 h
      · exact ⟨none, none, 0, 0, 0, 0, rfl, Ints.nil_, Ints.nil_, by omega, by omega, hb⟩
      · omega
    · by_cases hex : ∃ q r, DivOf p xs ys q r
      · obtain ⟨q, r, hD⟩ := hex
        refine ⟨q, r, 0, Lib.hid ?_⟩
        rintro w e w' (⟨h, _⟩ | ⟨_, h, _⟩ | ⟨_, _, Q, R, nq, nr, cq, cr, q2, r2, rfl, hq, hr, hD2, hb⟩)
        · exact absurd h0 h
        · exact absurd h hz
        · have h1 := errL_two h0
          obtain ⟨rfl, rfl⟩ := DivOf.unique h1.1 h1.2.2.1 hD hD2
          have l1 := hq.len
          have l2 := hr.len
          have l3 := hD.qlen h1.1 h1.2.2.1
          have l4 := hD.ln
          have l5 := tn_le ys ys.length
          exact ⟨Q, R, nq, nr, cq, cr, rfl, hq.ints, hr.ints, by omega, by omega, hb⟩
      · refine ⟨[], [], 0, Lib.hid ?_⟩
        rintro w e w' (⟨h, _⟩ | ⟨_, h, _⟩ | ⟨_, _, Q, R, nq, nr, cq, cr, q2, r2, rfl, hq, hr, hD2, hb⟩)
        · exact absurd h0 h
        · exact absurd h hz
        · exact absurd ⟨_, _, hD2⟩ hex
  · refine ⟨[], [], errL p [xs, ys], Lib.hid ?_⟩
    rintro w e w' (⟨_, rfl, hb⟩ | ⟨h, _⟩ | ⟨h, _⟩)
    · exact ⟨none, none, 0, 0, 0, 0, rfl, Ints.nil_, Ints.nil_, by omega, by omega, hb⟩
    · exact absurd h h0
    · exact absurd h h0
theorem divE {p : Int} {xs ys q r : List Int} {er : Int} {P : Program} {f : FuncId} {args : Array Value} {w : World} (hr : Hid (∀ w e w', DivPost p xs ys w e w' → DivP q r er w e w')) (h : Calls P f args w (DivPost p xs ys w)) : Calls P f args w (DivP q r er w) :=
  h.mono fun e w' hh => hr.out w e w' hh

/-- A list, or an error, somewhere. -/
def LstP (r : List Int) (er : Int) (w : World) (e : Ending) (w' : World) : Prop :=
  ∃ (R : Option Addr) (nr cr : Nat), e = .returned (.tuple #[.slice R nr cr, .int .i64 er]) ∧ Ints w' w'.heap.size R nr r ∧ nr ≤ 17592186044416 ∧ Below w.heap.size w w'
theorem itp_one (p : Int) (us ys : List Int) : ∃ (r : List Int) (er : Int), Hid (∀ w e w', ItpPost p us ys w e w' → LstP r er w e w') := by
  by_cases h0 : errL p [us, ys] = 0
  · by_cases hd : Dist us
    · by_cases hex : ∃ R, Through p us ys R
      · obtain ⟨r, hT⟩ := hex
        refine ⟨r, 0, Lib.hid ?_⟩
        rintro w e w' (⟨h, _⟩ | ⟨_, h, _⟩ | ⟨_, _, R, A', c', rfl, ho, hT2, hb⟩)
        · exact absurd h0 h
        · exact absurd hd h
        · have h1 := errL_two h0
          have hu := pairwise_of h1.2.1.1 hd
          have e1 : r = R := by
            have := Through.unique h1.1 hT hu hT2.al hT2.ln hT2.va
            rw [this, hT2.tr.trimL]
          subst e1
          have l1 := hT.ln
          exact ⟨A', _, c', rfl, ho.ints, by omega, hb⟩
      · refine ⟨[], 0, Lib.hid ?_⟩
        rintro w e w' (⟨h, _⟩ | ⟨_, h, _⟩ | ⟨_, _, R, A', c', rfl, ho, hT2, hb⟩)
        · exact absurd h0 h
        · exact absurd hd h
        · exact absurd ⟨_, hT2⟩ hex
    · refine ⟨[], 7, Lib.hid ?_⟩
      rintro w e w' (⟨h, _⟩ | ⟨_, _, rfl, hb⟩ | ⟨_, h, _⟩)
      · exact absurd h0 h
      · exact ⟨none, 0, 0, rfl, Ints.nil_, by omega, hb⟩
      · exact absurd h hd
  · refine ⟨[], errL p [us, ys], Lib.hid ?_⟩
    rintro w e w' (⟨_, rfl, hb⟩ | ⟨h, _⟩ | ⟨h, _⟩)
    · exact ⟨none, 0, 0, rfl, Ints.nil_, by omega, hb⟩
    · exact absurd h h0
    · exact absurd h h0
theorem itpE {p : Int} {us ys r : List Int} {er : Int} {P : Program} {f : FuncId} {args : Array Value} {w : World} (hr : Hid (∀ w e w', ItpPost p us ys w e w' → LstP r er w e w')) (h : Calls P f args w (ItpPost p us ys w)) : Calls P f args w (LstP r er w) :=
  h.mono fun e w' hh => hr.out w e w' hh

theorem polyR_len (er : Int) (r : List Int) (h : r.length ≤ 17592186044416) : (polyR er r).1.length ≤ 17592186044416 := by
  unfold polyR; split
  · exact h
  · simp
theorem trimL_le (xs : List Int) : (trimL xs).length ≤ xs.length := by rw [trimL_len]; exact tn_le _ _
theorem addL_le {p : Int} {xs ys : List Int} {n m : Nat} (h1 : xs.length = n) (h2 : ys.length = m) (hn : n ≤ 17592186043904) (hm : m ≤ 17592186043904) : (addL p xs ys).length ≤ 17592186044416 := by
  unfold addL
  have := trimL_le (rawAdd p xs ys)
  have h3 : (rawAdd p xs ys).length = max xs.length ys.length := by simp [rawAdd]
  omega
theorem mulR_le (p : Int) {xs ys : List Int} {n m : Nat} (h1 : xs.length = n) (h2 : ys.length = m) (hn : n ≤ 17592186043904) (hm : m ≤ 17592186043904) : (mulR p xs ys).1.length ≤ 17592186044416 := by
  unfold mulR
  by_cases h0 : errL p [xs, ys] = 0
  · rw [if_pos h0]
    have h4 := errL_two h0
    have l1 := trimL_le xs
    have l2 := trimL_le ys
    have h5 := h4.2.1.2
    have h6 := h4.2.2.2
    split
    · simp
    · show (mulL p xs ys).length ≤ _
      unfold mulL
      split
      · simp
      · have h3 : (rawMul p (trimL xs) (trimL ys)).length = (trimL xs).length + (trimL ys).length - 1 := by simp [rawMul]
        omega
  · rw [if_neg h0]; simp
end Go.Proofs.Ytoblofilaegnaaa
