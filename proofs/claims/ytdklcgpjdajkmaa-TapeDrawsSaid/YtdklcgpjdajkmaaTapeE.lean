/-
  What slices.Equal and tape's Same hand back. Conditions: the lists read as their numbers.
-/
import Derived.Test.YtdklcgpjdajkmaaTape
import Derived.Deep.RegionHeld3
import Derived.BigQuiet
namespace Go.Proofs.Ytdklcgpjdajkmaa
open Go.RowKit
set_option linter.unusedVariables false

/-- slices.Equal. -/
theorem equal_any (A B : Option Addr) (n m c d : Nat) (xs ys : List Int) (w : World) {B1 B2 : Nat} (h : Ints w B1 A n xs) (h2 : Ints w B2 B m ys) (hn : n ≤ 17592186044416) (hm : m ≤ 17592186044416) :
    Calls Try.prog 116 #[.slice A n c, .slice B m d] w fun e w' => e = .returned (.bool (xs == ys)) ∧ ∃ q, w' = w.drewN q := by
  by_cases hl : n = m
  · subst hl
    have HL := Lib.hid h.len
    have HM := Lib.hid h2.len
    go_enter Try.func116, Try.ntmps116
    go_wp2
    go_loopw [13] (fun i wr => ∃ k q : Nat, k ≤ n ∧ i = .int .i64 k ∧ Hid (xs.take k = ys.take k) ∧ wr = w.drewN q) (fun i _ => n - (intOf i).toNat)
    case atStart => exact ⟨0, 0, Nat.zero_le _, rfl, Lib.hid rfl, rfl⟩
    case round =>
      obtain ⟨k, q, hk, rfl, HE, rfl⟩ := hrel
      by_cases hlt : k < n
      · obtain ⟨b1, o1, rfl, hb1, hc1⟩ := h.2 (by omega)
        obtain ⟨b2, o2, rfl, hb2, hc2⟩ := h2.2 (by omega)
        have hr1 := hc1 k hlt
        have hr2 := hc2 k hlt
        clear hc1 hc2
        have HT1 := Lib.hid (take_snoc_int xs k (by rw [HL.out]; exact hlt))
        have HT2 := Lib.hid (take_snoc_int ys k (by rw [HM.out]; exact hlt))
        have HX := Lib.hid (show ∀ j, xs = ys → xs.getD j 0 = ys.getD j 0 from fun j e => by rw [e])
        have HXk := Lib.hid (HX.out k)
        clear HX
        generalize xs.getD k 0 = x at *
        generalize ys.getD k 0 = y at *
        by_cases hxy : x = y
        · subst hxy
          go_wp2
          go_quiet (fail)
          go_wp2
          go_roundw
          case rel => exact ⟨k + 1, _, by omega, by go_num, Lib.hid (by rw [HT1.out, HT2.out, HE.out]), rfl⟩
          case measure => simp [intOf]; omega
        · have hxb : (x != y) = true := by simpa using hxy
          have hf : (xs == ys) = false := by
            rw [← Bool.not_eq_true, beq_iff_eq]; intro e; exact hxy (HXk.out e)
          have HF := Lib.hid hf
          clear hf hxy
          go_wp2
          go_quiet (fail)
          go_wp2
          go_ret
          exact ⟨ret_bool HF.out.symm, _, World.drewN_drewN _ _ _⟩
      · go_wp2
        go_ret
        refine ⟨ret_bool ?_, q, rfl⟩
        have := HE.out
        rw [List.take_of_length_le (by rw [HL.out]; omega), List.take_of_length_le (by rw [HM.out]; omega)] at this
        exact (beq_iff_eq.2 this).symm
  · have hf : (xs == ys) = false := by
      rw [← Bool.not_eq_true, beq_iff_eq]; intro e; apply hl; rw [← h.len, ← h2.len, e]
    have HF := Lib.hid hf
    have hne : ((n : Int) != (m : Int)) = true := by simp; omega
    clear hf
    go_enter Try.func116, Try.ntmps116
    go_wp2
    go_ret
    exact ⟨ret_bool HF.out.symm, 0, rfl⟩

/-- tape.Same. -/
theorem tsame_any (A B : Option Addr) (n m c d : Nat) (a b : Int) (xs ys : List Int) (w : World) (h : Ints w w.heap.size A n xs) (h2 : Ints w w.heap.size B m ys) (hn : n ≤ 17592186044416) (hm : m ≤ 17592186044416) :
    Calls Try.prog 19 #[.agg #[.slice A n c, .int .i64 a], .agg #[.slice B m d, .int .i64 b]] w fun e w' => e = .returned (.bool (a == b && xs == ys)) ∧ Below w.heap.size w w' := by
  have h1' := h.upto (ballocs (bbox (w0 := w) (.cells #[.slice A n c, .int .i64 a] 24)) (.cells #[.slice B m d, .int .i64 b] 24))
  have h2' := h2.upto (ballocs (bbox (w0 := w) (.cells #[.slice A n c, .int .i64 a] 24)) (.cells #[.slice B m d, .int .i64 b] 24))
  by_cases hab : a = b
  · subst hab
    go_enter Try.func19, Try.ntmps19
    go_wp2_with (go_at_call 116; refine (equal_any A B n m c d xs ys _ h1' h2' hn hm).mono ?_; rintro e w' ⟨rfl, q, rfl⟩)
    go_ret
    exact ⟨ret_bool (by simp), below_drewN (ballocs (bbox _) _) _⟩
  · have hf : (a == b) = false := by simpa using hab
    go_enter Try.func19, Try.ntmps19
    go_wp2_with (go_at_call 116; refine (equal_any A B n m c d xs ys _ h1' h2' hn hm).mono ?_; rintro e w' ⟨rfl, q, rfl⟩)
    go_ret
    exact ⟨ret_bool (by rw [hf]; rfl), (ballocs (bbox _) _)⟩
end Go.Proofs.Ytdklcgpjdajkmaa
