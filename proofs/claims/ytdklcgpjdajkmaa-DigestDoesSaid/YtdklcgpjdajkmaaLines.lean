/-
  What digest's Lines and Line hand back for valid arguments. Conditions: the rows read as their numbers, all of them elements, and are few and short enough.
-/
import Derived.Test.YtdklcgpjdajkmaaMat
import Derived.Test.YtdklcgpjdajkmaaValue
namespace Go.Proofs.Ytdklcgpjdajkmaa
open Go.RowKit
set_option linter.unusedVariables false

def linesP (p pt : Int) (rows : List (List Int)) : List Int := rows.map (valueP p pt)
theorem linesP_take_succ (p pt : Int) (rows : List (List Int)) (k : Nat) (hk : k < rows.length) : linesP p pt (rows.take (k + 1)) = linesP p pt (rows.take k) ++ [valueP p pt (rows.getD k [])] := by
  rw [List.take_succ_eq_append_getElem hk, List.getD_eq_getElem?_getD, List.getElem?_eq_getElem hk, Option.getD_some]
  simp only [linesP, List.map_append, List.map_cons, List.map_nil]
theorem getD_mem {α : Type} {l : List α} {k : Nat} {d : α} (hk : k < l.length) : l.getD k d ∈ l := by
  rw [List.getD_eq_getElem?_getD, List.getElem?_eq_getElem hk, Option.getD_some]; exact List.getElem_mem hk

set_option maxHeartbeats 400000 in
theorem lines_ok (p pt : Int) (A : Option Addr) (n c : Nat) (rows : List (List Int)) (w : World) {lo : Nat} (hok : okP p = true) (hpt : 0 ≤ pt ∧ pt < p) (h : Mat w lo w.heap.size A n rows) (hn : n ≤ 1024)
    (hr : ∀ r ∈ rows, allP p r = true ∧ r.length ≤ 64) :
    Calls Try.prog 51 #[.agg #[.int .i64 p], .int .i64 pt, .slice A n c] w fun e w' =>
      (∃ A' c', e = .returned (.tuple #[.slice A' n c', .int .i64 0]) ∧ OwnI w' w.heap.size 3 A' n c' (linesP p pt rows)) ∧ Below w.heap.size w w' := by
  have hp := okP_pos hok
  have HO := Lib.hid hok
  have HP : Hid (inP p pt = true) := Lib.hid (inP_iff.2 hpt)
  have HR := Lib.hid hr
  have HL := Lib.hid h.len
  obtain ⟨i0, hi0, hz0, hz1, hz2⟩ := info_parts info_int
  clear hok hr
  go_enter Try.func51, Try.ntmps51
  go_wp2_with (first
    | (go_at_call 120; refine (of_yes p _ HO.out).mono ?_; rintro e w1 ⟨rfl, hb1⟩
       have hb := bnext (bbox _) hb1
       clear hb1)
    | (go_at_call 125; refine (has_any p pt _).mono ?_; rintro e w' ⟨rfl, rfl⟩; rw [HP.out]))
  go_loopw [10, 11, 32] (fun lg v i wr => ∃ (k : Nat) (A' : Option Addr) (c' : Nat), k ≤ n ∧ lg = .bool false ∧ i = .int .i64 k ∧ v = .slice A' k c' ∧ OwnI wr w.heap.size 3 A' k c' (linesP p pt (rows.take k)) ∧ Below w.heap.size w wr) (fun _ _ i _ => n - (intOf i).toNat)
  case atStart => exact ⟨0, none, 0, Nat.zero_le _, by simp; omega, rfl, rfl, OwnI.nil_, hb⟩
  case round =>
    obtain ⟨k, A', c', hk, rfl, rfl, rfl, hown, hbr⟩ := hrel
    by_cases hlt : k < n
    · obtain ⟨b, off, B1, m, d, rfl, _, hb1, hcell, hm, hI, _⟩ := (h.upto hbr).at_ hlt
      have hrow := HR.out _ (getD_mem (d := []) (k := k) (by rw [HL.out]; exact hlt))
      have HT := Lib.hid (linesP_take_succ p pt rows k (by rw [HL.out]; exact hlt))
      generalize rows.getD k [] = row at *
      have HA := Lib.hid hrow.1
      have hml : m ≤ 64 := by have := hrow.2; rw [hI.len] at this; exact this
      clear hrow
      go_wp2_with (first
        | (go_at_call 121; refine (all_any p B1 m d row _ hI (by omega)).mono ?_; rintro e w2 ⟨rfl, hb2⟩; rw [HA.out]
           have hI2 := hI.upto hb2
           have hbr2 := bnext hbr hb2
           have hown2 := hown.belowAll hb2
           clear hb2)
        | (go_at_call 134; refine (value_any p pt B1 m d row _ hp hpt hI2 HA.out (by omega)).mono ?_; rintro e w3 ⟨rfl, hb3⟩
           have hbr3 := bnext hbr2 hb3
           have hown3 := hown2.belowAll hb3
           clear hb3)
        | (at_builtin
           refine wpList_append_ints rfl _ _ _ rfl w.heap.size 3 i0 _ Try.underlying22 hi0 hz0 hz1 hz2 rfl A' k c' _ rfl (hown3.alloc _) _ _ 1 1 [valueP p pt row] rfl (Ints.one _ _ _) (k + 1) rfl _ rfl (by omega) (le_alloc hbr3.size _) ?_
           intro A2 c2 w4 hown4 _ hbw4 _
           rw [← HT.out] at hown4
           have hbr4 := (ballocs hbr3 (.cells #[.int .i64 (valueP p pt row)] 3)).trans hbw4))
      go_roundw
      case rel => exact ⟨k + 1, A2, c2, by omega, by simp; omega, by go_num, rfl, hown4, hbr4⟩
      case measure => simp [intOf]; omega
    · have hkn : k = n := by omega
      subst hkn
      rw [List.take_of_length_le (by rw [HL.out]; omega)] at hown
      go_wp2
      go_ret2
      exact ⟨⟨A', c', rfl, hown⟩, hbr⟩

theorem line_ok (p pt : Int) (A : Option Addr) (n c : Nat) (xs : List Int) (w : World) (hok : okP p = true) (hpt : 0 ≤ pt ∧ pt < p) (h : Ints w w.heap.size A n xs) (hx : allP p xs = true) (hn : n ≤ 64) :
    Calls Try.prog 55 #[.agg #[.int .i64 p], .int .i64 pt, .slice A n c] w fun e w' => e = .returned (.tuple #[.int .i64 (valueP p pt xs), .int .i64 0]) ∧ Below w.heap.size w w' := by
  have HX : Hid (∀ r ∈ [xs], allP p r = true ∧ r.length ≤ 64) := Lib.hid (by intro r hr; simp at hr; subst hr; exact ⟨hx, by rw [h.len]; exact hn⟩)
  have HO := Lib.hid hok
  clear hok hx
  go_enter Try.func55, Try.ntmps55
  go_wp2_with (go_at_call 51; refine (lines_ok p pt _ 1 1 [xs] _ HO.out hpt (by exact Mat.one _ A n c xs 22 _ (by simp) (h.upto (bbox _)) (by omega)) (by omega) HX.out).mono ?_; rintro e w1 ⟨⟨A', c', rfl, hown⟩, hb1⟩
               have hb := bnext (ballocs (bbox _) _) hb1
               obtain ⟨g, rfl, hg1, hg2⟩ := hown.form (by omega)
               have hc := hown.cellAt (j := 0) (by omega)
               clear hb1)
  go_ret2
  exact ⟨rfl, hb⟩
end Go.Proofs.Ytdklcgpjdajkmaa
