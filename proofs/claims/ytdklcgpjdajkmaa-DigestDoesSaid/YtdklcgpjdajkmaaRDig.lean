/-
  What the second form's digests hand back: mod, Sum, Row, Node. Conditions: the numbers are ints of 64 bits; a row reads as its list.
-/
import Derived.Test.YtdklcgpjdajkmaaDigW
namespace Go.Proofs.Ytdklcgpjdajkmaa
open Go.RowKit
set_option linter.unusedVariables false

theorem rdmod_any (x : Int) (w : World) :
    Calls Try.prog 133 #[.int .i64 x] w fun e w' => e = .returned (.int .i64 (x % 2147483647)) ∧ w = w' := by
  have h := tmod_facts x 2147483647 (by omega)
  have hm := Lib.hid (mod_of_go x 2147483647 (by omega))
  obtain ⟨h1, h2, h3, h4⟩ := h
  have h5 : 0 ≤ x.tmod 2147483647 + 2147483647 ∧ x.tmod 2147483647 + 2147483647 < 4294967294 := by omega
  clear h3 h4
  go_enter Try.func133, Try.ntmps133
  go_wp2
  go_ret
  exact ⟨ret_int hm.out, rfl⟩

theorem rnode_any (a b : Int) (w : World) :
    Calls Try.prog 50 #[.int .i64 a, .int .i64 b] w fun e w' => e = .returned (.int .i64 (dNode a b)) ∧ w = w' := by
  have h1 : 0 ≤ a % 2147483647 ∧ a % 2147483647 < 2147483647 := by omega
  have h2 : 0 ≤ b % 2147483647 ∧ b % 2147483647 < 2147483647 := by omega
  go_enter Try.func50, Try.ntmps50
  go_wp2_with (go_at_call 133; refine (rdmod_any _ _).mono ?_; rintro e w' ⟨rfl, rfl⟩)
  go_ret
  exact ⟨rfl, rfl⟩

theorem rrow_any (A : Option Addr) (n c : Nat) (xs : List Int) (w : World) {B : Nat} (h : Ints w B A n xs) (hw : Wf64 xs) (hn : n ≤ 4611686018427387904) :
    Calls Try.prog 48 #[.slice A n c] w fun e w' => e = .returned (.int .i64 (dRow xs)) ∧ w = w' := by
  obtain ⟨hl, hc⟩ := h
  have HL := Lib.hid hl
  clear hl
  go_enter Try.func48, Try.ntmps48
  go_wp2
  go_loop [3, 8] (fun d i => ∃ k : Nat, k ≤ n ∧ i = .int .i64 k ∧ d = .int .i64 (dRow (xs.take k))) (fun _ i => n - (intOf i).toNat)
  case atStart => exact ⟨0, Nat.zero_le _, rfl, rfl⟩
  case round =>
    obtain ⟨k, hk, rfl, rfl⟩ := hrel
    have hd := dRow_bd (xs.take k)
    by_cases hlt : k < n
    · obtain ⟨b, off, rfl, hb, hcell⟩ := hc (by omega)
      have hck := hcell k hlt
      have hx := getD_wf hw k
      have hm : 0 ≤ xs.getD k 0 % 2147483647 ∧ xs.getD k 0 % 2147483647 < 2147483647 := by omega
      have HS : Hid (dRow (xs.take (k + 1)) = dStep (dRow (xs.take k)) (xs.getD k 0 % 2147483647)) := by
        rw [take_snoc_int xs k (by rw [HL.out]; exact hlt)]; exact dRow_snoc _ _
      clear hc hcell
      generalize xs.getD k 0 = x at *
      go_wp2_with (go_at_call 133; refine (rdmod_any x _).mono ?_; rintro e w' ⟨rfl, rfl⟩)
      go_round
      case rel => exact ⟨k + 1, by omega, by go_num, by rw [HS.out]; rfl⟩
      case measure => simp [intOf]; omega
    · go_wp2
      go_ret
      exact ⟨ret_int (by rw [List.take_of_length_le (by rw [HL.out]; omega)]), rfl⟩

theorem rdsum_any (s : ByteArray) (w : World) (hs : s.size ≤ maxLen) :
    Calls Try.prog 46 #[.string s] w fun e w' => e = .returned (.int .i64 (dSum s.data.toList)) ∧ w = w' := by
  unfold maxLen at hs
  go_enter Try.func46, Try.ntmps46
  go_wp2
  go_loop [3, 4] (fun u i => ∃ k : Nat, k ≤ s.size ∧ i = .int .i64 k ∧ u = .int .i64 (dFold 1 (byteNums (s.data.toList.take k)))) (fun _ i => s.size - (intOf i).toNat)
  case atStart => exact ⟨0, Nat.zero_le _, rfl, rfl⟩
  case round =>
    obtain ⟨k, hk, rfl, rfl⟩ := hrel
    have hd := dFold_bd (byteNums (s.data.toList.take k)) 1 (by omega) (by omega)
    by_cases hlt : k < s.size
    · have HS : Hid (dFold 1 (byteNums (s.data.toList.take (k + 1))) = dStep (dFold 1 (byteNums (s.data.toList.take k))) (s[k].toNat : Int)) := by
        rw [take_snoc_byte s k hlt]; exact dSum_snocFold _ _ _
      have hb : (s[k].toNat : Int) < 256 := by have := s[k].toNat_lt; omega
      go_wp2
      go_round
      case rel => exact ⟨k + 1, by omega, by go_num, by rw [HS.out]; rfl⟩
      case measure => simp [intOf]; omega
    · go_wp2
      go_ret
      exact ⟨ret_int (by rw [List.take_of_length_le (by simp; omega)]; rfl), rfl⟩
end Go.Proofs.Ytdklcgpjdajkmaa
