/-
  What the digests' functions hand back: contracts of Mod, mod, Node, Row, sum, Sum and of the sanity check. Conditions: the numbers are ints of 64 bits; a row reads as its list.
-/
import Derived.Test.YtdklcgpjdajkmaaBase
import Derived.Test.YtdklcgpjdajkmaaDigA
import Derived.WalkKit
import Derived.WalkSpells
import Derived.Lib.Hide
namespace Go.Proofs.Ytdklcgpjdajkmaa
open Go.RowKit

/-- digest.mod. -/
theorem dmod_any (x : Int) (w : World) :
    Calls Try.prog 132 #[.int .i64 x] w fun e w' => e = .returned (.int .i64 (x % 2147483647)) ∧ w = w' := by
  have h := tmod_facts x 2147483647 (by omega)
  obtain ⟨h1, h2, h3, h4⟩ := h
  by_cases hc : x.tmod 2147483647 < 0
  · have hp := Lib.hid (h3 hc)
    clear h3 h4
    go_enter Try.func132, Try.ntmps132
    go_wp2
    go_ret
    exact ⟨ret_int hp.out, rfl⟩
  · have hp := Lib.hid (h4 (by omega))
    clear h3 h4
    go_enter Try.func132, Try.ntmps132
    go_wp2
    go_ret
    exact ⟨ret_int hp.out, rfl⟩

/-- digest.Node. -/
theorem node_any (a b : Int) (w : World) :
    Calls Try.prog 49 #[.int .i64 a, .int .i64 b] w fun e w' => e = .returned (.int .i64 (dNode a b)) ∧ w = w' := by
  have h1 : 0 ≤ a % 2147483647 ∧ a % 2147483647 < 2147483647 := by omega
  have h2 : 0 ≤ b % 2147483647 ∧ b % 2147483647 < 2147483647 := by omega
  go_enter Try.func49, Try.ntmps49
  go_wp2_with (go_at_call 132; refine (dmod_any _ _).mono ?_; rintro e w' ⟨rfl, rfl⟩)
  go_ret
  exact ⟨rfl, rfl⟩

/-- digest.Row. -/
theorem row_any (A : Option Addr) (n c : Nat) (xs : List Int) (w : World) {B : Nat} (h : Ints w B A n xs) (hw : Wf64 xs) (hn : n ≤ 4611686018427387904) :
    Calls Try.prog 47 #[.slice A n c] w fun e w' => e = .returned (.int .i64 (dRow xs)) ∧ w = w' := by
  obtain ⟨hl, hc⟩ := h
  have HL := Lib.hid hl
  clear hl
  go_enter Try.func47, Try.ntmps47
  go_wp2
  go_loop [3, 8] (fun d i => ∃ k : Nat, k ≤ n ∧ i = .int .i64 k ∧ d = .int .i64 (dRow (xs.take k))) (fun _ i => n - (intOf i).toNat)
  case atStart => exact ⟨0, Nat.zero_le _, rfl, rfl⟩
  case round =>
    obtain ⟨k, hk, rfl, rfl⟩ := hrel
    have hd := dRow_bd (xs.take k)
    by_cases hlt : k < n
    · obtain ⟨b, off, rfl, hb, hcell⟩ := hc (by omega)
      have hck := hcell k hlt
      have hx := getD_wf hw k
      have hm : 0 ≤ xs.getD k 0 % 2147483647 ∧ xs.getD k 0 % 2147483647 < 2147483647 := by omega
      have HS : Hid (dRow (xs.take (k + 1)) = dStep (dRow (xs.take k)) (xs.getD k 0 % 2147483647)) := by
        rw [take_snoc_int xs k (by rw [HL.out]; exact hlt)]; exact dRow_snoc _ _
      clear hc hcell
      generalize xs.getD k 0 = x at *
      go_wp2_with (go_at_call 132; refine (dmod_any x _).mono ?_; rintro e w' ⟨rfl, rfl⟩)
      go_round
      case rel => exact ⟨k + 1, by omega, by go_num, by rw [HS.out]; rfl⟩
      case measure => simp [intOf]; omega
    · go_wp2
      go_ret
      exact ⟨ret_int (by rw [List.take_of_length_le (by rw [HL.out]; omega)]), rfl⟩

theorem take_snoc_byte (s : ByteArray) (k : Nat) (h : k < s.size) : s.data.toList.take (k + 1) = s.data.toList.take k ++ [s[k]] := by
  rw [List.take_succ_eq_append_getElem (by simpa using h)]; rfl

/-- digest.sum of a text. -/
theorem sum_any (s : ByteArray) (d : Int) (w : World) (hs : s.size ≤ maxLen) (h0 : 0 ≤ d) (h1 : d < 2147483647) :
    Calls Try.prog 131 #[.string s, .int .i64 d] w fun e w' => e = .returned (.int .i64 (dFold d (byteNums s.data.toList))) ∧ w = w' := by
  unfold maxLen at hs
  go_enter Try.func131, Try.ntmps131
  go_wp2
  go_loop [1, 8] (fun u i => ∃ k : Nat, k ≤ s.size ∧ i = .int .i64 k ∧ u = .int .i64 (dFold d (byteNums (s.data.toList.take k)))) (fun _ i => s.size - (intOf i).toNat)
  case atStart => exact ⟨0, Nat.zero_le _, rfl, rfl⟩
  case round =>
    obtain ⟨k, hk, rfl, rfl⟩ := hrel
    have hd := dFold_bd (byteNums (s.data.toList.take k)) d h0 h1
    by_cases hlt : k < s.size
    · have HS : Hid (dFold d (byteNums (s.data.toList.take (k + 1))) = dStep (dFold d (byteNums (s.data.toList.take k))) (s[k].toNat : Int)) := by
        rw [take_snoc_byte s k hlt]; exact dSum_snocFold _ _ _
      have hb : (s[k].toNat : Int) < 256 := by have := s[k].toNat_lt; omega
      go_wp2
      go_round
      case rel => exact ⟨k + 1, by omega, by go_num, by rw [HS.out]; rfl⟩
      case measure => simp [intOf]; omega
    · go_wp2
      go_ret
      exact ⟨ret_int (by rw [List.take_of_length_le (by simp; omega)]), rfl⟩

/-- digest.Sum. -/
theorem dsum_any (s : ByteArray) (w : World) (hs : s.size ≤ maxLen) :
    Calls Try.prog 45 #[.string s] w fun e w' => e = .returned (.int .i64 (dSum s.data.toList)) ∧ w = w' := by
  go_enter Try.func45, Try.ntmps45
  go_wp2_with (go_at_call 131; refine (sum_any s 1 _ hs (by omega) (by omega)).mono ?_; rintro e w' ⟨rfl, rfl⟩)
  go_ret
  exact ⟨rfl, rfl⟩

/-- The sanity check of chapter 11. -/
theorem sane11_any (w : World) : Calls Try.prog 43 #[] w fun e w' => e = .returned (.bool true) ∧ w = w' := by
  go_enter Try.func43, Try.ntmps43
  go_wp2_with (first
    | (go_at_call 45; refine (dsum_any ⟨#[]⟩ _ (by decide)).mono ?_; rintro e w' ⟨rfl, rfl⟩)
    | (go_at_call 47; refine (row_any none 0 0 [] _ (B := 0) Ints.nil_ (fun x hx => by cases hx) (by omega)).mono ?_; rintro e w' ⟨rfl, rfl⟩)
    | (go_at_call 49; refine (node_any 0 0 _).mono ?_; rintro e w' ⟨rfl, rfl⟩))
  go_ret
  exact ⟨rfl, rfl⟩
end Go.Proofs.Ytdklcgpjdajkmaa
