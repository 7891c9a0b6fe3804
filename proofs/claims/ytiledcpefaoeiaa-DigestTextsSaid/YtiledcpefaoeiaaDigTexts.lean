/-
  DigestTexts returns true: the walk of the law. Conditions: none beyond the reading of its arguments.
-/
import Derived.Test.YtiledcpefaoeiaaDigRows
import Derived.Test.YtiledcpefaoeiaaBytes
namespace Go.Proofs.Ytiledcpefaoeiaa
open Go.RowKit
set_option linter.unusedVariables false

theorem dRow_longer (xs : List Int) : (dRow (xs ++ [0]) != (dRow xs * 1000003 + 1) % 2147483647) = false := by
  rw [dRow_snoc]; simp [dStep]

theorem dSum_same (l : List UInt8) (k : Nat) (hk : k < l.length) (b : UInt8) : (dSum l == dSum (l.set k b)) = ((l[k].toNat : Int) == (b.toNat : Int)) := by
  rw [Bool.eq_iff_iff, beq_iff_eq, beq_iff_eq]
  constructor
  · intro h; have := (dSum_set l k hk b).1 h.symm; subst this; rfl
  · intro h; exact ((dSum_set l k hk b).2 (UInt8.toNat_inj.1 (by omega))).symm

set_option maxHeartbeats 1000000 in
theorem digestTexts_walk (s : ByteArray) (at_ by_ : Int) (A : Option Addr) (n c : Nat) (zs : List Int) (w : World) (hs : s.size ≤ maxLen) (w1 : (Lit.int .u16 at_).wf = true) (w2 : (Lit.int .u8 by_).wf = true) (w3 : IsRow .i64 w A n c zs) :
    Calls Try.prog 4 #[.string s, .int .u16 at_, .int .u8 by_, .slice A n c] w fun e w' => e = .returned (.bool true) ∧ Below w.heap.size w w' := by
  obtain ⟨h, hw⟩ := w3.ints
  have hn : n ≤ 9223372036854775807 := by
    rcases w3 with ⟨_, rfl, _⟩ | ⟨x, _, hl, hm, _⟩
    · exact Nat.zero_le _
    · unfold maxLen at hm; omega
  generalize zs.take n = xs at h hw
  clear w3
  have hat : 0 ≤ at_ ∧ at_ ≤ 65535 := by simpa [Lit.wf, IntKind.min, IntKind.max, IntKind.signed, IntKind.bits] using w1
  have hby : 0 ≤ by_ ∧ by_ ≤ 255 := by simpa [Lit.wf, IntKind.min, IntKind.max, IntKind.signed, IntKind.bits] using w2
  obtain ⟨b8, hb8⟩ : ∃ b : UInt8, by_ = (b.toNat : Int) := ⟨UInt8.ofNat by_.toNat, by rw [UInt8.toNat_ofNat']; omega⟩
  subst hb8
  have HSZ := Lib.hid hs
  have hs2 : s.size ≤ 9223372036854775807 := by unfold maxLen at hs; omega
  clear hs w1 w2
  obtain ⟨i0, hi0, hz0, hz1, hz2⟩ := info_parts info_int
  by_cases hbig : 5000 < s.size
  · go_enter Try.func4, Try.ntmps4
    go_wp2_with (go_at_call 13; refine (sane11_any _).mono ?_; rintro e w' ⟨rfl, rfl⟩)
    go_ret
    exact ⟨rfl, Below.refl _ _⟩
  by_cases hbig2 : 2000 < n
  · go_enter Try.func4, Try.ntmps4
    go_wp2_with (go_at_call 13; refine (sane11_any _).mono ?_; rintro e w' ⟨rfl, rfl⟩)
    go_ret
    exact ⟨rfl, Below.refl _ _⟩
  have hlong := dRow_longer xs
  have hbd := dRow_bd xs
  have hw0 : Wf64 (xs ++ [0]) := fun u hu => by
    rcases List.mem_append.1 hu with h1 | h1
    · exact hw u h1
    · simp at h1; subst h1; omega
  by_cases hemp : s.size = 0
  · have hez : ((s.size : Int) == 0) = true := by rw [hemp]; rfl
    go_enter Try.func4, Try.ntmps4
    go_wp2_with (first
      | (go_at_call 13; refine (sane11_any _).mono ?_; rintro e w' ⟨rfl, rfl⟩)
      | (go_at_call 16; (with_reducible refine (row_any A n c xs _ h hw (by omega)).mono ?_); rintro e w' ⟨rfl, rfl⟩)
      | (at_builtin
         refine wpList_append_ints rfl (.const (.slice none 0 0)) (.tmp 26) _ rfl w.heap.size 3 i0 _ Try.underlying22 hi0 hz0 hz1 hz2 rfl none 0 0 [] rfl OwnI.nil_ w.heap.size A n c xs rfl h n (by omega) xs rfl (by omega) (Nat.le_refl _) ?_
         intro A1 c1 w1 hown1 _ hbw1 _)
      | (at_builtin
         refine wpList_append_ints rfl (.tmp 27) (.tmp 28) _ rfl w.heap.size 3 i0 _ Try.underlying22 hi0 hz0 hz1 hz2 rfl A1 n c1 xs rfl (hown1.alloc _) _ _ 1 1 [0] rfl (Ints.one w1 0 _) (n + 1) rfl (xs ++ [0]) rfl (by omega) (le_alloc hbw1.size _) ?_
         intro A2 c2 w2 hown2 _ hbw2 _
         have hb2 : Below w.heap.size w w2 := (hbw1.alloc hbw1.size _).trans hbw2)
      | (go_at_call 16; (with_reducible refine (row_any A2 (n + 1) c2 (xs ++ [0]) _ hown2.ints hw0 (by omega)).mono ?_); rintro e w' ⟨rfl, rfl⟩))
    go_ret
    exact ⟨rfl, hb2⟩
  have hez : ((s.size : Int) == 0) = false := by rw [beq_eq_false_iff_ne]; omega
  obtain ⟨k, hk, hkn⟩ : ∃ k : Nat, at_ % (s.size : Int) = k ∧ k < s.size := ⟨(at_ % (s.size : Int)).toNat, by have := Int.emod_nonneg at_ (by omega : (s.size : Int) ≠ 0); omega, by have := Int.emod_nonneg at_ (by omega : (s.size : Int) ≠ 0); have := Int.emod_lt_of_pos at_ (by omega : (0 : Int) < s.size); omega⟩
  have hkl : k < s.data.toList.length := by simpa using hkn
  have hsame := dSum_same s.data.toList k hkl b8
  obtain ⟨L2, hL2⟩ : ∃ L2, s.data.toList.set k b8 = L2 := ⟨_, rfl⟩
  have HL2 := Lib.hid hL2
  have hll : L2.length = s.size := by rw [← hL2]; simp
  rw [hL2, Array.getElem_toList] at hsame
  have HLL := Lib.hid hll
  clear hL2 hll
  go_enter Try.func4, Try.ntmps4
  go_wp2_with (first
      | (go_at_call 13; refine (sane11_any _).mono ?_; rintro e w' ⟨rfl, rfl⟩)
      | (go_at_call 16; (with_reducible refine (row_any A n c xs _ h hw (by omega)).mono ?_); rintro e w' ⟨rfl, rfl⟩)
      | (at_builtin
         refine wpList_append_ints rfl (.const (.slice none 0 0)) (.tmp 26) _ rfl w.heap.size 3 i0 _ Try.underlying22 hi0 hz0 hz1 hz2 rfl none 0 0 [] rfl OwnI.nil_ w.heap.size A n c xs rfl h n (by omega) xs rfl (by omega) (Nat.le_refl _) ?_
         intro A1 c1 w1 hown1 _ hbw1 _)
      | (at_builtin
         refine wpList_append_ints rfl (.tmp 27) (.tmp 28) _ rfl w.heap.size 3 i0 _ Try.underlying22 hi0 hz0 hz1 hz2 rfl A1 n c1 xs rfl (hown1.alloc _) _ _ 1 1 [0] rfl (Ints.one w1 0 _) (n + 1) rfl (xs ++ [0]) rfl (by omega) (le_alloc hbw1.size _) ?_
         intro A2 c2 w2 hown2 _ hbw2 _
         have hb2 : Below w.heap.size w w2 := (hbw1.alloc hbw1.size _).trans hbw2)
      | (go_at_call 16; (with_reducible refine (row_any A2 (n + 1) c2 (xs ++ [0]) _ hown2.ints hw0 (by omega)).mono ?_); rintro e w' ⟨rfl, rfl⟩)
      | ((with_reducible refine wpList_bytes_of rfl 9 28 5 _ rfl Try.underlying9 Try.underlying28 Try.underlying5 s rfl ?_)
         intro g c3 w3 hg hby3 hbw3
         have hcb := hby3.2.1 k hkl
         have hfb := hby3.2.2 k hkl
         have hby4 := hby3.set_ k hkl b8
         rw [HL2.out] at hby4
         have hb4 := (hb2.trans (hbw3.mono hb2.size)).setCell (p := ⟨g, k, none⟩) (by rw [hg]; exact hb2.size) (.int .u8 (b8.toNat : Int))
         clear hg))
  have hback := fun q => run_convert_bytes_back (P := Try.prog) ((w3.setCell ⟨g, k, none⟩ (.int .u8 (b8.toNat : Int))).drewN q) 28 9 5 ⟨g, 0, none⟩ c3 L2 Try.underlying28 Try.underlying5 Try.underlying9 (fun j hj => by
    have := hby4.2.1 j hj
    by_cases h0 : j = 0
    · subst h0; simpa [Addr.add] using this
    · simpa [Addr.add, h0] using this)
  rw [HLL.out] at hback
  have hsz2 : (⟨L2.toArray⟩ : ByteArray).size ≤ maxLen := by
    have := HLL.out
    show L2.toArray.size ≤ maxLen
    rw [List.size_toArray, this]; exact HSZ.out
  have hdl2 : dSum (⟨L2.toArray⟩ : ByteArray).data.toList = dSum L2 := rfl
  clear hlong hbd
  go_quiet (first
    | (go_at_call 17; (with_reducible refine (quiet_left (dsum_any s _ HSZ.out))))
    | (go_at_call 17; (with_reducible refine (quiet_left (dsum_any ⟨L2.toArray⟩ _ hsz2)))))
  go_wp2
  go_ret
  exact ⟨rfl, below_drewN hb4 _⟩
end Go.Proofs.Ytiledcpefaoeiaa
