/-
  What poly's Add and Mul hand back for valid arguments. Conditions: the lists read as their numbers, all of them elements, few.
-/
import Derived.Test.YtoblofilaegnaaaPoly2
namespace Go.Proofs.Ytoblofilaegnaaa
open Go.RowKit
set_option linter.unusedVariables false

set_option maxRecDepth 100000 in
set_option maxHeartbeats 400000 in
/-- poly's Add. -/
theorem padd_ok (p : Int) (A B : Option Addr) (n m c d : Nat) (xs ys : List Int) (w : World) (hok : okP p = true) (h : Ints w w.heap.size A n xs) (h2 : Ints w w.heap.size B m ys) (hx : allP p xs = true) (hy : allP p ys = true) (hn : n ≤ 512) (hm : m ≤ 512) :
    Calls Try.prog 36 #[.agg #[.int .i64 p], .slice A n c, .slice B m d] w fun e w' =>
      (∃ A' c', e = .returned (.tuple #[.slice A' (addL p xs ys).length c', .int .i64 0]) ∧ OwnI w' w.heap.size 3 A' (addL p xs ys).length c' (addL p xs ys)) ∧ Below w.heap.size w w' := by
  obtain ⟨i0, hi0, hz0, hz1, hz2⟩ := info_parts info_int
  have hp := okP_pos hok
  have HO := Lib.hid hok
  have HL := Lib.hid h.len
  have HM := Lib.hid h2.len
  have HX := Lib.hid hx
  have HY := Lib.hid hy
  have HR : Hid (∀ r ∈ [xs, ys], allP p r = true ∧ r.length ≤ 512) := Lib.hid fun r hr => by
    simp only [List.mem_cons, List.not_mem_nil, or_false] at hr
    rcases hr with rfl | rfl
    · exact ⟨hx, by rw [h.len]; exact hn⟩
    · exact ⟨hy, by rw [h2.len]; exact hm⟩
  obtain ⟨N, hN⟩ : ∃ N, max n m = N := ⟨_, rfl⟩
  have hnN : n ≤ N := by omega
  have hmN : m ≤ N := by omega
  have hN5 : N ≤ 512 := by omega
  have HD : Hid ((List.replicate N (0 : Int)).drop n = List.replicate (N - n) 0) := Lib.hid (by simp)
  have HS : Hid (addTo p 1 0 ys (xs ++ List.replicate (N - n) 0) m = rawAdd p xs ys) := Lib.hid (by
    have := addL_raw hp.1 xs ys hx h2.len
    rw [h.len, h2.len, hN] at this
    exact this)
  have HA : Hid (allP p (xs ++ List.replicate (N - n) 0) = true) := Lib.hid (allP_append.2 ⟨hx, allP_iff.2 fun x hx0 => by rw [(List.mem_replicate.1 hx0).2]; omega⟩)
  have HRL : Hid ((addL p xs ys).length = tn (rawAdd p xs ys) N) := Lib.hid (by
    unfold addL
    rw [trimL_len]
    congr 1
    unfold rawAdd
    simp [h.len, h2.len, hN])
  rw [HRL.out]
  have hmx : max (n : Int) (m : Int) = (N : Int) := by omega
  clear hx hy hok hN
  go_enter Try.func36, Try.ntmps36
  go_wp2_with (first
    | (go_at_call 129; (refine (open_ok p _ 2 2 [xs, ys] _ HO.out (by exact Mat.two _ A B n m c d xs ys 22 _ (by simp) (h.upto (bbox _)) (h2.upto (bbox _)) (by omega) (by omega)) (by omega) HR.out).mono ?_); rintro e w1 ⟨rfl, hb1⟩
       have hbb1 := bnext (ballocs (bbox _) _) hb1
       have hs1 := hbb1.size
       clear hb1)
    | (at_make
       refine wpList_make_full _ rfl _ _ 22 rfl w.heap.size 3 i0 (.int .i64 0) 1 Try.underlying22 hi0 hz0 hz1 .i64 .i64 _ _ N rfl rfl (by first | rfl | omega) (by first | rfl | omega) (by rw [hz2]; omega) (by unfold maxLen; omega) hbb1.size ?_
       intro w2 hown hgr
       have hown1 : OwnI w2 w.heap.size 3 (some ⟨w1.heap.size, 0, none⟩) N N (List.replicate N 0) := by rw [zeros_made] at hown; exact hown
       have hb2 : Below w.heap.size w w2 := hbb1.grown hgr hbb1.size (fun k hk => by cases hk)
       clear hown hgr)
    | ((with_reducible refine wpList_copy_ints rfl (.tmp 28) (.tmp 29) 22 rfl 3 Try.underlying22 (by rw [hi0]; simp [hz1]) w.heap.size w.heap.size w1.heap.size N _ xs A n c rfl rfl hown1 (h.below hb2) hnN ?_)
       intro w3 hown3 hS3
       rw [HD.out] at hown3
       have hb3 := Step.below hb2 hS3 hb2.size hs1)
    | (go_at_call 127; refine (addTimes_at p 1 w1.heap.size 0 N N N N m d B _ ys _ hp (by omega) hown3 (by omega) (by omega) (h2.below hb3) (fun b off s e hm0 => by obtain ⟨b', off', e', hb', _⟩ := h2.2 hm0; rw [e] at e'; injection e' with e'; injection e' with e'; omega) HA.out HY.out (by omega)).mono ?_; rintro e w4 ⟨rfl, hown4, hS4⟩
       rw [HS.out] at hown4
       have hb4 := Step.below hb3 hS4 hb3.size hs1)
    | (go_at_call 130; refine (own_any (some ⟨w1.heap.size, 0, none⟩) N N _ _ hown4.ints (by omega) (by omega)).mono ?_; rintro e w5 ⟨⟨A5, c5, rfl, hown5⟩, hb5⟩
       have hb55 := bnext hb4 hb5))
  all_goals go_ret2
  all_goals exact ⟨⟨A5, c5, rfl, hown5.base hb4.size⟩, hb55⟩

set_option maxRecDepth 100000 in
set_option maxHeartbeats 400000 in
/-- poly's Mul. -/
theorem pmul_gen (p : Int) (A B : Option Addr) (n m c d : Nat) (xs ys : List Int) (w : World) (hok : okP p = true) (h : Ints w w.heap.size A n xs) (h2 : Ints w w.heap.size B m ys) (hx : allP p xs = true) (hy : allP p ys = true) (hc : n ≤ c) (hd : m ≤ d) (hn5 : n ≤ 512) (hm5 : m ≤ 512) (hnm : tn xs n + tn ys m ≤ 513) :
    Calls Try.prog 38 #[.agg #[.int .i64 p], .slice A n c, .slice B m d] w fun e w' =>
      (∃ A' c', e = .returned (.tuple #[.slice A' (mulL p xs ys).length c', .int .i64 0]) ∧ OwnI w' w.heap.size 3 A' (mulL p xs ys).length c' (mulL p xs ys)) ∧ Below w.heap.size w w' := by
  have hp := okP_pos hok
  have HO := Lib.hid hok
  have HR : Hid (∀ r ∈ [xs, ys], allP p r = true ∧ r.length ≤ 512) := Lib.hid fun r hr => by
    simp only [List.mem_cons, List.not_mem_nil, or_false] at hr
    rcases hr with rfl | rfl
    · exact ⟨hx, by rw [h.len]; omega⟩
    · exact ⟨hy, by rw [h2.len]; omega⟩
  have hTX := trimL_allP hx
  have hTY := trimL_allP hy
  have hs0 := tn_le xs n
  have ht0 := tn_le ys m
  have hIX := h.trim
  have hIY := h2.trim
  obtain ⟨s, HS⟩ : ∃ s, Hid (tn xs n = s) := ⟨_, Lib.hid rfl⟩
  obtain ⟨t, HT⟩ : ∃ t, Hid (tn ys m = t) := ⟨_, Lib.hid rfl⟩
  rw [HS.out] at hs0 hIX hnm
  rw [HT.out] at ht0 hIY hnm
  have HTX := Lib.hid hTX
  have HTY := Lib.hid hTY
  clear hx hy hok hTX hTY
  by_cases hz : s = 0 ∨ t = 0
  · have HE : Hid (mulL p xs ys = []) := Lib.hid (by unfold mulL; rw [if_pos (by rw [hIX.len, hIY.len]; exact hz)])
    rw [HE.out]
    by_cases hs0' : s = 0
    · subst hs0'
      go_enter Try.func38, Try.ntmps38
      go_wp2_with (first
        | (go_at_call 129; (refine (open_ok p _ 2 2 [xs, ys] _ HO.out (by exact Mat.two _ A B n m c d xs ys 22 _ (by simp) (h.upto (bbox _)) (h2.upto (bbox _)) (by omega) (by omega)) (by omega) HR.out).mono ?_); rintro e w1 ⟨rfl, hb1⟩
           have hbb1 := bnext (ballocs (bbox _) _) hb1
           clear hb1)
        | (go_at_call 133; (with_reducible refine (trim_any A n c xs _ (h.upto hbb1) hc (by omega)).mono ?_); rintro e w2 ⟨rfl, rfl⟩
           rw [HS.out])
        | (go_at_call 133; (refine (trim_any B m d ys _ (h2.upto hbb1) hd (by omega)).mono ?_); rintro e w2 ⟨rfl, rfl⟩
           rw [HT.out]))
      go_ret2
      exact ⟨⟨none, 0, rfl, OwnI.nil_⟩, hbb1⟩
    · have ht1 : t = 0 := by omega
      subst ht1
      have hsb : ((s : Int) == 0) = false := by simp; omega
      clear hz
      go_enter Try.func38, Try.ntmps38
      go_wp2_with (first
        | (go_at_call 129; (refine (open_ok p _ 2 2 [xs, ys] _ HO.out (by exact Mat.two _ A B n m c d xs ys 22 _ (by simp) (h.upto (bbox _)) (h2.upto (bbox _)) (by omega) (by omega)) (by omega) HR.out).mono ?_); rintro e w1 ⟨rfl, hb1⟩
           have hbb1 := bnext (ballocs (bbox _) _) hb1
           clear hb1)
        | (go_at_call 133; (with_reducible refine (trim_any A n c xs _ (h.upto hbb1) hc (by omega)).mono ?_); rintro e w2 ⟨rfl, rfl⟩
           rw [HS.out])
        | (go_at_call 133; (refine (trim_any B m d ys _ (h2.upto hbb1) hd (by omega)).mono ?_); rintro e w2 ⟨rfl, rfl⟩
           rw [HT.out]))
      go_ret2
      exact ⟨⟨none, 0, rfl, OwnI.nil_⟩, hbb1⟩
  · have HE : Hid (mulL p xs ys = rawMul p (trimL xs) (trimL ys)) := Lib.hid (by unfold mulL; rw [if_neg (by rw [hIX.len, hIY.len]; exact hz)])
    have HEL : Hid ((rawMul p (trimL xs) (trimL ys)).length = s + t - 1) := Lib.hid (by unfold rawMul; simp [hIX.len, hIY.len])
    rw [HE.out, HEL.out]
    have hs1 : 0 < s := by omega
    have ht1 : 0 < t := by omega
    have hsb : ((s : Int) == 0) = false := by simp; omega
    have htb : ((t : Int) == 0) = false := by simp; omega
    have hst5 : ¬ ((512 : Int) < (s : Int) + (t : Int) - 1) := by omega
    clear hz
    go_enter Try.func38, Try.ntmps38
    go_wp2_with (first
      | (go_at_call 129; (refine (open_ok p _ 2 2 [xs, ys] _ HO.out (by exact Mat.two _ A B n m c d xs ys 22 _ (by simp) (h.upto (bbox _)) (h2.upto (bbox _)) (by omega) (by omega)) (by omega) HR.out).mono ?_); rintro e w1 ⟨rfl, hb1⟩
         have hbb1 := bnext (ballocs (bbox _) _) hb1
         clear hb1)
      | (go_at_call 133; (with_reducible refine (trim_any A n c xs _ (h.upto hbb1) hc (by omega)).mono ?_); rintro e w2 ⟨rfl, rfl⟩
         rw [HS.out])
      | (go_at_call 133; (refine (trim_any B m d ys _ (h2.upto hbb1) hd (by omega)).mono ?_); rintro e w2 ⟨rfl, rfl⟩
         rw [HT.out])
      | (go_at_call 134; (refine (times_ok p A B s t c d _ _ _ hp (hIX.upto hbb1) (hIY.upto hbb1) HTX.out HTY.out hs1 ht1 (by omega)).mono ?_); rintro e w3 ⟨⟨g3, rfl, hown3⟩, hb3⟩
         have hbb3 := bnext hbb1 hb3))
    go_ret2
    exact ⟨⟨_, _, rfl, hown3.base hbb1.size⟩, hbb3⟩
theorem pmul_ok (p : Int) (A B : Option Addr) (n m c d : Nat) (xs ys : List Int) (w : World) (hok : okP p = true) (h : Ints w w.heap.size A n xs) (h2 : Ints w w.heap.size B m ys) (hx : allP p xs = true) (hy : allP p ys = true) (hc : n ≤ c) (hd : m ≤ d) (hnm : n + m ≤ 512) :
    Calls Try.prog 38 #[.agg #[.int .i64 p], .slice A n c, .slice B m d] w fun e w' =>
      (∃ A' c', e = .returned (.tuple #[.slice A' (mulL p xs ys).length c', .int .i64 0]) ∧ OwnI w' w.heap.size 3 A' (mulL p xs ys).length c' (mulL p xs ys)) ∧ Below w.heap.size w w' :=
  pmul_gen p A B n m c d xs ys w hok h h2 hx hy hc hd (by omega) (by omega) (by have := tn_le xs n; have := tn_le ys m; omega)
end Go.Proofs.Ytoblofilaegnaaa
