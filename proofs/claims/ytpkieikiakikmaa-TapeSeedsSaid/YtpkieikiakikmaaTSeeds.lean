/-
  TapeSeeds returns true: the walk of the law. Conditions: none beyond the reading of its arguments.
-/
import Derived.Test.YtpkieikiakikmaaTapeS
import Derived.Deep.QuietTactic
import Derived.BigQuiet
namespace Go.Proofs.Ytpkieikiakikmaa
open Go.RowKit
set_option linter.unusedVariables false

theorem quiet_more {P : Program} {f : FuncId} {args : Array Value} {w : World} {n : Nat} {v : Value}
    (h : Calls P f args (w.drewN n) fun e w' => e = .returned v ∧ ∃ q, w' = (w.drewN n).drewN q) : Calls P f args (w.drewN n) fun e w'' => e = .returned v ∧ ∃ m, w'' = w.drewN m :=
  h.mono fun _ _ ⟨he, m, hm⟩ => ⟨he, n + m, by rw [hm, World.drewN_drewN]⟩

/-- A list of the call's own is nil or begins its block. -/
theorem OwnI.shape {w : World} {base n c : Nat} {e : TypeId} {A : Option Addr} {xs : List Int} (h : OwnI w base e A n c xs) : (A = none ∧ n = 0 ∧ c = 0) ∨ ∃ g, A = some ⟨g, 0, none⟩ ∧ n ≤ c ∧ c ≤ maxLen := by
  rcases h.2 with ⟨hv, hn⟩ | ⟨g, cap, cur, hv, _, _, hc, hm, _⟩
  · injection hv with h1 h2 h3; exact .inl ⟨h1, hn, h3⟩
  · injection hv with h1 h2 h3; subst h3; exact .inr ⟨g, h1, hc, hm⟩

set_option maxHeartbeats 1600000 in
set_option maxRecDepth 100000 in
theorem tapeSeeds_walk (A : Option Addr) (n c : Nat) (zs : List Int) (seed cut : Int) (w : World) (w0 : IsRow .i64 w A n c zs) (w1 : (Lit.int .i64 seed).wf = true) (w2 : (Lit.int .u8 cut).wf = true) :
    Calls Try.prog 6 #[.slice A n c, .int .i64 seed, .int .u8 cut] w fun e w' => e = .returned (.bool true) ∧ Below w.heap.size w w' := by
  have hcut : 0 ≤ cut ∧ cut ≤ 255 := by simpa [Lit.wf, IntKind.min, IntKind.max, IntKind.signed, IntKind.bits] using w2
  obtain ⟨h, hw⟩ := w0.ints
  generalize zs.take n = xs at h hw
  clear w0 w2
  by_cases hn : n ≤ 500
  · have hd : decide (n ≤ 500) = true := by simpa using hn
    go_enter Try.func6, Try.ntmps6
    go_wp2_with (first
      | (go_at_call 13; refine (sane02_any _).mono ?_; rintro e w1 ⟨rfl, hb1⟩)
      | (go_at_call 14; refine (few_any A n c _).mono ?_; rintro e w' ⟨rfl, rfl⟩)
      | (go_at_call 15; refine (new_any A n c xs _ (h.upto hb1) hn).mono ?_; rintro e w2 ⟨⟨g, rfl, hge, hD2⟩, hb2⟩
         have hbb2 := bnext hb1 hb2
         have hg : w.heap.size ≤ g := by rw [hge]; exact hb1.size
         clear hge)
      | (go_at_call 17; refine (limits_any g A n c xs _ _ hD2).mono ?_; rintro e w3 ⟨L, m, lc, l, q3, rfl, hL3, hsm, hD3, hS3⟩
         have hbb3 := Step.below hbb2 hS3 hbb2.size hg
         have HS := Lib.hid hsm
         clear hsm)
      | (go_at_call 24; refine (mod_any seed 2147483646 _ (by omega) (by omega)).mono ?_; rintro e w' ⟨rfl, rfl⟩
         have hmod : 0 ≤ seed % 2147483646 ∧ seed % 2147483646 < 2147483646 := by omega
         have hm6 : m ≤ 6 := by have := HS.out.1; rw [hL3.len] at this; exact this))
    have hs1 : 1 ≤ 1 + seed % 2147483646 ∧ 1 + seed % 2147483646 < 2147483647 := by omega
    obtain ⟨s, hs⟩ : ∃ s, 1 + seed % 2147483646 = s := ⟨_, rfl⟩
    have hcm : 0 ≤ cut % ((m : Int) + 1) ∧ cut % ((m : Int) + 1) < (m : Int) + 1 := ⟨Int.emod_nonneg _ (by omega), Int.emod_lt_of_pos _ (by omega)⟩
    obtain ⟨k, hk⟩ : ∃ k : Nat, cut % ((m : Int) + 1) = k := ⟨(cut % ((m : Int) + 1)).toNat, by omega⟩
    rw [hs] at hs1
    rw [hk] at hcm
    rw [hs, hk]
    have hkm : k ≤ m := by omega
    have hk0 : (0 : Int) ≤ (k : Int) := by omega
    have HG := Lib.hid (seedL_in l s (fun n hn => (HS.out.2 n hn).1))
    have HLL := Lib.hid hL3.len
    have HT := Lib.hid (seedL_take l s k)
    have hI3 := hL3.ints
    clear hs hk hmod hbb2 hb1 hb2 hS3 hD2 hD3
    rcases hL3.shape with ⟨rfl, hm0, rfl⟩ | ⟨gL, rfl, hlc, hlc2⟩
    · subst hm0
      have hk00 : k = 0 := by omega
      subst hk00
      go_wp2_with (first
        | (go_at_call 34; (with_reducible refine (seeded_ok none 0 0 l s w3 hI3 HS.out hs1).mono ?_); rintro e w4 ⟨⟨D4, dc4, rfl, hown4⟩, hb4⟩
           have hbb4 := bnext hbb3 hb4
           have hI4 := (hI3.upto hb4).upto (bbox (.cells #[.slice D4 0 dc4, .int .i64 0] 24))
           have hN4 := Blk.new w4 24 #[.slice D4 0 dc4, .int .i64 0]
           clear hb4)
        | (go_at_call 34; (refine (seeded_ok none 0 0 (l.take 0) s _ (hI4.take_ 0 hkm) (smallL_take HS.out 0) hs1).mono ?_); rintro e w5 ⟨⟨D5, dc5, rfl, hown5⟩, hb5⟩
           have hbb5 := bnext (ballocs hbb4 (.cells #[.slice D4 0 dc4, .int .i64 0] 24)) hb5
           have hI5 := (hI4.upto hb5).upto (bbox (.cells #[.slice D5 0 dc5, .int .i64 0] 24))
           have hN5 := (hN4.below hb5 (by simp)).alloc (.cells #[.slice D5 0 dc5, .int .i64 0] 24)
           have hM5 := Blk.new w5 24 #[.slice D5 0 dc5, .int .i64 0]
           have hP5 := ((hown4.ints.upto (bbox (.cells #[.slice D4 0 dc4, .int .i64 0] 24))).upto hb5).upto (bbox (.cells #[.slice D5 0 dc5, .int .i64 0] 24))
           have hQ5 := hown5.ints.upto (bbox (.cells #[.slice D5 0 dc5, .int .i64 0] 24))
           have hx0 : (w5.alloc (.cells #[.slice D5 0 dc5, .int .i64 0] 24)).cell? ⟨w4.heap.size, 0, none⟩ = some (.slice D4 0 dc4) := (hN5.cell 0).trans rfl
           have hx1 : (w5.alloc (.cells #[.slice D5 0 dc5, .int .i64 0] 24)).cell? ⟨w4.heap.size, 1, none⟩ = some (.int .i64 0) := (hN5.cell 1).trans rfl
           clear hb5)
        | (go_at_call 33; refine (number_ok none D4 0 0 dc4 l (seedL s l) _ hI5 hP5 HS.out (fun j hj => HG.out j (by rw [HLL.out]; exact hj))).mono ?_; rintro e w6 ⟨rfl, hb6⟩
           have hbb6 := bnext (ballocs hbb5 (.cells #[.slice D5 0 dc5, .int .i64 0] 24)) hb6
           have hN6 := hN5.below hb6 hN5.lt
           have hM6 := hM5.below hb6 hM5.lt
           have hP6 := hP5.upto hb6
           have hQ6 := hQ5.upto hb6
           have hy0 : w6.cell? ⟨w4.heap.size, 0, none⟩ = some (.slice D4 0 dc4) := (hN6.cell 0).trans rfl
           have hy1 : w6.cell? ⟨w5.heap.size, 0, none⟩ = some (.slice D5 0 dc5) := (hM6.cell 0).trans rfl
           have hsh := hown4.shape
           obtain ⟨num, HNU⟩ : ∃ num, Hid (numL l (seedL s l) = num) := ⟨_, Lib.hid rfl⟩
           rw [HNU.out]
           clear hb6))
      clear hN4 hN5 hM5 hx0 hx1 hI4 hI5 hP5 hQ5 hbb4 hbb5 hown4 hown5
      have HPT := Lib.hid (hP6.take_ 0 hkm)
      have HEQ : Hid (((seedL s l).take 0 == seedL s (l.take 0)) = true) := Lib.hid (by rw [HT.out]; exact beq_self_eq_true _)
      rcases hsh with ⟨rfl, hm0, rfl⟩ | ⟨gD, rfl, hdc, hdc2⟩
      · go_quiet ((go_at_call 29; exact quiet_more (v := .bool true) ((ints_any none D5 0 0 0 dc5 _ _ _ (HPT.out.drewN _) (hQ6.drewN _) (by omega) (by omega)).mono fun e w' h => ⟨by rw [h.1, HEQ.out], h.2⟩)))
        go_wp2
        go_ret
        exact ⟨rfl, below_drewN hbb6 _⟩
      · have hkd : ((0 : Nat) : Int) ≤ (dc4 : Int) := by omega
        go_quiet ((go_at_call 29; exact quiet_more (v := .bool true) ((ints_any (some ⟨gD, 0, none⟩) D5 0 0 dc4 dc5 _ _ _ (HPT.out.drewN _) (hQ6.drewN _) (by omega) (by omega)).mono fun e w' h => ⟨by rw [h.1, HEQ.out], h.2⟩)))
        go_wp2
        go_ret
        exact ⟨rfl, below_drewN hbb6 _⟩
    · have hkl : (k : Int) ≤ (lc : Int) := by omega
      go_wp2_with (first
        | (go_at_call 34; (with_reducible refine (seeded_ok (some ⟨gL, 0, none⟩) m lc l s w3 hI3 HS.out hs1).mono ?_); rintro e w4 ⟨⟨D4, dc4, rfl, hown4⟩, hb4⟩
           have hbb4 := bnext hbb3 hb4
           have hI4 := (hI3.upto hb4).upto (bbox (.cells #[.slice D4 m dc4, .int .i64 0] 24))
           have hN4 := Blk.new w4 24 #[.slice D4 m dc4, .int .i64 0]
           clear hb4)
        | (go_at_call 34; (refine (seeded_ok (some ⟨gL, 0, none⟩) k lc (l.take k) s _ (hI4.take_ k hkm) (smallL_take HS.out k) hs1).mono ?_); rintro e w5 ⟨⟨D5, dc5, rfl, hown5⟩, hb5⟩
           have hbb5 := bnext (ballocs hbb4 (.cells #[.slice D4 m dc4, .int .i64 0] 24)) hb5
           have hI5 := (hI4.upto hb5).upto (bbox (.cells #[.slice D5 k dc5, .int .i64 0] 24))
           have hN5 := (hN4.below hb5 (by simp)).alloc (.cells #[.slice D5 k dc5, .int .i64 0] 24)
           have hM5 := Blk.new w5 24 #[.slice D5 k dc5, .int .i64 0]
           have hP5 := ((hown4.ints.upto (bbox (.cells #[.slice D4 m dc4, .int .i64 0] 24))).upto hb5).upto (bbox (.cells #[.slice D5 k dc5, .int .i64 0] 24))
           have hQ5 := hown5.ints.upto (bbox (.cells #[.slice D5 k dc5, .int .i64 0] 24))
           have hx0 : (w5.alloc (.cells #[.slice D5 k dc5, .int .i64 0] 24)).cell? ⟨w4.heap.size, 0, none⟩ = some (.slice D4 m dc4) := (hN5.cell 0).trans rfl
           have hx1 : (w5.alloc (.cells #[.slice D5 k dc5, .int .i64 0] 24)).cell? ⟨w4.heap.size, 1, none⟩ = some (.int .i64 0) := (hN5.cell 1).trans rfl
           clear hb5)
        | (go_at_call 33; refine (number_ok (some ⟨gL, 0, none⟩) D4 m lc dc4 l (seedL s l) _ hI5 hP5 HS.out (fun j hj => HG.out j (by rw [HLL.out]; exact hj))).mono ?_; rintro e w6 ⟨rfl, hb6⟩
           have hbb6 := bnext (ballocs hbb5 (.cells #[.slice D5 k dc5, .int .i64 0] 24)) hb6
           have hN6 := hN5.below hb6 hN5.lt
           have hM6 := hM5.below hb6 hM5.lt
           have hP6 := hP5.upto hb6
           have hQ6 := hQ5.upto hb6
           have hy0 : w6.cell? ⟨w4.heap.size, 0, none⟩ = some (.slice D4 m dc4) := (hN6.cell 0).trans rfl
           have hy1 : w6.cell? ⟨w5.heap.size, 0, none⟩ = some (.slice D5 k dc5) := (hM6.cell 0).trans rfl
           have hsh := hown4.shape
           obtain ⟨num, HNU⟩ : ∃ num, Hid (numL l (seedL s l) = num) := ⟨_, Lib.hid rfl⟩
           rw [HNU.out]
           clear hb6))
      clear hN4 hN5 hM5 hx0 hx1 hI4 hI5 hP5 hQ5 hbb4 hbb5 hown4 hown5
      have HPT := Lib.hid (hP6.take_ k hkm)
      have HEQ : Hid (((seedL s l).take k == seedL s (l.take k)) = true) := Lib.hid (by rw [HT.out]; exact beq_self_eq_true _)
      rcases hsh with ⟨rfl, hm0, rfl⟩ | ⟨gD, rfl, hdc, hdc2⟩
      · have hk00 : k = 0 := by omega
        subst hk00
        go_quiet ((go_at_call 29; exact quiet_more (v := .bool true) ((ints_any none D5 0 0 0 dc5 _ _ _ (HPT.out.drewN _) (hQ6.drewN _) (by omega) (by omega)).mono fun e w' h => ⟨by rw [h.1, HEQ.out], h.2⟩)))
        go_wp2
        go_ret
        exact ⟨rfl, below_drewN hbb6 _⟩
      · have hkd : (k : Int) ≤ (dc4 : Int) := by omega
        go_quiet ((go_at_call 29; exact quiet_more (v := .bool true) ((ints_any (some ⟨gD, 0, none⟩) D5 k k dc4 dc5 _ _ _ (HPT.out.drewN _) (hQ6.drewN _) (by omega) (by omega)).mono fun e w' h => ⟨by rw [h.1, HEQ.out], h.2⟩)))
        go_wp2
        go_ret
        exact ⟨rfl, below_drewN hbb6 _⟩
  · have hd : decide (n ≤ 500) = false := by simpa using hn
    go_enter Try.func6, Try.ntmps6
    go_wp2_with (first
      | (go_at_call 13; refine (sane02_any _).mono ?_; rintro e w1 ⟨rfl, hb1⟩)
      | (go_at_call 14; refine (few_any A n c _).mono ?_; rintro e w' ⟨rfl, rfl⟩))
    go_ret
    exact ⟨rfl, hb1⟩
end Go.Proofs.Ytpkieikiakikmaa
