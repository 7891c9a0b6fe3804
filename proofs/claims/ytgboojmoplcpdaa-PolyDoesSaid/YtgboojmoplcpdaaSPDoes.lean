/-
  PolyDoes returns true: the walk of the law. Conditions: none beyond the reading of its arguments.
-/
import Derived.Test.YtgboojmoplcpdaaFld
import Derived.Test.YtgboojmoplcpdaaUniq
import Derived.Test.YtgboojmoplcpdaaShRaw
import Derived.Test.YtgboojmoplcpdaaSane5
import Derived.Test.YtgboojmoplcpdaaOff
import Derived.Test.YtgboojmoplcpdaaSame
namespace Go.Proofs.Ytgboojmoplcpdaa
open Go.RowKit
set_option linter.unusedVariables false

/-- Two or three of a kind, in a block. -/
theorem two5_of {P : Nat → Prop} (h0 : P 0) (h1 : P 1) : ∀ i, i < 2 → P i := by
  intro i hi
  have : i = 0 ∨ i = 1 := by omega
  rcases this with rfl | rfl
  · exact h0
  · exact h1
theorem three5_of {P : Nat → Prop} (h0 : P 0) (h1 : P 1) (h2 : P 2) : ∀ i, i < 3 → P i := by
  intro i hi
  have : i = 0 ∨ i = 1 ∨ i = 2 := by omega
  rcases this with rfl | rfl | rfl
  · exact h0
  · exact h1
  · exact h2

/-- append(s[:n:n], l...), the number of shares under a name. -/
theorem wpList_append_cutN {N : Nat} {w : World} {ops : Array Oper} {rest : List Oper} {o : Oper} {a : Act} {Q : Exit → Act → World → Prop} (hgd : o.guard = none) (s x : Operand) (t : TypeId)
    (ho : o.op = .call { callee := .builtin .append, args := #[s, x], argTypes := #[t, t] })
    (ht : Try.prog.underlying t = some (.slice 52)) (A : Option Addr) (n : Nat) (us ys : List Int) (hs : a.eval s = .slice A n n) (hA : (A = none ∧ n = 0) ∨ ∃ g, A = some ⟨g, 0, none⟩) (h1 : Sh w w.heap.size A n us ys)
    (A2 : Option Addr) (m c2 : Nat) (us2 ys2 : List Int) (hx : a.eval x = .slice A2 m c2) (h2 : Sh w w.heap.size A2 m us2 ys2) (hn : n ≤ 1000000) (hm : m ≤ 1000000) (hN : n + m = N)
    (h : ∀ A' c' w', Sh w' w'.heap.size A' N (us ++ us2) (ys ++ ys2) → Below w.heap.size w w' → N ≤ c' → wpList Try.prog ops Q rest (a.put o.dst (.slice A' N c')) w') : wpList Try.prog ops Q (o :: rest) a w := by
  subst hN
  exact wpList_append_cut hgd s x t ho ht A n us ys hs hA h1 A2 m c2 us2 ys2 hx h2 hn hm h

set_option maxHeartbeats 8000000 in
set_option maxRecDepth 100000 in
theorem polyDoes_walk (T : Option Addr) (n c : Nat) (xs : List Int) (pr : Int) (A : Option Addr) (la ca : Nat) (al : List Int) (B : Option Addr) (lb cb : Nat) (bl : List Int) (x : Int) (L : Option Addr) (ll cl : Nat) (u0 y0 : List Int) (w : World)
    (h : Ints w w.heap.size T n xs) (hpr : -9223372036854775808 ≤ pr ∧ pr ≤ 9223372036854775807) (hA : Ints w w.heap.size A la al) (hla : la ≤ 17592186043904) (hlca : la ≤ ca) (hB : Ints w w.heap.size B lb bl) (hlb : lb ≤ 17592186043904) (hlcb : lb ≤ cb)
    (hx : -9223372036854775808 ≤ x ∧ x ≤ 9223372036854775807) (hL : Sh w w.heap.size L ll u0 y0) (hlcl : ll ≤ cl) :
    Calls Try.prog 4 #[.slice T n c, .agg #[.int .i64 pr], .slice A la ca, .slice B lb cb, .int .i64 x, .slice L ll cl] w fun e w' => e = .returned (.bool true) ∧ Below w.heap.size w w' := by
  have hbx : Below w.heap.size w (w.alloc (.cells #[.int .i64 pr] 24)) := bbox _
  have hB0 := Blk.new w 24 #[.int .i64 pr]
  by_cases hn : n ≤ 500
  · have hd : decide (n ≤ 500) = true := by simpa using hn
    by_cases hab : la + lb ≤ 700
    · have hab1 : ¬ (700 : Int) < (la : Int) + (lb : Int) := by omega
      by_cases hll : ll ≤ 60
      · have hll1 : ¬ (60 : Int) < (ll : Int) := by omega
        go_enter Try.func4, Try.ntmps4
        go_wp2_with (first
          | (go_at_call 27; refine (sane05_any _).mono ?_; rintro e w1 ⟨rfl, hb1⟩
             have hbb1 := bnext hbx hb1
             have hB1 := hB0.below hb1 hB0.lt
             clear hb1)
          | (go_at_call 8; refine (few_any T n c _).mono ?_; rintro e w' ⟨rfl, rfl⟩)
          | (go_at_call 10; refine (new_any T n c xs _ (h.upto hbb1) hn).mono ?_; rintro e w2 ⟨⟨g, rfl, hge, hD2⟩, hb2⟩
             have hbb2 := bnext hbb1 hb2
             have hB2 := hB1.below hb2 hB1.lt
             have hg : w.heap.size < g := by rw [hge]; exact hB1.lt
             clear hge hb2)
          | (go_at_call 11; refine (field_any g T n c xs _ _ hD2).mono ?_; rintro e w3 ⟨p, q3, rfl, hkn, hD3, hS3⟩
             have hbb3 := ballocs (Step.below hbb2 hS3 hbb2.size (by omega)) (.cells #[.int .i64 p] 24)
             have hB3 := (Step.block hS3 hB2 (by omega)).alloc (.cells #[.int .i64 p] 24)
             have hF3 := Blk.new w3 24 #[.int .i64 p]
             have hD3' := hD3.alloc (.cells #[.int .i64 p] 24)
             have hgf : g < w3.heap.size := hD3.1.lt
             have hc3 : (w3.alloc (.cells #[.int .i64 p] 24)).cell? ⟨w3.heap.size, 0, none⟩ = some (.int .i64 p) := (hF3.cell 0).trans rfl
             have HO := Lib.hid (okP_known hkn)
             have hp := okP_pos (okP_known hkn)
             clear hkn hD3 hS3 hB2 hbb2))
        go_region_held3 (fun w' => w'.cell? ⟨w3.heap.size, 0, none⟩ = some (.int .i64 p)) (first | go_keep | exact hc3 | exact hc4 | exact hc5 | exact hc6 | exact hc7)
          (first
            | (go_at_call 12; (with_reducible refine (next_any g T n c xs q5 6 w5 hD5 (by omega)).mono ?_); rintro e w6 ⟨s', q6, rfl, hs, hs0, hD6, hS6, hz6⟩
               obtain ⟨k2, rfl⟩ : ∃ r : Nat, s' = r := ⟨s'.toNat, by have := hs (by omega); omega⟩
               have hk6 : k2 < 6 := by have := hs (by omega); omega
               have hF6 := Step.block hS6 hF5 (by omega)
               have hc6 : w6.cell? ⟨w3.heap.size, 0, none⟩ = some (.int .i64 p) := (hF6.cell 0).trans rfl
               have hT6 := hT5.trans hS6
               clear hs hs0 hz6)
            | (go_at_call 12; refine (next_any g T n c xs q3 8 _ hD3'.drew (by omega)).mono ?_; rintro e w4 ⟨r', q4, rfl, hr, hr0, hD4, hS4, hz4⟩
               obtain ⟨k1, rfl⟩ : ∃ r : Nat, r' = r := ⟨r'.toNat, by have := hr (by omega); omega⟩
               have hk8 : k1 < 8 := by have := hr (by omega); omega
               have hF4 := Step.block hS4 hF3.drew (by omega)
               have hc4 : w4.cell? ⟨w3.heap.size, 0, none⟩ = some (.int .i64 p) := (hF4.cell 0).trans rfl
               have hT4 := hS4
               clear hr hr0 hz4)
            | (go_at_call 14; (with_reducible refine (elements_any g T n c xs q4 p k1 w4 hD4 hp (by omega)).mono ?_); rintro e w5 ⟨B1, d1, ps, q5, rfl, hown5, hPA, hD5, hS5⟩
               have hF5 := Step.block hS5 hF4 (by omega)
               have hc5 : w5.cell? ⟨w3.heap.size, 0, none⟩ = some (.int .i64 p) := (hF5.cell 0).trans rfl
               have hT5 := hT4.trans hS5)
            | (go_at_call 14; (with_reducible refine (elements_any g T n c xs q6 p k2 w6 hD6 hp (by omega)).mono ?_); rintro e w7 ⟨B2, d2, qs, q7, rfl, hown7, hQA, hD7, hS7⟩
               have hF7 := Step.block hS7 hF6 (by omega)
               have hc7 : w7.cell? ⟨w3.heap.size, 0, none⟩ = some (.int .i64 p) := (hF7.cell 0).trans rfl
               have hT7 := hT6.trans hS7))
        rename_i K hk hHeld
        clear hHeld
        refine hk _ _ ?_
        clear hk
        go_wp2_with fail
        obtain ⟨m8, hm8⟩ : ∃ m8 : Int, (if 8 < p then (8 : Int) else p) = m8 := ⟨_, rfl⟩
        have hm82 : 2 ≤ m8 ∧ m8 ≤ 8 := by split at hm8 <;> omega
        obtain ⟨M, hM⟩ : ∃ M : Nat, (M : Int) = m8 + 1 := ⟨(m8 + 1).toNat, by omega⟩
        have hM2 : 0 < M ∧ M ≤ 9 := by omega
        have hMw : IntKind.i64.wrap (m8 + 1) = (M : Int) := by rw [IntWalk.i64_in _ (by omega)]; exact hM.symm
        have hg4 : g < w4.heap.size := hD4.1.lt
        have hg6 : g < w6.heap.size := hD6.1.lt
        have hP7 := (IntsO.of_own hown5 hg4).step (hS6.trans hS7)
        have hQ7 := IntsO.of_own hown7 hg6
        have hpd : k1 ≤ d1 := hown5.cap
        have hqd : k2 ≤ d2 := hown7.cap
        have hF7d : Blk w7.drew w3.heap.size 24 #[.int .i64 p] := hF7
        have hc7d : w7.drew.cell? ⟨w3.heap.size, 0, none⟩ = some (.int .i64 p) := hc7
        clear hM hm82
        go_region_held3 (fun w' => w'.cell? ⟨w3.heap.size, 0, none⟩ = some (.int .i64 p)) (first | go_keep | exact hc7 | exact hc7d | exact hc8 | exact hc9)
          (first
            | (go_at_call 12; refine (next_any g T n c xs q7 _ _ hD7.drew (by omega)).mono ?_; rintro e w8 ⟨s', q8, rfl, hs, hs0, hD8, hS8, hz8⟩
               obtain ⟨k3, rfl⟩ : ∃ r : Nat, s' = r := ⟨s'.toNat, by have := hs (by omega); omega⟩
               have hk9 : k3 < 9 := by have := hs (by omega); omega
               have hF8 := Step.block hS8 hF7d (by omega)
               have hc8 : w8.cell? ⟨w3.heap.size, 0, none⟩ = some (.int .i64 p) := (hF8.cell 0).trans rfl
               clear hs hs0 hz8)
            | (go_at_call 14; (with_reducible refine (elements_any g T n c xs q8 p k3 w8 hD8 hp (by omega)).mono ?_); rintro e w9 ⟨B3, d3, es, q9, rfl, hown9, hEA, hD9, hS9⟩
               have hF9 := Step.block hS9 hF8 (by omega)
               have hc9 : w9.cell? ⟨w3.heap.size, 0, none⟩ = some (.int .i64 p) := (hF9.cell 0).trans rfl
               have hT9 := hS8.trans hS9))
        try (rename_i K hk hHeld; clear hHeld; refine hk _ _ ?_; clear hk)
        have hP9 : IntsO g w9 B1 k1 ps := IntsO.step (w := w7.drew) hP7 hT9
        have hQ9 : IntsO g w9 B2 k2 qs := IntsO.step (w := w7.drew) hQ7 hT9
        have hTT := hT7.drew.trans hT9
        have hbb9 := Step.below hbb3.drew hTT hbb3.size (by omega)
        have hB9 := Step.block hTT hB3.drew (by omega)
        have hIA := hA.upto hbb9
        have hIB := hB.upto hbb9
        have hIL := hL.upto hbb9
        have hIP := hP9.ints
        have hIQ := hQ9.ints
        have hIE := hown9.ints
        have HEL := Lib.hid hIE.len
        clear hT4 hT5 hT6 hT7 hT9 hTT hc3 hc4 hc5 hc6 hc7 hc7d hc8 hD2 hD3' hD4 hD5 hD6 hD7 hD8 hD9 hS4 hS5 hS6 hS7 hS8 hS9 hown5 hown7 hown9 hF3 hF4 hF5 hF6 hF7 hF7d hF8 hB3 hbb3 hbx hB0 hbb1 hB1 hPA hQA hEA hn hd hab hab1 hll1 hP7 hQ7 hP9 hQ9 hg4 hg6 hMw hM2 hm8 h
        go_wp2_with fail
        go_loopw [17, 102] (fun v i wz => ∃ (k : Nat) (S : Option Addr) (sc : Nat), k ≤ k3 ∧ v = .slice S k sc ∧ i = .int .i64 k ∧ Hid (OwnS wz w9.heap.size S k sc ((List.range k).map fun t : Nat => (t : Int)) (es.take k)) ∧ Below w9.heap.size w9 wz) (fun _ i _ => k3 - (intOf i).toNat)
        case atStart => exact ⟨0, none, 0, Nat.zero_le _, rfl, rfl, Lib.hid OwnS.nil_, Below.refl _ _⟩
        case round =>
          as_aux_lemma =>
            obtain ⟨k, S, sc, hk, rfl, rfl, HS, hbz⟩ := hrel
            by_cases hlt : k < k3
            · obtain ⟨b1, o1, rfl, hb1, hc1⟩ := hIE.2 (by omega)
              have hcx := (hbz.cell (p := ⟨b1, o1 + k, none⟩) hb1).trans (hc1 k hlt)
              clear hc1
              have HTS := Lib.hid (take_succ_getD es k (by rw [HEL.out]; exact hlt))
              have HRS : Hid ((List.range (k + 1)).map (fun t : Nat => (t : Int)) = (List.range k).map (fun t : Nat => (t : Int)) ++ [(k : Int)]) := Lib.hid (by rw [List.range_succ, List.map_append]; rfl)
              obtain ⟨y, HY⟩ : ∃ y, Hid (es.getD k 0 = y) := ⟨_, Lib.hid rfl⟩
              rw [HY.out] at hcx HTS
              have hS9 := HS.out.belowAll (bbox (.cells #[.int .i64 k, .int .i64 y] 52))
              have hN9 := Blk.new wr 52 #[.int .i64 k, .int .i64 y]
              have hbz9 := ballocs hbz (.cells #[.int .i64 k, .int .i64 y] 52)
              go_wp2_with ((at_builtin
                            refine wpList_append_share rfl _ _ 50 rfl Try.underlying50 w9.heap.size S k sc _ (es.take k) rfl hS9 wr.heap.size 1 (k : Int) y rfl ((hN9.cell 0).trans rfl) ((hN9.cell 1).trans rfl) (by omega) hbz9.size ?_
                            intro L2 lc2 w10 hS10 hb10
                            have hbz10 := hbz9.trans hb10))
              go_roundw
              case rel => exact ⟨k + 1, L2, lc2, by omega, rfl, by go_num, Lib.hid (by rw [HTS.out, HRS.out]; exact hS10), hbz10⟩
              case measure => simp [intOf]; omega
            · obtain rfl : k = k3 := by omega
              have hSS : OwnS wr w9.heap.size S k sc ((List.range k).map fun t : Nat => (t : Int)) es := by have := HS.out; rwa [List.take_of_length_le (by rw [HEL.out]; omega)] at this
              have hSI := hSS.sh
              have hSF := hSS.formC
              have hIA := hIA.upto hbz
              have hIB := hIB.upto hbz
              have hIL := hIL.upto hbz
              have hIP := hIP.upto hbz
              have hIQ := hIQ.upto hbz
              have hbb := bnext hbb9 hbz
              have hF := hF9.below hbz hF9.lt
              have hBr := hB9.below hbz hB9.lt
              have hf0 : wr.cell? ⟨w3.heap.size, 0, none⟩ = some (.int .i64 p) := (hF.cell 0).trans rfl
              have hr0 : wr.cell? ⟨w.heap.size, 0, none⟩ = some (.int .i64 pr) := (hBr.cell 0).trans rfl
              clear HS hSS hIE HEL hbz hbb9 hF9 hB9 hc9
              obtain ⟨us1, HU1⟩ : ∃ us1, Hid ((List.range k).map (fun t : Nat => (t : Int)) = us1) := ⟨_, Lib.hid rfl⟩
              rw [HU1.out] at hSI
              clear HU1
              go_wp2_with fail
              have hbW := ballocs hbb (.cells #[.int .i64 pr, .int .i64 p] 24)
              have hN := Blk.new wr 24 #[.int .i64 pr, .int .i64 p]
              have hFW := hF.alloc (.cells #[.int .i64 pr, .int .i64 p] 24)
              have hbrW : Below wr.heap.size wr (wr.alloc (.cells #[.int .i64 pr, .int .i64 p] 24)) := bbox _
              have hWA := hIA.upto hbrW
              have hWB := hIB.upto hbrW
              have hWL := hIL.upto hbrW
              have hWP := hIP.upto hbrW
              have hWQ := hIQ.upto hbrW
              have hWS := hSI.upto hbrW
              obtain ⟨gN, hgNe⟩ : ∃ gN, wr.heap.size = gN := ⟨_, rfl⟩
              obtain ⟨gF, hgFe⟩ : ∃ gF, w3.heap.size = gF := ⟨_, rfl⟩
              obtain ⟨W, hW⟩ : ∃ W, wr.alloc (.cells #[.int .i64 pr, .int .i64 p] 24) = W := ⟨_, rfl⟩
              rw [hW] at hbW hN hFW hWA hWB hWL hWP hWQ hWS
              rw [hgNe] at hN
              rw [hgFe] at hFW
              have hNl := hN.lt
              have PGS := Lib.hid (two5_of (P := fun j => ∃ pg : Int, W.cell? ⟨gN, j, none⟩ = some (.int .i64 pg) ∧ -9223372036854775808 ≤ pg ∧ pg ≤ 9223372036854775807) ⟨pr, (hN.cell 0).trans rfl, hpr⟩ ⟨p, (hN.cell 1).trans rfl, by omega, by omega⟩)
              rw [hgNe, hW, hgFe]
              clear hgNe hW hgFe hbrW hIA hIB hIL hIP hIQ hSI hF hBr hbb hr0 hf0 hN hgf
              go_loopw [118] (fun i wr => ∃ j : Nat, j ≤ 2 ∧ i = .int .i64 j ∧ Below W.heap.size W wr) (fun i _ => 2 - (intOf i).toNat)
              case atStart => exact ⟨0, by omega, rfl, Below.refl _ _⟩
              case round =>
                as_aux_lemma =>
                  obtain ⟨j, hj2, rfl, hS⟩ := hrel
                  by_cases hj : j < 2
                  · obtain ⟨pg, hpg, hpg64⟩ := PGS.out j hj
                    have hjl : (j : Int) < 2 := by omega
                    have hj0 : (0 : Int) ≤ (j : Int) := by omega
                    have := (hS.cell (p := ⟨gN, j, none⟩) hNl).trans hpg
                    have hS0 := ballocs hS (.cells #[.int .i64 pg] 24)
                    have hG0 := Blk.new wr 24 #[.int .i64 pg]
                    go_wp2_with fail
                    have hS1 := ballocs hS0 (.cells #[.slice A la ca, .slice B1 k1 d1] 22)
                    have hG1 := hG0.alloc (.cells #[.slice A la ca, .slice B1 k1 d1] 22)
                    have hY1 := Blk.new (wr.alloc (.cells #[.int .i64 pg] 24)) 22 #[.slice A la ca, .slice B1 k1 d1]
                    rw [World.size_alloc] at hY1
                    obtain ⟨gP, hgP⟩ : ∃ gP, wr.heap.size = gP := ⟨_, rfl⟩
                    obtain ⟨W1, hW1⟩ : ∃ W1, (wr.alloc (.cells #[.int .i64 pg] 24)).alloc (.cells #[.slice A la ca, .slice B1 k1 d1] 22) = W1 := ⟨_, rfl⟩
                    rw [hW1] at hS1 hG1 hY1
                    rw [hgP] at hG1 hY1
                    have hY1l := hY1.lt
                    have hXA := hWA.upto hS1
                    have hXB := hWB.upto hS1
                    have hXL := hWL.upto hS1
                    have hXP := hWP.upto hS1
                    have hXQ := hWQ.upto hS1
                    have hXS := hWS.upto hS1
                    have hFX := hFW.below hS1 hFW.lt
                    have MSS := Lib.hid (two5_of (P := fun i => ∃ (M : Option Addr) (mn mc : Nat) (mx : List Int), W1.cell? ⟨gP + 1, i, none⟩ = some (.slice M mn mc) ∧ Ints W1 W1.heap.size M mn mx ∧ mn ≤ 17592186043904 ∧ mn ≤ mc) ⟨A, la, ca, al, (hY1.cell 0).trans rfl, hXA, hla, hlca⟩ ⟨B1, k1, d1, ps, (hY1.cell 1).trans rfl, hXP, by omega, hpd⟩)
                    rw [hgP, hW1]
                    clear hgP hW1 hS hS0 hG0 hY1 hpg hXA hXP
                    go_loopw [126] (fun i wr => ∃ i2 : Nat, i2 ≤ 2 ∧ i = .int .i64 i2 ∧ Below W1.heap.size W1 wr) (fun i _ => 2 - (intOf i).toNat)
                    case atStart => exact ⟨0, by omega, rfl, Below.refl _ _⟩
                    case round =>
                      as_aux_lemma =>
                        obtain ⟨i2, hi2, rfl, hS⟩ := hrel
                        by_cases hi2' : i2 < 2
                        · obtain ⟨M, mn, mc, mx, hmv, hMI, hmn, hmnc⟩ := MSS.out i2 hi2'
                          have hil2 : (i2 : Int) < 2 := by omega
                          have hi02 : (0 : Int) ≤ (i2 : Int) := by omega
                          have hv2 := (hS.cell (p := ⟨gP + 1, i2, none⟩) hY1l).trans hmv
                          go_wp2_with fail
                          have hS2 := ballocs hS (.cells #[.slice B lb cb, .slice B2 k2 d2] 22)
                          have hZ2 := Blk.new wr 22 #[.slice B lb cb, .slice B2 k2 d2]
                          obtain ⟨gZ, hgZ⟩ : ∃ gZ, wr.heap.size = gZ := ⟨_, rfl⟩
                          obtain ⟨W2, hW2⟩ : ∃ W2, wr.alloc (.cells #[.slice B lb cb, .slice B2 k2 d2] 22) = W2 := ⟨_, rfl⟩
                          rw [hW2] at hS2 hZ2
                          rw [hgZ] at hZ2
                          have hZ2l := hZ2.lt
                          have hG2 := hG1.below hS2 hG1.lt
                          have hMI2 := hMI.upto hS2
                          have ESS := Lib.hid (two5_of (P := fun i => ∃ (E : Option Addr) (en ec : Nat) (ex : List Int), W2.cell? ⟨gZ, i, none⟩ = some (.slice E en ec) ∧ Ints W2 W2.heap.size E en ex ∧ en ≤ 17592186043904 ∧ en ≤ ec) ⟨B, lb, cb, bl, (hZ2.cell 0).trans rfl, hXB.upto hS2, hlb, hlcb⟩ ⟨B2, k2, d2, qs, (hZ2.cell 1).trans rfl, hXQ.upto hS2, by omega, hqd⟩)
                          rw [hgZ, hW2]
                          clear hgZ hW2 hS hv2 hmv hZ2 hMI
                          go_loopw [134] (fun i wr => ∃ i3 : Nat, i3 ≤ 2 ∧ i = .int .i64 i3 ∧ Below W2.heap.size W2 wr) (fun i _ => 2 - (intOf i).toNat)
                          case atStart => exact ⟨0, by omega, rfl, Below.refl _ _⟩
                          case round =>
                            as_aux_lemma =>
                              obtain ⟨i3, hi3, rfl, hS⟩ := hrel
                              by_cases hi3' : i3 < 2
                              · obtain ⟨E, en, ec, ex, hev, hEI, hen, henc⟩ := ESS.out i3 hi3'
                                have hil3 : (i3 : Int) < 2 := by omega
                                have hi03 : (0 : Int) ≤ (i3 : Int) := by omega
                                have hv3 := (hS.cell (p := ⟨gZ, i3, none⟩) hZ2l).trans hev
                                have hM_wr := hMI2.upto hS
                                have hE_wr := hEI.upto hS
                                have hG_wr := hG2.below hS hG2.lt
                                have hg_wr : wr.cell? ⟨gP, 0, none⟩ = some (.int .i64 pg) := (hG_wr.cell 0).trans rfl
                                have hS_wr := hS
                                have hml := hMI2.len
                                have hel := hEI.len
                                obtain ⟨r1, e1, HR1⟩ := pairE (polyR (errL pg [mx, ex]) (addL pg mx ex))
                                have HL1 := Lib.hid (polyR_len (errL pg [mx, ex]) (addL pg mx ex) (addL_le hml hel hmn hen))
                                obtain ⟨r2, e2, HR2⟩ := pairE (mulR pg mx ex)
                                have HL2 := Lib.hid (mulR_le pg hml hel hmn hen)
                                obtain ⟨dq, dr, e3, HD3⟩ := div_one pg mx ex
                                have HSA1 : Hid (sameL r1 r1 = true) := Lib.hid (by simp [sameL])
                                have HSA2 : Hid (sameL r2 r2 = true) := Lib.hid (by simp [sameL])
                                have HSA3 : Hid (sameL dq dq = true) := Lib.hid (by simp [sameL])
                                have HSA4 : Hid (sameL dr dr = true) := Lib.hid (by simp [sameL])
                                clear hml hel
                                go_wp2_with (first
                                  | (go_at_call 28; refine (vecE HR1 HL1 (padd_all pg M E mn en mc ec mx ex _ hpg64 hM_wr hE_wr hmnc henc (by omega) (by omega))).mono ?_; rintro e a1 ⟨C1, cn1, cc1, rfl, hU1, hcn1, hb_a1⟩
                                     have hS_a1 := bnext hS_wr hb_a1
                                     have hG_a1 := hG_wr.below hb_a1 hG_wr.lt
                                     have hg_a1 : a1.cell? ⟨gP, 0, none⟩ = some (.int .i64 pg) := (hG_a1.cell 0).trans rfl
                                     have hM_a1 := hM_wr.upto hb_a1
                                     have hE_a1 := hE_wr.upto hb_a1
                                     have hC1_a1 := hU1.ints
                                     clear hb_a1)
                                  | (go_at_call 29; refine (vecE HR1 HL1 (rAdd_all pg M E mn en mc ec mx ex _ hM_a1 hE_a1 hmnc henc (by omega) (by omega))).mono ?_; rintro e a2 ⟨C2, cn2, cc2, rfl, hU2, hcn2, hb_a2⟩
                                     have hS_a2 := bnext hS_a1 hb_a2
                                     have hG_a2 := hG_a1.below hb_a2 hG_a1.lt
                                     have hg_a2 : a2.cell? ⟨gP, 0, none⟩ = some (.int .i64 pg) := (hG_a2.cell 0).trans rfl
                                     have hM_a2 := hM_a1.upto hb_a2
                                     have hE_a2 := hE_a1.upto hb_a2
                                     have hC1_a2 := hC1_a1.upto hb_a2
                                     have hC2_a2 := hU2.ints
                                     clear hb_a2)
                                  | (go_at_call 30; refine (vecE HR2 HL2 (pmul_all pg M E mn en mc ec mx ex _ hpg64 hM_a2 hE_a2 hmnc henc (by omega) (by omega))).mono ?_; rintro e a3 ⟨C3, cn3, cc3, rfl, hU3, hcn3, hb_a3⟩
                                     have hS_a3 := bnext hS_a2 hb_a3
                                     have hG_a3 := hG_a2.below hb_a3 hG_a2.lt
                                     have hg_a3 : a3.cell? ⟨gP, 0, none⟩ = some (.int .i64 pg) := (hG_a3.cell 0).trans rfl
                                     have hM_a3 := hM_a2.upto hb_a3
                                     have hE_a3 := hE_a2.upto hb_a3
                                     have hC1_a3 := hC1_a2.upto hb_a3
                                     have hC2_a3 := hC2_a2.upto hb_a3
                                     have hC3_a3 := hU3.ints
                                     clear hb_a3)
                                  | (go_at_call 31; refine (vecE HR2 HL2 (rMul_all pg M E mn en mc ec mx ex _ hM_a3 hE_a3 hmnc henc (by omega) (by omega))).mono ?_; rintro e a4 ⟨C4, cn4, cc4, rfl, hU4, hcn4, hb_a4⟩
                                     have hS_a4 := bnext hS_a3 hb_a4
                                     have hG_a4 := hG_a3.below hb_a4 hG_a3.lt
                                     have hg_a4 : a4.cell? ⟨gP, 0, none⟩ = some (.int .i64 pg) := (hG_a4.cell 0).trans rfl
                                     have hM_a4 := hM_a3.upto hb_a4
                                     have hE_a4 := hE_a3.upto hb_a4
                                     have hC1_a4 := hC1_a3.upto hb_a4
                                     have hC2_a4 := hC2_a3.upto hb_a4
                                     have hC3_a4 := hC3_a3.upto hb_a4
                                     have hC4_a4 := hU4.ints
                                     clear hb_a4)
                                  | (go_at_call 32; refine (divE HD3 (pdivide_all pg M E mn en mc ec mx ex _ hpg64 hM_a4 hE_a4 hmnc henc (by omega) (by omega))).mono ?_; rintro e a5 ⟨C5, D5, cn5, dn5, cc5, dc5, rfl, hU5, hV5, hcn5, hdn5, hb_a5⟩
                                     have hS_a5 := bnext hS_a4 hb_a5
                                     have hG_a5 := hG_a4.below hb_a5 hG_a4.lt
                                     have hg_a5 : a5.cell? ⟨gP, 0, none⟩ = some (.int .i64 pg) := (hG_a5.cell 0).trans rfl
                                     have hM_a5 := hM_a4.upto hb_a5
                                     have hE_a5 := hE_a4.upto hb_a5
                                     have hC1_a5 := hC1_a4.upto hb_a5
                                     have hC2_a5 := hC2_a4.upto hb_a5
                                     have hC3_a5 := hC3_a4.upto hb_a5
                                     have hC4_a5 := hC4_a4.upto hb_a5
                                     have hC5_a5 := hU5
                                     have hD5_a5 := hV5
                                     clear hb_a5)
                                  | (go_at_call 33; refine (divE HD3 (rdivide_all pg M E mn en mc ec mx ex _ hM_a5 hE_a5 hmnc henc (by omega) (by omega))).mono ?_; rintro e a6 ⟨C6, D6, cn6, dn6, cc6, dc6, rfl, hU6, hV6, hcn6, hdn6, hb_a6⟩
                                     have hS_a6 := bnext hS_a5 hb_a6
                                     have hG_a6 := hG_a5.below hb_a6 hG_a5.lt
                                     have hg_a6 : a6.cell? ⟨gP, 0, none⟩ = some (.int .i64 pg) := (hG_a6.cell 0).trans rfl
                                     have hM_a6 := hM_a5.upto hb_a6
                                     have hE_a6 := hE_a5.upto hb_a6
                                     have hC1_a6 := hC1_a5.upto hb_a6
                                     have hC2_a6 := hC2_a5.upto hb_a6
                                     have hC3_a6 := hC3_a5.upto hb_a6
                                     have hC4_a6 := hC4_a5.upto hb_a6
                                     have hC5_a6 := hC5_a5.upto hb_a6
                                     have hD5_a6 := hD5_a5.upto hb_a6
                                     have hC6_a6 := hU6
                                     have hD6_a6 := hV6
                                     clear hb_a6)
                                  | (go_at_call 19; (with_reducible refine (same_any C1 C2 cn1 cn2 cc1 cc2 r1 r1 _ hC1_a6 hC2_a6 (by omega) (by omega)).mono ?_); rintro e b1 ⟨rfl, z1, rfl⟩; rw [HSA1.out])
                                  | (go_at_call 19; (with_reducible refine (same_any C3 C4 cn3 cn4 cc3 cc4 r2 r2 _ (hC3_a6.drewN _) (hC4_a6.drewN _) (by omega) (by omega)).mono ?_); rintro e b2 ⟨rfl, z2, rfl⟩; rw [HSA2.out])
                                  | (go_at_call 19; (with_reducible refine (same_any C5 C6 cn5 cn6 cc5 cc6 dq dq _ (hC5_a6.drewN _) (hC6_a6.drewN _) (by omega) (by omega)).mono ?_); rintro e b3 ⟨rfl, z3, rfl⟩; rw [HSA3.out])
                                  | (go_at_call 19; (with_reducible refine (same_any D5 D6 dn5 dn6 dc5 dc6 dr dr _ (hD5_a6.drewN _) (hD6_a6.drewN _) (by omega) (by omega)).mono ?_); rintro e b4 ⟨rfl, z4, rfl⟩; rw [HSA4.out]))
                                go_roundw
                                case rel => exact ⟨i3 + 1, by omega, by go_num, below_drewN hS_a6 _⟩
                                case measure => simp [intOf]; omega
                              · have hil3 : ¬ (i3 : Int) < 2 := by omega
                                have hG_wr := hG2.below hS hG2.lt
                                have hg_wr : wr.cell? ⟨gP, 0, none⟩ = some (.int .i64 pg) := (hG_wr.cell 0).trans rfl
                                have hS_wr := hS2.trans (hS.mono hS2.size)
                                have hM_wr := hMI2.upto hS
                                have hml := hMI2.len
                                have hFY := hFX.below hS_wr hFX.lt
                                have hpm : 0 ≤ x % p ∧ x % p < p := ⟨Int.emod_nonneg _ (by omega), Int.emod_lt_of_pos _ (by omega)⟩
                                obtain ⟨xm, hxm⟩ : ∃ v, x % p = v := ⟨_, rfl⟩
                                obtain ⟨r3, e4, HR3⟩ := pairE (polyR (errL pg [mx]) (trimL mx))
                                have HL3 := Lib.hid (polyR_len (errL pg [mx]) (trimL mx) (by have := trimL_le mx; omega))
                                obtain ⟨n4, e5, HR4⟩ := pairE (numR (errL pg [mx]) ((tn mx mn : Int) - 1))
                                have HSA5 : Hid (sameL r3 r3 = true) := Lib.hid (by simp [sameL])
                                clear hS hml
                                go_wp2_with (first
                                  | (go_at_call 34; refine (vecE HR3 HL3 (ptrim_all pg M mn mc mx _ hpg64 hM_wr hmnc (by omega))).mono ?_; rintro e a1 ⟨C1, cn1, cc1, rfl, hU1, hcn1, hb_a1⟩
                                     have hS_a1 := bnext hS_wr hb_a1
                                     have hG_a1 := hG_wr.below hb_a1 hG_wr.lt
                                     have hg_a1 : a1.cell? ⟨gP, 0, none⟩ = some (.int .i64 pg) := (hG_a1.cell 0).trans rfl
                                     have hM_a1 := hM_wr.upto hb_a1
                                     have hC1_a1 := hU1.ints
                                     clear hb_a1)
                                  | (go_at_call 35; refine (vecE HR3 HL3 (rTrim_all pg M mn mc mx _ hM_a1 hmnc (by omega))).mono ?_; rintro e a2 ⟨C2, cn2, cc2, rfl, hU2, hcn2, hb_a2⟩
                                     have hS_a2 := bnext hS_a1 hb_a2
                                     have hG_a2 := hG_a1.below hb_a2 hG_a1.lt
                                     have hg_a2 : a2.cell? ⟨gP, 0, none⟩ = some (.int .i64 pg) := (hG_a2.cell 0).trans rfl
                                     have hM_a2 := hM_a1.upto hb_a2
                                     have hC1_a2 := hC1_a1.upto hb_a2
                                     have hC2_a2 := hU2.ints
                                     clear hb_a2)
                                  | (go_at_call 36; refine (valE HR4 (pdeg_all pg M mn mc mx _ hpg64 hM_a2 hmnc (by omega))).mono ?_; rintro e a3 ⟨rfl, hb_a3⟩
                                     have hS_a3 := bnext hS_a2 hb_a3
                                     have hG_a3 := hG_a2.below hb_a3 hG_a2.lt
                                     have hg_a3 : a3.cell? ⟨gP, 0, none⟩ = some (.int .i64 pg) := (hG_a3.cell 0).trans rfl
                                     have hM_a3 := hM_a2.upto hb_a3
                                     have hC1_a3 := hC1_a2.upto hb_a3
                                     have hC2_a3 := hC2_a2.upto hb_a3
                                     clear hb_a3)
                                  | (go_at_call 37; refine (valE HR4 (rDegree_all pg M mn mc mx _ hM_a3 hmnc (by omega))).mono ?_; rintro e a4 ⟨rfl, hb_a4⟩
                                     have hS_a4 := bnext hS_a3 hb_a4
                                     have hG_a4 := hG_a3.below hb_a4 hG_a3.lt
                                     have hg_a4 : a4.cell? ⟨gP, 0, none⟩ = some (.int .i64 pg) := (hG_a4.cell 0).trans rfl
                                     have hM_a4 := hM_a3.upto hb_a4
                                     have hC1_a4 := hC1_a3.upto hb_a4
                                     have hC2_a4 := hC2_a3.upto hb_a4
                                     clear hb_a4)
                                  | (go_at_call 19; (with_reducible refine (same_any C1 C2 cn1 cn2 cc1 cc2 r3 r3 _ hC1_a4 hC2_a4 (by omega) (by omega)).mono ?_); rintro e b1 ⟨rfl, z1, rfl⟩; rw [HSA5.out]
                                     have hFa : Blk (a4.drewN z1) gF 24 #[.int .i64 p] := hFX.below (below_drewN hS_a4 z1) hFX.lt
                                     have hfa : (a4.drewN z1).cell? ⟨gF, 0, none⟩ = some (.int .i64 p) := (hFa.cell 0).trans rfl)
                                  | (go_at_call 24; refine (mod_any x p _ (by omega) (by omega)).mono ?_; rintro e b2 ⟨rfl, rfl⟩; rw [hxm]))
                                have hS5 := ballocs (below_drewN hS_a4 z1) (.cells #[.int .i64 x, .int .i64 xm] 3)
                                have hK5 := Blk.new (a4.drewN z1) 3 #[.int .i64 x, .int .i64 xm]
                                have hG5 := (Blk.drewN hG_a4 z1).alloc (.cells #[.int .i64 x, .int .i64 xm] 3)
                                have hM5 := (hM_a4.drewN z1).upto (bbox (w0 := a4.drewN z1) (.cells #[.int .i64 x, .int .i64 xm] 3))
                                obtain ⟨gK, hgK⟩ : ∃ gK, a4.heap.size = gK := ⟨_, rfl⟩
                                obtain ⟨W3, hW3⟩ : ∃ W3, (a4.drewN z1).alloc (.cells #[.int .i64 x, .int .i64 xm] 3) = W3 := ⟨_, rfl⟩
                                rw [hW3] at hS5 hK5 hG5 hM5
                                have hK5 : Blk W3 a4.heap.size 3 #[.int .i64 x, .int .i64 xm] := hK5
                                rw [hgK] at hK5
                                have hK5l := hK5.lt
                                have YSS := Lib.hid (two5_of (P := fun i => ∃ yv : Int, W3.cell? ⟨gK, i, none⟩ = some (.int .i64 yv)) ⟨x, (hK5.cell 0).trans rfl⟩ ⟨xm, (hK5.cell 1).trans rfl⟩)
                                rw [hgK, hW3]
                                clear hgK hW3 hK5 hFa hfa
                                go_loopw [270] (fun i wr => ∃ i4 : Nat, i4 ≤ 2 ∧ i = .int .i64 i4 ∧ Below W3.heap.size W3 wr) (fun i _ => 2 - (intOf i).toNat)
                                case atStart => exact ⟨0, by omega, rfl, Below.refl _ _⟩
                                case round =>
                                  as_aux_lemma =>
                                    obtain ⟨i4, hi4, rfl, hS⟩ := hrel
                                    by_cases hi4' : i4 < 2
                                    · obtain ⟨yv, hyv⟩ := YSS.out i4 hi4'
                                      have hil4 : (i4 : Int) < 2 := by omega
                                      have hi04 : (0 : Int) ≤ (i4 : Int) := by omega
                                      have hv4 := (hS.cell (p := ⟨gK, i4, none⟩) hK5l).trans hyv
                                      have hS_wr := hS
                                      have hM_wr := hM5.upto hS
                                      have hG_wr := hG5.below hS hG5.lt
                                      have hg_wr : wr.cell? ⟨gP, 0, none⟩ = some (.int .i64 pg) := (hG_wr.cell 0).trans rfl
                                      obtain ⟨n6, e6, HR6⟩ := pairE (numR (errL pg [mx, [yv]]) (valueP pg yv mx))
                                      clear hS
                                      go_wp2_with (first
                                        | (go_at_call 38; refine (valE HR6 (pvalue_all pg yv M mn mc mx _ hpg64 hM_wr (by omega))).mono ?_; rintro e c1 ⟨rfl, hb_c1⟩
                                           have hS_c1 := bnext hS_wr hb_c1
                                           have hG_c1 := hG_wr.below hb_c1 hG_wr.lt
                                           have hg_c1 : c1.cell? ⟨gP, 0, none⟩ = some (.int .i64 pg) := (hG_c1.cell 0).trans rfl
                                           have hM_c1 := hM_wr.upto hb_c1
                                           clear hb_c1)
                                        | (go_at_call 39; refine (valE HR6 (rValue_all pg yv M mn mc mx _ hM_c1 (by omega))).mono ?_; rintro e c2 ⟨rfl, hb_c2⟩
                                           have hS_c2 := bnext hS_c1 hb_c2
                                           have hG_c2 := hG_c1.below hb_c2 hG_c1.lt
                                           have hg_c2 : c2.cell? ⟨gP, 0, none⟩ = some (.int .i64 pg) := (hG_c2.cell 0).trans rfl
                                           have hM_c2 := hM_c1.upto hb_c2
                                           clear hb_c2))
                                      go_roundw
                                      case rel => exact ⟨i4 + 1, by omega, by go_num, hS_c2⟩
                                      case measure => simp [intOf]; omega
                                    · have hil4 : ¬ (i4 : Int) < 2 := by omega
                                      have hS6 := hS5.trans (hS.mono hS5.size)
                                      go_wp2
                                      go_roundw
                                      case rel => exact ⟨i2 + 1, by omega, by go_num, hS6⟩
                                      case measure => simp [intOf]; omega
                        · have hil2 : ¬ (i2 : Int) < 2 := by omega
                          have hS3 := hS1.trans (hS.mono hS1.size)
                          have hYL := hXL.upto hS
                          have hYS := hXS.upto hS
                          have hG3 := hG1.below hS hG1.lt
                          have hFm : ll ≤ 100 := by omega
                          have hkm : k ≤ 100 := by omega
                          obtain ⟨N, hN⟩ : ∃ N, k + ll = N := ⟨_, rfl⟩
                          have hNm : N ≤ 100 := by omega
                          have HN := Lib.hid hN
                          clear hN
                          have hkc : k ≤ sc := by
                            rcases hSF with ⟨_, h2, h3⟩ | ⟨_, _, h3⟩
                            · omega
                            · exact h3
                          have HAS : Hid ((S = none ∧ k = 0) ∨ ∃ g, S = some ⟨g, 0, none⟩) := Lib.hid (by
                            rcases hSF with ⟨h1, h2, _⟩ | ⟨g, h1, _⟩
                            · exact .inl ⟨h1, h2⟩
                            · exact .inr ⟨g, h1⟩)
                          clear hSF
                          · go_wp2_with (at_builtin; refine (?_ : Hid _).out)
                            refine Lib.hid ?_
                            refine wpList_append_cutN (N := N) (w := wr) rfl (.tmp 305) (.tmp 306) 50 rfl Try.underlying50 S k us1 es ?hs1 (HAS.out) hYS L ll cl u0 y0 ?hx1 hYL (by omega) (by omega) HN.out ?_
                            case hs1 => rfl
                            case hx1 => rfl
                            intro J jc w5 hJ hb5 hjc
                            have hS4 := bnext hS3 hb5
                            have hG4 := hG3.below hb5 hG3.lt
                            have hZL := hYL.upto hb5
                            have hZS := hYS.upto hb5
                            go_wp2_with fail
                            have hS5 := ballocs hS4 (.cells #[.slice L ll cl, .slice S k sc, .slice J N jc] 50)
                            have hG5 := hG4.alloc (.cells #[.slice L ll cl, .slice S k sc, .slice J N jc] 50)
                            have hX3 := Blk.new w5 50 #[.slice L ll cl, .slice S k sc, .slice J N jc]
                            have hQL := hZL.upto (bbox (w0 := w5) (.cells #[.slice L ll cl, .slice S k sc, .slice J N jc] 50))
                            have hQS := hZS.upto (bbox (w0 := w5) (.cells #[.slice L ll cl, .slice S k sc, .slice J N jc] 50))
                            have hQJ := hJ.upto (bbox (w0 := w5) (.cells #[.slice L ll cl, .slice S k sc, .slice J N jc] 50))
                            obtain ⟨gY, hgY⟩ : ∃ gY, w5.heap.size = gY := ⟨_, rfl⟩
                            obtain ⟨W4, hW4⟩ : ∃ W4, w5.alloc (.cells #[.slice L ll cl, .slice S k sc, .slice J N jc] 50) = W4 := ⟨_, rfl⟩
                            rw [hW4] at hS5 hG5 hX3 hQL hQS hQJ
                            rw [hgY] at hX3
                            have hX3l := hX3.lt
                            have SSS := Lib.hid (three5_of (P := fun i => ∃ (M : Option Addr) (mn mc : Nat) (mu my : List Int), W4.cell? ⟨gY, i, none⟩ = some (.slice M mn mc) ∧ Sh W4 W4.heap.size M mn mu my ∧ mn ≤ 100) ⟨L, ll, cl, u0, y0, (hX3.cell 0).trans rfl, hQL, hFm⟩ ⟨S, k, sc, us1, es, (hX3.cell 1).trans rfl, hQS, by omega⟩ ⟨J, N, jc, us1 ++ u0, es ++ y0, (hX3.cell 2).trans rfl, hQJ, hNm⟩)
                            rw [hgY, hW4]
                            clear hgY hW4 hX3 hS4 hG4 hZL hZS hQL hQS hQJ hJ hb5 hYL hYS hG3 hS3
                            go_loopw [310] (fun i wr => ∃ i5 : Nat, i5 ≤ 3 ∧ i = .int .i64 i5 ∧ Below W4.heap.size W4 wr) (fun i _ => 3 - (intOf i).toNat)
                            case atStart => exact ⟨0, by omega, rfl, Below.refl _ _⟩
                            case round =>
                              as_aux_lemma =>
                                obtain ⟨i5, hi5, rfl, hS⟩ := hrel
                                by_cases hi5' : i5 < 3
                                · obtain ⟨M2, mn2, mc2, mu, my, hmv2, hMS2, hmn2⟩ := SSS.out i5 hi5'
                                  have hil5 : (i5 : Int) < 3 := by omega
                                  have hi05 : (0 : Int) ≤ (i5 : Int) := by omega
                                  have hv5 := (hS.cell (p := ⟨gY, i5, none⟩) hX3l).trans hmv2
                                  have hS_wr := hS
                                  have hM_wr := hMS2.upto hS
                                  have hG_wr := hG5.below hS hG5.lt
                                  have hg_wr : wr.cell? ⟨gP, 0, none⟩ = some (.int .i64 pg) := (hG_wr.cell 0).trans rfl
                                  obtain ⟨r7, e7, HR7⟩ := itp_one pg mu my
                                  have HSA7 : Hid (sameL r7 r7 = true) := Lib.hid (by simp [sameL])
                                  clear hS
                                  go_wp2_with (first
                                    | (go_at_call 40; (with_reducible refine (itpE HR7 (pinterp_all pg M2 mn2 mc2 mu my _ hpg64 hM_wr hmn2)).mono ?_); rintro e a1 ⟨C1, cn1, cc1, rfl, hU1, hcn1, hb_a1⟩
                                       have hS_a1 := bnext hS_wr hb_a1
                                       have hG_a1 := hG_wr.below hb_a1 hG_wr.lt
                                       have hg_a1 : a1.cell? ⟨gP, 0, none⟩ = some (.int .i64 pg) := (hG_a1.cell 0).trans rfl
                                       have hM_a1 := hM_wr.upto hb_a1
                                       have hC1_a1 := hU1
                                       clear hb_a1)
                                    | (go_at_call 41; (with_reducible refine (itpE HR7 (rinterp_all pg M2 mn2 mc2 mu my _ hM_a1 hmn2)).mono ?_); rintro e a2 ⟨C2, cn2, cc2, rfl, hU2, hcn2, hb_a2⟩
                                       have hS_a2 := bnext hS_a1 hb_a2
                                       have hG_a2 := hG_a1.below hb_a2 hG_a1.lt
                                       have hg_a2 : a2.cell? ⟨gP, 0, none⟩ = some (.int .i64 pg) := (hG_a2.cell 0).trans rfl
                                       have hM_a2 := hM_a1.upto hb_a2
                                       have hC1_a2 := hC1_a1.upto hb_a2
                                       have hC2_a2 := hU2
                                       clear hb_a2)
                                    | (go_at_call 19; (with_reducible refine (same_any C1 C2 cn1 cn2 cc1 cc2 r7 r7 _ hC1_a2 hC2_a2 (by omega) (by omega)).mono ?_); rintro e b1 ⟨rfl, z1, rfl⟩; rw [HSA7.out]))
                                  go_roundw
                                  case rel => exact ⟨i5 + 1, by omega, by go_num, below_drewN hS_a2 z1⟩
                                  case measure => simp [intOf]; omega
                                · have hil5 : ¬ (i5 : Int) < 3 := by omega
                                  have hS6 := hS5.trans (hS.mono hS5.size)
                                  go_wp2
                                  go_roundw
                                  case rel => exact ⟨j + 1, by omega, by go_num, hS6⟩
                                  case measure => simp [intOf]; omega
                  · have hjl : ¬ (j : Int) < 2 := by omega
                    go_wp2
                    go_ret
                    exact ⟨rfl, hbW.trans (hS.mono hbW.size)⟩
      · have hll1 : (60 : Int) < (ll : Int) := by omega
        go_enter Try.func4, Try.ntmps4
        go_wp2_with (first
          | (go_at_call 27; refine (sane05_any _).mono ?_; rintro e w1 ⟨rfl, hb1⟩
             have hbb1 := bnext hbx hb1)
          | (go_at_call 8; refine (few_any T n c _).mono ?_; rintro e w' ⟨rfl, rfl⟩))
        go_ret
        exact ⟨rfl, hbb1⟩
    · have hab1 : (700 : Int) < (la : Int) + (lb : Int) := by omega
      go_enter Try.func4, Try.ntmps4
      go_wp2_with (first
        | (go_at_call 27; refine (sane05_any _).mono ?_; rintro e w1 ⟨rfl, hb1⟩
           have hbb1 := bnext hbx hb1)
        | (go_at_call 8; refine (few_any T n c _).mono ?_; rintro e w' ⟨rfl, rfl⟩))
      go_ret
      exact ⟨rfl, hbb1⟩
  · have hd : decide (n ≤ 500) = false := by simpa using hn
    go_enter Try.func4, Try.ntmps4
    go_wp2_with (first
      | (go_at_call 27; refine (sane05_any _).mono ?_; rintro e w1 ⟨rfl, hb1⟩
         have hbb1 := bnext hbx hb1)
      | (go_at_call 8; refine (few_any T n c _).mono ?_; rintro e w' ⟨rfl, rfl⟩))
    go_ret
    exact ⟨rfl, hbb1⟩
end Go.Proofs.Ytgboojmoplcpdaa
