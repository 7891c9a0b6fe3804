/-
  Words for memory and contracts of small functions of the second form. Conditions: those of each lemma.
-/
import Derived.Test.YtmcgnpdfpfgfpaaGreatDoorGBas
import Derived.Test.YtmcgnpdfpfgfpaaGreatDoorValue
import Derived.Test.YtmcgnpdfpfgfpaaGreatDoorPlain
import Derived.Deep.QuietTactic
import Derived.BigQuiet
import Derived.Deep.RegionHeld3
import Derived.Test.YtmcgnpdfpfgfpaaGreatDoorChecked
import Derived.WalkKit
import Derived.LaidEql
import Derived.Stop.Asserts
import Derived.RowKitTokens
import Derived.Test.YtmcgnpdfpfgfpaaGreatDoorGCod
import Derived.BigFrame
import Derived.WalkSpells
import Derived.Test.YtmcgnpdfpfgfpaaGreatDoorGRdc
import Derived.Deep.DeepCutAuto
/-! UCnt -/
namespace Go.Proofs.YtmcgnpdfpfgfpaaGreatDoor
open Go.RowKit
set_option linter.unusedVariables false

set_option maxRecDepth 100000 in
/-- How many cells are known. -/
theorem ucount_any (A : Option Addr) (m c : Nat) (vs : List Int) (bs : List Bool) (w : World) (h : Cel w w.heap.size A m vs bs) (hm : m ≤ 32) :
    Calls Tryz.prog 161 #[.slice A m c] w fun e w' => e = .returned (.int .i64 (knL vs bs).length) ∧ Below w.heap.size w w' := by
  have HV := Lib.hid h.1
  have HB := Lib.hid h.2.1
  go_enter Tryz.func161, Tryz.ntmps161
  go_wp2_with fail
  go_loopw [3, 8] (fun n i wz => ∃ k q : Nat, k ≤ m ∧ q ≤ k ∧ i = .int .i64 k ∧ n = .int .i64 q ∧ Hid ((knL (vs.take k) (bs.take k)).length = q) ∧ Below w.heap.size w wz) (fun _ i _ => m - (intOf i).toNat)
  case atStart => exact ⟨0, 0, Nat.zero_le _, Nat.le_refl _, rfl, rfl, Lib.hid (by simp [knL, knF]), Below.refl _ _⟩
  case round =>
    obtain ⟨k, q, hk, hqk, rfl, rfl, HQ, hb⟩ := hrel
    by_cases hlt : k < m
    · obtain ⟨b1, o1, rfl, hb1, hc1⟩ := h.2.2 (by omega)
      have hx0 := (hb.cell (p := ⟨b1, o1 + k * 2, none⟩) hb1).trans (hc1 k hlt).1
      have hx1 := (hb.cell (p := ⟨b1, o1 + k * 2 + 1, none⟩) hb1).trans (hc1 k hlt).2
      clear hc1
      have HS := Lib.hid (knL_step (vs := vs) (bs := bs) (by rw [HV.out, HB.out]) (j := k) (by rw [HV.out]; exact hlt))
      have hki : (k : Int) < (m : Int) := by omega
      have hk0 : (0 : Int) ≤ (k : Int) := by omega
      obtain ⟨y, hy⟩ : ∃ y, vs.getD k 0 = y := ⟨_, rfl⟩
      rw [hy] at hx0
      clear hy
      by_cases hbk : bs.getD k false = true
      · have HQ2 : Hid ((knL (vs.take (k + 1)) (bs.take (k + 1))).length = q + 1) := Lib.hid (by rw [HS.out, if_pos hbk, List.length_append, HQ.out]; rfl)
        rw [hbk] at hx1
        clear hbk HS
        go_wp2
        go_roundw
        case rel => exact ⟨k + 1, q + 1, by omega, by omega, by go_num, by go_num, HQ2, ballocs hb _⟩
        case measure => simp [intOf]; omega
      · have HQ2 : Hid ((knL (vs.take (k + 1)) (bs.take (k + 1))).length = q) := Lib.hid (by rw [HS.out, if_neg hbk, List.append_nil, HQ.out])
        have hbf : bs.getD k false = false := by simpa using hbk
        rw [hbf] at hx1
        clear hbk hbf HS
        go_wp2
        go_roundw
        case rel => exact ⟨k + 1, q, by omega, by omega, by go_num, rfl, HQ2, ballocs hb _⟩
        case measure => simp [intOf]; omega
    · obtain rfl : k = m := by omega
      have HQ3 : Hid (((knL vs bs).length : Int) = (q : Int)) := Lib.hid (by have := HQ.out; rw [List.take_of_length_le (by rw [HV.out]; exact Nat.le_refl _), List.take_of_length_le (by rw [HB.out]; exact Nat.le_refl _)] at this; rw [this])
      go_wp2
      go_ret
      exact ⟨ret_int HQ3.out.symm, hb⟩

/-- The radius. -/
theorem uradius_ok (n k : Nat) (w : World) (hk : 1 ≤ k) (hkn : k ≤ n) (hn : n ≤ 32) :
    Calls Tryz.prog 160 #[.int .i64 n, .int .i64 k] w fun e w' => e = .returned (.tuple #[.int .i64 ((n - k) / 2 : Nat), .int .i64 0]) ∧ w = w' := by
  have h1 : ¬ ((k : Int) < 1) := by omega
  have h1N : ¬ k < 1 := by omega
  have h2 : ¬ ((n : Int) < (k : Int)) := by omega
  have h2N : ¬ n < k := by omega
  have h3 : ¬ ((32 : Int) < (n : Int)) := by omega
  have h3N : ¬ 32 < n := by omega
  have h4 : ¬ ((n : Int) < 0) := by omega
  obtain ⟨d, hd⟩ : ∃ d, n - k = d := ⟨_, rfl⟩
  have h5 : IntKind.i64.wrap ((n : Int) - k) = (d : Int) := by rw [IntWalk.i64_in _ (by omega)]; omega
  have h6 : (n : Int) - k = (d : Int) := by omega
  have HE : Hid ((((n - k) / 2 : Nat) : Int) = (d : Int) / 2) := Lib.hid (by rw [hd]; omega)
  rw [HE.out]
  clear hd
  go_enter Tryz.func160, Tryz.ntmps160
  go_wp2
  go_ret2
  exact ⟨rfl, rfl⟩

set_option maxRecDepth 100000 in
set_option maxHeartbeats 1600000 in
/-- The numbers of the wrong values. -/
theorem uwrongs_ok (p : Int) (A : Option Addr) (m c : Nat) (vs : List Int) (bs : List Bool) (P : Option Addr) (n pc : Nat) (ps : List Int) (w : World) (hp : 2 ≤ p ∧ p ≤ 65521) (h : Cel w w.heap.size A m vs bs) (hm : m ≤ 32) (hmp : (m : Int) < p)
    (hP : Ints w w.heap.size P n ps) (hpa : allP p ps = true) (hn : n ≤ 512) :
    Calls Tryz.prog 165 #[.int .i64 p, .slice A m c, .slice P n pc] w fun e w' =>
      (∃ (A' : Option Addr) (c' : Nat), e = .returned (.slice A' (wrL p ps (knL vs bs)).length c') ∧ OwnI w' w.heap.size 3 A' (wrL p ps (knL vs bs)).length c' (wrL p ps (knL vs bs))) ∧ Below w.heap.size w w' := by
  obtain ⟨i0, hi0, hz0, hz1, hz2⟩ := info_parts info_int
  have HV := Lib.hid h.1
  have HB := Lib.hid h.2.1
  have HPA := Lib.hid hpa
  clear hpa
  go_enter Tryz.func165, Tryz.ntmps165
  go_wp2_with fail
  go_loopw [7, 8, 12] (fun v u i wz => ∃ (k q : Nat) (L : Option Addr) (lc : Nat) (l : List Int), k ≤ m ∧ q ≤ k ∧ i = .int .i64 k ∧ v = .slice L q lc ∧ Hid (OwnI wz w.heap.size 3 L q lc l) ∧ Hid (wrL p ps (knL (vs.take k) (bs.take k)) = l) ∧ Below w.heap.size w wz) (fun _ _ i _ => m - (intOf i).toNat)
  case atStart => exact ⟨0, 0, none, 0, [], Nat.zero_le _, Nat.le_refl _, rfl, rfl, Lib.hid OwnI.nil_, Lib.hid (by simp [knL, knF, wrL]), Below.refl _ _⟩
  case round =>
    obtain ⟨k, q, L, lc, l, hk, hqk, rfl, rfl, HO, HQ, hb⟩ := hrel
    by_cases hlt : k < m
    · obtain ⟨b1, o1, rfl, hb1, hc1⟩ := h.2.2 (by omega)
      have hx0 := (hb.cell (p := ⟨b1, o1 + k * 2, none⟩) hb1).trans (hc1 k hlt).1
      have hx1 := (hb.cell (p := ⟨b1, o1 + k * 2 + 1, none⟩) hb1).trans (hc1 k hlt).2
      clear hc1
      have HS := Lib.hid (wrL_step (p := p) (P := ps) (vs := vs) (bs := bs) (by rw [HV.out, HB.out]) (j := k) (by rw [HV.out]; exact hlt))
      have hki : (k : Int) < (m : Int) := by omega
      have hk0 : (0 : Int) ≤ (k : Int) := by omega
      have hkw : IntKind.i64.wrap ((k : Int) + 1) = (k : Int) + 1 := IntWalk.i64_in _ (by omega)
      have hIP := hP.upto hb
      obtain ⟨y, hy⟩ : ∃ y, vs.getD k 0 = y := ⟨_, rfl⟩
      rw [hy] at hx0 HS
      clear hy
      by_cases hbk : bs.getD k false = true
      · rw [hbk] at hx1 HS
        clear hbk
        obtain ⟨z, hz⟩ : ∃ z, valueP p ((k : Int) + 1) ps = z := ⟨_, rfl⟩
        rw [hz] at HS
        have HZ := Lib.hid hz
        clear hz
        go_wp2_with fail
        obtain ⟨g, hg⟩ : ∃ g, wr.heap.size = g := ⟨_, rfl⟩
        have hN := Blk.new wr 87 #[.int .i64 y, .bool true]
        have hO1 := HO.out.alloc (.cells #[.int .i64 y, .bool true] 87)
        have hI1 := hIP.upto (bbox (w0 := wr) (.cells #[.int .i64 y, .bool true] 87))
        have hb1 := ballocs hb (.cells #[.int .i64 y, .bool true] 87)
        obtain ⟨W, hW⟩ : ∃ W, wr.alloc (.cells #[.int .i64 y, .bool true] 87) = W := ⟨_, rfl⟩
        rw [hW] at hN hO1 hI1 hb1 ⊢
        rw [hg] at hN ⊢
        have hc0 : W.drew.cell? ⟨g, 0, none⟩ = some (.int .i64 y) := (hN.cell 0).trans rfl
        have hc1 : W.drew.cell? ⟨g, 1, none⟩ = some (.bool true) := (hN.cell 1).trans rfl
        have hId : Ints W.drew W.drew.heap.size P n ps := hI1
        have hxk : 0 ≤ (k : Int) + 1 ∧ (k : Int) + 1 < p := by omega
        have HO1 := Lib.hid hO1
        have HB1 := Lib.hid hb1
        have HN := Lib.hid hN
        clear hW hg hx0 hx1 hIP HO hb hO1 hb1 hN hI1
        by_cases hzy : z = y
        · have h1 : (z != y) = false := by simpa using hzy
          have HQ2 : Hid (wrL p ps (knL (vs.take (k + 1)) (bs.take (k + 1))) = l) := Lib.hid (by rw [HS.out, if_neg (fun hh => hh.2 hzy), List.append_nil, HQ.out])
          clear hzy HS
          go_region_held3 (fun w' => w'.cell? ⟨g, 0, none⟩ = some (.int .i64 y) ∧ w'.cell? ⟨g, 1, none⟩ = some (.bool true)) (first | exact ⟨hc0, hc1⟩ | exact ⟨hd0, hd1⟩)
            (first
             | (go_at_call 117; (with_reducible refine (value_any p ((k : Int) + 1) P n pc ps _ hp hxk hId HPA.out (by omega)).mono ?_); rintro e w2 ⟨rfl, hb2⟩
                rw [HZ.out]
                have hd0 : w2.cell? ⟨g, 0, none⟩ = some (.int .i64 y) := ((HN.out.drew.below hb2 HN.out.lt).cell 0).trans rfl
                have hd1 : w2.cell? ⟨g, 1, none⟩ = some (.bool true) := ((HN.out.drew.below hb2 HN.out.lt).cell 1).trans rfl))
          go_wp2
          go_roundw
          case rel => exact ⟨k + 1, q, L, lc, l, by omega, by omega, by go_num, rfl, Lib.hid (HO1.out.drew.belowAll hb2), HQ2, bnext (HB1.out.drew) hb2⟩
          case measure => simp [intOf]; omega
        · have h1 : (z != y) = true := by simpa using hzy
          have HQ2 : Hid (wrL p ps (knL (vs.take (k + 1)) (bs.take (k + 1))) = l ++ [(k : Int) + 1]) := Lib.hid (by rw [HS.out, if_pos ⟨by trivial, hzy⟩, HQ.out])
          clear hzy HS
          go_region_held3 (fun w' => w'.cell? ⟨g, 0, none⟩ = some (.int .i64 y) ∧ w'.cell? ⟨g, 1, none⟩ = some (.bool true)) (first | exact ⟨hc0, hc1⟩ | exact ⟨hd0, hd1⟩)
            (first
             | (go_at_call 117; (with_reducible refine (value_any p ((k : Int) + 1) P n pc ps _ hp hxk hId HPA.out (by omega)).mono ?_); rintro e w2 ⟨rfl, hb2⟩
                rw [HZ.out]
                have hd0 : w2.cell? ⟨g, 0, none⟩ = some (.int .i64 y) := ((HN.out.drew.below hb2 HN.out.lt).cell 0).trans rfl
                have hd1 : w2.cell? ⟨g, 1, none⟩ = some (.bool true) := ((HN.out.drew.below hb2 HN.out.lt).cell 1).trans rfl))
          have hO2 := (HO1.out.drew.belowAll hb2).alloc (.cells #[.int .i64 ((k : Int) + 1)] 3)
          have hb3 := ballocs (bnext HB1.out.drew hb2) (.cells #[.int .i64 ((k : Int) + 1)] 3)
          go_wp2_with (at_builtin
                       refine wpList_append_ints rfl _ _ _ rfl w.heap.size 3 i0 _ Tryz.underlying22 hi0 hz0 hz1 hz2 rfl L q lc _ rfl hO2 _ _ 1 1 [(k : Int) + 1] rfl (Ints.one _ _ _) (q + 1) rfl _ rfl (by omega) hb3.size ?_
                       intro A2 c2 w4 hown4 hgr4 hbw4 hab
                       have hb4 := hb3.trans hbw4)
          go_roundw
          case rel => exact ⟨k + 1, q + 1, A2, c2, _, by omega, by omega, by go_num, rfl, Lib.hid hown4, HQ2, hb4⟩
          case measure => simp [intOf]; omega
      · have hbf : bs.getD k false = false := by simpa using hbk
        have HQ2 : Hid (wrL p ps (knL (vs.take (k + 1)) (bs.take (k + 1))) = l) := Lib.hid (by rw [HS.out, if_neg (fun hh => hbk hh.1), List.append_nil, HQ.out])
        rw [hbf] at hx1
        clear hbk hbf HS
        go_wp2_with fail
        have hO1 := Lib.hid (HO.out.alloc (.cells #[.int .i64 y, .bool false] 87))
        have hb1 := Lib.hid (ballocs hb (.cells #[.int .i64 y, .bool false] 87))
        go_quiet (fail)
        go_wp2
        go_roundw
        case rel => exact ⟨k + 1, q, L, lc, l, by omega, by omega, by go_num, rfl, Lib.hid (hO1.out.drewN _), HQ2, below_drewN hb1.out _⟩
        case measure => simp [intOf]; omega
    · obtain rfl : k = m := by omega
      have hl := HO.out.len
      have HQ3 := HQ.out
      rw [List.take_of_length_le (by rw [HV.out]; exact Nat.le_refl _), List.take_of_length_le (by rw [HB.out]; exact Nat.le_refl _)] at HQ3
      have HL := Lib.hid HQ3
      clear HQ3
      go_wp2
      go_ret
      rw [HL.out, hl]
      exact ⟨⟨L, lc, rfl, HO.out⟩, hb⟩
end Go.Proofs.YtmcgnpdfpfgfpaaGreatDoor

/-! UIs -/
namespace Go.Proofs.YtmcgnpdfpfgfpaaGreatDoor
open Go.RowKit Go.Extern.Stop Go.Stop Go.Extern
set_option linter.unusedVariables false

theorem isTypeOf (v : Value) (w : World) : (Extern.ReflectliteType.typeOf #[.iface 249 v]).run Tryz.prog w = .ok (.iface 267 (.agg #[.pointer (some ⟨1, 249, none⟩)])) w := by kernel_rfl
/-- What the model runs for 'Comparable'. -/
def compE : Array Value → Sem Value := Extern.ReflectliteType.method fun t => do Extern.Rtype.noPackHeld "Comparable" t; pure (.bool (← typeInfo t).comparable)
theorem isComparable (w : World) : (compE #[.agg #[.pointer (some ⟨1, 249, none⟩)]]).run Tryz.prog w = .ok (.bool true) w := by kernel_rfl
theorem isMethodComparable (n : Nat) (v : Value) (w : World) : (Go.method (n + 1) 267 v "Comparable").run Tryz.prog w = .ok (205, v) w := by kernel_rfl
/-- A failure. -/
abbrev failV (c : Int) : Value := .iface 249 (.agg #[.int .i64 c])
theorem failEq (w : World) : (binOp .eql 207 (failV 12) (failV 12)).run Tryz.prog w = .ok (.bool true) w := by kernel_rfl
set_option maxRecDepth 100000 in
/-- errors.Is of the failure itself. -/
theorem is_same (w : World) : Calls Tryz.prog 132 #[failV 12, failV 12] w fun e w' => e = .returned (.bool true) ∧ w = w' := by
  have h8 := @run_callFunc_extern Tryz.prog 166 _ Extern.ReflectliteType.typeOf Tryz.func166 (by kernel_rfl) (by kernel_rfl) (by kernel_rfl) (by kernel_rfl)
  have h32 := @run_callFunc_extern Tryz.prog 205 _ compE Tryz.func205 (by kernel_rfl) (by kernel_rfl) (by kernel_rfl) (by kernel_rfl)
  have tT := isTypeOf
  have cT := isComparable
  have mR := isMethodComparable
  have heq := failEq
  go_enter Tryz.func132, Tryz.ntmps132
  go_wp2
  refine wp_loop_rounds 1 ?_
  rw [rounds_succ]
  go_wp2
  go_ret
  exact ⟨rfl, rfl⟩
/-- errors.Is of nil. -/
theorem is_none (w : World) : Calls Tryz.prog 132 #[.nilIface, failV 12] w fun e w' => e = .returned (.bool false) ∧ w = w' := by
  have hn := run_eql_iface_nil_left (P := Tryz.prog) w 249 (.agg #[.int .i64 12]) Tryz.underlying207
  go_enter Tryz.func132, Tryz.ntmps132
  go_wp2
  go_ret
  exact ⟨rfl, rfl⟩
theorem number_none (w : World) : Calls Tryz.prog 133 #[.nilIface] w fun e w' => e = .returned (.int .i64 0) ∧ w = w' := by
  go_enter Tryz.func133, Tryz.ntmps133
  go_wp2
  go_ret
  exact ⟨rfl, rfl⟩
end Go.Proofs.YtmcgnpdfpfgfpaaGreatDoor

/-! FillF -/
namespace Go.Proofs.YtmcgnpdfpfgfpaaGreatDoor
open Go.RowKit
set_option linter.unusedVariables false

end Go.Proofs.YtmcgnpdfpfgfpaaGreatDoor

/-! Clone -/
namespace Go.Proofs.YtmcgnpdfpfgfpaaGreatDoor
open Go.RowKit
set_option linter.unusedVariables false

set_option maxRecDepth 100000 in
/-- slices.Clone. -/
theorem clone_any (A : Option Addr) (n c : Nat) (xs : List Int) (w : World) (h : Ints w w.heap.size A n xs) (hn : n ≤ 17592186044416) :
    Calls Tryz.prog 78 #[.slice A n c] w fun e w' => (∃ A' c', e = .returned (.slice A' n c') ∧ OwnI w' w.heap.size 3 A' n c' xs) ∧ Below w.heap.size w w' := by
  obtain ⟨i0, hi0, hz0, hz1, hz2⟩ := info_parts info_int
  have q : ∀ (w : World) (a : Option Addr) (n c n' c' : Nat), (binOp .eql 22 (.slice a n c) (.slice none n' c')).run Tryz.prog w = .ok (.bool a.isNone) w := fun w a n c n' c' => Lib.run_eql_slice_nil w _ _ a n c n' c' Tryz.underlying22
  cases A with
  | none =>
    have hn0 : n = 0 := by
      rcases Nat.eq_zero_or_pos n with h0 | h0
      · exact h0
      · obtain ⟨b, off, e, _⟩ := h.2 h0
        cases e
    subst hn0
    go_enter Tryz.func78, Tryz.ntmps78
    go_wp2
    go_ret
    have hxs : xs = [] := List.eq_nil_of_length_eq_zero h.len
    exact ⟨⟨none, 0, rfl, by rw [hxs]; exact OwnI.nil_⟩, Below.refl _ _⟩
  | some ad =>
    go_enter Tryz.func78, Tryz.ntmps78
    go_wp2_with (
      at_builtin
      refine wpList_append_ints rfl _ _ _ rfl w.heap.size 3 i0 _ Tryz.underlying22 hi0 hz0 hz1 hz2 rfl (some ⟨w.heap.size, 0, none⟩) 0 0 [] rfl (World.ownsRow_made w #[] 0 (Nat.le_refl _) (by unfold maxLen; omega) rfl) _ _ n _ xs rfl (h.upto (bbox _)) n (by omega) xs rfl (by omega) (by simp) ?_
      intro A2 c2 w2 hown2 _ hbw2 _)
    go_ret
    exact ⟨⟨A2, c2, rfl, hown2⟩, (bbox _).trans hbw2⟩

end Go.Proofs.YtmcgnpdfpfgfpaaGreatDoor

/-! SolvN -/
namespace Go.Proofs.YtmcgnpdfpfgfpaaGreatDoor
open Go.RowKit
set_option linter.unusedVariables false

theorem RedW.cap {w : World} {base gs : Nat} {p : Int} {c : Nat} {R : Option Addr} {n cap : Nat} {bs : List (Nat × Nat)} {m : List (List Int)} {lead : List Nat} (h : RedW w base gs p c R n cap bs m lead) : n ≤ cap := by
  rcases h.out.2 with ⟨hv, _⟩ | ⟨g, cp, cur, hv, _, _, hnc, _⟩
  · injection hv with _ h1 h2
    omega
  · injection hv with _ h1 h2
    omega

/-- What solvable leaves. -/
def SolvPost (c rk : Nat) (m : List (List Int)) (w : World) (e : Ending) (w' : World) : Prop := ∃ b, e = .returned (.bool b) ∧ (b = true ↔ NoClash c rk m) ∧ Below w.heap.size w w'
set_option maxHeartbeats 800000 in
set_option maxRecDepth 100000 in
theorem solvable_any (base gs : Nat) (p : Int) (c : Nat) (R : Option Addr) (n cap : Nat) (bs : List (Nat × Nat)) (m : List (List Int)) (lead : List Nat) (rk : Nat) (w : World)
    (h : RedW w base gs p c R n cap bs m lead) (hr : Hid (lead.length = rk)) (hrn : rk ≤ n) (hn : n ≤ 32) :
    Calls Tryz.prog 181 #[.pointer (some ⟨gs, 0, none⟩)] w (SolvPost c rk m w) := by
  have hc1 : w.cell? ⟨gs, 1, none⟩ = some (.int .i64 c) := (h.blk.cell 1).trans (redC_1 _ _ _ _ _)
  have hc2 : w.cell? ⟨gs, 2, none⟩ = some (.slice R n cap) := (h.blk.cell 2).trans (redC_2 _ _ _ _ _)
  have hc3 : w.cell? ⟨gs, 3, none⟩ = some (.int .i64 rk) := by rw [← hr.out]; exact (h.blk.cell 3).trans (redC_3 _ _ _ _ _)
  have hcap := h.cap
  have hmn := h.ln
  have HF : Hid (∀ j, j < n → ∃ go b cb, R = some ⟨go, 0, none⟩ ∧ w.cell? ⟨go, j, none⟩ = some (.slice (some ⟨b, 0, none⟩) (c + 1) cb) ∧ w.cell? ⟨b, c, none⟩ = some (.int .i64 (mx m j c))) := Lib.hid fun j hj => by
    obtain ⟨go, h1, _, _, _, _, h2⟩ := h.form (by omega)
    exact ⟨go, _, _, h1, (h2 j hj).1, (h.rws.own j (by omega)).cellAt (by omega)⟩
  have hk0 : (0 : Int) ≤ (rk : Int) := by omega
  have hk1 : (rk : Int) ≤ (n : Int) := by omega
  obtain ⟨A4, hA4, HA4⟩ : ∃ A4 : Option Addr, (if cap = rk then R else Option.map (fun x => x.add rk) R) = A4 ∧ Hid (rk < n → ∀ go, R = some ⟨go, 0, none⟩ → A4 = some ⟨go, rk, none⟩) := by
    refine ⟨_, rfl, Lib.hid fun h1 go h2 => ?_⟩
    rw [if_neg (by omega), h2]; simp [Addr.add]; omega
  have HM : Hid (m.length = n) := Lib.hid hmn
  clear hmn h
  go_enter Tryz.func181, Tryz.ntmps181
  go_wp2
  go_quiet (fail)
  go_wp2
  go_loop [15] (fun v => ∃ j : Nat, j ≤ n - rk ∧ v = .int .i64 j ∧ Hid (∀ i, i < j → mx m (rk + i) c = 0)) (fun v => n - rk - (intOf v).toNat)
  case atStart => exact ⟨0, Nat.zero_le _, rfl, Lib.hid fun i hi => absurd hi (by omega)⟩
  case round =>
    obtain ⟨j, hj, rfl, HZ⟩ := hrel
    by_cases hlt : j < n - rk
    · obtain ⟨go, b, cb, hR, hrow, hcell⟩ := HF.out (rk + j) (by omega)
      have hA := HA4.out (by omega) go hR
      subst hA
      have h1 : (j : Int) < ((n - rk : Nat) : Int) := by omega
      have h0 : (0 : Int) ≤ (j : Int) := by omega
      have hcc : (c : Int) < ((c + 1 : Nat) : Int) := by omega
      have hc0 : (0 : Int) ≤ (c : Int) := by omega
      by_cases hz : mx m (rk + j) c = 0
      · rw [hz] at hcell
        go_wp2
        go_round
        case rel => exact ⟨j + 1, by omega, by go_num, Lib.hid fun i hi => by
          by_cases e : i = j
          · rw [e]; exact hz
          · exact HZ.out i (by omega)⟩
        case measure => simp [intOf]; omega
      · have HNZ := Lib.hid hz
        obtain ⟨y, hy⟩ : ∃ y, mx m (rk + j) c = y := ⟨_, rfl⟩
        rw [hy] at hcell hz
        go_wp2
        go_ret
        exact ⟨false, rfl, ⟨fun h => (by cases h), fun h => absurd (h (rk + j) (by omega) (by have := HM.out; omega)) HNZ.out⟩, below_drewN (Below.refl _ _) _⟩
    · obtain rfl : n - rk = j := by omega
      go_wp2
      go_ret
      exact ⟨true, rfl, ⟨fun _ i hi1 hi2 => by
        have := HZ.out (i - rk) (by have := HM.out; omega)
        rwa [show rk + (i - rk) = i by omega] at this, fun _ => rfl⟩, below_drewN (Below.refl _ _) _⟩

end Go.Proofs.YtmcgnpdfpfgfpaaGreatDoor
