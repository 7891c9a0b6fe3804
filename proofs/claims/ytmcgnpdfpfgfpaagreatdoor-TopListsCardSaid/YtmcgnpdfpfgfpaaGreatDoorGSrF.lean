/-
  Words for memory and contracts of small functions of the second form. Conditions: those of each lemma.
-/
import Derived.Test.YtmcgnpdfpfgfpaaGreatDoorSrtP
import Derived.Test.YtmcgnpdfpfgfpaaGreatDoorGBas
import Derived.Test.YtmcgnpdfpfgfpaaGreatDoorPlain
/-! SrtF -/
namespace Go.Proofs.YtmcgnpdfpfgfpaaGreatDoor
open Go.RowKit
set_option linter.unusedVariables false

set_option maxRecDepth 100000 in
set_option maxHeartbeats 4000000 in
theorem sortF_any (base b n c g : Nat) (vs0 : List Value) (cv : Value → Value → Int) (w : World) (HC : Hid (CmpV w b g vs0 cv)) (hn : n < 50) (hown : w.ownsRow base 22 1 (.slice (some ⟨b, 0, none⟩) n c) n vs0) (hsl : ∀ v ∈ vs0, ∃ A k d, v = .slice A k d) :
    Calls Tryz.prog 97 #[.slice (some ⟨b, 0, none⟩) n c, ordV g] w (SrtPost w base b n c vs0) := by
  have hS := SrtW.start hown hsl
  have hnu : IntKind.u64.wrap (n : Int) = (n : Int) := by simp [IntKind.wrap, IntKind.bits, IntKind.signed]; omega
  have hpd : ∀ (l : Int), Hid (Calls Tryz.prog 127 #[.slice (some ⟨b, 0, none⟩) n c, .int .i64 0, .int .i64 n, .int .i64 l, ordV g] w (SrtPost w base b n c vs0)) := fun l => Lib.hid (pdq_any w base b n c g vs0 cv HC hn n 0 n l vs0 w (by omega) (by omega) (Nat.le_refl _) hS)
  go_enter Tryz.func97, Tryz.ntmps97
  go_wp2_with (first
    | (go_at_call 128; refine (len_any n (by omega) _).mono ?_; rintro e w1 ⟨⟨l, rfl⟩, rfl⟩)
    | (go_at_call 127; refine (hpd _).out.mono ?_; rintro e w2 ⟨rfl, us, hS2⟩))
  go_end0
  exact ⟨rfl, us, hS2⟩
end Go.Proofs.YtmcgnpdfpfgfpaaGreatDoor

/-! Lst3 -/
namespace Go.Proofs.YtmcgnpdfpfgfpaaGreatDoor
open Go.RowKit
set_option linter.unusedVariables false

theorem coef_any (A : Option Addr) (n c : Nat) (xs : List Int) (i : Nat) (w : World) {B : Nat} (h : Ints w B A n xs) :
    Calls Tryz.prog 129 #[.slice A n c, .int .i64 i] w fun e w' => e = .returned (.int .i64 (cf xs i)) ∧ w = w' := by
  by_cases hi : i < n
  · have hii : (i : Int) < (n : Int) := by omega
    have hi0 : (0 : Int) ≤ (i : Int) := by omega
    obtain ⟨b, off, rfl, hb, hc⟩ := h.2 (by omega)
    have hcc := hc i hi
    clear hc
    go_enter Tryz.func129, Tryz.ntmps129
    go_wp2
    go_ret
    exact ⟨rfl, rfl⟩
  · have hii : ¬ (i : Int) < (n : Int) := by omega
    have hz : cf xs i = 0 := cf_out (by rw [h.len]; omega)
    have HZ := Lib.hid hz
    clear hz
    go_enter Tryz.func129, Tryz.ntmps129
    go_wp2
    go_ret
    refine ⟨?_, rfl⟩
    rw [HZ.out]
    rfl

/-- The comparison of two polynomials by their coefficients, from a place on. -/
def cmpF (xs ys : List Int) : Nat → Nat → Int
  | 0, _ => 0
  | f + 1, k => if cf xs k < cf ys k then -1 else if cf ys k < cf xs k then 1 else cmpF xs ys f (k + 1)
def cmpR (xs ys : List Int) : Int := cmpF xs ys (max xs.length ys.length) 0
theorem cmpF_zero (xs ys : List Int) : ∀ f k, cmpF xs ys f k = 0 → ∀ t, k ≤ t → t < k + f → cf xs t = cf ys t
  | 0, k, _, t, h1, h2 => by omega
  | f + 1, k, h, t, h1, h2 => by
    unfold cmpF at h
    by_cases h3 : cf xs k < cf ys k
    · rw [if_pos h3] at h; cases h
    · rw [if_neg h3] at h
      by_cases h4 : cf ys k < cf xs k
      · rw [if_pos h4] at h; cases h
      · rw [if_neg h4] at h
        rcases Nat.lt_or_ge k t with h5 | h5
        · exact cmpF_zero xs ys f (k + 1) h t h5 (by omega)
        · obtain rfl : t = k := by omega
          omega
theorem cmpR_zero {xs ys : List Int} (h : cmpR xs ys = 0) (t : Nat) : cf xs t = cf ys t := by
  rcases Nat.lt_or_ge t (max xs.length ys.length) with h3 | h3
  · exact cmpF_zero xs ys _ 0 h t (Nat.zero_le _) (by omega)
  · rw [cf_out (by omega), cf_out (by omega)]

set_option maxRecDepth 100000 in
set_option maxHeartbeats 2000000 in
theorem compare_any (A1 A2 : Option Addr) (n m c d : Nat) (xs ys : List Int) (w : World) {B1 B2 : Nat} (h1 : Ints w B1 A1 n xs) (h2 : Ints w B2 A2 m ys) (hn : n ≤ 1000) (hm : m ≤ 1000) :
    Calls Tryz.prog 101 #[.slice A1 n c, .slice A2 m d] w fun e w' => e = .returned (.int .i64 (cmpR xs ys)) ∧ w = w' := by
  obtain ⟨M, hM, hnM, hmM, HMX⟩ : ∃ M : Nat, (if (n : Int) < (m : Int) then (m : Int) else (n : Int)) = (M : Int) ∧ n ≤ M ∧ m ≤ M ∧ Hid (max xs.length ys.length = M) := by
    by_cases h : n < m
    · exact ⟨m, by rw [if_pos (by omega)], by omega, Nat.le_refl _, Lib.hid (by rw [h1.len, h2.len]; omega)⟩
    · exact ⟨n, by rw [if_neg (by omega)], Nat.le_refl _, by omega, Lib.hid (by rw [h1.len, h2.len]; omega)⟩
  have hM2 : (if n < m then (m : Int) else (n : Int)) = (M : Int) := by rw [← hM]; simp
  have hMb : M ≤ 1000 := by
    by_cases h : n < m
    · rw [if_pos (by omega)] at hM; omega
    · rw [if_neg (by omega)] at hM; omega
  go_enter Tryz.func101, Tryz.ntmps101
  go_wp2_with fail
  go_loopw [13] (fun v13 wz => ∃ k : Nat, k ≤ M ∧ v13 = .int .i64 k ∧ Hid (cmpR xs ys = cmpF xs ys (M - k) k) ∧ wz = w) (fun v13 _ => M - (intOf v13).toNat)
  case atStart => exact ⟨0, Nat.zero_le _, rfl, Lib.hid (by unfold cmpR; rw [HMX.out]; rfl), rfl⟩
  case round =>
    obtain ⟨k, hk, rfl, HE, rfl⟩ := hrel
    by_cases hlt : k < M
    · have hki : (k : Int) < (M : Int) := by omega
      have HF : Hid (cmpR xs ys = if cf xs k < cf ys k then -1 else if cf ys k < cf xs k then 1 else cmpF xs ys (M - (k + 1)) (k + 1)) := Lib.hid (by rw [HE.out, show M - k = (M - (k + 1)) + 1 by omega]; rfl)
      obtain ⟨x, hx⟩ : ∃ x, cf xs k = x := ⟨_, rfl⟩
      obtain ⟨y, hy⟩ : ∃ y, cf ys k = y := ⟨_, rfl⟩
      rw [hx, hy] at HF
      have HX := Lib.hid hx
      have HY := Lib.hid hy
      clear hx hy
      by_cases hxy : x < y
      · have HR : Hid (cmpR xs ys = -1) := Lib.hid (by rw [HF.out, if_pos hxy])
        go_wp2_with (first
          | (go_at_call 129; (with_reducible refine (coef_any A1 n c xs k _ h1).mono ?_); rintro e w' ⟨rfl, rfl⟩; rw [HX.out])
          | (go_at_call 129; (with_reducible refine (coef_any A2 m d ys k _ h2).mono ?_); rintro e w' ⟨rfl, rfl⟩; rw [HY.out]))
        go_ret
        refine ⟨?_, rfl⟩
        rw [HR.out]
        rfl
      · by_cases hyx : y < x
        · have HR : Hid (cmpR xs ys = 1) := Lib.hid (by rw [HF.out, if_neg hxy, if_pos hyx])
          go_wp2_with (first
            | (go_at_call 129; (with_reducible refine (coef_any A1 n c xs k _ h1).mono ?_); rintro e w' ⟨rfl, rfl⟩; rw [HX.out])
            | (go_at_call 129; (with_reducible refine (coef_any A2 m d ys k _ h2).mono ?_); rintro e w' ⟨rfl, rfl⟩; rw [HY.out]))
          go_ret
          refine ⟨?_, rfl⟩
          rw [HR.out]
          rfl
        · have HE2 : Hid (cmpR xs ys = cmpF xs ys (M - (k + 1)) (k + 1)) := Lib.hid (by rw [HF.out, if_neg hxy, if_neg hyx])
          go_wp2_with (first
            | (go_at_call 129; (with_reducible refine (coef_any A1 n c xs k _ h1).mono ?_); rintro e w' ⟨rfl, rfl⟩; rw [HX.out])
            | (go_at_call 129; (with_reducible refine (coef_any A2 m d ys k _ h2).mono ?_); rintro e w' ⟨rfl, rfl⟩; rw [HY.out]))
          go_roundw
          case rel => exact ⟨k + 1, by omega, by go_num, HE2, trivial⟩
          case measure => simp [intOf]; omega
    · obtain rfl : k = M := by omega
      have HR : Hid (cmpR xs ys = 0) := Lib.hid (by rw [HE.out, Nat.sub_self]; rfl)
      go_wp2
      go_ret
      refine ⟨?_, rfl⟩
      rw [HR.out]
      rfl

theorem cmpOrder_any (g : Nat) (A1 A2 : Option Addr) (n m c d : Nat) (xs ys : List Int) (w : World) {B1 B2 : Nat} (h1 : Ints w B1 A1 n xs) (h2 : Ints w B2 A2 m ys) (hn : n ≤ 1000) (hm : m ≤ 1000) :
    Calls Tryz.prog 98 #[.pointer (some ⟨g, 0, none⟩), .slice A1 n c, .slice A2 m d] w fun e w' => e = .returned (.int .i64 (cmpR xs ys)) ∧ w = w' := by
  go_enter Tryz.func98, Tryz.ntmps98
  go_wp2_with (go_at_call 101; refine (compare_any A1 A2 n m c d xs ys _ h1 h2 hn hm).mono ?_; rintro e w' ⟨rfl, rfl⟩)
  go_ret
  exact ⟨rfl, rfl⟩
theorem eqf_any (A1 A2 : Option Addr) (n m c d : Nat) (xs ys : List Int) (w : World) {B1 B2 : Nat} (h1 : Ints w B1 A1 n xs) (h2 : Ints w B2 A2 m ys) (hn : n ≤ 1000) (hm : m ≤ 1000) :
    Calls Tryz.prog 100 #[.slice A1 n c, .slice A2 m d] w fun e w' => e = .returned (.bool (cmpR xs ys == 0)) ∧ w = w' := by
  obtain ⟨r, hr⟩ : ∃ r, cmpR xs ys = r := ⟨_, rfl⟩
  have HR := Lib.hid hr
  clear hr
  go_enter Tryz.func100, Tryz.ntmps100
  go_wp2_with (go_at_call 101; refine (compare_any A1 A2 n m c d xs ys _ h1 h2 hn hm).mono ?_; rintro e w' ⟨rfl, rfl⟩; rw [HR.out])
  go_ret
  refine ⟨?_, rfl⟩
  rw [HR.out]
  rfl
end Go.Proofs.YtmcgnpdfpfgfpaaGreatDoor

/-! SrtV -/
namespace Go.Proofs.YtmcgnpdfpfgfpaaGreatDoor
open Go.RowKit
set_option linter.unusedVariables false

theorem cmpv_ex {w : World} {base lo b n c : Nat} {e : TypeId} {rows : List (List Int)} (g : Nat) (h : OwnM w base lo e (some ⟨b, 0, none⟩) n c rows) (hl : ∀ r ∈ rows, r.length ≤ 1000) :
    ∃ vs, w.ownsRow base e 1 (.slice (some ⟨b, 0, none⟩) n c) n vs ∧ (∀ v ∈ vs, ∃ A k d, v = .slice A k d) ∧ (∀ j, j < n → ∃ A k d, vs[j]? = some (.slice A k d) ∧ ∀ W, Step b w W → Ints W W.heap.size A k (rows.getD j [])) ∧ ∃ cv, CmpV w b g vs cv := by
  obtain ⟨hr, vs, hown, hrow⟩ := h
  have hvl : vs.length = n := by have := hown.1; omega
  have hat : ∀ j, j < n → ∃ A k d, vs[j]? = some (.slice A k d) ∧ ∀ W, Step b w W → Ints W W.heap.size A k (rows.getD j []) := fun j hj => by
    obtain ⟨A, k, d, h1, _, h3, _, h5⟩ := hrow j hj
    refine ⟨A, k, d, h1, fun W hW => h3.keepBlk (World.grownBy.size hW) fun h0 b2 off s e1 hb2 => World.grownBy.block hW b2 hb2 (fun e2 => ?_)⟩
    injection e2 with e2
    exact h5 h0 b2 off s e1 (by rw [e2]; rfl)
  have hmem : ∀ v ∈ vs, ∃ (A : Option Addr) (k d : Nat) (xs : List Int), v = .slice A k d ∧ k ≤ 1000 ∧ ∀ W, Step b w W → Ints W W.heap.size A k xs := fun v hv => by
    obtain ⟨j, hj, rfl⟩ := List.getElem_of_mem hv
    obtain ⟨A, k, d, h1, h2⟩ := hat j (by omega)
    rw [List.getElem?_eq_getElem hj] at h1
    refine ⟨A, k, d, rows.getD j [], Option.some.inj h1, ?_, h2⟩
    have h3 := (h2 w (Step.refl b w)).len
    rw [← h3]
    exact hl _ (getD_mem2 (by omega))
  have hex : ∀ x y : Value, ∃ r : Int, x ∈ vs → y ∈ vs → ∀ W, Step b w W → Calls Tryz.prog 98 #[.pointer (some ⟨g, 0, none⟩), x, y] W fun e w' => e = .returned (.int .i64 r) ∧ W = w' := fun x y => by
    by_cases hx : x ∈ vs
    · by_cases hy : y ∈ vs
      · obtain ⟨A1, k1, d1, xs, rfl, hk1, h1⟩ := hmem x hx
        obtain ⟨A2, k2, d2, ys, rfl, hk2, h2⟩ := hmem y hy
        exact ⟨cmpR xs ys, fun _ _ W hW => cmpOrder_any g A1 A2 k1 k2 d1 d2 xs ys W (h1 W hW) (h2 W hW) hk1 hk2⟩
      · exact ⟨0, fun _ h => absurd h hy⟩
    · exact ⟨0, fun h => absurd h hx⟩
  refine ⟨vs, hown, fun v hv => ?_, hat, fun x y => (hex x y).choose, fun W hW x hx y hy => (hex x y).choose_spec hx hy W hW⟩
  obtain ⟨A, k, d, _, h1, _⟩ := hmem v hv
  exact ⟨A, k, d, h1⟩
end Go.Proofs.YtmcgnpdfpfgfpaaGreatDoor
