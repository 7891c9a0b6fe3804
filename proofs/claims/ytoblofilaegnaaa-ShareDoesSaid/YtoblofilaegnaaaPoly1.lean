/-
  What poly's open and own and residue's Trim and AddTimes hand back for valid arguments. Conditions: the lists read as their numbers, all of them elements.
-/
import Derived.Test.YtoblofilaegnaaaMat
import Derived.Test.YtoblofilaegnaaaPlain
import Derived.Test.YtoblofilaegnaaaValue
import Derived.Test.YtoblofilaegnaaaOrder
import Derived.Outline
namespace Go.Proofs.Ytoblofilaegnaaa
open Go.RowKit
set_option linter.unusedVariables false

theorem row_mem {α : Type} {l : List α} {k : Nat} {d : α} (hk : k < l.length) : l.getD k d ∈ l := by
  rw [List.getD_eq_getElem?_getD, List.getElem?_eq_getElem hk]; exact List.getElem_mem hk

/-- poly's open. -/
theorem open_ok (p : Int) (V : Option Addr) (n c : Nat) (rows : List (List Int)) (w : World) {lo : Nat} (hok : okP p = true) (hM : Mat w lo w.heap.size V n rows) (hn : n ≤ 1024) (hr : ∀ r ∈ rows, allP p r = true ∧ r.length ≤ 512) :
    Calls Try.prog 129 #[.agg #[.int .i64 p], .slice V n c] w fun e w' => e = .returned (.tuple #[.int .i64 p, .int .i64 0]) ∧ Below w.heap.size w w' := by
  have HO := Lib.hid hok
  have HR := Lib.hid hr
  have HM := Lib.hid hM.len
  clear hok hr
  go_enter Try.func129, Try.ntmps129
  go_wp2_with (go_at_call 118; refine (of_yes p _ HO.out).mono ?_; rintro e w1 ⟨rfl, hb1⟩
               have hbb1 := bnext (bbox _) hb1
               clear hb1)
  go_loopw [8, 20] (fun lg i wr => ∃ k : Nat, k ≤ n ∧ lg = .bool false ∧ i = .int .i64 k ∧ Below w.heap.size w wr) (fun _ i _ => n - (intOf i).toNat)
  case atStart => exact ⟨0, Nat.zero_le _, rfl, rfl, hbb1⟩
  case round =>
    obtain ⟨k, hk, rfl, rfl, hbr⟩ := hrel
    by_cases hlt : k < n
    · obtain ⟨b, off, B1, m, d1, rfl, _, hb1, hcell, hm, hI, _⟩ := (hM.upto hbr).at_ hlt
      have hrow := HR.out _ (row_mem (d := []) (k := k) (by rw [HM.out]; exact hlt))
      generalize rows.getD k [] = row at *
      have HA := Lib.hid hrow.1
      have hm5 : m ≤ 512 := by have := hrow.2; rw [hI.len] at this; exact this
      clear hrow
      go_wp2_with (go_at_call 119; refine (all_any p B1 m d1 row _ hI (by omega)).mono ?_; rintro e w3 ⟨rfl, hb3⟩; rw [HA.out]
                   have hbr3 := bnext hbr hb3
                   clear hb3)
      go_roundw
      case rel => exact ⟨k + 1, by omega, congrArg Value.bool (by simp; omega), by go_num, hbr3⟩
      case measure => simp [intOf]; omega
    · go_wp2
      go_ret2
      exact ⟨rfl, hbr⟩

/-- residue's Trim. -/
theorem trim_any (A : Option Addr) (n c : Nat) (xs : List Int) (w : World) {B : Nat} (h : Ints w B A n xs) (hc : n ≤ c) (hn : n ≤ 17592186044416) :
    Calls Try.prog 133 #[.slice A n c] w fun e w' => e = .returned (.slice A (tn xs n) c) ∧ w = w' := by
  have HL := Lib.hid h.len
  obtain ⟨t, HT⟩ : ∃ t, Hid (tn xs n = t) := ⟨_, Lib.hid rfl⟩
  rw [HT.out]
  go_enter Try.func133, Try.ntmps133
  go_wp2
  go_loop [3] (fun i => ∃ k : Nat, k ≤ n ∧ i = .int .i64 k ∧ Hid (tn xs k = t)) (fun i => (intOf i).toNat)
  case atStart => exact ⟨n, Nat.le_refl _, rfl, HT⟩
  case round =>
    obtain ⟨k, hk, rfl, HK⟩ := hrel
    by_cases hk0 : 0 < k
    · obtain ⟨j, rfl⟩ : ∃ j, k = j + 1 := ⟨k - 1, by omega⟩
      obtain ⟨b, off, rfl, hb, hcell⟩ := h.2 (by omega)
      have hcj := hcell j (by omega)
      clear hcell
      have HX : Hid (tn xs (j + 1) = if xs.getD j 0 = 0 then tn xs j else j + 1) := Lib.hid rfl
      generalize xs.getD j 0 = x at *
      have hjj : ((j + 1 : Nat) : Int) - 1 = j := by omega
      have hj0 : (0 : Int) < ((j + 1 : Nat) : Int) := by omega
      have hj1 : (0 : Int) ≤ (j : Int) := by omega
      have hj2 : (j : Int) < (n : Int) := by omega
      have hjc : ((j + 1 : Nat) : Int) ≤ (c : Int) := by omega
      obtain ⟨z, hz⟩ : ∃ z, ((j + 1 : Nat) : Int) = z := ⟨_, rfl⟩
      rw [hz] at hjj hj0 hjc
      rw [hz]
      by_cases hx : x = 0
      · have HJ : Hid (tn xs j = t) := Lib.hid (by rw [← HK.out, HX.out, if_pos hx])
        subst hx
        clear HX HK
        go_wp2
        go_round
        case rel => exact ⟨j, by omega, rfl, HJ⟩
        case measure => simp [intOf]; omega
      · have HJ : Hid (j + 1 = t) := Lib.hid (by rw [← HK.out, HX.out, if_neg hx])
        have hxb : (x == 0) = false := by simpa using hx
        clear HX HK
        go_wp2
        go_ret
        have hJJ := HJ.out
        have hzt : z.toNat = t := by omega
        exact ⟨by rw [hzt]; rfl, rfl⟩
    · obtain rfl : k = 0 := by omega
      have ht : t = 0 := HK.out.symm
      subst ht
      have hc0 : (0 : Int) ≤ (c : Int) := by omega
      go_wp2
      go_ret
      exact ⟨rfl, rfl⟩

theorem Ints.trim {w : World} {B : Nat} {A : Option Addr} {n : Nat} {xs : List Int} (h : Ints w B A n xs) : Ints w B A (tn xs n) (trimL xs) := by
  have hl := h.len
  have := h.take_ (tn xs n) (tn_le xs n)
  unfold trimL
  rw [hl]; exact this

/-- poly's own. -/
theorem own_any (A : Option Addr) (n c : Nat) (xs : List Int) (w : World) (h : Ints w w.heap.size A n xs) (hc : n ≤ c) (hn : n ≤ 17592186044416) :
    Calls Try.prog 130 #[.slice A n c] w fun e w' => (∃ A' c', e = .returned (.slice A' (tn xs n) c') ∧ OwnI w' w.heap.size 3 A' (tn xs n) c' (trimL xs)) ∧ Below w.heap.size w w' := by
  obtain ⟨i0, hi0, hz0, hz1, hz2⟩ := info_parts info_int
  have ht := tn_le xs n
  have hT := h.trim
  obtain ⟨t, HT⟩ : ∃ t, Hid (tn xs n = t) := ⟨_, Lib.hid rfl⟩
  rw [HT.out] at ht hT
  rw [HT.out]
  go_enter Try.func130, Try.ntmps130
  go_wp2_with (first
    | (go_at_call 133; refine (trim_any A n c xs _ h hc hn).mono ?_; rintro e w1 ⟨rfl, rfl⟩; rw [HT.out])
    | (at_builtin
       refine wpList_append_ints rfl _ _ _ rfl w.heap.size 3 i0 _ Try.underlying22 hi0 hz0 hz1 hz2 rfl none 0 0 [] rfl OwnI.nil_ _ _ t _ _ rfl hT t (by omega) _ rfl (by omega) (by omega) ?_
       intro A2 c2 w2 hown2 _ hbw2 _))
  go_ret
  exact ⟨⟨A2, c2, rfl, hown2⟩, hbw2⟩

set_option maxHeartbeats 800000 in
/-- residue's AddTimes, onto a row of the call's own from any place on. -/
theorem addTimes_at (p x : Int) (g o n1 c1 N c m d : Nat) (L : Option Addr) (ts l : List Int) (w : World) {base B : Nat} (hp : 2 ≤ p ∧ p ≤ 65521) (hx : 0 ≤ x ∧ x < p) (hT : OwnI w base 3 (some ⟨g, 0, none⟩) N c ts)
    (ho : o + m ≤ N) (hmn : m ≤ n1) (hl : Ints w B L m l) (hlg : ∀ b off s, L = some ⟨b, off, s⟩ → 0 < m → b ≠ g) (hta : allP p ts = true) (hla : allP p l = true) (hn : m ≤ 17592186044416) :
    Calls Try.prog 127 #[.int .i64 p, .slice (some ⟨g, o, none⟩) n1 c1, .int .i64 x, .slice L m d] w fun e w' =>
      e = .returned (.tuple #[]) ∧ OwnI w' base 3 (some ⟨g, 0, none⟩) N c (addTo p x o l ts m) ∧ Step g w w' := by
  have HT := Lib.hid hT.len
  have HL := Lib.hid hl.len
  have HTA := Lib.hid hta
  have HLA := Lib.hid hla
  clear hta hla
  go_enter Try.func127, Try.ntmps127
  go_wp2
  go_loopw [12] (fun i wr => ∃ k : Nat, k ≤ m ∧ i = .int .i64 k ∧ OwnI wr base 3 (some ⟨g, 0, none⟩) N c (addTo p x o l ts k) ∧ Step g w wr) (fun i _ => m - (intOf i).toNat)
  case atStart => exact ⟨0, Nat.zero_le _, rfl, by rw [addTo_zero]; exact hT, Step.refl _ _⟩
  case round =>
    obtain ⟨k, hk, rfl, hown, hS⟩ := hrel
    by_cases hlt : k < m
    · obtain ⟨b, off, rfl, hb, hcell⟩ := hl.2 (by omega)
      have hbg := hlg b off none rfl (by omega)
      have hbw : b < w.heap.size := World.block_lt_of_cell? w _ (hcell 0 (by omega))
      have hrl : wr.cell? ⟨b, off + k, none⟩ = some (.int .i64 (l.getD k 0)) := (World.cell?_of_block (World.grownBy.block hS b hbw (fun e => hbg (by injection e)))).trans (hcell k hlt)
      have hrt := hown.cellAt (j := o + k) (by omega)
      rw [addTo_at _ _ _ _ _ _ (by rw [HT.out]; omega)] at hrt
      have hfz := hown.frozenAt (o + k)
      have hst := hown.stored (o + k) (timesP p x (ts.getD (o + k) 0) (l.getD k 0))
      rw [addTo_set _ _ _ _ _ _ (by rw [HT.out]; omega)] at hst
      have hS2 := hS.set (o + k) (.int .i64 (timesP p x (ts.getD (o + k) 0) (l.getD k 0)))
      have htk := allP_getD HTA.out (k := o + k) (by rw [HT.out]; omega)
      have hlk := allP_getD HLA.out (k := k) (by rw [HL.out]; exact hlt)
      have hm := mulP_in x (l.getD k 0) hp.1
      generalize ts.getD (o + k) 0 = t at *
      generalize l.getD k 0 = y at *
      have hk0 : (0 : Int) ≤ (k : Int) := by omega
      have hk1 : (k : Int) < (m : Int) := by omega
      have hk2 : (k : Int) < (n1 : Int) := by omega
      have HS := Lib.hid hst
      have HS2 := Lib.hid hS2
      clear hst hS2 hcell
      go_wp2_with fail
      go_region_with (first
        | (go_at_call 125; refine (mulP_any p x y _ hp hx hlk).mono ?_; rintro e w' ⟨rfl, rfl⟩)
        | (go_at_call 121; refine (addP_any p t _ _ hp htk hm).mono ?_; rintro e w' ⟨rfl, rfl⟩))
      all_goals go_wp2
      all_goals go_roundw
      all_goals first
        | exact ⟨⟨k + 1, by omega, by go_num, HS.out.drew, HS2.out.drew⟩, by simp [intOf]; omega⟩
        | exact ⟨k + 1, by omega, by go_num, HS.out.drew, HS2.out.drew⟩
        | (simp [intOf]; omega)
    · have hkn : k = m := by omega
      subst hkn
      go_wp2
      go_end0
      exact ⟨rfl, hown, hS⟩

/-- A slice of two rows. -/
theorem Mat.two (w : World) (A B : Option Addr) (n m c d : Nat) (xs ys : List Int) (t : TypeId) (g : Nat) (hg : g = w.heap.size) (h : Ints w w.heap.size A n xs) (h2 : Ints w w.heap.size B m ys) (hn : n ≤ 17592186044416) (hm : m ≤ 17592186044416) :
    Mat (w.alloc (.cells #[.slice A n c, .slice B m d] t)) 0 (w.alloc (.cells #[.slice A n c, .slice B m d] t)).heap.size (some ⟨g, 0, none⟩) 2 [xs, ys] := by
  subst hg
  refine ⟨rfl, fun _ => ⟨_, _, rfl, Nat.zero_le _, by simp, fun j hj => ?_⟩⟩
  rcases (by omega : j = 0 ∨ j = 1) with rfl | rfl
  · refine ⟨A, n, c, ?_, hn, h.upto (bbox _), fun _ _ _ _ _ => Nat.zero_le _⟩
    rw [World.cell?_alloc_at _ _ _ _ rfl]; rfl
  · refine ⟨B, m, d, ?_, hm, h2.upto (bbox _), fun _ _ _ _ _ => Nat.zero_le _⟩
    rw [World.cell?_alloc_at _ _ _ _ rfl]; rfl
end Go.Proofs.Ytoblofilaegnaaa
