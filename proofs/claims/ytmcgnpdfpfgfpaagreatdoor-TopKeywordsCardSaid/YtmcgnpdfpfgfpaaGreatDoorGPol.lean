/-
  Words for memory and contracts of small functions of the second form. Conditions: those of each lemma.
-/
import Derived.Test.YtmcgnpdfpfgfpaaGreatDoorGBas
import Derived.Test.YtmcgnpdfpfgfpaaGreatDoorPlain
import Derived.Test.YtmcgnpdfpfgfpaaGreatDoorValue
import Derived.Outline
import Derived.Laws.CopyOwn
/-! Poly1 -/
namespace Go.Proofs.YtmcgnpdfpfgfpaaGreatDoor
open Go.RowKit
set_option linter.unusedVariables false

theorem row_mem {α : Type} {l : List α} {k : Nat} {d : α} (hk : k < l.length) : l.getD k d ∈ l := by
  rw [List.getD_eq_getElem?_getD, List.getElem?_eq_getElem hk]; exact List.getElem_mem hk

/-- poly's open. -/
theorem open_ok (p : Int) (V : Option Addr) (n c : Nat) (rows : List (List Int)) (w : World) {lo : Nat} (hok : okP p = true) (hM : Mat w lo w.heap.size V n rows) (hn : n ≤ 1024) (hr : ∀ r ∈ rows, allP p r = true ∧ r.length ≤ 512) :
    Calls Tryz.prog 121 #[.agg #[.int .i64 p], .slice V n c] w fun e w' => e = .returned (.tuple #[.int .i64 p, .int .i64 0]) ∧ Below w.heap.size w w' := by
  have HO := Lib.hid hok
  have HR := Lib.hid hr
  have HM := Lib.hid hM.len
  clear hok hr
  go_enter Tryz.func121, Tryz.ntmps121
  go_wp2_with (go_at_call 39; refine (of_yes p _ HO.out).mono ?_; rintro e w1 ⟨rfl, hb1⟩
               have hbb1 := bnext (bbox _) hb1
               clear hb1)
  go_loopw [8, 20] (fun lg i wr => ∃ k : Nat, k ≤ n ∧ lg = .bool false ∧ i = .int .i64 k ∧ Below w.heap.size w wr) (fun _ i _ => n - (intOf i).toNat)
  case atStart => exact ⟨0, Nat.zero_le _, rfl, rfl, hbb1⟩
  case round =>
    obtain ⟨k, hk, rfl, rfl, hbr⟩ := hrel
    by_cases hlt : k < n
    · obtain ⟨b, off, B1, m, d1, rfl, _, hb1, hcell, hm, hI, _⟩ := (hM.upto hbr).at_ hlt
      have hrow := HR.out _ (row_mem (d := []) (k := k) (by rw [HM.out]; exact hlt))
      generalize rows.getD k [] = row at *
      have HA := Lib.hid hrow.1
      have hm5 : m ≤ 512 := by have := hrow.2; rw [hI.len] at this; exact this
      clear hrow
      go_wp2_with (go_at_call 47; refine (all_any p B1 m d1 row _ hI (by omega)).mono ?_; rintro e w3 ⟨rfl, hb3⟩; rw [HA.out]
                   have hbr3 := bnext hbr hb3
                   clear hb3)
      go_roundw
      case rel => exact ⟨k + 1, by omega, congrArg Value.bool (by simp; omega), by go_num, hbr3⟩
      case measure => simp [intOf]; omega
    · go_wp2
      go_ret2
      exact ⟨rfl, hbr⟩

/-- residue's Trim. -/
theorem trim_any (A : Option Addr) (n c : Nat) (xs : List Int) (w : World) {B : Nat} (h : Ints w B A n xs) (hc : n ≤ c) (hn : n ≤ 17592186044416) :
    Calls Tryz.prog 138 #[.slice A n c] w fun e w' => e = .returned (.slice A (tn xs n) c) ∧ w = w' := by
  have HL := Lib.hid h.len
  obtain ⟨t, HT⟩ : ∃ t, Hid (tn xs n = t) := ⟨_, Lib.hid rfl⟩
  rw [HT.out]
  go_enter Tryz.func138, Tryz.ntmps138
  go_wp2
  go_loop [3] (fun i => ∃ k : Nat, k ≤ n ∧ i = .int .i64 k ∧ Hid (tn xs k = t)) (fun i => (intOf i).toNat)
  case atStart => exact ⟨n, Nat.le_refl _, rfl, HT⟩
  case round =>
    obtain ⟨k, hk, rfl, HK⟩ := hrel
    by_cases hk0 : 0 < k
    · obtain ⟨j, rfl⟩ : ∃ j, k = j + 1 := ⟨k - 1, by omega⟩
      obtain ⟨b, off, rfl, hb, hcell⟩ := h.2 (by omega)
      have hcj := hcell j (by omega)
      clear hcell
      have HX : Hid (tn xs (j + 1) = if xs.getD j 0 = 0 then tn xs j else j + 1) := Lib.hid rfl
      generalize xs.getD j 0 = x at *
      have hjj : ((j + 1 : Nat) : Int) - 1 = j := by omega
      have hj0 : (0 : Int) < ((j + 1 : Nat) : Int) := by omega
      have hj1 : (0 : Int) ≤ (j : Int) := by omega
      have hj2 : (j : Int) < (n : Int) := by omega
      have hjc : ((j + 1 : Nat) : Int) ≤ (c : Int) := by omega
      obtain ⟨z, hz⟩ : ∃ z, ((j + 1 : Nat) : Int) = z := ⟨_, rfl⟩
      rw [hz] at hjj hj0 hjc
      rw [hz]
      by_cases hx : x = 0
      · have HJ : Hid (tn xs j = t) := Lib.hid (by rw [← HK.out, HX.out, if_pos hx])
        subst hx
        clear HX HK
        go_wp2
        go_round
        case rel => exact ⟨j, by omega, rfl, HJ⟩
        case measure => simp [intOf]; omega
      · have HJ : Hid (j + 1 = t) := Lib.hid (by rw [← HK.out, HX.out, if_neg hx])
        have hxb : (x == 0) = false := by simpa using hx
        clear HX HK
        go_wp2
        go_ret
        have hJJ := HJ.out
        have hzt : z.toNat = t := by omega
        exact ⟨by rw [hzt]; rfl, rfl⟩
    · obtain rfl : k = 0 := by omega
      have ht : t = 0 := HK.out.symm
      subst ht
      have hc0 : (0 : Int) ≤ (c : Int) := by omega
      go_wp2
      go_ret
      exact ⟨rfl, rfl⟩

theorem Ints.trim {w : World} {B : Nat} {A : Option Addr} {n : Nat} {xs : List Int} (h : Ints w B A n xs) : Ints w B A (tn xs n) (trimL xs) := by
  have hl := h.len
  have := h.take_ (tn xs n) (tn_le xs n)
  unfold trimL
  rw [hl]; exact this

/-- poly's own. -/
theorem own_any (A : Option Addr) (n c : Nat) (xs : List Int) (w : World) (h : Ints w w.heap.size A n xs) (hc : n ≤ c) (hn : n ≤ 17592186044416) :
    Calls Tryz.prog 125 #[.slice A n c] w fun e w' => (∃ A' c', e = .returned (.slice A' (tn xs n) c') ∧ OwnI w' w.heap.size 3 A' (tn xs n) c' (trimL xs)) ∧ Below w.heap.size w w' := by
  obtain ⟨i0, hi0, hz0, hz1, hz2⟩ := info_parts info_int
  have ht := tn_le xs n
  have hT := h.trim
  obtain ⟨t, HT⟩ : ∃ t, Hid (tn xs n = t) := ⟨_, Lib.hid rfl⟩
  rw [HT.out] at ht hT
  rw [HT.out]
  go_enter Tryz.func125, Tryz.ntmps125
  go_wp2_with (first
    | (go_at_call 138; refine (trim_any A n c xs _ h hc hn).mono ?_; rintro e w1 ⟨rfl, rfl⟩; rw [HT.out])
    | (at_builtin
       refine wpList_append_ints rfl _ _ _ rfl w.heap.size 3 i0 _ Tryz.underlying22 hi0 hz0 hz1 hz2 rfl none 0 0 [] rfl OwnI.nil_ _ _ t _ _ rfl hT t (by omega) _ rfl (by omega) (by omega) ?_
       intro A2 c2 w2 hown2 _ hbw2 _))
  go_ret
  exact ⟨⟨A2, c2, rfl, hown2⟩, hbw2⟩

set_option maxHeartbeats 800000 in
/-- residue's AddTimes, onto a row of the call's own from any place on. -/
theorem addTimes_at (p x : Int) (g o n1 c1 N c m d : Nat) (L : Option Addr) (ts l : List Int) (w : World) {base B : Nat} (hp : 2 ≤ p ∧ p ≤ 65521) (hx : 0 ≤ x ∧ x < p) (hT : OwnI w base 3 (some ⟨g, 0, none⟩) N c ts)
    (ho : o + m ≤ N) (hmn : m ≤ n1) (hl : Ints w B L m l) (hlg : ∀ b off s, L = some ⟨b, off, s⟩ → 0 < m → b ≠ g) (hta : allP p ts = true) (hla : allP p l = true) (hn : m ≤ 17592186044416) :
    Calls Tryz.prog 92 #[.int .i64 p, .slice (some ⟨g, o, none⟩) n1 c1, .int .i64 x, .slice L m d] w fun e w' =>
      e = .returned (.tuple #[]) ∧ OwnI w' base 3 (some ⟨g, 0, none⟩) N c (addTo p x o l ts m) ∧ Step g w w' := by
  have HT := Lib.hid hT.len
  have HL := Lib.hid hl.len
  have HTA := Lib.hid hta
  have HLA := Lib.hid hla
  clear hta hla
  go_enter Tryz.func92, Tryz.ntmps92
  go_wp2
  go_loopw [12] (fun i wr => ∃ k : Nat, k ≤ m ∧ i = .int .i64 k ∧ OwnI wr base 3 (some ⟨g, 0, none⟩) N c (addTo p x o l ts k) ∧ Step g w wr) (fun i _ => m - (intOf i).toNat)
  case atStart => exact ⟨0, Nat.zero_le _, rfl, by rw [addTo_zero]; exact hT, Step.refl _ _⟩
  case round =>
    obtain ⟨k, hk, rfl, hown, hS⟩ := hrel
    by_cases hlt : k < m
    · obtain ⟨b, off, rfl, hb, hcell⟩ := hl.2 (by omega)
      have hbg := hlg b off none rfl (by omega)
      have hbw : b < w.heap.size := World.block_lt_of_cell? w _ (hcell 0 (by omega))
      have hrl : wr.cell? ⟨b, off + k, none⟩ = some (.int .i64 (l.getD k 0)) := (World.cell?_of_block (World.grownBy.block hS b hbw (fun e => hbg (by injection e)))).trans (hcell k hlt)
      have hrt := hown.cellAt (j := o + k) (by omega)
      rw [addTo_at _ _ _ _ _ _ (by rw [HT.out]; omega)] at hrt
      have hfz := hown.frozenAt (o + k)
      have hst := hown.stored (o + k) (timesP p x (ts.getD (o + k) 0) (l.getD k 0))
      rw [addTo_set _ _ _ _ _ _ (by rw [HT.out]; omega)] at hst
      have hS2 := hS.set (o + k) (.int .i64 (timesP p x (ts.getD (o + k) 0) (l.getD k 0)))
      have htk := allP_getD HTA.out (k := o + k) (by rw [HT.out]; omega)
      have hlk := allP_getD HLA.out (k := k) (by rw [HL.out]; exact hlt)
      have hm := mulP_in x (l.getD k 0) hp.1
      generalize ts.getD (o + k) 0 = t at *
      generalize l.getD k 0 = y at *
      have hk0 : (0 : Int) ≤ (k : Int) := by omega
      have hk1 : (k : Int) < (m : Int) := by omega
      have hk2 : (k : Int) < (n1 : Int) := by omega
      have HS := Lib.hid hst
      have HS2 := Lib.hid hS2
      clear hst hS2 hcell
      go_wp2_with fail
      go_region_with (first
        | (go_at_call 119; refine (mulP_any p x y _ hp hx hlk).mono ?_; rintro e w' ⟨rfl, rfl⟩)
        | (go_at_call 118; refine (addP_any p t _ _ hp htk hm).mono ?_; rintro e w' ⟨rfl, rfl⟩))
      all_goals go_wp2
      all_goals go_roundw
      all_goals first
        | exact ⟨⟨k + 1, by omega, by go_num, HS.out.drew, HS2.out.drew⟩, by simp [intOf]; omega⟩
        | exact ⟨k + 1, by omega, by go_num, HS.out.drew, HS2.out.drew⟩
        | (simp [intOf]; omega)
    · have hkn : k = m := by omega
      subst hkn
      go_wp2
      go_end0
      exact ⟨rfl, hown, hS⟩

/-- A slice of two rows. -/
theorem Mat.two (w : World) (A B : Option Addr) (n m c d : Nat) (xs ys : List Int) (t : TypeId) (g : Nat) (hg : g = w.heap.size) (h : Ints w w.heap.size A n xs) (h2 : Ints w w.heap.size B m ys) (hn : n ≤ 17592186044416) (hm : m ≤ 17592186044416) :
    Mat (w.alloc (.cells #[.slice A n c, .slice B m d] t)) 0 (w.alloc (.cells #[.slice A n c, .slice B m d] t)).heap.size (some ⟨g, 0, none⟩) 2 [xs, ys] := by
  subst hg
  refine ⟨rfl, fun _ => ⟨_, _, rfl, Nat.zero_le _, by simp, fun j hj => ?_⟩⟩
  rcases (by omega : j = 0 ∨ j = 1) with rfl | rfl
  · refine ⟨A, n, c, ?_, hn, h.upto (bbox _), fun _ _ _ _ _ => Nat.zero_le _⟩
    rw [World.cell?_alloc_at _ _ _ _ rfl]; rfl
  · refine ⟨B, m, d, ?_, hm, h2.upto (bbox _), fun _ _ _ _ _ => Nat.zero_le _⟩
    rw [World.cell?_alloc_at _ _ _ _ rfl]; rfl
end Go.Proofs.YtmcgnpdfpfgfpaaGreatDoor

/-! Poly2 -/
namespace Go.Proofs.YtmcgnpdfpfgfpaaGreatDoor
open Go.RowKit
set_option linter.unusedVariables false

theorem zeros_made (n : Nat) : (madeCells (Value.int .i64 0).cells (n * 1)).toList = vals (List.replicate n 0) := by
  simp only [madeCells, vals, Value.cells]
  simp [Nat.mod_one]
  rw [List.map_const', List.length_range]

/-- A row of the call's own that fills its block. -/
theorem OwnI.whole {w : World} {base g n : Nat} {e : TypeId} {xs : List Int} (h : OwnI w base e (some ⟨g, 0, none⟩) n n xs) : base ≤ g ∧ w.heap[g]? = some (.cells (vals xs).toArray e (0, 0)) ∧ n ≤ maxLen := by
  rcases h.2 with ⟨hv, _⟩ | ⟨g', cap, cur, hv, hb, hh, hc, hm, hs, ht⟩
  · injection hv with h1; cases h1
  · injection hv with h1 _ h3
    injection h1 with h1
    injection h1 with h1
    subst h1 h3
    rw [List.take_of_length_le (by simp; omega)] at ht
    refine ⟨hb, ?_, hm⟩
    rw [hh, ← ht]
theorem OwnI.made {w : World} {base g n : Nat} {e : TypeId} {xs : List Int} (hb : base ≤ g) (hh : w.heap[g]? = some (.cells (vals xs).toArray e (0, 0))) (hl : xs.length = n) (hm : n ≤ maxLen) : OwnI w base e (some ⟨g, 0, none⟩) n n xs := by
  refine ⟨by simp [vals, hl], .inr ⟨g, n, _, rfl, hb, hh, Nat.le_refl _, hm, by simp [vals, hl], ?_⟩⟩
  rw [List.take_of_length_le (by simp [vals, hl])]

/-- A copy of numbers onto a row of the call's own. -/
theorem wpList_copy_ints {P : Program} {w : World} {ops : Array Oper} {rest : List Oper} {o : Oper} {a : Act} {Q : Exit → Act → World → Prop} (hgd : o.guard = none) (d s : Operand) (dT : TypeId)
    (ho : o.op = .call { callee := .builtin .copy, args := #[d, s], argTypes := #[dT, dT] }) (e : TypeId) (hu : P.underlying dT = some (.slice e)) (hsz : (P.info? e).map (·.size) = some 1)
    (base B g N : Nat) (zs xs : List Int) (A : Option Addr) (n c : Nat) (hd : a.eval d = .slice (some ⟨g, 0, none⟩) N N) (hs : a.eval s = .slice A n c) (hown : OwnI w base e (some ⟨g, 0, none⟩) N N zs) (h : Ints w B A n xs) (hn : n ≤ N)
    (hK : ∀ w', OwnI w' base e (some ⟨g, 0, none⟩) N N (xs ++ zs.drop n) → Step g w w' → wpList P ops Q rest (a.put o.dst (goInt n)) w') : wpList P ops Q (o :: rest) a w := by
  obtain ⟨hb, hh, hm⟩ := hown.whole
  have hzl := hown.len
  have hxl := h.len
  have hr := h.reads
  have hvl : (vals xs).length = n := by simp [vals, hxl]
  have hzv : (vals zs).length = N := by simp [vals, hzl]
  by_cases hn0 : n = 0
  · have hxs : xs = [] := List.eq_nil_of_length_eq_zero (by omega)
    subst hn0 hxs
    exact wpList_copy_nothing hgd d s dT dT ho e hu hsz _ _ N N 0 c hd hs (Nat.zero_min _) (hK w (by rw [List.nil_append, List.drop_zero]; exact hown) (Step.refl _ _))
  · obtain ⟨ad, rfl, _, hc⟩ := hr.2 (by omega)
    refine wpList_copy_own hgd d s dT dT ho e hu hsz g 0 N N ad n c hd hs (vals zs).toArray e hh (vals xs) (by rw [hvl]; exact (Nat.min_eq_left hn).symm) hc (by simp; omega) (vals_one xs) ?_
    rw [hvl]
    have hsp : (vals zs).take 0 ++ (vals xs ++ (vals zs).drop (0 + n)) = vals (xs ++ zs.drop n) := by
      rw [List.take_zero, List.nil_append, Nat.zero_add]
      simp [vals]
    refine hK _ (OwnI.made hb ?_ (by simp [hzl, hxl]; omega) hm) ⟨rfl, rfl, rfl, by simp [World.setRow], fun k hk hne => setRow_other w g k _ (fun e1 => hne (by rw [e1]))⟩
    show (w.setRow g _).heap[g]? = _
    rw [setRow_heap w g _ _ e _ hh]
    simp only [hsp]

set_option maxRecDepth 100000 in
set_option maxHeartbeats 400000 in
/-- poly's times. -/
theorem times_ok (p : Int) (A B : Option Addr) (n m c d : Nat) (xs ys : List Int) (w : World) (hp : 2 ≤ p ∧ p ≤ 65521) (h : Ints w w.heap.size A n xs) (h2 : Ints w w.heap.size B m ys) (hx : allP p xs = true) (hy : allP p ys = true) (hn : 0 < n) (hm : 0 < m) (hnm : n + m ≤ 2000) :
    Calls Tryz.prog 124 #[.int .i64 p, .slice A n c, .slice B m d] w fun e w' => (∃ g, e = .returned (.slice (some ⟨g, 0, none⟩) (n + m - 1) (n + m - 1)) ∧ OwnI w' w.heap.size 3 (some ⟨g, 0, none⟩) (n + m - 1) (n + m - 1) (rawMul p xs ys)) ∧ Below w.heap.size w w' := by
  obtain ⟨i0, hi0, hz0, hz1, hz2⟩ := info_parts info_int
  have HL := Lib.hid h.len
  have HM := Lib.hid h2.len
  have HX := Lib.hid hx
  have HY := Lib.hid hy
  clear hx hy
  obtain ⟨N, hN⟩ : ∃ N, n + m - 1 = N := ⟨_, rfl⟩
  rw [hN]
  have hNi : (n : Int) + (m : Int) - 1 = (N : Int) := by omega
  have HZ : Hid (mulK p xs ys 0 = List.replicate N 0) := Lib.hid (by rw [mulK_zero, HL.out, HM.out, hN])
  go_enter Tryz.func124, Tryz.ntmps124
  go_wp2_with (
    at_make
    refine wpList_make_full _ rfl _ _ 22 rfl w.heap.size 3 i0 (.int .i64 0) 1 Tryz.underlying22 hi0 hz0 hz1 .i64 .i64 _ _ N rfl rfl rfl rfl (by rw [hz2]; omega) (by unfold maxLen; omega) (Nat.le_refl _) ?_
    intro w2 hown hgr
    have hown1 : OwnI w2 w.heap.size 3 (some ⟨w.heap.size, 0, none⟩) N N (mulK p xs ys 0) := by rw [zeros_made, ← HZ.out] at hown; exact hown
    have hb2 : Below w.heap.size w w2 := (Below.refl _ _).grown hgr (Nat.le_refl _) (fun k hk => by cases hk)
    clear hown hgr)
  go_loopw [19] (fun i wr => ∃ k : Nat, k ≤ n ∧ i = .int .i64 k ∧ OwnI wr w.heap.size 3 (some ⟨w.heap.size, 0, none⟩) N N (mulK p xs ys k) ∧ Below w.heap.size w wr) (fun i _ => n - (intOf i).toNat)
  case atStart => exact ⟨0, Nat.zero_le _, rfl, hown1, hb2⟩
  case round =>
    obtain ⟨k, hk, rfl, hown, hb⟩ := hrel
    by_cases hlt : k < n
    · obtain ⟨b, off, rfl, hbl, hcell⟩ := h.2 (by omega)
      have hck := (hb.cell (p := ⟨b, off + k, none⟩) hbl).trans (hcell k hlt)
      clear hcell
      have hxk := allP_getD HX.out (k := k) (by rw [HL.out]; exact hlt)
      have HST := Lib.hid (mulK_step hp.1 xs ys k HM.out)
      generalize xs.getD k 0 = x at *
      have hkN : k < N := by omega
      have hkN2 : (k : Int) < (N : Int) := by omega
      have hkN3 : (k : Int) ≤ (N : Int) := by omega
      have hk0 : (0 : Int) ≤ (k : Int) := by omega
      have hk1 : (k : Int) < (n : Int) := by omega
      go_wp2_with (go_at_call 92; refine (addTimes_at p x w.heap.size k _ _ N N m d B (mulK p xs ys k) ys _ hp hxk hown (by omega) (by omega) (h2.below hb) (fun b off s e hm0 => by obtain ⟨b', off', e', hb', _⟩ := h2.2 hm0; rw [e] at e'; injection e' with e'; injection e' with e'; omega) (mulK_allP hp.1 _ _ _) HY.out (by omega)).mono ?_; rintro e w3 ⟨rfl, hown3, hS3⟩
                   rw [HST.out] at hown3
                   have hb3 := Step.below hb hS3 hb.size (Nat.le_refl _))
      go_roundw
      case rel => exact ⟨k + 1, by omega, by go_num, hown3, hb3⟩
      case measure => simp [intOf]; omega
    · have hkn : k = n := by omega
      subst hkn
      have HE := Lib.hid (mulK_all p xs ys HL.out)
      rw [HE.out] at hown
      go_wp2
      go_ret
      exact ⟨⟨_, rfl, hown⟩, hb⟩
end Go.Proofs.YtmcgnpdfpfgfpaaGreatDoor
