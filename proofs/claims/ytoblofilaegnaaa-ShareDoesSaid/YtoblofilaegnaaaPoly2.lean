/-
  What poly's times, Add and Mul hand back for valid arguments. Conditions: the lists read as their numbers, all of them elements, few.
-/
import Derived.Test.YtoblofilaegnaaaPoly1
import Derived.Laws.CopyOwn
namespace Go.Proofs.Ytoblofilaegnaaa
open Go.RowKit
set_option linter.unusedVariables false

theorem zeros_made (n : Nat) : (madeCells (Value.int .i64 0).cells (n * 1)).toList = vals (List.replicate n 0) := by
  simp only [madeCells, vals, Value.cells]
  simp [Nat.mod_one]
  rw [List.map_const', List.length_range]

/-- A row of the call's own that fills its block. -/
theorem OwnI.whole {w : World} {base g n : Nat} {e : TypeId} {xs : List Int} (h : OwnI w base e (some ⟨g, 0, none⟩) n n xs) : base ≤ g ∧ w.heap[g]? = some (.cells (vals xs).toArray e (0, 0)) ∧ n ≤ maxLen := by
  rcases h.2 with ⟨hv, _⟩ | ⟨g', cap, cur, hv, hb, hh, hc, hm, hs, ht⟩
  · injection hv with h1; cases h1
  · injection hv with h1 _ h3
    injection h1 with h1
    injection h1 with h1
    subst h1 h3
    rw [List.take_of_length_le (by simp; omega)] at ht
    refine ⟨hb, ?_, hm⟩
    rw [hh, ← ht]
theorem OwnI.made {w : World} {base g n : Nat} {e : TypeId} {xs : List Int} (hb : base ≤ g) (hh : w.heap[g]? = some (.cells (vals xs).toArray e (0, 0))) (hl : xs.length = n) (hm : n ≤ maxLen) : OwnI w base e (some ⟨g, 0, none⟩) n n xs := by
  refine ⟨by simp [vals, hl], .inr ⟨g, n, _, rfl, hb, hh, Nat.le_refl _, hm, by simp [vals, hl], ?_⟩⟩
  rw [List.take_of_length_le (by simp [vals, hl])]

/-- A copy of numbers onto a row of the call's own. -/
theorem wpList_copy_ints {P : Program} {w : World} {ops : Array Oper} {rest : List Oper} {o : Oper} {a : Act} {Q : Exit → Act → World → Prop} (hgd : o.guard = none) (d s : Operand) (dT : TypeId)
    (ho : o.op = .call { callee := .builtin .copy, args := #[d, s], argTypes := #[dT, dT] }) (e : TypeId) (hu : P.underlying dT = some (.slice e)) (hsz : (P.info? e).map (·.size) = some 1)
    (base B g N : Nat) (zs xs : List Int) (A : Option Addr) (n c : Nat) (hd : a.eval d = .slice (some ⟨g, 0, none⟩) N N) (hs : a.eval s = .slice A n c) (hown : OwnI w base e (some ⟨g, 0, none⟩) N N zs) (h : Ints w B A n xs) (hn : n ≤ N)
    (hK : ∀ w', OwnI w' base e (some ⟨g, 0, none⟩) N N (xs ++ zs.drop n) → Step g w w' → wpList P ops Q rest (a.put o.dst (goInt n)) w') : wpList P ops Q (o :: rest) a w := by
  obtain ⟨hb, hh, hm⟩ := hown.whole
  have hzl := hown.len
  have hxl := h.len
  have hr := h.reads
  have hvl : (vals xs).length = n := by simp [vals, hxl]
  have hzv : (vals zs).length = N := by simp [vals, hzl]
  by_cases hn0 : n = 0
  · have hxs : xs = [] := List.eq_nil_of_length_eq_zero (by omega)
    subst hn0 hxs
    exact wpList_copy_nothing hgd d s dT dT ho e hu hsz _ _ N N 0 c hd hs (Nat.zero_min _) (hK w (by rw [List.nil_append, List.drop_zero]; exact hown) (Step.refl _ _))
  · obtain ⟨ad, rfl, _, hc⟩ := hr.2 (by omega)
    refine wpList_copy_own hgd d s dT dT ho e hu hsz g 0 N N ad n c hd hs (vals zs).toArray e hh (vals xs) (by rw [hvl]; exact (Nat.min_eq_left hn).symm) hc (by simp; omega) (vals_one xs) ?_
    rw [hvl]
    have hsp : (vals zs).take 0 ++ (vals xs ++ (vals zs).drop (0 + n)) = vals (xs ++ zs.drop n) := by
      rw [List.take_zero, List.nil_append, Nat.zero_add]
      simp [vals]
    refine hK _ (OwnI.made hb ?_ (by simp [hzl, hxl]; omega) hm) ⟨rfl, rfl, rfl, by simp [World.setRow], fun k hk hne => setRow_other w g k _ (fun e1 => hne (by rw [e1]))⟩
    show (w.setRow g _).heap[g]? = _
    rw [setRow_heap w g _ _ e _ hh]
    simp only [hsp]

set_option maxRecDepth 100000 in
set_option maxHeartbeats 400000 in
/-- poly's times. -/
theorem times_ok (p : Int) (A B : Option Addr) (n m c d : Nat) (xs ys : List Int) (w : World) (hp : 2 ≤ p ∧ p ≤ 65521) (h : Ints w w.heap.size A n xs) (h2 : Ints w w.heap.size B m ys) (hx : allP p xs = true) (hy : allP p ys = true) (hn : 0 < n) (hm : 0 < m) (hnm : n + m ≤ 2000) :
    Calls Try.prog 134 #[.int .i64 p, .slice A n c, .slice B m d] w fun e w' => (∃ g, e = .returned (.slice (some ⟨g, 0, none⟩) (n + m - 1) (n + m - 1)) ∧ OwnI w' w.heap.size 3 (some ⟨g, 0, none⟩) (n + m - 1) (n + m - 1) (rawMul p xs ys)) ∧ Below w.heap.size w w' := by
  obtain ⟨i0, hi0, hz0, hz1, hz2⟩ := info_parts info_int
  have HL := Lib.hid h.len
  have HM := Lib.hid h2.len
  have HX := Lib.hid hx
  have HY := Lib.hid hy
  clear hx hy
  obtain ⟨N, hN⟩ : ∃ N, n + m - 1 = N := ⟨_, rfl⟩
  rw [hN]
  have hNi : (n : Int) + (m : Int) - 1 = (N : Int) := by omega
  have HZ : Hid (mulK p xs ys 0 = List.replicate N 0) := Lib.hid (by rw [mulK_zero, HL.out, HM.out, hN])
  go_enter Try.func134, Try.ntmps134
  go_wp2_with (
    at_make
    refine wpList_make_full _ rfl _ _ 22 rfl w.heap.size 3 i0 (.int .i64 0) 1 Try.underlying22 hi0 hz0 hz1 .i64 .i64 _ _ N rfl rfl rfl rfl (by rw [hz2]; omega) (by unfold maxLen; omega) (Nat.le_refl _) ?_
    intro w2 hown hgr
    have hown1 : OwnI w2 w.heap.size 3 (some ⟨w.heap.size, 0, none⟩) N N (mulK p xs ys 0) := by rw [zeros_made, ← HZ.out] at hown; exact hown
    have hb2 : Below w.heap.size w w2 := (Below.refl _ _).grown hgr (Nat.le_refl _) (fun k hk => by cases hk)
    clear hown hgr)
  go_loopw [19] (fun i wr => ∃ k : Nat, k ≤ n ∧ i = .int .i64 k ∧ OwnI wr w.heap.size 3 (some ⟨w.heap.size, 0, none⟩) N N (mulK p xs ys k) ∧ Below w.heap.size w wr) (fun i _ => n - (intOf i).toNat)
  case atStart => exact ⟨0, Nat.zero_le _, rfl, hown1, hb2⟩
  case round =>
    obtain ⟨k, hk, rfl, hown, hb⟩ := hrel
    by_cases hlt : k < n
    · obtain ⟨b, off, rfl, hbl, hcell⟩ := h.2 (by omega)
      have hck := (hb.cell (p := ⟨b, off + k, none⟩) hbl).trans (hcell k hlt)
      clear hcell
      have hxk := allP_getD HX.out (k := k) (by rw [HL.out]; exact hlt)
      have HST := Lib.hid (mulK_step hp.1 xs ys k HM.out)
      generalize xs.getD k 0 = x at *
      have hkN : k < N := by omega
      have hkN2 : (k : Int) < (N : Int) := by omega
      have hkN3 : (k : Int) ≤ (N : Int) := by omega
      have hk0 : (0 : Int) ≤ (k : Int) := by omega
      have hk1 : (k : Int) < (n : Int) := by omega
      go_wp2_with (go_at_call 127; refine (addTimes_at p x w.heap.size k _ _ N N m d B (mulK p xs ys k) ys _ hp hxk hown (by omega) (by omega) (h2.below hb) (fun b off s e hm0 => by obtain ⟨b', off', e', hb', _⟩ := h2.2 hm0; rw [e] at e'; injection e' with e'; injection e' with e'; omega) (mulK_allP hp.1 _ _ _) HY.out (by omega)).mono ?_; rintro e w3 ⟨rfl, hown3, hS3⟩
                   rw [HST.out] at hown3
                   have hb3 := Step.below hb hS3 hb.size (Nat.le_refl _))
      go_roundw
      case rel => exact ⟨k + 1, by omega, by go_num, hown3, hb3⟩
      case measure => simp [intOf]; omega
    · have hkn : k = n := by omega
      subst hkn
      have HE := Lib.hid (mulK_all p xs ys HL.out)
      rw [HE.out] at hown
      go_wp2
      go_ret
      exact ⟨⟨_, rfl, hown⟩, hb⟩
end Go.Proofs.Ytoblofilaegnaaa
