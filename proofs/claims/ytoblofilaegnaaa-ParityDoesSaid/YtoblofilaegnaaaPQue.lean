/-
  What parity's Queries hands back for valid arguments. Conditions: the tape's numbers that are drawn are elements.
-/
import Derived.Test.YtoblofilaegnaaaPDec
import Derived.Test.YtoblofilaegnaaaGTap
import Derived.Deep.RegionHeld3
namespace Go.Proofs.Ytoblofilaegnaaa
open Go.RowKit
set_option linter.unusedVariables false

/-- The first pieces of some length. -/
def chunkL (xs : List Int) (r k : Nat) : List (List Int) := (List.range k).map fun j => (xs.drop (j * r)).take r
theorem chunkL_succ (xs : List Int) (r k : Nat) : chunkL xs r (k + 1) = chunkL xs r k ++ [(xs.drop (k * r)).take r] := by simp [chunkL, List.range_succ]
theorem chunkL_len (xs : List Int) (r k : Nat) : (chunkL xs r k).length = k := by simp [chunkL]
theorem chunkL_ok {p : Int} {xs : List Int} {r k : Nat} (hl : k * r ≤ xs.length) (hx : ∀ j, j < k * r → 0 ≤ xs.getD j 0 ∧ xs.getD j 0 < p) : ∀ q ∈ chunkL xs r k, allP p q = true ∧ q.length = r := by
  intro q hq
  obtain ⟨j, hj, rfl⟩ := List.mem_map.1 hq
  have hj := List.mem_range.1 hj
  have h1 : (j + 1) * r ≤ k * r := Nat.mul_le_mul_right r hj
  rw [Nat.add_mul, Nat.one_mul] at h1
  have hlen : ((xs.drop (j * r)).take r).length = r := by rw [List.length_take, List.length_drop]; omega
  refine ⟨allP_iff.2 fun x hx' => ?_, hlen⟩
  obtain ⟨i, hi, rfl⟩ := List.getElem_of_mem hx'
  rw [hlen] at hi
  have := hx (j * r + i) (by omega)
  rw [List.getD_eq_getElem?_getD, List.getElem?_eq_getElem (by omega), Option.getD_some] at this
  rw [List.getElem_take, List.getElem_drop]
  exact this
theorem draws_zero {xs : List Int} {n : Nat} {p : Int} (a r : Nat) (hp : 2 ≤ p ∧ p ≤ 65521) (hl : xs.length = n) (hn : n ≤ 16384) (har : a + r ≤ n) (hx : ∀ j, a ≤ j → j < a + r → 0 ≤ xs.getD j 0 ∧ xs.getD j 0 < p) : drawsE xs n a p r = 0 := by
  unfold drawsE
  rw [if_neg (by simp [validT]; omega), if_neg (by simp [limT]; omega), Int.toNat_natCast, Int.toNat_natCast]
  exact (drawE_ok r a (by omega)).2 ⟨by omega, fun j h1 h2 => hx j h1 h2⟩

/-- One row more, in a region that draws its order. -/
theorem step_append_row {P : Program} {ops : Array Oper} {o : Oper} {a : Act} {w : World} {K : Act → World → Prop} {Q : Exit → Act → World → Prop} {E : Prop} (hgd : o.guard = none) (s x : Operand) (t : TypeId)
    (ho : o.op = .call { callee := .builtin .append, args := #[s, x], argTypes := #[t, t] })
    (base lo : Nat) (e : TypeId) (i : TypeInfo) (z : Value) (ht : P.underlying t = some (.slice e)) (hi : P.info? e = some i) (hz : i.zero = some z)
    (hsize : i.size = 1) (hby : i.bytes = 24) (hzs : z.cells.size = 1)
    (A : Option Addr) (n c : Nat) (rows : List (List Int)) (hs : a.eval s = .slice A n c) (hown : OwnM w base lo e A n c rows)
    (g c2 : Nat) (A' : Option Addr) (n' c' : Nat) (row : List Int) (hx : a.eval x = .slice (some ⟨g, 0, none⟩) 1 c2) (hcell : w.cell? ⟨g, 0, none⟩ = some (.slice A' n' c')) (hglt : g < w.heap.size)
    (hn' : n' ≤ 17592186044416) (hI : Ints w w.heap.size A' n' row) (hlo : Lo lo A' n') (hap : 0 < n' → ∀ b off s, A' = some ⟨b, off, s⟩ → (Value.slice A n c).ownBlock ≠ some b)
    (hcap : n + 1 ≤ 1099511627776) (hbase : base ≤ w.heap.size)
    (h : ∀ A2 c2 w', OwnM w' base lo e A2 (n + 1) c2 (rows ++ [row]) → w.grownBy w' (Value.slice A n c).ownBlock → Below base w w' → K (a.put o.dst (.slice A2 (n + 1) c2)) w') :
    if Region.wanted o (yielded ops a.tmps) = true then Oper.wp P o a w K Q else E := by
  obtain ⟨hl, vs, hv, hr⟩ := hown
  refine step_append_any w hgd s x t ho base e i z 1 24 ht hi hz hsize hby hzs (by omega) (.slice A n c) n vs hs hv w.heap.size (some ⟨g, 0, none⟩) 1 c2 [.slice A' n' c'] hx ⟨rfl, fun _ => ⟨_, rfl, hglt, fun j u hj => ?_⟩⟩ (fun u hu => by simp at hu; subst hu; rfl) (by unfold maxLen; omega) (by omega) hbase ?_
  · match j, hj with
    | 0, hj => simp at hj; subst hj; simpa [Addr.add] using hcell
  · intro v' w' hown' hg hat
    have hb : Below base w w' := (Below.refl base w).grown hg hbase (fun k hk => (World.ownsRow.lt hv k hk).1)
    rcases hown'.2 with ⟨_, h0⟩ | ⟨g2, cap, cur, rfl, hrest⟩
    · omega
    · refine h _ cap w' (OwnM.snoc (c' := c') ⟨hl, vs, hv, hr⟩ hn' hI hlo hap (fun us hus => ?_) hg hat) hg hb
      have : us = vs := by
        rcases hus.2 with ⟨e1, e2⟩ | ⟨g3, cap3, cur3, e3, _, e4, _, _, _, e5⟩
        · rcases hv.2 with ⟨e6, e7⟩ | ⟨g4, cap4, cur4, e8, _⟩
          · have h1 : us.length = 0 := by have := hus.1; omega
            have h2 : vs.length = 0 := by have := hv.1; omega
            rw [List.eq_nil_of_length_eq_zero h1, List.eq_nil_of_length_eq_zero h2]
          · rw [e1] at e8; cases e8
        · rcases hv.2 with ⟨e6, e7⟩ | ⟨g4, cap4, cur4, e8, _, e9, _, _, _, e10⟩
          · rw [e6] at e3; cases e3
          · rw [e3] at e8
            injection e8 with e11 _ e12
            injection e11 with e11
            injection e11 with e11 _ _
            subst e11
            rw [e4] at e9
            injection e9 with e9
            injection e9 with e9
            rw [← e5, ← e10, e9]
      rw [this]; exact hown'

theorem blk3q (w : World) (ta tb tc : TypeId) (ca cb cc : Array Value) : ∃ W, ((w.alloc (.cells ca ta)).alloc (.cells cb tb)).alloc (.cells cc tc) = W ∧ W.heap.size = w.heap.size + 3 ∧ Below w.heap.size w W ∧
    Blk W w.heap.size ta ca ∧ Blk W (w.heap.size + 1) tb cb ∧ Blk W (w.heap.size + 1 + 1) tc cc := by
  refine ⟨_, rfl, by simp, ballocs (ballocs (bbox _) _) _, ((Blk.new w ta ca).alloc _).alloc _, (Blk.new1 w _ tb cb).alloc _, ?_⟩
  have := Blk.new1 (w.alloc (.cells ca ta)) (.cells cb tb) tc cc
  rwa [World.size_alloc] at this

/-- What Queries leaves. -/
def QuePost (p : Int) (r s1 i n : Nat) (xs : List Int) (w : World) (e : Ending) (w' : World) : Prop :=
  (∃ A' c' T' tc' av, e = .returned (.tuple #[.slice A' (s1 + 1) c', .agg #[.slice T' n tc', .int .i64 av], .int .i64 0]) ∧ av = ((s1 * r : Nat) : Int) ∧
    OwnM w' w.heap.size w.heap.size 22 A' (s1 + 1) c' (chunkL xs r s1 ++ [lastQ p r i (chunkL xs r s1)])) ∧ Below w.heap.size w w'

set_option maxRecDepth 100000 in
set_option maxHeartbeats 8000000 in
theorem queries_ok (p : Int) (r s1 i n tc : Nat) (S : Int) (T : Option Addr) (xs : List Int) (w : World) (hok : okP p = true) (hr : 1 ≤ r ∧ r ≤ 1024) (hs : 1 ≤ s1 ∧ s1 ≤ 9) (hS : S - 1 = s1) (hi : i < r) (hT : Ints w w.heap.size T n xs) (hn : n ≤ 16384) (hl : s1 * r ≤ n)
    (hx : ∀ j, j < s1 * r → 0 ≤ xs.getD j 0 ∧ xs.getD j 0 < p) :
    Calls Try.prog 83 #[.agg #[.int .i64 p], .int .i64 r, .int .i64 S, .int .i64 i, .agg #[.slice T n tc, .int .i64 0]] w (QuePost p r s1 i n xs w) := by
  obtain ⟨i0, hi0, hz0, hz1, hz2⟩ := info_parts info_rowD
  have hp := okP_pos hok
  have HO := Lib.hid hok
  have HX := Lib.hid hx
  have HSL := Lib.hid hl
  have hSb : 2 ≤ S ∧ S ≤ 10 := by omega
  have hrb : (1 : Int) ≤ r ∧ (r : Int) ≤ 1024 := by omega
  have h1 : ¬ (i : Int) < 0 := by omega
  have h2 : ¬ (r : Int) ≤ (i : Int) := by omega
  have h3 : decide (r ≤ i) = false := decide_eq_false (by omega)
  have h4 : ¬ r ≤ i := by omega
  clear hok hx hl
  obtain ⟨wx, hwx, hszx, hbx, x0, x1, x2⟩ := blk3q w 24 62 62 #[.int .i64 p] #[.slice T n tc, .int .i64 0] #[.slice none 0 0, .int .i64 0]
  have hcx0 : wx.cell? ⟨w.heap.size, 0, none⟩ = some (.int .i64 p) := (x0.cell 0).trans rfl
  go_enter Try.func83, Try.ntmps83
  go_wp2_with (go_at_call 151; refine (pcheck_ok p r S _ HO.out hrb hSb).mono ?_; rintro e w1 ⟨rfl, hb1⟩; have hw1 := hbx.trans (hb1.mono hbx.size); have y0 := x0.below hb1 x0.lt; have y1 := x1.below hb1 x1.lt; have y2 := x2.below hb1 x2.lt; have hsz1 := hb1.size; rw [hszx] at hsz1; clear hb1 hcx0)
  have hT1 : Ints w1 w1.heap.size T n xs := (hT.below hw1).more hw1.size
  clear hwx hszx hbx x0 x1 x2
  go_loopw [14, 39] (fun v14 v39 wr => ∃ (k : Nat) (A' : Option Addr) (c' : Nat) (T' : Option Addr) (tc' : Nat) (av : Int), k ≤ s1 ∧ v39 = .int .i64 k ∧ v14 = .slice A' k c' ∧ Hid (av = ((k * r : Nat) : Int)) ∧ Ints wr wr.heap.size T' n xs ∧ OwnM wr (w.heap.size + 3) (w.heap.size + 3) 22 A' k c' (chunkL xs r k) ∧
      Blk wr (w.heap.size + 1) 62 #[.slice T' n tc', .int .i64 av] ∧ Blk wr w.heap.size 24 #[.int .i64 p] ∧ Blk wr (w.heap.size + 1 + 1) 62 #[.slice none 0 0, .int .i64 0] ∧ Below w.heap.size w wr ∧ w.heap.size + 3 ≤ wr.heap.size) (fun _ v39 _ => s1 - (intOf v39).toNat)
  case atStart => exact ⟨0, none, 0, T, tc, 0, Nat.zero_le _, rfl, rfl, Lib.hid (by simp), hT1, OwnM.nil_, y1, y0, y2, hw1, hsz1⟩
  case round =>
    obtain ⟨k, A', c', T', tc', av, hk, rfl, rfl, HAV, hTr, hown, z1, z0, z2, hbr, hsr⟩ := hrel
    have hc0 : wr.cell? ⟨w.heap.size, 0, none⟩ = some (.int .i64 p) := (z0.cell 0).trans rfl
    have hc1 : wr.cell? ⟨w.heap.size + 1, 0, none⟩ = some (.slice T' n tc') := (z1.cell 0).trans rfl
    have hc2 : wr.cell? ⟨w.heap.size + 1, 1, none⟩ = some (.int .i64 av) := (z1.cell 1).trans rfl
    by_cases hlt : k < s1
    · have hki : (k : Int) < (s1 : Int) := by omega
      have HKR : Hid (k * r + r ≤ s1 * r) := Lib.hid (by have := Nat.mul_le_mul_right r (show k + 1 ≤ s1 from hlt); rw [Nat.add_mul, Nat.one_mul] at this; exact this)
      have HE : Hid (drawsE xs n av p r = 0) := Lib.hid (by
        have h1 := HKR.out
        have h2 := HSL.out
        rw [HAV.out]; exact draws_zero (k * r) r hp hTr.len hn (by omega) (fun j h1 h2 => HX.out j (by omega)))
      have HN : Hid ((xs.drop av.toNat).take (r : Int).toNat = (xs.drop (k * r)).take r) := Lib.hid (by rw [HAV.out, Int.toNat_natCast, Int.toNat_natCast])
      have HA2 : Hid (av + (r : Int) = (((k + 1) * r : Nat) : Int)) := Lib.hid (by rw [HAV.out, Nat.add_mul, Nat.one_mul]; omega)
      go_wp2_with (go_at_call 115; refine (draws_any T' n tc' av p r xs _ hTr (by omega)).mono ?_; rintro e w4 ⟨_, hyes, hb4⟩
                   obtain ⟨T4, tc4, D, dc, he, hoT4, hoD4⟩ := hyes HE.out
                   rw [HN.out, Int.toNat_natCast] at hoD4
                   rw [Int.toNat_natCast] at he
                   subst he
                   clear hyes)
      have hle4 := hb4.size
      obtain ⟨X, hX⟩ : ∃ X, w4.alloc (.cells #[.slice T4 n tc4, .int .i64 (av + (r : Int))] 62) = X := ⟨_, rfl⟩
      have hXs : X.heap.size = w4.heap.size + 1 := by rw [← hX]; simp
      have hXb : Below w4.heap.size w4 X := by rw [← hX]; exact bbox _
      have bB : Blk X w4.heap.size 62 #[.slice T4 n tc4, .int .i64 (av + (r : Int))] := by rw [← hX]; exact Blk.new _ _ _
      rw [hX]
      clear hX
      have hb4X : Below wr.heap.size wr X := hb4.trans (hXb.mono hle4)
      have hbX : Below w.heap.size w X := hbr.trans (hb4X.mono hbr.size)
      have q0 := z0.below hb4X z0.lt
      have q1 := z1.below hb4X z1.lt
      have q2 := z2.below hb4X z2.lt
      have hownX0 : OwnM X (w.heap.size + 3) (w.heap.size + 3) 22 A' k c' (chunkL xs r k) := hown.belowAll hb4X
      have hownX : OwnM X.drew (w.heap.size + 3) (w.heap.size + 3) 22 A' k c' (chunkL xs r k) := hownX0
      have hDX : OwnI X wr.heap.size 3 D r dc ((xs.drop (k * r)).take r) := hoD4.belowAll hXb
      have hTX : OwnI X wr.heap.size 3 T4 n tc4 xs := hoT4.belowAll hXb
      have hbXa : Below X.drew.heap.size X.drew (X.drew.alloc (.cells #[.slice D r dc] 22)) := bbox _
      have hownA := hownX.belowAll hbXa
      have hcD : (X.drew.alloc (.cells #[.slice D r dc] 22)).cell? ⟨X.heap.size, 0, none⟩ = some (.slice D r dc) := ((Blk.new X.drew 22 #[.slice D r dc]).cell 0).trans rfl
      have hIDa : Ints (X.drew.alloc (.cells #[.slice D r dc] 22)) (X.drew.alloc (.cells #[.slice D r dc] 22)).heap.size D r ((xs.drop (k * r)).take r) := (show Ints X.drew X.drew.heap.size D r _ from hDX.ints).upto hbXa
      have HLO : Hid (Lo (w.heap.size + 3) D r) := Lib.hid fun h0 b off s e => by have := hDX.row b (by rw [e]; rfl); omega
      have HAP : Hid (0 < r → ∀ b off s, D = some ⟨b, off, s⟩ → (Value.slice A' k c').ownBlock ≠ some b) := Lib.hid fun h0 b off s e e2 => by
        have h1 := hDX.row b (by rw [e]; rfl)
        have h2 := (hown.row b e2).2
        omega
      have hsX : X.drew.cell? ⟨w4.heap.size, 0, none⟩ = some (.slice T4 n tc4) ∧ X.drew.cell? ⟨w4.heap.size, 1, none⟩ = some (.int .i64 (av + (r : Int))) := ⟨(bB.cell 0).trans rfl, (bB.cell 1).trans rfl⟩
      have bBa : Blk (X.drew.alloc (.cells #[.slice D r dc] 22)) w4.heap.size 62 #[.slice T4 n tc4, .int .i64 (av + (r : Int))] := (Blk.drew bB).alloc _
      have hsXa : (X.drew.alloc (.cells #[.slice D r dc] 22)).cell? ⟨w4.heap.size, 0, none⟩ = some (.slice T4 n tc4) ∧ (X.drew.alloc (.cells #[.slice D r dc] 22)).cell? ⟨w4.heap.size, 1, none⟩ = some (.int .i64 (av + (r : Int))) := ⟨(bBa.cell 0).trans rfl, (bBa.cell 1).trans rfl⟩
      clear hc0 hc1 hc2
      go_region_held3 (fun w' => w'.cell? ⟨w4.heap.size, 0, none⟩ = some (.slice T4 n tc4) ∧ w'.cell? ⟨w4.heap.size, 1, none⟩ = some (.int .i64 (av + (r : Int)))) (first | exact hsX | exact hsXa | exact hs5 | exact hs6)
        (first
          | ((refine step_append_row (w := X.drew.alloc (.cells #[.slice D r dc] 22)) rfl (.tmp 55) (.tmp 57) 25 rfl (w.heap.size + 3) (w.heap.size + 3) 22 i0 _ Try.underlying25 hi0 hz0 hz1 hz2 rfl A' k c' (chunkL xs r k) (by simp [Act.eval]) hownA X.heap.size 1 D r dc ((xs.drop (k * r)).take r) (by simp [Act.eval]) hcD (by simp) (by omega) hIDa HLO.out HAP.out (by omega) (by simp; omega) ?_); intro A5 c5 w5 hown5 hgr5 hb5
             have hb5X : Below (w.heap.size + 3) X.drew w5 := (hbXa.mono (by show _ ≤ X.heap.size; omega)).trans hb5
             have bB5 : Blk w5 w4.heap.size 62 #[.slice T4 n tc4, .int .i64 (av + (r : Int))] := bBa.grown hgr5 (fun e => by have := (hown.row _ e.symm).2; omega)
             have hs5 : w5.cell? ⟨w4.heap.size, 0, none⟩ = some (.slice T4 n tc4) ∧ w5.cell? ⟨w4.heap.size, 1, none⟩ = some (.int .i64 (av + (r : Int))) := ⟨(bB5.cell 0).trans rfl, (bB5.cell 1).trans rfl⟩
             have e0 : Blk w5 w.heap.size 24 #[.int .i64 p] := (Blk.drew q0).below hb5X (by omega)
             have e1 : Blk w5 (w.heap.size + 1) 62 #[.slice T' n tc', .int .i64 av] := (Blk.drew q1).below hb5X (by omega)
             have e2 : Blk w5 (w.heap.size + 1 + 1) 62 #[.slice none 0 0, .int .i64 0] := (Blk.drew q2).below hb5X (by omega)
             have hc1 : w5.cell? ⟨w.heap.size + 1, 0, none⟩ = some (.slice T' n tc') := (e1.cell 0).trans rfl
             have hc2 : w5.cell? ⟨w.heap.size + 1, 1, none⟩ = some (.int .i64 av) := (e1.cell 1).trans rfl
             have hf1 := e1.frozen 0
             have hf2 := e1.frozen 1
             have bB6 := (bB5.far (p := ⟨w.heap.size + 1, 0, none⟩) (by show w4.heap.size ≠ w.heap.size + 1; omega) (.slice T4 n tc4)).far (p := ⟨w.heap.size + 1, 1, none⟩) (by show w4.heap.size ≠ w.heap.size + 1; omega) (.int .i64 (av + (r : Int)))
             have hs6 : ((w5.setCell ⟨w.heap.size + 1, 0, none⟩ (.slice T4 n tc4)).setCell ⟨w.heap.size + 1, 1, none⟩ (.int .i64 (av + (r : Int)))).cell? ⟨w4.heap.size, 0, none⟩ = some (.slice T4 n tc4) ∧ ((w5.setCell ⟨w.heap.size + 1, 0, none⟩ (.slice T4 n tc4)).setCell ⟨w.heap.size + 1, 1, none⟩ (.int .i64 (av + (r : Int)))).cell? ⟨w4.heap.size, 1, none⟩ = some (.int .i64 (av + (r : Int))) := ⟨(bB6.cell 0).trans rfl, (bB6.cell 1).trans rfl⟩
             have hT5 : Ints w5 w5.heap.size T4 n xs := ((show Ints X.drew X.drew.heap.size T4 n xs from hTX.ints).upto hbXa).keepBlk hgr5.size (fun h0 b off s e hb => hgr5.block b hb (fun e2 => by have h1 := hTX.row b (by rw [e]; rfl); have h2 := (hown.row _ e2.symm).2; omega))))
      have hS6 : Step (w.heap.size + 1) w5 ((w5.setCell ⟨w.heap.size + 1, 0, none⟩ (.slice T4 n tc4)).setCell ⟨w.heap.size + 1, 1, none⟩ (.int .i64 (av + (r : Int)))) := ((Step.refl (w.heap.size + 1) w5).set 0 _).set 1 _
      have hown6 := hown5.step hS6 (by omega) (by omega)
      rw [← chunkL_succ] at hown6
      have hT6 := hT5.keepBlk (World.grownBy.size hS6) (fun h0 b off s e hb => World.grownBy.block hS6 b hb (fun e2 => by (have h1 := hTX.row b (by rw [e]; rfl)); injection e2 with e2; omega))
      have d0 := Step.block hS6 e0 (by omega)
      have d2 := Step.block hS6 e2 (by omega)
      have d1 := (e1.set_ 0 (.slice T4 n tc4)).set_ 1 (.int .i64 (av + (r : Int)))
      have hb6 : Below w.heap.size w ((w5.setCell ⟨w.heap.size + 1, 0, none⟩ (.slice T4 n tc4)).setCell ⟨w.heap.size + 1, 1, none⟩ (.int .i64 (av + (r : Int)))) := below_two2 (hbX.drew.trans (hb5X.mono (by omega))) (by omega) _ _
      have hsz6 : w.heap.size + 3 ≤ ((w5.setCell ⟨w.heap.size + 1, 0, none⟩ (.slice T4 n tc4)).setCell ⟨w.heap.size + 1, 1, none⟩ (.int .i64 (av + (r : Int)))).heap.size := by
        have h1 := hb5X.size
        have h2 : X.heap.size ≤ w5.heap.size := h1
        have h3 := World.grownBy.size hS6
        omega
      clear hsX hsXa hs5 hs6 bB bBa bB5 bB6 hcD hIDa hownA hownX hownX0 hDX hTX hc1 hc2 hf1 hf2
      go_wp2
      go_roundw
      case rel => exact ⟨k + 1, A5, c5, T4, tc4, av + (r : Int), by omega, by go_num, rfl, HA2, hT6, hown6, d1, d0, d2, hb6, hsz6⟩
      case measure => simp [intOf]; omega
    · obtain rfl : k = s1 := by omega
      have HCO : Hid (∀ q ∈ chunkL xs r k, allP p q = true ∧ q.length = r) := Lib.hid (chunkL_ok (by rw [hTr.len]; exact HSL.out) HX.out)
      go_wp2_with (go_at_call 33; refine (unit_ok p r i _ HO.out (by omega) hi).mono ?_; rintro e w3 ⟨⟨A3, c3, rfl, hown3⟩, hb3⟩)
      obtain ⟨g3, rfl, hg3a, hg3b⟩ := hown3.form (by omega)
      have hle3 := hb3.size
      have m0 := z0.below hb3 z0.lt
      have m1 := z1.below hb3 z1.lt
      have m2 := z2.below hb3 z2.lt
      have hMd : Mat w3.drew (w.heap.size + 3) w3.drew.heap.size A' k (chunkL xs r k) := (hown.belowAll hb3).mat (Nat.le_refl _)
      have hba : Below w3.drew.heap.size w3.drew (w3.drew.alloc (.cells #[.slice A' k c'] 25)) := bbox _
      have hMa := hMd.upto hba
      have hcm : (w3.drew.alloc (.cells #[.slice A' k c'] 25)).cell? ⟨w3.heap.size, 0, none⟩ = some (.slice A' k c') := ((Blk.new w3.drew 25 #[.slice A' k c']).cell 0).trans rfl
      have hsd : w3.drew.cell? ⟨w.heap.size, 0, none⟩ = some (.int .i64 p) := (m0.cell 0).trans rfl
      have hsa := (hba.cell (p := ⟨w.heap.size, 0, none⟩) (by show w.heap.size < w3.heap.size; omega)).trans hsd
      have HUA : Hid (allP p (unitL r i) = true) := Lib.hid (spikeL_all hp.1 r i)
      have HPA : Hid (allP p (plusL p r (chunkL xs r k)) = true) := Lib.hid (plusL_all hp.1 _ _)
      have hp1 : 0 ≤ p - 1 ∧ p - 1 < p := by omega
      have hwp : IntKind.i64.wrap (p - 1) = p - 1 := IntWalk.i64_in _ (by omega)
      clear hc0 hc1 hc2
      go_region_held3 (fun w' => w'.cell? ⟨w.heap.size, 0, none⟩ = some (.int .i64 p)) (first | exact hsd | exact hsa | exact hs5 | exact hs6)
        (first
          | (go_at_call 153; refine (each_any A' k c' _).mono ?_; rintro e w' ⟨rfl, rfl⟩)
          | (go_at_call 152; refine (sum_ok p r w3.heap.size k c' (w.heap.size + 3) A' (chunkL xs r k) _ hp (by omega) (by omega) hcm hMa HCO.out).mono ?_; rintro e w5 ⟨⟨A5, c5, rfl, hown5⟩, hb5⟩
             have hba5 : Below w3.heap.size w3.drew w5 := hba.trans (hb5.mono hba.size)
             have hs5 : w5.cell? ⟨w.heap.size, 0, none⟩ = some (.int .i64 p) := (hba5.cell (p := ⟨w.heap.size, 0, none⟩) (by show w.heap.size < w3.heap.size; omega)).trans hsd
             have hown3' : OwnI w5 wr.heap.size 3 (some ⟨g3, 0, none⟩) r c3 (unitL r i) := (show OwnI w3.drew wr.heap.size 3 (some ⟨g3, 0, none⟩) r c3 (unitL r i) from hown3).belowAll hba5
             have HLG : Hid (∀ b off s, A5 = some ⟨b, off, s⟩ → 0 < r → b ≠ g3) := Lib.hid fun b off s e h0 => by
               have h1 := hown5.row b (by rw [e]; rfl)
               have h2 : w3.drew.heap.size ≤ _ := hba.size
               have h3 : w3.heap.size ≤ (w3.drew.alloc (.cells #[.slice A' k c'] 25)).heap.size := h2
               omega)
          | (go_at_call 127; (with_reducible refine (addTimes_any p (p - 1) g3 r c3 c5 A5 (unitL r i) (plusL p r (chunkL xs r k)) _ hp hp1 hown3' hown5.ints HLG.out HUA.out HPA.out (by omega)).mono ?_); rintro e w6 ⟨rfl, hown6, hS6⟩
             have hb6 : Below wr.heap.size wr w6 := Step.below (hb3.drew.trans (hba5.mono hle3)) hS6 (by have := hba5.size; show wr.heap.size ≤ w5.heap.size; (have h9 : w3.heap.size ≤ w5.heap.size := this); omega) hg3a
             have hs6 : w6.cell? ⟨w.heap.size, 0, none⟩ = some (.int .i64 p) := (World.cell?_of_block (World.grownBy.block hS6 w.heap.size (by have h9 : w3.heap.size ≤ w5.heap.size := hba5.size; omega) (fun e => by injection e with e; omega))).trans hs5))
      clear hsd hsa hs5 hs6 hMd hMa hcm hba hwp m0 m1 m2 hown3 hown3' hown5
      have n1 := z1.below hb6 z1.lt
      have n2 := z2.below hb6 z2.lt
      have hle6 := hb6.size
      have hownX0 : OwnM w6 (w.heap.size + 3) (w.heap.size + 3) 22 A' k c' (chunkL xs r k) := hown.belowAll hb6
      have hownX : OwnM w6.drew (w.heap.size + 3) (w.heap.size + 3) 22 A' k c' (chunkL xs r k) := hownX0
      have hbXa : Below w6.drew.heap.size w6.drew (w6.drew.alloc (.cells #[.slice (some ⟨g3, 0, none⟩) r c3] 22)) := bbox _
      have hownA := hownX.belowAll hbXa
      have hcD : (w6.drew.alloc (.cells #[.slice (some ⟨g3, 0, none⟩) r c3] 22)).cell? ⟨w6.heap.size, 0, none⟩ = some (.slice (some ⟨g3, 0, none⟩) r c3) := ((Blk.new w6.drew 22 #[.slice (some ⟨g3, 0, none⟩) r c3]).cell 0).trans rfl
      have hIDa : Ints (w6.drew.alloc (.cells #[.slice (some ⟨g3, 0, none⟩) r c3] 22)) (w6.drew.alloc (.cells #[.slice (some ⟨g3, 0, none⟩) r c3] 22)).heap.size (some ⟨g3, 0, none⟩) r (lastQ p r i (chunkL xs r k)) := (show Ints w6.drew w6.drew.heap.size (some ⟨g3, 0, none⟩) r (lastQ p r i (chunkL xs r k)) from hown6.ints).upto hbXa
      have HLO : Hid (Lo (w.heap.size + 3) (some ⟨g3, 0, none⟩) r) := Lib.hid fun h0 b off s e => by injection e with e; injection e with e; omega
      have HAP : Hid (0 < r → ∀ b off s, (some ⟨g3, 0, none⟩ : Option Addr) = some ⟨b, off, s⟩ → (Value.slice A' k c').ownBlock ≠ some b) := Lib.hid fun h0 b off s e e2 => by
        have h2 := (hown.row b e2).2
        injection e with e
        injection e with e
        omega
      have hsX : w6.drew.cell? ⟨w.heap.size + 1, 0, none⟩ = some (.slice T' n tc') ∧ w6.drew.cell? ⟨w.heap.size + 1, 1, none⟩ = some (.int .i64 av) := ⟨(n1.cell 0).trans rfl, (n1.cell 1).trans rfl⟩
      have n1a := (Blk.drew n1).alloc (.cells #[.slice (some ⟨g3, 0, none⟩) r c3] 22)
      have hsXa : (w6.drew.alloc (.cells #[.slice (some ⟨g3, 0, none⟩) r c3] 22)).cell? ⟨w.heap.size + 1, 0, none⟩ = some (.slice T' n tc') ∧ (w6.drew.alloc (.cells #[.slice (some ⟨g3, 0, none⟩) r c3] 22)).cell? ⟨w.heap.size + 1, 1, none⟩ = some (.int .i64 av) := ⟨(n1a.cell 0).trans rfl, (n1a.cell 1).trans rfl⟩
      go_upto_region 17 with fail
      go_region_held3 (fun w' => w'.cell? ⟨w.heap.size + 1, 0, none⟩ = some (.slice T' n tc') ∧ w'.cell? ⟨w.heap.size + 1, 1, none⟩ = some (.int .i64 av)) (first | exact hsX | exact hsXa | exact hs5 | exact hs6)
        (first
          | ((refine step_append_row (w := w6.drew.alloc (.cells #[.slice (some ⟨g3, 0, none⟩) r c3] 22)) rfl (.tmp 80) (.tmp 82) 25 rfl (w.heap.size + 3) (w.heap.size + 3) 22 i0 _ Try.underlying25 hi0 hz0 hz1 hz2 rfl A' k c' (chunkL xs r k) (by simp [Act.eval]) hownA w6.heap.size 1 (some ⟨g3, 0, none⟩) r c3 (lastQ p r i (chunkL xs r k)) (by simp [Act.eval]) hcD (by simp) (by omega) hIDa HLO.out HAP.out (by omega) (by simp; omega) ?_); intro A5 c5 w8 hown8 hgr8 hb8
             have hb8X : Below (w.heap.size + 3) w6.drew w8 := (hbXa.mono (by show _ ≤ w6.heap.size; omega)).trans hb8
             have f1 : Blk w8 (w.heap.size + 1) 62 #[.slice T' n tc', .int .i64 av] := (Blk.drew n1).below hb8X (by omega)
             have f2 : Blk w8 (w.heap.size + 1 + 1) 62 #[.slice none 0 0, .int .i64 0] := (Blk.drew n2).below hb8X (by omega)
             have hs5 : w8.cell? ⟨w.heap.size + 1, 0, none⟩ = some (.slice T' n tc') ∧ w8.cell? ⟨w.heap.size + 1, 1, none⟩ = some (.int .i64 av) := ⟨(f1.cell 0).trans rfl, (f1.cell 1).trans rfl⟩
             have hc1 : w8.cell? ⟨w.heap.size + 1 + 1, 0, none⟩ = some (.slice none 0 0) := (f2.cell 0).trans rfl
             have hc2 : w8.cell? ⟨w.heap.size + 1 + 1, 1, none⟩ = some (.int .i64 0) := (f2.cell 1).trans rfl
             have hf1 := f2.frozen 0
             have hf2 := f2.frozen 1
             have f1' := (f1.far (p := ⟨w.heap.size + 1 + 1, 0, none⟩) (by show w.heap.size + 1 ≠ w.heap.size + 1 + 1; omega) (.slice T' n tc')).far (p := ⟨w.heap.size + 1 + 1, 1, none⟩) (by show w.heap.size + 1 ≠ w.heap.size + 1 + 1; omega) (.int .i64 av)
             have hs6 : ((w8.setCell ⟨w.heap.size + 1 + 1, 0, none⟩ (.slice T' n tc')).setCell ⟨w.heap.size + 1 + 1, 1, none⟩ (.int .i64 av)).cell? ⟨w.heap.size + 1, 0, none⟩ = some (.slice T' n tc') ∧ ((w8.setCell ⟨w.heap.size + 1 + 1, 0, none⟩ (.slice T' n tc')).setCell ⟨w.heap.size + 1 + 1, 1, none⟩ (.int .i64 av)).cell? ⟨w.heap.size + 1, 1, none⟩ = some (.int .i64 av) := ⟨(f1'.cell 0).trans rfl, (f1'.cell 1).trans rfl⟩))
      all_goals go_wp2
      all_goals
        have hS9 : Step (w.heap.size + 1 + 1) w8 ((w8.setCell ⟨w.heap.size + 1 + 1, 0, none⟩ (.slice T' n tc')).setCell ⟨w.heap.size + 1 + 1, 1, none⟩ (.int .i64 av)) := ((Step.refl (w.heap.size + 1 + 1) w8).set 0 _).set 1 _
        have hown9 := (hown8.step hS9 (by omega) (by omega)).weaken (base' := w.heap.size) (lo' := w.heap.size) (by omega) (by omega)
        have hR9 := blk_two2 (v0 := .slice T' n tc') (v1 := .int .i64 av) f2
        have hy0 := (hR9.cell 0).trans rfl
        have hy1 := (hR9.cell 1).trans rfl
        have hbE := below_two2 ((hbr.trans (hb6.mono hbr.size)).drew.trans (hb8X.mono (by omega))) (g := w.heap.size + 1 + 1) (by omega) (.slice T' n tc') (.int .i64 av)
        exact bodyPost_ret (v := .tuple #[.slice A5 (k + 1) c5, .agg #[.slice T' n tc', .int .i64 av], .int .i64 0]) (by simp [results, Try.results83, go_sem, hy0, hy1]) rfl ⟨⟨A5, c5, T', tc', av, rfl, HAV.out, hown9⟩, hbE⟩
end Go.Proofs.Ytoblofilaegnaaa
