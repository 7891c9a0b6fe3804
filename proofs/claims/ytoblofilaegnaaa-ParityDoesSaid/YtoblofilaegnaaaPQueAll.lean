/-
  What parity's Queries hands back for any arguments. Conditions: the tape's list reads as its numbers.
-/
import Derived.Test.YtoblofilaegnaaaPQue
import Derived.Test.YtoblofilaegnaaaLimP
namespace Go.Proofs.Ytoblofilaegnaaa
open Go.RowKit
set_option linter.unusedVariables false

/-- The error of Queries. -/
def queE (p r s i : Int) (tn : Nat) (ta : Int) (ts : List Int) : Int := if sizeE p r s = 0 then (if i < 0 ∨ r ≤ i then 6 else drawsE ts tn ta p (r * (s - 1))) else sizeE p r s
/-- The queries themselves. -/
def quesL (p : Int) (r s1 i : Nat) (xs : List Int) : List (List Int) := chunkL xs r s1 ++ [lastQ p r i (chunkL xs r s1)]
def queR (p r s i : Int) (tn : Nat) (ta : Int) (ts : List Int) : List (List Int) × List Int × Int × Int :=
  if queE p r s i tn ta ts = 0 then (quesL p r.toNat (s - 1).toNat i.toNat (ts.drop ta.toNat), ts, ta + r * (s - 1), 0) else ([], [], 0, queE p r s i tn ta ts)
/-- Queries and a tape that were made, or the error. -/
def QueP (q : List (List Int) × List Int × Int × Int) (w : World) (e : Ending) (w' : World) : Prop :=
  (∃ A' m c' T' tk tc', e = .returned (.tuple #[.slice A' m c', .agg #[.slice T' tk tc', .int .i64 q.2.2.1], .int .i64 q.2.2.2]) ∧ Mat w' w.heap.size w'.heap.size A' m q.1 ∧ m ≤ 10 ∧ m ≤ c' ∧ Ints w' w'.heap.size T' tk q.2.1) ∧ Below w.heap.size w w'
theorem Mat.nilQ {w : World} {lo B : Nat} : Mat w lo B none 0 [] := ⟨rfl, fun h => absurd h (by omega)⟩
theorem QueP.err {w w' : World} {er : Int} (h : Below w.heap.size w w') : QueP ([], [], 0, er) w (.returned (.tuple #[.slice none 0 0, .agg #[.slice none 0 0, .int .i64 0], .int .i64 er])) w' :=
  ⟨⟨none, 0, 0, none, 0, 0, rfl, Mat.nilQ, by omega, by omega, ⟨rfl, fun h => absurd h (by omega)⟩⟩, h⟩
theorem OwnM.capQ {w : World} {base lo n c : Nat} {e : TypeId} {A : Option Addr} {rows : List (List Int)} (h : OwnM w base lo e A n c rows) : n ≤ c := by
  obtain ⟨_, vs, hown, _⟩ := h
  rcases hown.2 with ⟨hv, hn⟩ | ⟨g, cap, cur, hv, _, _, hc, _⟩
  · injection hv; omega
  · injection hv with _ _ h3; omega
/-- A row of numbers is no row of rows. -/
theorem OwnI.noRows {w : World} {base base2 lo n c m d : Nat} {e e2 : TypeId} {A A2 : Option Addr} {xs : List Int} {rows : List (List Int)} (h : OwnI w base e A n c xs) (h2 : OwnM w base2 lo e2 A2 m d rows) (he : e ≠ e2) : 0 < n → ∀ b off s, A = some ⟨b, off, s⟩ → (Value.slice A2 m d).ownBlock ≠ some b := by
  intro h0 b off s e1 e3
  rcases h.2 with ⟨h4, h5⟩ | ⟨g, cap, cur, hv, _, hh, _⟩
  · omega
  · obtain ⟨_, vs, hown, _⟩ := h2
    rcases hown.2 with ⟨h4, h5⟩ | ⟨g2, cap2, cur2, hv2, _, hh2, _⟩
    · rw [h4] at e3; cases e3
    · rw [hv2] at e3
      injection e3 with e3
      injection hv with hv
      subst e3
      rw [hv] at e1
      injection e1 with e1
      injection e1 with e1 _ _
      subst e1
      rw [hh] at hh2
      injection hh2 with hh2
      injection hh2 with _ hh2 _
      exact he hh2

set_option maxRecDepth 100000 in
set_option maxHeartbeats 8000000 in
theorem pque_yes (p : Int) (r s1 i n tc : Nat) (S a : Int) (T : Option Addr) (xs : List Int) (w : World) (hok : okP p = true) (hr : 1 ≤ r ∧ r ≤ 1024) (hs : 1 ≤ s1 ∧ s1 ≤ 9) (hS : S - 1 = s1) (hi : i < r) (hT : Ints w w.heap.size T n xs) :
    Calls Try.prog 83 #[.agg #[.int .i64 p], .int .i64 r, .int .i64 S, .int .i64 i, .agg #[.slice T n tc, .int .i64 a]] w (QueP (if drawsE xs n a p ((s1 * r : Nat) : Int) = 0 then (quesL p r s1 i (xs.drop a.toNat), xs, a + ((s1 * r : Nat) : Int), 0) else ([], [], 0, drawsE xs n a p ((s1 * r : Nat) : Int))) w) := by
  obtain ⟨i0, hi0, hz0, hz1, hz2⟩ := info_parts info_rowD
  have hp := okP_pos hok
  have HO := Lib.hid hok
  have HLX := Lib.hid hT.len
  have HSR : Hid (0 < s1 * r) := Lib.hid (Nat.mul_pos hs.1 hr.1)
  generalize hRS : (if drawsE xs n a p ((s1 * r : Nat) : Int) = 0 then (quesL p r s1 i (xs.drop a.toNat), xs, a + ((s1 * r : Nat) : Int), (0 : Int)) else ([], [], 0, drawsE xs n a p ((s1 * r : Nat) : Int))) = RS
  have HRF : Hid (∀ k, k < s1 → drewTo xs n a p (k * r) → drawsE xs n (a + ((k * r : Nat) : Int)) p (r : Int) ≠ 0 → RS = ([], [], 0, drawsE xs n (a + ((k * r : Nat) : Int)) p (r : Int))) := Lib.hid fun k hk hd h0 => by
    have h1 := drewTo.fail HLX.out (N := s1 * r) hd h0 (by have := Nat.mul_le_mul_right r (show k + 1 ≤ s1 from hk); rw [Nat.add_mul, Nat.one_mul] at this; exact this)
    rw [← hRS, h1, if_neg h0]
  have HRG : Hid (drewTo xs n a p (s1 * r) → drawsE xs n a p ((s1 * r : Nat) : Int) = 0 ∧ RS = (quesL p r s1 i (xs.drop a.toNat), xs, a + ((s1 * r : Nat) : Int), 0)) := Lib.hid fun hd => by
    rcases hd with h0 | h0
    · have := HSR.out; omega
    · exact ⟨h0, by rw [← hRS, if_pos h0]⟩
  clear hRS
  have hSb : 2 ≤ S ∧ S ≤ 10 := by omega
  have hrb : (1 : Int) ≤ r ∧ (r : Int) ≤ 1024 := by omega
  have h1 : ¬ (i : Int) < 0 := by omega
  have h2 : ¬ (r : Int) ≤ (i : Int) := by omega
  have h3 : decide (r ≤ i) = false := decide_eq_false (by omega)
  have h4 : ¬ r ≤ i := by omega
  clear hok
  obtain ⟨wx, hwx, hszx, hbx, x0, x1, x2⟩ := blk3q w 24 62 62 #[.int .i64 p] #[.slice T n tc, .int .i64 a] #[.slice none 0 0, .int .i64 0]
  have hcx0 : wx.cell? ⟨w.heap.size, 0, none⟩ = some (.int .i64 p) := (x0.cell 0).trans rfl
  go_enter Try.func83, Try.ntmps83
  go_wp2_with (go_at_call 151; refine (pcheck_ok p r S _ HO.out hrb hSb).mono ?_; rintro e w1 ⟨rfl, hb1⟩; have hw1 := hbx.trans (hb1.mono hbx.size); have y0 := x0.below hb1 x0.lt; have y1 := x1.below hb1 x1.lt; have y2 := x2.below hb1 x2.lt; have hsz1 := hb1.size; rw [hszx] at hsz1; clear hb1 hcx0)
  have hT1 : Ints w1 w1.heap.size T n xs := (hT.below hw1).more hw1.size
  clear hwx hszx hbx x0 x1 x2
  go_loopw [14, 39] (fun v14 v39 wr => ∃ (k : Nat) (A' : Option Addr) (c' : Nat) (T' : Option Addr) (tc' : Nat) (av : Int), k ≤ s1 ∧ v39 = .int .i64 k ∧ v14 = .slice A' k c' ∧ Hid (av = a + ((k * r : Nat) : Int)) ∧ Hid (drewTo xs n a p (k * r)) ∧ Hid (0 < n → ∀ b off s, T' = some ⟨b, off, s⟩ → (Value.slice A' k c').ownBlock ≠ some b) ∧ Hid (0 < n → ∀ b off s, T' = some ⟨b, off, s⟩ → b ≠ w.heap.size + 1 + 1) ∧ Ints wr wr.heap.size T' n xs ∧ OwnM wr (w.heap.size + 3) (w.heap.size + 3) 22 A' k c' (chunkL (xs.drop a.toNat) r k) ∧
      Blk wr (w.heap.size + 1) 62 #[.slice T' n tc', .int .i64 av] ∧ Blk wr w.heap.size 24 #[.int .i64 p] ∧ Blk wr (w.heap.size + 1 + 1) 62 #[.slice none 0 0, .int .i64 0] ∧ Below w.heap.size w wr ∧ w.heap.size + 3 ≤ wr.heap.size) (fun _ v39 _ => s1 - (intOf v39).toNat)
  case atStart => exact ⟨0, none, 0, T, tc, a, Nat.zero_le _, rfl, rfl, Lib.hid (by simp), Lib.hid (.inl (by simp)), Lib.hid (fun _ _ _ _ _ h => by cases h), Lib.hid (fun h0 b off s e => by subst e; have := hT.lt h0; omega), hT1, OwnM.nil_, y1, y0, y2, hw1, hsz1⟩
  case round =>
    obtain ⟨k, A', c', T', tc', av, hk, rfl, rfl, HAV, HDT, HTA, HTB, hTr, hown, z1, z0, z2, hbr, hsr⟩ := hrel
    have hc0 : wr.cell? ⟨w.heap.size, 0, none⟩ = some (.int .i64 p) := (z0.cell 0).trans rfl
    have hc1 : wr.cell? ⟨w.heap.size + 1, 0, none⟩ = some (.slice T' n tc') := (z1.cell 0).trans rfl
    have hc2 : wr.cell? ⟨w.heap.size + 1, 1, none⟩ = some (.int .i64 av) := (z1.cell 1).trans rfl
    by_cases hlt : k < s1
    · have hki : (k : Int) < (s1 : Int) := by omega
      by_cases hE : drawsE xs n av p r = 0
      · have HE := Lib.hid hE
        have HDN : Hid (drewTo xs n a p (k * r + r)) := Lib.hid (HDT.out.step HLX.out (by rw [← HAV.out]; exact hE))
        have HIN : Hid (0 ≤ a) := Lib.hid (by
          rcases HDN.out with h0 | h0
          · omega
          · exact (drawsE_in HLX.out h0).1.2.1)
        have HN : Hid ((xs.drop av.toNat).take (r : Int).toNat = ((xs.drop a.toNat).drop (k * r)).take r) := Lib.hid (by rw [HAV.out, Int.toNat_natCast, List.drop_drop, show (a + ((k * r : Nat) : Int)).toNat = a.toNat + k * r by (have := HIN.out; omega)])
        have HA2 : Hid (av + (r : Int) = a + (((k + 1) * r : Nat) : Int)) := Lib.hid (by rw [HAV.out, Nat.add_mul, Nat.one_mul]; omega)
        have HDN2 : Hid (drewTo xs n a p ((k + 1) * r)) := Lib.hid (by rw [Nat.add_mul, Nat.one_mul]; exact HDN.out)
        clear hE HRF HRG
        go_wp2_with (go_at_call 115; refine (draws_any T' n tc' av p r xs _ hTr (by omega)).mono ?_; rintro e w4 ⟨_, hyes, hb4⟩
                     obtain ⟨T4, tc4, D, dc, he, hoT4, hoD4⟩ := hyes HE.out
                     rw [HN.out, Int.toNat_natCast] at hoD4
                     rw [Int.toNat_natCast] at he
                     subst he
                     clear hyes)
        have hle4 := hb4.size
        obtain ⟨X, hX⟩ : ∃ X, w4.alloc (.cells #[.slice T4 n tc4, .int .i64 (av + (r : Int))] 62) = X := ⟨_, rfl⟩
        have hXs : X.heap.size = w4.heap.size + 1 := by rw [← hX]; simp
        have hXb : Below w4.heap.size w4 X := by rw [← hX]; exact bbox _
        have bB : Blk X w4.heap.size 62 #[.slice T4 n tc4, .int .i64 (av + (r : Int))] := by rw [← hX]; exact Blk.new _ _ _
        rw [hX]
        clear hX
        have hb4X : Below wr.heap.size wr X := hb4.trans (hXb.mono hle4)
        have hbX : Below w.heap.size w X := hbr.trans (hb4X.mono hbr.size)
        have q0 := z0.below hb4X z0.lt
        have q1 := z1.below hb4X z1.lt
        have q2 := z2.below hb4X z2.lt
        have hownX0 : OwnM X (w.heap.size + 3) (w.heap.size + 3) 22 A' k c' (chunkL (xs.drop a.toNat) r k) := hown.belowAll hb4X
        have hownX : OwnM X.drew (w.heap.size + 3) (w.heap.size + 3) 22 A' k c' (chunkL (xs.drop a.toNat) r k) := hownX0
        have hDX : OwnI X wr.heap.size 3 D r dc (((xs.drop a.toNat).drop (k * r)).take r) := hoD4.belowAll hXb
        have hTX : OwnI X wr.heap.size 3 T4 n tc4 xs := hoT4.belowAll hXb
        have hbXa : Below X.drew.heap.size X.drew (X.drew.alloc (.cells #[.slice D r dc] 22)) := bbox _
        have hownA := hownX.belowAll hbXa
        have hcD : (X.drew.alloc (.cells #[.slice D r dc] 22)).cell? ⟨X.heap.size, 0, none⟩ = some (.slice D r dc) := ((Blk.new X.drew 22 #[.slice D r dc]).cell 0).trans rfl
        have hIDa : Ints (X.drew.alloc (.cells #[.slice D r dc] 22)) (X.drew.alloc (.cells #[.slice D r dc] 22)).heap.size D r (((xs.drop a.toNat).drop (k * r)).take r) := (show Ints X.drew X.drew.heap.size D r _ from hDX.ints).upto hbXa
        have HLO : Hid (Lo (w.heap.size + 3) D r) := Lib.hid fun h0 b off s e => by have := hDX.row b (by rw [e]; rfl); omega
        have HAP : Hid (0 < r → ∀ b off s, D = some ⟨b, off, s⟩ → (Value.slice A' k c').ownBlock ≠ some b) := Lib.hid fun h0 b off s e e2 => by
          have h1 := hDX.row b (by rw [e]; rfl)
          have h2 := (hown.row b e2).2
          omega
        have hsX : X.drew.cell? ⟨w4.heap.size, 0, none⟩ = some (.slice T4 n tc4) ∧ X.drew.cell? ⟨w4.heap.size, 1, none⟩ = some (.int .i64 (av + (r : Int))) := ⟨(bB.cell 0).trans rfl, (bB.cell 1).trans rfl⟩
        have bBa : Blk (X.drew.alloc (.cells #[.slice D r dc] 22)) w4.heap.size 62 #[.slice T4 n tc4, .int .i64 (av + (r : Int))] := (Blk.drew bB).alloc _
        have hsXa : (X.drew.alloc (.cells #[.slice D r dc] 22)).cell? ⟨w4.heap.size, 0, none⟩ = some (.slice T4 n tc4) ∧ (X.drew.alloc (.cells #[.slice D r dc] 22)).cell? ⟨w4.heap.size, 1, none⟩ = some (.int .i64 (av + (r : Int))) := ⟨(bBa.cell 0).trans rfl, (bBa.cell 1).trans rfl⟩
        clear hc0 hc1 hc2
        go_region_held3 (fun w' => w'.cell? ⟨w4.heap.size, 0, none⟩ = some (.slice T4 n tc4) ∧ w'.cell? ⟨w4.heap.size, 1, none⟩ = some (.int .i64 (av + (r : Int)))) (first | exact hsX | exact hsXa | exact hs5 | exact hs6)
          (first
            | ((refine step_append_row (w := X.drew.alloc (.cells #[.slice D r dc] 22)) rfl (.tmp 55) (.tmp 57) 25 rfl (w.heap.size + 3) (w.heap.size + 3) 22 i0 _ Try.underlying25 hi0 hz0 hz1 hz2 rfl A' k c' (chunkL (xs.drop a.toNat) r k) (by simp [Act.eval]) hownA X.heap.size 1 D r dc (((xs.drop a.toNat).drop (k * r)).take r) (by simp [Act.eval]) hcD (by simp) (by omega) hIDa HLO.out HAP.out (by omega) (by simp; omega) ?_); intro A5 c5 w5 hown5 hgr5 hb5
               have hb5X : Below (w.heap.size + 3) X.drew w5 := (hbXa.mono (by show _ ≤ X.heap.size; omega)).trans hb5
               have bB5 : Blk w5 w4.heap.size 62 #[.slice T4 n tc4, .int .i64 (av + (r : Int))] := bBa.grown hgr5 (fun e => by have := (hown.row _ e.symm).2; omega)
               have hs5 : w5.cell? ⟨w4.heap.size, 0, none⟩ = some (.slice T4 n tc4) ∧ w5.cell? ⟨w4.heap.size, 1, none⟩ = some (.int .i64 (av + (r : Int))) := ⟨(bB5.cell 0).trans rfl, (bB5.cell 1).trans rfl⟩
               have e0 : Blk w5 w.heap.size 24 #[.int .i64 p] := (Blk.drew q0).below hb5X (by omega)
               have e1 : Blk w5 (w.heap.size + 1) 62 #[.slice T' n tc', .int .i64 av] := (Blk.drew q1).below hb5X (by omega)
               have e2 : Blk w5 (w.heap.size + 1 + 1) 62 #[.slice none 0 0, .int .i64 0] := (Blk.drew q2).below hb5X (by omega)
               have hc1 : w5.cell? ⟨w.heap.size + 1, 0, none⟩ = some (.slice T' n tc') := (e1.cell 0).trans rfl
               have hc2 : w5.cell? ⟨w.heap.size + 1, 1, none⟩ = some (.int .i64 av) := (e1.cell 1).trans rfl
               have hf1 := e1.frozen 0
               have hf2 := e1.frozen 1
               have bB6 := (bB5.far (p := ⟨w.heap.size + 1, 0, none⟩) (by show w4.heap.size ≠ w.heap.size + 1; omega) (.slice T4 n tc4)).far (p := ⟨w.heap.size + 1, 1, none⟩) (by show w4.heap.size ≠ w.heap.size + 1; omega) (.int .i64 (av + (r : Int)))
               have hs6 : ((w5.setCell ⟨w.heap.size + 1, 0, none⟩ (.slice T4 n tc4)).setCell ⟨w.heap.size + 1, 1, none⟩ (.int .i64 (av + (r : Int)))).cell? ⟨w4.heap.size, 0, none⟩ = some (.slice T4 n tc4) ∧ ((w5.setCell ⟨w.heap.size + 1, 0, none⟩ (.slice T4 n tc4)).setCell ⟨w.heap.size + 1, 1, none⟩ (.int .i64 (av + (r : Int)))).cell? ⟨w4.heap.size, 1, none⟩ = some (.int .i64 (av + (r : Int))) := ⟨(bB6.cell 0).trans rfl, (bB6.cell 1).trans rfl⟩
               have hT5 : Ints w5 w5.heap.size T4 n xs := ((show Ints X.drew X.drew.heap.size T4 n xs from hTX.ints).upto hbXa).keepBlk hgr5.size (fun h0 b off s e hb => hgr5.block b hb (fun e2 => by have h1 := hTX.row b (by rw [e]; rfl); have h2 := (hown.row _ e2.symm).2; omega))))
        have hoT5 : OwnI w5 wr.heap.size 3 T4 n tc4 xs := ((show OwnI X.drew wr.heap.size 3 T4 n tc4 xs from hTX).belowAll hbXa).kept hgr5 (by
          rcases Nat.eq_zero_or_pos n with h0 | h0
          · rcases hTX.2 with ⟨h1, _⟩ | ⟨g9, _, _, h1, h2, _⟩
            · left; rw [h1]; rfl
            · right; rw [h1]; intro e2; have h3 : g9 < wr.heap.size := (hown.row g9 e2.symm).2; omega
          · right; intro e2
            obtain ⟨g9, h1, h2, _⟩ := hTX.form h0
            rw [h1] at e2
            have h3 : g9 < wr.heap.size := (hown.row g9 e2.symm).2
            omega)
        have HTA5 : Hid (0 < n → ∀ b off s, T4 = some ⟨b, off, s⟩ → (Value.slice A5 (k + 1) c5).ownBlock ≠ some b) := Lib.hid (hoT5.noRows hown5 (by decide))
        have HTB5 : Hid (0 < n → ∀ b off s, T4 = some ⟨b, off, s⟩ → b ≠ w.heap.size + 1 + 1) := Lib.hid fun h0 b off s e => by
          have h9 := hTX.row b (by rw [e]; rfl)
          omega
        clear hoT5
        have hS6 : Step (w.heap.size + 1) w5 ((w5.setCell ⟨w.heap.size + 1, 0, none⟩ (.slice T4 n tc4)).setCell ⟨w.heap.size + 1, 1, none⟩ (.int .i64 (av + (r : Int)))) := ((Step.refl (w.heap.size + 1) w5).set 0 _).set 1 _
        have hown6 := hown5.step hS6 (by omega) (by omega)
        rw [← chunkL_succ] at hown6
        have hT6 := hT5.keepBlk (World.grownBy.size hS6) (fun h0 b off s e hb => World.grownBy.block hS6 b hb (fun e2 => by (have h1 := hTX.row b (by rw [e]; rfl)); injection e2 with e2; omega))
        have d0 := Step.block hS6 e0 (by omega)
        have d2 := Step.block hS6 e2 (by omega)
        have d1 := (e1.set_ 0 (.slice T4 n tc4)).set_ 1 (.int .i64 (av + (r : Int)))
        have hb6 : Below w.heap.size w ((w5.setCell ⟨w.heap.size + 1, 0, none⟩ (.slice T4 n tc4)).setCell ⟨w.heap.size + 1, 1, none⟩ (.int .i64 (av + (r : Int)))) := below_two2 (hbX.drew.trans (hb5X.mono (by omega))) (by omega) _ _
        have hsz6 : w.heap.size + 3 ≤ ((w5.setCell ⟨w.heap.size + 1, 0, none⟩ (.slice T4 n tc4)).setCell ⟨w.heap.size + 1, 1, none⟩ (.int .i64 (av + (r : Int)))).heap.size := by
          have h1 := hb5X.size
          have h2 : X.heap.size ≤ w5.heap.size := h1
          have h3 := World.grownBy.size hS6
          omega
        clear hsX hsXa hs5 hs6 bB bBa bB5 bB6 hcD hIDa hownA hownX hownX0 hDX hTX hc1 hc2 hf1 hf2
        go_wp2
        go_roundw
        case rel => exact ⟨k + 1, A5, c5, T4, tc4, av + (r : Int), by omega, by go_num, rfl, HA2, HDN2, HTA5, HTB5, hT6, hown6, d1, d0, d2, hb6, hsz6⟩
        case measure => simp [intOf]; omega
      · obtain rfl := HRF.out k hlt HDT.out (by rw [← HAV.out]; exact hE)
        have hEb : (drawsE xs n av p r != 0) = true := by simpa using hE
        have HAVe := Lib.hid (congrArg (fun z => drawsE xs n z p (r : Int)) HAV.out)
        have HEE := Lib.hid hE
        go_wp2_with (go_at_call 115; refine (draws_any T' n tc' av p r xs _ hTr (by omega)).mono ?_; rintro e w4 ⟨hno, _, hb4⟩
                     have he := hno HEE.out
                     subst he
                     have y2 := (z2.below hb4 z2.lt).alloc (.cells #[.slice none 0 0, .int .i64 0] 62)
                     have hb4a := ballocs (bnext hbr hb4) (.cells #[.slice none 0 0, .int .i64 0] 62)
                     have hx0 := (y2.cell 0).trans rfl
                     have hx1 := (y2.cell 1).trans rfl
                     have hz0' := y2.frozen 0
                     have hz1' := y2.frozen 1
                     clear hno)
        have hB' := blk_two2 (v0 := .slice none 0 0) (v1 := .int .i64 0) y2
        have hy0 := (hB'.cell 0).trans rfl
        have hy1 := (hB'.cell 1).trans rfl
        have h9 : drawsE xs n (a + ((k * r : Nat) : Int)) p (r : Int) = drawsE xs n av p r := HAVe.out.symm
        exact bodyPost_ret (v := .tuple #[.slice none 0 0, .agg #[.slice none 0 0, .int .i64 0], .int .i64 (drawsE xs n av p r)]) (by simp [results, Try.results83, go_sem, hy0, hy1]) rfl (by
          rw [h9]
          exact QueP.err (below_two2 hb4a (by omega) _ _))
    · obtain rfl : k = s1 := by omega
      obtain ⟨hd0, rfl⟩ := HRG.out HDT.out
      have HCO : Hid (∀ q ∈ chunkL (xs.drop a.toNat) r k, allP p q = true ∧ q.length = r) := Lib.hid (by
        have h9 := drawsE_in HLX.out hd0
        exact chunkL_ok (by rw [List.length_drop, HLX.out]; omega) h9.2)
      clear hd0 HRF HRG
      go_wp2_with (go_at_call 33; refine (unit_ok p r i _ HO.out (by omega) hi).mono ?_; rintro e w3 ⟨⟨A3, c3, rfl, hown3⟩, hb3⟩)
      obtain ⟨g3, rfl, hg3a, hg3b⟩ := hown3.form (by omega)
      have hle3 := hb3.size
      have m0 := z0.below hb3 z0.lt
      have m1 := z1.below hb3 z1.lt
      have m2 := z2.below hb3 z2.lt
      have hMd : Mat w3.drew (w.heap.size + 3) w3.drew.heap.size A' k (chunkL (xs.drop a.toNat) r k) := (hown.belowAll hb3).mat (Nat.le_refl _)
      have hba : Below w3.drew.heap.size w3.drew (w3.drew.alloc (.cells #[.slice A' k c'] 25)) := bbox _
      have hMa := hMd.upto hba
      have hcm : (w3.drew.alloc (.cells #[.slice A' k c'] 25)).cell? ⟨w3.heap.size, 0, none⟩ = some (.slice A' k c') := ((Blk.new w3.drew 25 #[.slice A' k c']).cell 0).trans rfl
      have hsd : w3.drew.cell? ⟨w.heap.size, 0, none⟩ = some (.int .i64 p) := (m0.cell 0).trans rfl
      have hsa := (hba.cell (p := ⟨w.heap.size, 0, none⟩) (by show w.heap.size < w3.heap.size; omega)).trans hsd
      have HUA : Hid (allP p (unitL r i) = true) := Lib.hid (spikeL_all hp.1 r i)
      have HPA : Hid (allP p (plusL p r (chunkL (xs.drop a.toNat) r k)) = true) := Lib.hid (plusL_all hp.1 _ _)
      have hp1 : 0 ≤ p - 1 ∧ p - 1 < p := by omega
      have hwp : IntKind.i64.wrap (p - 1) = p - 1 := IntWalk.i64_in _ (by omega)
      clear hc0 hc1 hc2
      go_region_held3 (fun w' => w'.cell? ⟨w.heap.size, 0, none⟩ = some (.int .i64 p)) (first | exact hsd | exact hsa | exact hs5 | exact hs6)
        (first
          | (go_at_call 153; refine (each_any A' k c' _).mono ?_; rintro e w' ⟨rfl, rfl⟩)
          | (go_at_call 152; refine (sum_ok p r w3.heap.size k c' (w.heap.size + 3) A' (chunkL (xs.drop a.toNat) r k) _ hp (by omega) (by omega) hcm hMa HCO.out).mono ?_; rintro e w5 ⟨⟨A5, c5, rfl, hown5⟩, hb5⟩
             have hba5 : Below w3.heap.size w3.drew w5 := hba.trans (hb5.mono hba.size)
             have hs5 : w5.cell? ⟨w.heap.size, 0, none⟩ = some (.int .i64 p) := (hba5.cell (p := ⟨w.heap.size, 0, none⟩) (by show w.heap.size < w3.heap.size; omega)).trans hsd
             have hown3' : OwnI w5 wr.heap.size 3 (some ⟨g3, 0, none⟩) r c3 (unitL r i) := (show OwnI w3.drew wr.heap.size 3 (some ⟨g3, 0, none⟩) r c3 (unitL r i) from hown3).belowAll hba5
             have HLG : Hid (∀ b off s, A5 = some ⟨b, off, s⟩ → 0 < r → b ≠ g3) := Lib.hid fun b off s e h0 => by
               have h1 := hown5.row b (by rw [e]; rfl)
               have h2 : w3.drew.heap.size ≤ _ := hba.size
               have h3 : w3.heap.size ≤ (w3.drew.alloc (.cells #[.slice A' k c'] 25)).heap.size := h2
               omega)
          | (go_at_call 127; (with_reducible refine (addTimes_any p (p - 1) g3 r c3 c5 A5 (unitL r i) (plusL p r (chunkL (xs.drop a.toNat) r k)) _ hp hp1 hown3' hown5.ints HLG.out HUA.out HPA.out (by omega)).mono ?_); rintro e w6 ⟨rfl, hown6, hS6⟩
             have hb6 : Below wr.heap.size wr w6 := Step.below (hb3.drew.trans (hba5.mono hle3)) hS6 (by have := hba5.size; show wr.heap.size ≤ w5.heap.size; (have h9 : w3.heap.size ≤ w5.heap.size := this); omega) hg3a
             have hs6 : w6.cell? ⟨w.heap.size, 0, none⟩ = some (.int .i64 p) := (World.cell?_of_block (World.grownBy.block hS6 w.heap.size (by have h9 : w3.heap.size ≤ w5.heap.size := hba5.size; omega) (fun e => by injection e with e; omega))).trans hs5))
      clear hsd hsa hs5 hs6 hMd hMa hcm hba hwp m0 m1 m2 hown3 hown3' hown5
      have n1 := z1.below hb6 z1.lt
      have n2 := z2.below hb6 z2.lt
      have hle6 := hb6.size
      have hownX0 : OwnM w6 (w.heap.size + 3) (w.heap.size + 3) 22 A' k c' (chunkL (xs.drop a.toNat) r k) := hown.belowAll hb6
      have hownX : OwnM w6.drew (w.heap.size + 3) (w.heap.size + 3) 22 A' k c' (chunkL (xs.drop a.toNat) r k) := hownX0
      have hbXa : Below w6.drew.heap.size w6.drew (w6.drew.alloc (.cells #[.slice (some ⟨g3, 0, none⟩) r c3] 22)) := bbox _
      have hownA := hownX.belowAll hbXa
      have hcD : (w6.drew.alloc (.cells #[.slice (some ⟨g3, 0, none⟩) r c3] 22)).cell? ⟨w6.heap.size, 0, none⟩ = some (.slice (some ⟨g3, 0, none⟩) r c3) := ((Blk.new w6.drew 22 #[.slice (some ⟨g3, 0, none⟩) r c3]).cell 0).trans rfl
      have hIDa : Ints (w6.drew.alloc (.cells #[.slice (some ⟨g3, 0, none⟩) r c3] 22)) (w6.drew.alloc (.cells #[.slice (some ⟨g3, 0, none⟩) r c3] 22)).heap.size (some ⟨g3, 0, none⟩) r (lastQ p r i (chunkL (xs.drop a.toNat) r k)) := (show Ints w6.drew w6.drew.heap.size (some ⟨g3, 0, none⟩) r (lastQ p r i (chunkL (xs.drop a.toNat) r k)) from hown6.ints).upto hbXa
      have HLO : Hid (Lo (w.heap.size + 3) (some ⟨g3, 0, none⟩) r) := Lib.hid fun h0 b off s e => by injection e with e; injection e with e; omega
      have HAP : Hid (0 < r → ∀ b off s, (some ⟨g3, 0, none⟩ : Option Addr) = some ⟨b, off, s⟩ → (Value.slice A' k c').ownBlock ≠ some b) := Lib.hid fun h0 b off s e e2 => by
        have h2 := (hown.row b e2).2
        injection e with e
        injection e with e
        omega
      have hsX : w6.drew.cell? ⟨w.heap.size + 1, 0, none⟩ = some (.slice T' n tc') ∧ w6.drew.cell? ⟨w.heap.size + 1, 1, none⟩ = some (.int .i64 av) := ⟨(n1.cell 0).trans rfl, (n1.cell 1).trans rfl⟩
      have n1a := (Blk.drew n1).alloc (.cells #[.slice (some ⟨g3, 0, none⟩) r c3] 22)
      have hsXa : (w6.drew.alloc (.cells #[.slice (some ⟨g3, 0, none⟩) r c3] 22)).cell? ⟨w.heap.size + 1, 0, none⟩ = some (.slice T' n tc') ∧ (w6.drew.alloc (.cells #[.slice (some ⟨g3, 0, none⟩) r c3] 22)).cell? ⟨w.heap.size + 1, 1, none⟩ = some (.int .i64 av) := ⟨(n1a.cell 0).trans rfl, (n1a.cell 1).trans rfl⟩
      go_upto_region 17 with fail
      go_region_held3 (fun w' => w'.cell? ⟨w.heap.size + 1, 0, none⟩ = some (.slice T' n tc') ∧ w'.cell? ⟨w.heap.size + 1, 1, none⟩ = some (.int .i64 av)) (first | exact hsX | exact hsXa | exact hs5 | exact hs6)
        (first
          | ((refine step_append_row (w := w6.drew.alloc (.cells #[.slice (some ⟨g3, 0, none⟩) r c3] 22)) rfl (.tmp 80) (.tmp 82) 25 rfl (w.heap.size + 3) (w.heap.size + 3) 22 i0 _ Try.underlying25 hi0 hz0 hz1 hz2 rfl A' k c' (chunkL (xs.drop a.toNat) r k) (by simp [Act.eval]) hownA w6.heap.size 1 (some ⟨g3, 0, none⟩) r c3 (lastQ p r i (chunkL (xs.drop a.toNat) r k)) (by simp [Act.eval]) hcD (by simp) (by omega) hIDa HLO.out HAP.out (by omega) (by simp; omega) ?_); intro A5 c5 w8 hown8 hgr8 hb8
             have hb8X : Below (w.heap.size + 3) w6.drew w8 := (hbXa.mono (by show _ ≤ w6.heap.size; omega)).trans hb8
             have f1 : Blk w8 (w.heap.size + 1) 62 #[.slice T' n tc', .int .i64 av] := (Blk.drew n1).below hb8X (by omega)
             have f2 : Blk w8 (w.heap.size + 1 + 1) 62 #[.slice none 0 0, .int .i64 0] := (Blk.drew n2).below hb8X (by omega)
             have hs5 : w8.cell? ⟨w.heap.size + 1, 0, none⟩ = some (.slice T' n tc') ∧ w8.cell? ⟨w.heap.size + 1, 1, none⟩ = some (.int .i64 av) := ⟨(f1.cell 0).trans rfl, (f1.cell 1).trans rfl⟩
             have hc1 : w8.cell? ⟨w.heap.size + 1 + 1, 0, none⟩ = some (.slice none 0 0) := (f2.cell 0).trans rfl
             have hc2 : w8.cell? ⟨w.heap.size + 1 + 1, 1, none⟩ = some (.int .i64 0) := (f2.cell 1).trans rfl
             have hf1 := f2.frozen 0
             have hf2 := f2.frozen 1
             have f1' := (f1.far (p := ⟨w.heap.size + 1 + 1, 0, none⟩) (by show w.heap.size + 1 ≠ w.heap.size + 1 + 1; omega) (.slice T' n tc')).far (p := ⟨w.heap.size + 1 + 1, 1, none⟩) (by show w.heap.size + 1 ≠ w.heap.size + 1 + 1; omega) (.int .i64 av)
             have hs6 : ((w8.setCell ⟨w.heap.size + 1 + 1, 0, none⟩ (.slice T' n tc')).setCell ⟨w.heap.size + 1 + 1, 1, none⟩ (.int .i64 av)).cell? ⟨w.heap.size + 1, 0, none⟩ = some (.slice T' n tc') ∧ ((w8.setCell ⟨w.heap.size + 1 + 1, 0, none⟩ (.slice T' n tc')).setCell ⟨w.heap.size + 1 + 1, 1, none⟩ (.int .i64 av)).cell? ⟨w.heap.size + 1, 1, none⟩ = some (.int .i64 av) := ⟨(f1'.cell 0).trans rfl, (f1'.cell 1).trans rfl⟩))
      all_goals go_wp2
      all_goals
        have hT9 : Ints ((w8.setCell ⟨w.heap.size + 1 + 1, 0, none⟩ (.slice T' n tc')).setCell ⟨w.heap.size + 1 + 1, 1, none⟩ (.int .i64 av)) ((w8.setCell ⟨w.heap.size + 1 + 1, 0, none⟩ (.slice T' n tc')).setCell ⟨w.heap.size + 1 + 1, 1, none⟩ (.int .i64 av)).heap.size T' n xs := by
          have hTa : Ints w6.drew w6.drew.heap.size T' n xs := hTr.upto hb6.drew
          have hTb := (hTa.upto hbXa).keepBlk hgr8.size (fun h0 b off s e hb => hgr8.block b hb (fun e2 => HTA.out h0 b off s e e2.symm))
          exact hTb.keepBlk (by simp [World.setCell]) (fun h0 b off s e hb => (Below.heap_setCell _ _ _ b (HTB.out h0 b off s e)).trans (Below.heap_setCell _ _ _ b (HTB.out h0 b off s e)))
        have hS9 : Step (w.heap.size + 1 + 1) w8 ((w8.setCell ⟨w.heap.size + 1 + 1, 0, none⟩ (.slice T' n tc')).setCell ⟨w.heap.size + 1 + 1, 1, none⟩ (.int .i64 av)) := ((Step.refl (w.heap.size + 1 + 1) w8).set 0 _).set 1 _
        have hown9 := (hown8.step hS9 (by omega) (by omega)).weaken (base' := w.heap.size) (lo' := w.heap.size) (by omega) (by omega)
        have hR9 := blk_two2 (v0 := .slice T' n tc') (v1 := .int .i64 av) f2
        have hy0 := (hR9.cell 0).trans rfl
        have hy1 := (hR9.cell 1).trans rfl
        have hbE := below_two2 ((hbr.trans (hb6.mono hbr.size)).drew.trans (hb8X.mono (by omega))) (g := w.heap.size + 1 + 1) (by omega) (.slice T' n tc') (.int .i64 av)
        exact bodyPost_ret (v := .tuple #[.slice A5 (k + 1) c5, .agg #[.slice T' n tc', .int .i64 av], .int .i64 0]) (by simp [results, Try.results83, go_sem, hy0, hy1]) rfl ⟨⟨A5, k + 1, c5, T', n, tc', by rw [HAV.out], hown9.mat (Nat.le_refl _), by omega, hown9.capQ, hT9⟩, hbE⟩


theorem BD_index {r i : Int} (h : i < 0 ∨ r ≤ i) : i < 0 ∨ (¬ i < 0 ∧ r ≤ i) := by omega
set_option maxRecDepth 100000 in
theorem pque_size (p r s i : Int) (T : Option Addr) (n tc : Nat) (a : Int) (w : World) (hp64 : -9223372036854775808 ≤ p ∧ p ≤ 9223372036854775807) (h : sizeE p r s ≠ 0) :
    Calls Try.prog 83 #[.agg #[.int .i64 p], .int .i64 r, .int .i64 s, .int .i64 i, .agg #[.slice T n tc, .int .i64 a]] w (QueP ([], [], 0, sizeE p r s) w) := by
  generalize hE : sizeE p r s = E at *
  have HE := Lib.hid hE
  have hEb : (E != 0) = true := by simpa using h
  clear hE
  obtain ⟨wx, hwx, hszx, hbx, x0, x1, x2⟩ := blk3q w 24 62 62 #[.int .i64 p] #[.slice T n tc, .int .i64 a] #[.slice none 0 0, .int .i64 0]
  have hcx0 : wx.cell? ⟨w.heap.size, 0, none⟩ = some (.int .i64 p) := (x0.cell 0).trans rfl
  go_enter Try.func83, Try.ntmps83
  go_wp2_with (go_at_call 151; refine (pcheck_any p r s _ hp64).mono ?_; rw [HE.out]; rintro e w1 ⟨rfl, hb1⟩
               have hw1 := hbx.trans (hb1.mono hbx.size)
               have y2 := x2.below hb1 x2.lt
               have hx0 := (y2.cell 0).trans rfl
               have hx1 := (y2.cell 1).trans rfl
               have hz0' := y2.frozen 0
               have hz1' := y2.frozen 1
               clear hb1 hcx0)
  have hB' := blk_two2 (v0 := .slice none 0 0) (v1 := .int .i64 0) y2
  have hy0 := (hB'.cell 0).trans rfl
  have hy1 := (hB'.cell 1).trans rfl
  exact bodyPost_ret (v := .tuple #[.slice none 0 0, .agg #[.slice none 0 0, .int .i64 0], .int .i64 E]) (by simp [results, Try.results83, go_sem, hy0, hy1]) rfl (QueP.err (below_two2 hw1 (by omega) _ _))
set_option maxRecDepth 100000 in
theorem pque_none (p r s i : Int) (T : Option Addr) (n tc : Nat) (a : Int) (w : World) (hp64 : -9223372036854775808 ≤ p ∧ p ≤ 9223372036854775807) (h : sizeE p r s = 0) (hi : i < 0 ∨ r ≤ i) :
    Calls Try.prog 83 #[.agg #[.int .i64 p], .int .i64 r, .int .i64 s, .int .i64 i, .agg #[.slice T n tc, .int .i64 a]] w (QueP ([], [], 0, 6) w) := by
  have HE := Lib.hid h
  have HBD := Lib.hid (BD_index hi)
  clear h hi
  obtain ⟨wx, hwx, hszx, hbx, x0, x1, x2⟩ := blk3q w 24 62 62 #[.int .i64 p] #[.slice T n tc, .int .i64 a] #[.slice none 0 0, .int .i64 0]
  have hcx0 : wx.cell? ⟨w.heap.size, 0, none⟩ = some (.int .i64 p) := (x0.cell 0).trans rfl
  rcases HBD.out with h1 | ⟨h1, h2⟩
  all_goals
    go_enter Try.func83, Try.ntmps83
    go_wp2_with (go_at_call 151; refine (pcheck_any p r s _ hp64).mono ?_; rw [HE.out]; rintro e w1 ⟨rfl, hb1⟩
                 have hw1 := hbx.trans (hb1.mono hbx.size)
                 have y2 := x2.below hb1 x2.lt
                 have hx0 := (y2.cell 0).trans rfl
                 have hx1 := (y2.cell 1).trans rfl
                 have hz0' := y2.frozen 0
                 have hz1' := y2.frozen 1
                 clear hb1 hcx0)
    have hB' := blk_two2 (v0 := .slice none 0 0) (v1 := .int .i64 0) y2
    have hy0 := (hB'.cell 0).trans rfl
    have hy1 := (hB'.cell 1).trans rfl
    exact bodyPost_ret (v := .tuple #[.slice none 0 0, .agg #[.slice none 0 0, .int .i64 0], .int .i64 6]) (by simp [results, Try.results83, go_sem, hy0, hy1]) rfl (QueP.err (below_two2 hw1 (by omega) _ _))

theorem queR_yes {p r s i : Int} {tn : Nat} {ta : Int} {ts : List Int} (r' s1 i' : Nat) (h : sizeE p r s = 0) (hr : r = r') (hs : s - 1 = s1) (hi : i = i') (hir : i' < r') :
    queR p r s i tn ta ts = if drawsE ts tn ta p ((s1 * r' : Nat) : Int) = 0 then (quesL p r' s1 i' (ts.drop ta.toNat), ts, ta + ((s1 * r' : Nat) : Int), 0) else ([], [], 0, drawsE ts tn ta p ((s1 * r' : Nat) : Int)) := by
  subst hr
  subst hi
  have e1 : (r' : Int) * (s - 1) = ((s1 * r' : Nat) : Int) := by rw [hs, Int.mul_comm]; simp
  have e2 : queE p r' s i' tn ta ts = drawsE ts tn ta p ((s1 * r' : Nat) : Int) := by
    unfold queE
    rw [if_pos h, if_neg (by omega), e1]
  unfold queR
  rw [e2, e1, hs, Int.toNat_natCast, Int.toNat_natCast, Int.toNat_natCast]
theorem queR_size {p r s i : Int} {tn : Nat} {ta : Int} {ts : List Int} (h : sizeE p r s ≠ 0) : queR p r s i tn ta ts = ([], [], 0, sizeE p r s) := by
  have e2 : queE p r s i tn ta ts = sizeE p r s := by unfold queE; rw [if_neg h]
  unfold queR
  rw [e2, if_neg h]
theorem queR_none {p r s i : Int} {tn : Nat} {ta : Int} {ts : List Int} (h : sizeE p r s = 0) (hi : i < 0 ∨ r ≤ i) : queR p r s i tn ta ts = ([], [], 0, 6) := by
  have e2 : queE p r s i tn ta ts = 6 := by unfold queE; rw [if_pos h, if_pos hi]
  unfold queR
  rw [e2, if_neg (by decide)]
theorem pque_all (p r s i : Int) (T : Option Addr) (n tc : Nat) (a : Int) (xs : List Int) (w : World) (hp64 : -9223372036854775808 ≤ p ∧ p ≤ 9223372036854775807) (hT : Ints w w.heap.size T n xs) :
    Calls Try.prog 83 #[.agg #[.int .i64 p], .int .i64 r, .int .i64 s, .int .i64 i, .agg #[.slice T n tc, .int .i64 a]] w (QueP (queR p r s i n a xs) w) := by
  by_cases h : sizeE p r s = 0
  · by_cases hi : i < 0 ∨ r ≤ i
    · rw [queR_none h hi]; exact pque_none p r s i T n tc a w hp64 h hi
    · obtain ⟨hok, hss, hr⟩ := sizeE_zero h
      obtain ⟨r', s1, rfl, hs1, _, hr1, hs2, _, _, _⟩ := sizes_of ⟨hss, hr⟩
      obtain ⟨i', rfl⟩ : ∃ k : Nat, i = k := ⟨i.toNat, by omega⟩
      rw [queR_yes r' s1 i' h rfl hs1 rfl (by omega)]
      exact pque_yes p r' s1 i' n tc s a T xs w hok hr1 hs2 hs1 (by omega) hT
  · rw [queR_size h]; exact pque_size p r s i T n tc a w hp64 h
end Go.Proofs.Ytoblofilaegnaaa
