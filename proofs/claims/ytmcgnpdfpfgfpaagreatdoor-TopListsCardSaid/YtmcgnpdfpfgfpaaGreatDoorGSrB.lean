/-
  Words for memory and contracts of small functions of the second form. Conditions: those of each lemma.
-/
import Derived.Test.YtmcgnpdfpfgfpaaGreatDoorGSrA
/-! Srt6 -/
namespace Go.Proofs.YtmcgnpdfpfgfpaaGreatDoor
open Go.RowKit
set_option linter.unusedVariables false

theorem SrtW.setNew {w0 w : World} {base b n c g o : Nat} {vs0 vs : List Value} (h : SrtW w0 w base b n c vs0 vs) (hp : w0.heap.size ≤ g) (hb : g ≠ b) (v : Value) : SrtW w0 (w.setCell ⟨g, o, none⟩ v) base b n c vs0 vs :=
  ⟨World.ownsRow.kept h.own ((Step.refl g w).set o v) (.inr (fun e => hb (by have e2 : some b = some g := e; injection e2 with e2; exact e2.symm))), h.perm, h.sl, h.step.setNew (p := ⟨g, o, none⟩) hp v⟩

/-- The count of exchanges. -/
def SwC (w : World) (s : Nat) : Prop := ∃ v : Int, Blk w s 3 #[.int .i64 v]

set_option maxRecDepth 100000 in
set_option maxHeartbeats 4000000 in
theorem order2_any (w0 : World) (base b n c g : Nat) (vs0 vs : List Value) (cv : Value → Value → Int) (HC : Hid (CmpV w0 b g vs0 cv)) (lo hi i j s : Nat) (w : World) (hS : SrtW w0 w base b n c vs0 vs) (hh : hi ≤ n) (hn : n ≤ 100000) (hi1 : lo ≤ i ∧ i < hi) (hj1 : lo ≤ j ∧ j < hi) (hs : SwC w s) (hs1 : w0.heap.size ≤ s) (hs2 : s ≠ b) :
    Calls Tryz.prog 182 #[.slice (some ⟨b, 0, none⟩) n c, .int .i64 i, .int .i64 j, .pointer (some ⟨s, 0, none⟩), ordV g] w fun e w' =>
      (∃ x y : Nat, e = .returned (.tuple #[.int .i64 x, .int .i64 y]) ∧ (lo ≤ x ∧ x < hi) ∧ (lo ≤ y ∧ y < hi)) ∧ SwC w' s ∧ ∃ vs, SrtW w0 w' base b n c vs0 vs := by
  obtain ⟨v, hB⟩ := hs
  obtain ⟨xA, xk, xd, hx, hxm, hcx, hfx⟩ := hS.at_ (show j < n by omega)
  obtain ⟨yA, yk, yd, hy, hym, hcy, hfy⟩ := hS.at_ (show i < n by omega)
  have hx0 : (0 : Int) ≤ (j : Int) := by omega
  have hxn : (j : Int) < (n : Int) := by omega
  have hy0 : (0 : Int) ≤ (i : Int) := by omega
  have hyn : (i : Int) < (n : Int) := by omega
  have HQ := Lib.hid (HC.out.quiet hS hxm hym)
  obtain ⟨r, hr⟩ : ∃ r, cv (.slice xA xk xd) (.slice yA yk yd) = r := ⟨_, rfl⟩
  rw [hr] at HQ
  clear hr
  go_enter Tryz.func182, Tryz.ntmps182
  by_cases hr0 : r < 0
  · go_upto_region 1 with fail
    go_quiet ((go_at_call 98; exact HQ.out _))
    have hB1 := hB.drewN nq
    have hS1 := hS.drewN nq
    clear hB hS hcx hcy hfx hfy HQ
    generalize w.drewN nq = w1 at *
    have hc0 : w1.cell? ⟨s, 0, none⟩ = some (.int .i64 v) := (hB1.cell 0).trans rfl
    have hf0 := hB1.frozen 0
    go_wp2
    go_ret2
    exact ⟨⟨j, i, rfl, hj1, hi1⟩, ⟨_, hB1.set_ 0 _⟩, vs, hS1.setNew hs1 hs2 _⟩
  · go_upto_region 1 with fail
    go_quiet ((go_at_call 98; exact HQ.out _))
    have hB1 := hB.drewN nq
    have hS1 := hS.drewN nq
    go_wp2
    go_ret2
    exact ⟨⟨i, j, rfl, hi1, hj1⟩, ⟨_, hB1⟩, vs, hS1⟩

set_option maxRecDepth 100000 in
set_option maxHeartbeats 4000000 in
theorem median_any (w0 : World) (base b n c g : Nat) (vs0 vs : List Value) (cv : Value → Value → Int) (HC : Hid (CmpV w0 b g vs0 cv)) (lo hi i j k s : Nat) (w : World) (hS : SrtW w0 w base b n c vs0 vs) (hh : hi ≤ n) (hn : n ≤ 100000) (hi1 : lo ≤ i ∧ i < hi) (hj1 : lo ≤ j ∧ j < hi) (hk1 : lo ≤ k ∧ k < hi) (hs : SwC w s) (hs1 : w0.heap.size ≤ s) (hs2 : s ≠ b) :
    Calls Tryz.prog 174 #[.slice (some ⟨b, 0, none⟩) n c, .int .i64 i, .int .i64 j, .int .i64 k, .pointer (some ⟨s, 0, none⟩), ordV g] w fun e w' =>
      (∃ x : Nat, e = .returned (.int .i64 x) ∧ (lo ≤ x ∧ x < hi)) ∧ SwC w' s ∧ ∃ vs, SrtW w0 w' base b n c vs0 vs := by
  go_enter Tryz.func174, Tryz.ntmps174
  go_upto_region 2 with (go_at_call 182; refine (order2_any w0 base b n c g vs0 vs cv HC lo hi i j s _ hS hh hn hi1 hj1 hs hs1 hs2).mono ?_; rintro e w1 ⟨⟨i1, j1, rfl, hi2, hj2⟩, hs', us1, hS1⟩)
  go_upto_region 3 with (go_at_call 182; refine (order2_any w0 base b n c g vs0 us1 cv HC lo hi j1 k s _ hS1 hh hn hj2 hk1 hs' hs1 hs2).mono ?_; rintro e w2 ⟨⟨j2, k2, rfl, hj3, hk3⟩, hs'', us2, hS2⟩)
  go_upto_region 4 with (go_at_call 182; refine (order2_any w0 base b n c g vs0 us2 cv HC lo hi i1 j2 s _ hS2 hh hn hi2 hj3 hs'' hs1 hs2).mono ?_; rintro e w3 ⟨⟨i3, j3, rfl, hi4, hj4⟩, hs3, us3, hS3⟩)
  go_wp2
  go_ret
  exact ⟨⟨j3, rfl, hj4⟩, hs3, us3, hS3⟩

set_option maxRecDepth 100000 in
theorem medAdj_any (w0 : World) (base b n c g : Nat) (vs0 vs : List Value) (cv : Value → Value → Int) (HC : Hid (CmpV w0 b g vs0 cv)) (lo hi i s : Nat) (w : World) (hS : SrtW w0 w base b n c vs0 vs) (hh : hi ≤ n) (hn : n ≤ 100000) (hi1 : lo < i ∧ i + 1 < hi) (hs : SwC w s) (hs1 : w0.heap.size ≤ s) (hs2 : s ≠ b) :
    Calls Tryz.prog 173 #[.slice (some ⟨b, 0, none⟩) n c, .int .i64 i, .pointer (some ⟨s, 0, none⟩), ordV g] w fun e w' =>
      (∃ x : Nat, e = .returned (.int .i64 x) ∧ (lo ≤ x ∧ x < hi)) ∧ SwC w' s ∧ ∃ vs, SrtW w0 w' base b n c vs0 vs := by
  obtain ⟨p, hp⟩ : ∃ p, i - 1 = p := ⟨_, rfl⟩
  have hpi : (i : Int) - 1 = (p : Int) := by omega
  obtain ⟨q, hq⟩ : ∃ q, i + 1 = q := ⟨_, rfl⟩
  have hqi : (i : Int) + 1 = (q : Int) := by omega
  have hqw : IntKind.i64.wrap (q : Int) = (q : Int) := IntWalk.i64_in _ (by omega)
  have hpw : IntKind.i64.wrap (p : Int) = (p : Int) := IntWalk.i64_in _ (by omega)
  go_enter Tryz.func173, Tryz.ntmps173
  go_wp2_with (go_at_call 174; refine (median_any w0 base b n c g vs0 vs cv HC lo hi p i q s _ hS hh hn (by omega) (by omega) (by omega) hs hs1 hs2).mono ?_; rintro e w1 ⟨⟨x, rfl, hx⟩, hs', us1, hS1⟩)
  go_ret
  exact ⟨⟨x, rfl, hx⟩, hs', us1, hS1⟩
end Go.Proofs.YtmcgnpdfpfgfpaaGreatDoor

/-! Srt7 -/
namespace Go.Proofs.YtmcgnpdfpfgfpaaGreatDoor
open Go.RowKit
set_option linter.unusedVariables false

set_option maxRecDepth 100000 in
set_option maxHeartbeats 4000000 in
theorem pivot_any (w0 : World) (base b n c g : Nat) (vs0 vs : List Value) (cv : Value → Value → Int) (HC : Hid (CmpV w0 b g vs0 cv)) (lo hi : Nat) (w : World) (hS : SrtW w0 w base b n c vs0 vs) (hh : hi ≤ n) (hn : n ≤ 100000) (hl : lo + 12 < hi) :
    Calls Tryz.prog 143 #[.slice (some ⟨b, 0, none⟩) n c, .int .i64 lo, .int .i64 hi, ordV g] w fun e w' =>
      (∃ (x : Nat) (t : Int), e = .returned (.tuple #[.int .i64 x, .int .i64 t]) ∧ (lo ≤ x ∧ x < hi) ∧ (t = 0 ∨ t = 1 ∨ t = 2)) ∧ ∃ vs, SrtW w0 w' base b n c vs0 vs := by
  obtain ⟨l, hle⟩ : ∃ l, hi - lo = l := ⟨_, rfl⟩
  have hli : (hi : Int) - (lo : Int) = (l : Int) := by omega
  have hlw : IntKind.i64.wrap (l : Int) = (l : Int) := IntWalk.i64_in _ (by omega)
  obtain ⟨q, hq⟩ : ∃ q, l / 4 = q := ⟨_, rfl⟩
  have hqi : (l : Int).tdiv 4 = (q : Int) := by rw [Int.tdiv_eq_ediv_of_nonneg (by omega)]; omega
  obtain ⟨q2, hq2⟩ : ∃ q2, q * 2 = q2 := ⟨_, rfl⟩
  have hq2i : (q : Int) * 2 = (q2 : Int) := by omega
  have hq2w : IntKind.i64.wrap (q2 : Int) = (q2 : Int) := IntWalk.i64_in _ (by omega)
  obtain ⟨q3, hq3⟩ : ∃ q3, q * 3 = q3 := ⟨_, rfl⟩
  have hq3i : (q : Int) * 3 = (q3 : Int) := by omega
  have hq3w : IntKind.i64.wrap (q3 : Int) = (q3 : Int) := IntWalk.i64_in _ (by omega)
  have hqw : IntKind.i64.wrap (q : Int) = (q : Int) := IntWalk.i64_in _ (by omega)
  obtain ⟨i, hi'⟩ : ∃ i, lo + q = i := ⟨_, rfl⟩
  have hii : (lo : Int) + (q : Int) = (i : Int) := by omega
  have hiw : IntKind.i64.wrap (i : Int) = (i : Int) := IntWalk.i64_in _ (by omega)
  obtain ⟨j, hj'⟩ : ∃ j, lo + q2 = j := ⟨_, rfl⟩
  have hji : (lo : Int) + (q2 : Int) = (j : Int) := by omega
  have hjw : IntKind.i64.wrap (j : Int) = (j : Int) := IntWalk.i64_in _ (by omega)
  obtain ⟨k, hk'⟩ : ∃ k, lo + q3 = k := ⟨_, rfl⟩
  have hki : (lo : Int) + (q3 : Int) = (k : Int) := by omega
  have hkw : IntKind.i64.wrap (k : Int) = (k : Int) := IntWalk.i64_in _ (by omega)
  have hl8 : (8 : Int) ≤ (l : Int) := by omega
  have hl8N : 8 ≤ l := by omega
  have hSa := hS.below (bbox (.cells #[.int .i64 0] 3))
  have hsw : SwC (w.alloc (.cells #[.int .i64 0] 3)) w.heap.size := ⟨0, Blk.new w 3 #[.int .i64 0]⟩
  have hs1 : w0.heap.size ≤ w.heap.size := World.grownBy.size hS.step
  have hs2 : w.heap.size ≠ b := by have := (World.ownsRow.lt hS.own b rfl).2; omega
  go_enter Tryz.func143, Tryz.ntmps143
  by_cases h50 : 50 ≤ l
  · have h50i : (50 : Int) ≤ (l : Int) := by omega
    go_upto_region 9 with (go_at_call 173; refine (medAdj_any w0 base b n c g vs0 vs cv HC lo hi i w.heap.size _ hSa hh hn (by omega) hsw hs1 hs2).mono ?_; rintro e w1 ⟨⟨i1, rfl, hi1⟩, hsw1, us1, hS1⟩)
    go_upto_region 10 with (go_at_call 173; refine (medAdj_any w0 base b n c g vs0 us1 cv HC lo hi j w.heap.size _ hS1 hh hn (by omega) hsw1 hs1 hs2).mono ?_; rintro e w2 ⟨⟨j1, rfl, hj1⟩, hsw2, us2, hS2⟩)
    go_upto_region 11 with (go_at_call 173; refine (medAdj_any w0 base b n c g vs0 us2 cv HC lo hi k w.heap.size _ hS2 hh hn (by omega) hsw2 hs1 hs2).mono ?_; rintro e w3 ⟨⟨k1, rfl, hk1⟩, hsw3, us3, hS3⟩)
    go_upto_region 12 with (go_at_call 174; refine (median_any w0 base b n c g vs0 us3 cv HC lo hi i1 j1 k1 w.heap.size _ hS3 hh hn hi1 hj1 hk1 hsw3 hs1 hs2).mono ?_; rintro e w4 ⟨⟨m, rfl, hm⟩, ⟨v, hB⟩, us4, hS4⟩)
    have hc0 : w4.cell? ⟨w.heap.size, 0, none⟩ = some (.int .i64 v) := (hB.cell 0).trans rfl
    by_cases hv0 : v = 0
    · subst hv0
      go_wp2
      go_ret2
      exact ⟨⟨m, 1, rfl, hm, .inr (.inl rfl)⟩, us4, hS4⟩
    · have hv0b : (v == 0) = false := by simpa using hv0
      by_cases hv1 : v = 12
      · subst hv1
        go_wp2
        go_ret2
        exact ⟨⟨m, 2, rfl, hm, .inr (.inr rfl)⟩, us4, hS4⟩
      · have hv1b : (v == 12) = false := by simpa using hv1
        go_wp2
        go_ret2
        exact ⟨⟨m, 0, rfl, hm, .inl rfl⟩, us4, hS4⟩
  · have h50i : ¬ (50 : Int) ≤ (l : Int) := by omega
    go_upto_region 12 with (go_at_call 174; refine (median_any w0 base b n c g vs0 vs cv HC lo hi i j k w.heap.size _ hSa hh hn (by omega) (by omega) (by omega) hsw hs1 hs2).mono ?_; rintro e w4 ⟨⟨m, rfl, hm⟩, ⟨v, hB⟩, us4, hS4⟩)
    have hc0 : w4.cell? ⟨w.heap.size, 0, none⟩ = some (.int .i64 v) := (hB.cell 0).trans rfl
    by_cases hv0 : v = 0
    · subst hv0
      go_wp2
      go_ret2
      exact ⟨⟨m, 1, rfl, hm, .inr (.inl rfl)⟩, us4, hS4⟩
    · have hv0b : (v == 0) = false := by simpa using hv0
      by_cases hv1 : v = 12
      · subst hv1
        go_wp2
        go_ret2
        exact ⟨⟨m, 2, rfl, hm, .inr (.inr rfl)⟩, us4, hS4⟩
      · have hv1b : (v == 12) = false := by simpa using hv1
        go_wp2
        go_ret2
        exact ⟨⟨m, 0, rfl, hm, .inl rfl⟩, us4, hS4⟩
end Go.Proofs.YtmcgnpdfpfgfpaaGreatDoor
