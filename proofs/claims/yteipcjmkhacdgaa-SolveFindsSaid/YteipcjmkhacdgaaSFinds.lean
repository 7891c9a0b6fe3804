/-
  SolveFinds returns true: the walk of the law. Conditions: none beyond the reading of its arguments.
-/
import Derived.Test.YteipcjmkhacdgaaS06
import Derived.Test.YteipcjmkhacdgaaSolvE
import Derived.Test.YteipcjmkhacdgaaEqu
import Derived.Test.YteipcjmkhacdgaaRef
import Derived.Test.YteipcjmkhacdgaaEqB
import Derived.Deep.RegionHeld3
import Derived.Deep.DeepCutAuto
import Derived.Deep.QuietTactic
import Derived.BigQuiet
namespace Go.Proofs.Yteipcjmkhacdgaa
open Go.RowKit
set_option linter.unusedVariables false

theorem OwnI.cap_ {w : World} {base n c : Nat} {e : TypeId} {A : Option Addr} {xs : List Int} (h : OwnI w base e A n c xs) : n ≤ c := by
  rcases h.2 with ⟨hv, _⟩ | ⟨_, _, _, hv, _, _, hnc, _⟩
  · injection hv with _ h1 h2
    omega
  · injection hv with _ h1 h2
    omega
theorem zipI_add_all_ {p : Int} (hp : 2 ≤ p) (a b : List Int) : allP p (zipI (addP p) a b) = true := zipI_all (addP p) (fun x y => ⟨Int.emod_nonneg _ (by omega), Int.emod_lt_of_pos _ (by omega)⟩) a b
theorem scaleP_all_ {p : Int} (hp : 2 ≤ p) (t : Int) (l : List Int) : allP p (scaleP p t l) = true := allP_iff.2 fun x hx => by
  unfold scaleP at hx
  obtain ⟨i, _, rfl⟩ := List.mem_map.1 hx
  exact ⟨Int.emod_nonneg _ (by omega), Int.emod_lt_of_pos _ (by omega)⟩
theorem kern_row {p : Int} {c : Nat} {m0 rows : List (List Int)} (hp : 2 ≤ p) (h : KernOf p c m0 rows) {j : Nat} (hj : j < rows.length) : (rows.getD j []).length = c ∧ allP p (rows.getD j []) = true ∧ ∀ (t : Int) (x y : List Int), Solv p c m0 x → (∀ i, i < c → Cong p (cf y i) (cf x i + t * cf (rows.getD j []) i)) → Solv p c m0 y := by
  obtain ⟨m, lead, h1, rfl⟩ := h
  rw [List.length_map] at hj
  have e : ((freeL c lead).map (kerX p c lead m)).getD j [] = kerX p c lead m ((freeL c lead)[j]) := by
    rw [List.getD_eq_getElem?_getD, List.getElem?_map, List.getElem?_eq_getElem hj]; rfl
  have hm := List.getElem_mem hj
  unfold freeL at hm
  rw [List.mem_filter] at hm
  rw [e]
  refine ⟨by simp [kerX], allP_iff.2 fun x hx => ?_, fun t x y hx hy => solv_add hp h1 (List.mem_range.1 hm.1) (of_decide_eq_true hm.2) hx t hy⟩
  unfold kerX at hx
  obtain ⟨i, _, rfl⟩ := List.mem_map.1 hx
  exact kerZ_in hp _ _
theorem sum_scaled {p : Int} {c : Nat} {x k : List Int} (t : Int) (hx : x.length = c) (hk : k.length = c) (i : Nat) (hi : i < c) : Cong p (cf (zipI (addP p) x (scaleP p t k)) i) (cf x i + t * cf k i) := by
  have hl : (scaleP p t k).length = c := by unfold scaleP; rw [List.length_map]; exact hk
  rw [cf_zipI _ _ _ (by omega) (by omega), cf_scaleP]
  exact (Cong.addP p _ _).trans ((Cong.refl _ _).add ((Cong.mod p _).trans (Cong.of_eq (Int.mul_comm _ _))))
theorem solveOf_some {p : Int} {c : Nat} {m0 : List (List Int)} {x : List Int} (hp : 2 ≤ p) (h : SolveOf p c m0 (some x)) : Solv p c m0 x ∧ x.length = c ∧ allP p x = true := by
  obtain ⟨m, lead, h1, h2, h3⟩ := h
  exact ⟨(h1.solv x).2 (h3.solv h1.inv h2), h3.1, h3.all h1.inv hp h1.el⟩
theorem solveOf_none {p : Int} {c : Nat} {m0 : List (List Int)} {x : List Int} (hp : 2 ≤ p) (h : SolveOf p c m0 none) : ¬ Solv p c m0 x := fun hx => by
  obtain ⟨m, lead, h1, h2⟩ := h
  exact h2 ((h1.noClash_iff hp).2 ⟨x, hx⟩)

set_option maxHeartbeats 16000000 in
set_option maxRecDepth 100000 in
theorem solveFinds_walk (A : Option Addr) (n c : Nat) (zs : List Int) (w : World) (w0 : IsRow .i64 w A n c zs) :
    Calls Try.prog 6 #[.slice A n c] w fun e w' => e = .returned (.bool true) ∧ Below w.heap.size w w' := by
  obtain ⟨h, hw⟩ := w0.ints
  generalize zs.take n = xs at h hw
  clear w0
  by_cases hn : n ≤ 500
  · have hd : decide (n ≤ 500) = true := by simpa using hn
    go_enter Try.func6, Try.ntmps6
    go_upto_region 7 with (first
      | (go_at_call 9; refine (sane06_any _).mono ?_; rintro e w1 ⟨rfl, hb1⟩)
      | (go_at_call 10; refine (few_any A n c _).mono ?_; rintro e w' ⟨rfl, rfl⟩)
      | (go_at_call 11; refine (new_any A n c xs _ (h.upto hb1) hn).mono ?_; rintro e w2 ⟨⟨g, rfl, hge, hD2⟩, hb2⟩
         have hbb2 := bnext hb1 hb2
         have hg : w.heap.size ≤ g := by rw [hge]; exact hb1.size
         clear hge hb1 hb2)
      | (go_at_call 12; refine (equ_any g A n c xs _ _ hD2).mono ?_; rintro e w3 ⟨p, r, k, nc, C, cc, D, cd, cells, right, q3, rfl, hkn, hr4, hk5, hok, hnc, hoC, hoD, hD3, hS3⟩
         have hp := okP_pos hok.ok
         have HC := Lib.hid hok
         have HNC := Lib.hid hnc
         have hg2 := hD2.1.lt
         have hBx := Blk.new w3 30 (eqC p r k C nc cc D r cd)
         have hbb3 := ballocs (Step.below hbb2 hS3 hbb2.size hg) (.cells (eqC p r k C nc cc D r cd) 30)
         have hD3' := hD3.alloc (.cells (eqC p r k C nc cc D r cd) 30)
         have HOC := Lib.hid ((hoC.base (Nat.succ_le_of_lt hg2)).alloc (.cells (eqC p r k C nc cc D r cd) 30))
         have HOD := Lib.hid ((hoD.base (Nat.succ_le_of_lt hg2)).alloc (.cells (eqC p r k C nc cc D r cd) 30))
         have hgB := hD3.1.lt
         clear hok hkn hnc hoC hoD hD2 hD3 hS3 hbb2))
    obtain ⟨B4, hB4⟩ : ∃ b, w3.heap.size = b := ⟨_, rfl⟩
    obtain ⟨W, hW⟩ : ∃ W, w3.alloc (.cells (eqC p r k C nc cc D r cd) 30) = W := ⟨_, rfl⟩
    rw [hW] at hBx hbb3 hD3' HOC HOD ⊢
    rw [hB4] at hBx hgB ⊢
    clear hW hB4
    have hx0 : W.cell? ⟨B4, 0, none⟩ = some (.int .i64 p) := (hBx.cell 0).trans rfl
    have hx1 : W.cell? ⟨B4, 1, none⟩ = some (.int .i64 r) := (hBx.cell 1).trans rfl
    have hx2 : W.cell? ⟨B4, 2, none⟩ = some (.int .i64 k) := (hBx.cell 2).trans rfl
    have hx3 : W.cell? ⟨B4, 3, none⟩ = some (.slice C nc cc) := (hBx.cell 3).trans rfl
    have hx4 : W.cell? ⟨B4, 4, none⟩ = some (.slice D r cd) := (hBx.cell 4).trans rfl
    go_upto_region 11 with (first
      | (go_at_call 14; refine (elements_any g A n c xs _ p k _ hD3' hp (by omega)).mono ?_; rintro e w4 ⟨X, xc, ys, q4, rfl, hX4, hA4, hD4, hS4⟩
         have hB4 := Step.block hS4 hBx (by omega)
         have hbb4 := Step.below hbb3 hS4 hbb3.size hg
         have HOC4 := Lib.hid (HOC.out.step hS4 (Nat.lt_succ_self _))
         have HOD4 := Lib.hid (HOD.out.step hS4 (Nat.lt_succ_self _))
         have HE4 : Hid (EqW w4 p r k nc C cc D cd cells right) := Lib.hid ⟨HC.out, HNC.out, HOC4.out.ints, HOD4.out.ints, HOC4.out.cap_⟩
         have HA4 := Lib.hid hA4
         have HL4 := Lib.hid hX4.len
         have hy0 : w4.cell? ⟨B4, 0, none⟩ = some (.int .i64 p) := (hB4.cell 0).trans rfl
         have hy1 : w4.cell? ⟨B4, 1, none⟩ = some (.int .i64 r) := (hB4.cell 1).trans rfl
         have hy2 : w4.cell? ⟨B4, 2, none⟩ = some (.int .i64 k) := (hB4.cell 2).trans rfl
         have hy3 : w4.cell? ⟨B4, 3, none⟩ = some (.slice C nc cc) := (hB4.cell 3).trans rfl
         have hy4 : w4.cell? ⟨B4, 4, none⟩ = some (.slice D r cd) := (hB4.cell 4).trans rfl
         clear hA4 hS4 hx0 hx1 hx2 hx3 hx4)
      | (go_at_call 22; refine (solves_ok HE4.out hX4.ints (by omega)).mono ?_; rintro e w5 ⟨b, er, rfl, her, hbi, hb5⟩
         obtain rfl : er = 0 := by rw [her]; unfold solvesE; rw [if_pos HL4.out, if_pos HA4.out]
         have HSO : Hid (b = true → Solv p k (augM r k cells right) ys) := Lib.hid fun e => (solvesB_iff HC.out HL4.out).1 (hbi.1 e).2
         have hB5 := hB4.below hb5 hB4.lt
         have hbb5 := bnext hbb4 hb5
         have HE5 := Lib.hid (HE4.out.upto hb5)
         have hD5 := hD4.belowAll hb5
         have hs5 : B4 < w5.heap.size := hB5.lt
         have HOC5 := Lib.hid (HOC4.out.belowAll hb5)
         have HOD5 := Lib.hid (HOD4.out.belowAll hb5)
         have hz0 : w5.cell? ⟨B4, 0, none⟩ = some (.int .i64 p) := (hB5.cell 0).trans rfl
         have hz1 : w5.cell? ⟨B4, 1, none⟩ = some (.int .i64 r) := (hB5.cell 1).trans rfl
         have hz2 : w5.cell? ⟨B4, 2, none⟩ = some (.int .i64 k) := (hB5.cell 2).trans rfl
         have hz3 : w5.cell? ⟨B4, 3, none⟩ = some (.slice C nc cc) := (hB5.cell 3).trans rfl
         have hz4 : w5.cell? ⟨B4, 4, none⟩ = some (.slice D r cd) := (hB5.cell 4).trans rfl
         clear her hbi hb5 hy0 hy1 hy2 hy3 hy4)
      | (go_at_call 15; refine (solve_ok HE5.out).mono ?_; rintro e w6 ⟨hP, hb6⟩
         obtain ⟨A6, n6, c6, er6, rfl, hP6⟩ : ∃ A6 n6 c6 er6, e = .returned (.tuple #[.slice A6 n6 c6, .int .i64 er6]) ∧ ((er6 = 6 ∧ SolveOf p k (augM r k cells right) none) ∨ (er6 = 0 ∧ n6 = k ∧ ∃ x, SolveOf p k (augM r k cells right) (some x) ∧ OwnI w6 w5.heap.size 3 A6 k c6 x)) := by
           rcases hP with ⟨h0, h1⟩ | ⟨g6, x, h0, h1, h2⟩
           · exact ⟨_, _, _, _, h1, .inl ⟨rfl, h0⟩⟩
           · exact ⟨_, _, _, _, h1, .inr ⟨rfl, rfl, x, h0, h2⟩⟩
         have HP6 := Lib.hid hP6
         have hB6 := hB5.below hb6 hB5.lt
         have hbb6 := bnext hbb5 hb6
         have HE6 := Lib.hid (HE5.out.upto hb6)
         have hD6 := hD5.belowAll hb6
         have hs6 := hb6.size
         have HOC6 := Lib.hid (HOC5.out.belowAll hb6)
         have HOD6 := Lib.hid (HOD5.out.belowAll hb6)
         have hv0 : w6.cell? ⟨B4, 0, none⟩ = some (.int .i64 p) := (hB6.cell 0).trans rfl
         have hv1 : w6.cell? ⟨B4, 1, none⟩ = some (.int .i64 r) := (hB6.cell 1).trans rfl
         have hv2 : w6.cell? ⟨B4, 2, none⟩ = some (.int .i64 k) := (hB6.cell 2).trans rfl
         have hv3 : w6.cell? ⟨B4, 3, none⟩ = some (.slice C nc cc) := (hB6.cell 3).trans rfl
         have hv4 : w6.cell? ⟨B4, 4, none⟩ = some (.slice D r cd) := (hB6.cell 4).trans rfl
         clear hP hP6 hz0 hz1 hz2 hz3 hz4)
      | (go_at_call 23; refine (kern_ok HE6.out).mono ?_; rintro e w7 ⟨K, nk, kc, ks, rfl, hM7, hK7, hnk, hb7⟩
         have HK7 := Lib.hid hK7
         have hB7 := hB6.below hb7 hB6.lt
         have hbb7 := bnext hbb6 hb7
         have hD7 := hD6.belowAll hb7
         have HOC7 := Lib.hid (HOC6.out.belowAll hb7)
         have HOD7 := Lib.hid (HOD6.out.belowAll hb7)
         have hs7 := hb7.size
         have HB7 := Lib.hid hb7
         have HM7 := Lib.hid hM7
         clear hK7 hb7 hM7 hv0 hv1 hv2 hv3 hv4))
    rcases HP6.out with ⟨rfl, h0⟩ | ⟨rfl, rfl, x, h0, h2⟩
    · rcases b with _ | _
      · go_wp2
        go_ret
        exact ⟨rfl, hbb7⟩
      · exact absurd (HSO.out rfl) (solveOf_none hp.1 h0)
    · have hsx := solveOf_some hp.1 h0
      have hx7 := h2.belowAll HB7.out
      have hx7b : OwnI w7 (B4 + 1) 3 A6 n6 c6 x := hx7.base (by omega)
      have HM7b : Hid (OwnM w7 (B4 + 1) (B4 + 1) 22 K nk kc ks) := Lib.hid (HM7.out.weaken (by omega) (by omega))
      have hkl := HM7.out.len
      have HKL := Lib.hid hkl
      clear hkl h0 h2 hx7 HP6 HB7 HM7
      go_cut [69] (fun s wx => s = .bool false ∧ wx = w7)
      case first =>
        rcases b with _ | _
        all_goals go_wp2_with fail
        all_goals go_meet
        all_goals exact ⟨rfl, rfl⟩
      case rest =>
      obtain ⟨rfl, rfl⟩ := hcut
      go_wp2_with fail
      have hsW : B4 + 1 ≤ wc.heap.size := hB7.lt
      go_loopw [8, 74] (fun s i wx => ∃ (j : Nat) (Ay : Option Addr) (ca q : Nat) (y : List Int), j ≤ nk ∧ i = .int .i64 j ∧ s = .slice Ay n6 ca ∧ Hid (OwnI wx (B4 + 1) 3 Ay n6 ca y) ∧ Hid (Solv p n6 (augM r n6 cells right) y ∧ y.length = n6 ∧ allP p y = true) ∧ Blk wx B4 30 (eqC p r n6 C nc cc D r cd) ∧ Hid (OwnM wx (B4 + 1) (B4 + 1) 22 K nk kc ks) ∧ Hid (OwnI wx (g + 1) 3 C nc cc cells ∧ OwnI wx (g + 1) 3 D r cd right) ∧ Deck wx g A n c xs q ∧ Below w.heap.size w wx) (fun _ i _ => nk - (intOf i).toNat)
      case atStart => exact ⟨0, A6, c6, _, x, Nat.zero_le _, rfl, rfl, Lib.hid hx7b, Lib.hid hsx, hB7, HM7b, Lib.hid ⟨HOC7.out, HOD7.out⟩, hD7, hbb7⟩
      case round =>
        obtain ⟨j, A9, ca, q, y, hj, rfl, rfl, HY, HS, hB, HM, HCD, hD, hb⟩ := hrel
        have hl0 : wr.cell? ⟨B4, 0, none⟩ = some (.int .i64 p) := (hB.cell 0).trans rfl
        have hl1 : wr.cell? ⟨B4, 1, none⟩ = some (.int .i64 r) := (hB.cell 1).trans rfl
        have hl2 : wr.cell? ⟨B4, 2, none⟩ = some (.int .i64 n6) := (hB.cell 2).trans rfl
        have hl3 : wr.cell? ⟨B4, 3, none⟩ = some (.slice C nc cc) := (hB.cell 3).trans rfl
        have hl4 : wr.cell? ⟨B4, 4, none⟩ = some (.slice D r cd) := (hB.cell 4).trans rfl
        by_cases hlt : j < nk
        · obtain ⟨bM, oM, AM, nM, cM, hKM, _, hbM, hcM, hnM, hIM, hLO⟩ := (HM.out.mat (Nat.le_refl _)).at_ hlt
          subst hKM
          have hkr := kern_row hp.1 HK7.out (j := j) (by rw [HKL.out]; exact hlt)
          have hIL := hIM.len
          rw [hkr.1] at hIL
          obtain rfl : nM = n6 := hIL.symm
          have HKR := Lib.hid hkr
          have HIM := Lib.hid hIM
          have HLO := Lib.hid hLO
          have hl0d : wr.drew.cell? ⟨B4, 0, none⟩ = some (.int .i64 p) := hl0
          have hDd := hD.drew
          have h1 : (j : Int) < (nk : Int) := by omega
          have h0 : (0 : Int) ≤ (j : Int) := by omega
          clear hkr hIM hIL hLO
          obtain ⟨kr, hkre⟩ : ∃ l, ks.getD j [] = l := ⟨_, rfl⟩
          rw [hkre] at HKR HIM
          clear hkre
          go_wp2_with fail
          go_region_held3 (fun w' => w'.cell? ⟨B4, 0, none⟩ = some (.int .i64 p)) (first | with_reducible exact hl0 | with_reducible exact hl0d | with_reducible exact hq0 | with_reducible exact hq1) (first
            | (go_at_call 13; (with_reducible refine (next_any g A n c xs q p _ hDd (by omega)).mono ?_); rintro e w8 ⟨t8, q8, rfl, ht8, _, hD8, hS8, _⟩; have hS8 := Step.undrew hS8; have ht := ht8 (by omega); have hB8 := Step.block hS8 hB (by omega); have hbb8 := Step.below hb hS8 hb.size hg; have hq0 : w8.cell? ⟨B4, 0, none⟩ = some (.int .i64 p) := (hB8.cell 0).trans rfl; have HY8 := Lib.hid (HY.out.step hS8 (by omega)); have HM8 := Lib.hid (HM.out.step hS8 (by omega) (by omega)); have HCD8 := Lib.hid (And.intro (HCD.out.1.step hS8 (Nat.lt_succ_self _)) (HCD.out.2.step hS8 (Nat.lt_succ_self _))); have hIM8 : Ints w8 w8.heap.size AM nM kr := Ints.keepBlk HIM.out (World.grownBy.size hS8) (fun h0 b off s e hb => World.grownBy.block hS8 b hb (fun e2 => by injection e2 with e2; have := HLO.out h0 b off s e; omega)); clear ht8 hS8)
            | (go_at_call 24; refine (rscale_ok p t8 AM nM cM kr _ HC.out.ok hIM8 HKR.out.2.1 ht (by omega)).mono ?_; rintro e w9 ⟨⟨A10, c10, rfl, hZ9⟩, hb9⟩; have hB9 := hB8.below hb9 hB8.lt; have hbb9 := bnext hbb8 hb9; have hq1 : w9.cell? ⟨B4, 0, none⟩ = some (.int .i64 p) := (hB9.cell 0).trans rfl; have HY9 := Lib.hid (HY8.out.belowAll hb9); have HM9 := Lib.hid (HM8.out.belowAll hb9); have HCD9 := Lib.hid (And.intro (HCD8.out.1.belowAll hb9) (HCD8.out.2.belowAll hb9)); have hD9 := hD8.belowAll hb9; have hs9 : B4 + 1 ≤ w8.heap.size := hB8.lt; clear hb9))
          have hu0 := hq1
          have hu2 : w9.cell? ⟨B4, 2, none⟩ = some (.int .i64 nM) := (hB9.cell 2).trans rfl
          have HZ9 := Lib.hid (hZ9.ints)
          have HSL : Hid ((scaleP p t8 kr).length = nM) := Lib.hid (by unfold scaleP; rw [List.length_map]; exact HKR.out.1)
          have HSA : Hid (allP p (scaleP p t8 kr) = true) := Lib.hid (scaleP_all_ hp.1 _ _)
          go_wp2_with (first
            | (go_at_call 21; refine (radd_ok p A9 A10 nM ca c10 y (scaleP p t8 kr) _ HC.out.ok HY9.out.ints HZ9.out HS.out.2.2 HSA.out (by omega)).mono ?_; rintro e w10 ⟨⟨A11, c11, rfl, hN10⟩, hb10⟩
               have hB10 := hB9.below hb10 hB9.lt
               have hbb10 := bnext hbb9 hb10
               have hD10 := hD9.belowAll hb10
               have HM10 := Lib.hid (HM9.out.belowAll hb10)
               have HCD10 := Lib.hid (And.intro (HCD9.out.1.belowAll hb10) (HCD9.out.2.belowAll hb10))
               have hs10 : B4 + 1 ≤ w9.heap.size := hB9.lt
               have hu10 : w10.cell? ⟨B4, 2, none⟩ = some (.int .i64 nM) := (hB10.cell 2).trans rfl
               have HN10 : Hid (OwnI w10 (B4 + 1) 3 A11 nM c11 (zipI (addP p) y (scaleP p t8 kr))) := Lib.hid (hN10.base hs10)
               clear hb10 hN10))
          go_roundw
          case rel => exact ⟨j + 1, A11, c11, q8, zipI (addP p) y (scaleP p t8 kr), by omega, by go_num, rfl, HN10, Lib.hid ⟨HKR.out.2.2 t8 y _ HS.out.1 (fun i hi => sum_scaled t8 HS.out.2.1 HKR.out.1 i hi), zipI_len2 _ _ _ HS.out.2.1 HSL.out, zipI_add_all_ hp.1 _ _⟩, hB10, HM10, HCD10, hD10, hbb10⟩
          case measure => simp [intOf]; omega
        · obtain rfl : j = nk := by omega
          have HE9 : Hid (EqW wr p r n6 nc C cc D cd cells right) := Lib.hid ⟨HC.out, HNC.out, HCD.out.1.ints, HCD.out.2.ints, HCD.out.1.cap_⟩
          go_wp2_with (first
            | (go_at_call 22; refine (solves_ok HE9.out HY.out.ints (by omega)).mono ?_; rintro e w11 ⟨b, er, rfl, her, hbi, hb11⟩
               obtain rfl : er = 0 := by rw [her]; unfold solvesE; rw [if_pos HS.out.2.1, if_pos HS.out.2.2]
               obtain rfl : b = true := hbi.2 ⟨rfl, (solvesB_iff HC.out HS.out.2.1).2 HS.out.1⟩
               have hbb11 := bnext hb hb11
               clear her hbi hb11))
          go_ret
          exact ⟨rfl, hbb11⟩
  · have hd : decide (n ≤ 500) = false := by simpa using hn
    go_enter Try.func6, Try.ntmps6
    go_wp2_with (first
      | (go_at_call 9; refine (sane06_any _).mono ?_; rintro e w1 ⟨rfl, hb1⟩)
      | (go_at_call 10; refine (few_any A n c _).mono ?_; rintro e w' ⟨rfl, rfl⟩))
    go_ret
    exact ⟨rfl, hb1⟩
end Go.Proofs.Yteipcjmkhacdgaa
