/-
  SolveDoes returns true: the walk of the law. Conditions: none beyond the reading of its arguments.
-/
import Derived.Test.YtoblofilaegnaaaGRAux
import Derived.Test.YtoblofilaegnaaaGEx
import Derived.Test.YtoblofilaegnaaaEqu
import Derived.Test.YtoblofilaegnaaaFld
import Derived.Test.YtoblofilaegnaaaOff
import Derived.Test.YtoblofilaegnaaaSameR
import Derived.Lib.QuietBelow
namespace Go.Proofs.Ytoblofilaegnaaa
open Go.RowKit
set_option linter.unusedVariables false

theorem OwnI.capE {w : World} {base n c : Nat} {e : TypeId} {A : Option Addr} {xs : List Int} (h : OwnI w base e A n c xs) : n ≤ c := by
  rcases h.2 with ⟨hv, _⟩ | ⟨_, _, _, hv, _, _, hnc, _⟩
  · injection hv with _ h1 h2
    omega
  · injection hv with _ h1 h2
    omega
/-- Two of a kind. -/
theorem two_ofE {P : Nat → Prop} (h0 : P 0) (h1 : P 1) : ∀ i, i < 2 → P i := by
  intro i hi
  have : i = 0 ∨ i = 1 := by omega
  rcases this with rfl | rfl
  · exact h0
  · exact h1
/-- Three of a kind. -/
theorem three_ofE {P : Nat → Prop} (h0 : P 0) (h1 : P 1) (h2 : P 2) : ∀ i, i < 3 → P i := by
  intro i hi
  have : i = 0 ∨ i = 1 ∨ i = 2 := by omega
  rcases this with rfl | rfl | rfl
  · exact h0
  · exact h1
  · exact h2

set_option maxHeartbeats 16000000 in
set_option maxRecDepth 100000 in
theorem solveDoes_walk (T : Option Addr) (n c : Nat) (xs : List Int) (p0 R0 K0 : Int) (C0 : Option Addr) (nc0 cc0 : Nat) (D0 : Option Addr) (nd0 cd0 : Nat) (zc zr : List Int) (X : Option Addr) (lx cx : Nat) (xx : List Int) (w : World)
    (h : Ints w w.heap.size T n xs) (hp0 : -9223372036854775808 ≤ p0 ∧ p0 ≤ 9223372036854775807) (hR0 : -9223372036854775808 ≤ R0 ∧ R0 ≤ 9223372036854775807) (hK0 : -9223372036854775808 ≤ K0 ∧ K0 ≤ 9223372036854775807)
    (hC0 : Ints w w.heap.size C0 nc0 zc) (hD0 : Ints w w.heap.size D0 nd0 zr) (hnc0 : nc0 ≤ 17592186043904) (hnd0 : nd0 ≤ 17592186043904) (hcc0 : nc0 ≤ cc0) (hX : Ints w w.heap.size X lx xx) (hlx : lx ≤ 17592186043904) :
    Calls Try.prog 11 #[.slice T n c, eqRV p0 R0 K0 C0 nc0 cc0 D0 nd0 cd0, .slice X lx cx] w fun e w' => e = .returned (.bool true) ∧ Below w.heap.size w w' := by
  have hb0 : Below w.heap.size w (w.alloc (.cells (eqRC p0 R0 K0 C0 nc0 cc0 D0 nd0 cd0) 106)) := bbox _
  have hB0 := Blk.new w 106 (eqRC p0 R0 K0 C0 nc0 cc0 D0 nd0 cd0)
  by_cases hn : n ≤ 500
  · have hd : decide (n ≤ 500) = true := by simpa using hn
    by_cases hab : nc0 + nd0 ≤ 1100
    · have hab1 : ¬ (1100 : Int) < (nc0 : Int) + (nd0 : Int) := by omega
      have habw : IntKind.i64.wrap ((nc0 : Int) + (nd0 : Int)) = (nc0 : Int) + (nd0 : Int) := IntWalk.i64_in _ (by omega)
      by_cases hxx : lx ≤ 100
      · have hxx1 : ¬ (100 : Int) < (lx : Int) := by omega
        have hE0 : EqR w p0 R0 K0 C0 nc0 cc0 D0 nd0 cd0 zc zr := ⟨hp0, hR0, hK0, hC0, hD0, hcc0, hab⟩
        go_enter Try.func11, Try.ntmps11
        go_wp2_with (first
          | (go_at_call 93; refine (sane06_any _).mono ?_; rintro e w1 ⟨rfl, hb1⟩
             have hbb1 := bnext hb0 hb1
             have hB1 := hB0.below hb1 (by simp)
             have hs3 : w1.cell? ⟨w.heap.size, 3, none⟩ = some (.slice C0 nc0 cc0) := (hB1.cell 3).trans rfl
             have hs4 : w1.cell? ⟨w.heap.size, 4, none⟩ = some (.slice D0 nd0 cd0) := (hB1.cell 4).trans rfl
             clear hb0 hB0 hb1)
          | (go_at_call 16; refine (few_any T n c _).mono ?_; rintro e w' ⟨rfl, rfl⟩)
          | (go_at_call 18; refine (new_any T n c xs _ (h.upto hbb1) hn).mono ?_; rintro e w2 ⟨⟨g, rfl, hge, hD2⟩, hb2⟩
             have hbb2 := bnext hbb1 hb2
             have hB2 := hB1.below hb2 hB1.lt
             have hg : w.heap.size < g := by rw [hge]; exact hB1.lt
             clear hge hbb1 hB1 hb2 hs3 hs4)
          | (go_at_call 94; refine (equ_any g T n c xs _ _ hD2).mono ?_; rintro e w3 ⟨p, r, k, nc, C, cc, D, cd, cells, right, q3, rfl, hkn, hr4, hk5, hok, hnc, hoC, hoD, hD3, hS3⟩
             have hp := okP_pos hok.ok
             have hg2 := hD2.1.lt
             have HOK := Lib.hid hok
             have HNC := Lib.hid hnc
             have hbb3 := ballocs (Step.below hbb2 hS3 hbb2.size (by omega)) (.cells (eqC p r k C nc cc D r cd) 106)
             have hB3 := (Step.block hS3 hB2 (by omega)).alloc (.cells (eqC p r k C nc cc D r cd) 106)
             have hF3 := Blk.new w3 106 (eqC p r k C nc cc D r cd)
             have hD3' := hD3.alloc (.cells (eqC p r k C nc cc D r cd) 106)
             have hgf : g < w3.heap.size := hD3.1.lt
             have hCO := (IntsO.of_own hoC hg2).alloc (.cells (eqC p r k C nc cc D r cd) 106)
             have hDO := (IntsO.of_own hoD hg2).alloc (.cells (eqC p r k C nc cc D r cd) 106)
             have HCC := Lib.hid hoC.capE
             have ht0 : (w3.alloc (.cells (eqC p r k C nc cc D r cd) 106)).cell? ⟨w3.heap.size, 0, none⟩ = some (.int .i64 p) := (hF3.cell 0).trans rfl
             have ht2 : (w3.alloc (.cells (eqC p r k C nc cc D r cd) 106)).cell? ⟨w3.heap.size, 2, none⟩ = some (.int .i64 k) := (hF3.cell 2).trans rfl
             clear hkn hD3 hS3 hB2 hbb2 hoC hoD hok hnc)
          | (go_at_call 22; refine (elements_any g T n c xs q3 p k _ hD3' hp (by omega)).mono ?_; rintro e w4 ⟨B2, d2, yo, q4, rfl, hown4, hYO, hD4, hS4⟩
             have hbb4 := Step.below hbb3 hS4 hbb3.size (by omega)
             have hB4 := Step.block hS4 hB3 (by omega)
             have hF4 := Step.block hS4 hF3 (by omega)
             have hCI := (hCO.step hS4).ints
             have hDI := (hDO.step hS4).ints
             have hYI := hown4.ints
             have hf0 : w4.cell? ⟨w3.heap.size, 0, none⟩ = some (.int .i64 p) := (hF4.cell 0).trans rfl
             have hf1 : w4.cell? ⟨w3.heap.size, 1, none⟩ = some (.int .i64 r) := (hF4.cell 1).trans rfl
             have hf2 : w4.cell? ⟨w3.heap.size, 2, none⟩ = some (.int .i64 k) := (hF4.cell 2).trans rfl
             have hf3 : w4.cell? ⟨w3.heap.size, 3, none⟩ = some (.slice C nc cc) := (hF4.cell 3).trans rfl
             have hf4 : w4.cell? ⟨w3.heap.size, 4, none⟩ = some (.slice D r cd) := (hF4.cell 4).trans rfl
             have hr0 : w4.cell? ⟨w.heap.size, 0, none⟩ = some (.int .i64 p0) := (hB4.cell 0).trans rfl
             have hr1 : w4.cell? ⟨w.heap.size, 1, none⟩ = some (.int .i64 R0) := (hB4.cell 1).trans rfl
             have hr2 : w4.cell? ⟨w.heap.size, 2, none⟩ = some (.int .i64 K0) := (hB4.cell 2).trans rfl
             have hr3 : w4.cell? ⟨w.heap.size, 3, none⟩ = some (.slice C0 nc0 cc0) := (hB4.cell 3).trans rfl
             have hr4 : w4.cell? ⟨w.heap.size, 4, none⟩ = some (.slice D0 nd0 cd0) := (hB4.cell 4).trans rfl
             clear hS4 hF3 hB3 hbb3 hD3' hCO hDO hown4 hYO hD4 ht0 ht2))
        clear hf0 hf1 hf2 hf3 hf4 hr0 hr1 hr2 hr3 hr4
        have hbW := ballocs hbb4 (.cells #[.int .i64 p0, .int .i64 R0, .int .i64 K0, .slice C0 nc0 cc0, .slice D0 nd0 cd0, .int .i64 p, .int .i64 r, .int .i64 k, .slice C nc cc, .slice D r cd] 106)
        have hb4W : Below w4.heap.size w4 (w4.alloc (.cells #[.int .i64 p0, .int .i64 R0, .int .i64 K0, .slice C0 nc0 cc0, .slice D0 nd0 cd0, .int .i64 p, .int .i64 r, .int .i64 k, .slice C nc cc, .slice D r cd] 106)) := bbox _
        have hN := Blk.new w4 106 #[.int .i64 p0, .int .i64 R0, .int .i64 K0, .slice C0 nc0 cc0, .slice D0 nd0 cd0, .int .i64 p, .int .i64 r, .int .i64 k, .slice C nc cc, .slice D r cd]
        have hEW := hE0.upto hbW
        have hOW : EqW (w4.alloc (.cells #[.int .i64 p0, .int .i64 R0, .int .i64 K0, .slice C0 nc0 cc0, .slice D0 nd0 cd0, .int .i64 p, .int .i64 r, .int .i64 k, .slice C nc cc, .slice D r cd] 106)) p r k nc C cc D cd cells right := ⟨HOK.out, HNC.out, hCI.upto hb4W, hDI.upto hb4W, HCC.out⟩
        have hYW := hYI.upto hb4W
        have hXW := hX.upto hbW
        obtain ⟨gN, hgNe⟩ : ∃ gN, w4.heap.size = gN := ⟨_, rfl⟩
        obtain ⟨W, hW⟩ : ∃ W, w4.alloc (.cells #[.int .i64 p0, .int .i64 R0, .int .i64 K0, .slice C0 nc0 cc0, .slice D0 nd0 cd0, .int .i64 p, .int .i64 r, .int .i64 k, .slice C nc cc, .slice D r cd] 106) = W := ⟨_, rfl⟩
        rw [hW] at hbW hN hEW hOW hYW hXW
        rw [hgNe] at hN
        have hNl := hN.lt
        have hkl : k ≤ 17592186043904 := by omega
        have EQS := Lib.hid (two_ofE (P := fun j => ∃ (p R K : Int) (C : Option Addr) (nc cc : Nat) (D : Option Addr) (nd cd : Nat) (cells right : List Int), W.cell? ⟨gN, j * 5, none⟩ = some (.int .i64 p) ∧ W.cell? ⟨gN, j * 5 + 1, none⟩ = some (.int .i64 R) ∧ W.cell? ⟨gN, j * 5 + 2, none⟩ = some (.int .i64 K) ∧ W.cell? ⟨gN, j * 5 + 3, none⟩ = some (.slice C nc cc) ∧ W.cell? ⟨gN, j * 5 + 4, none⟩ = some (.slice D nd cd) ∧ EqR W p R K C nc cc D nd cd cells right)
          ⟨p0, R0, K0, C0, nc0, cc0, D0, nd0, cd0, zc, zr, (hN.cell 0).trans rfl, (hN.cell 1).trans rfl, (hN.cell 2).trans rfl, (hN.cell 3).trans rfl, (hN.cell 4).trans rfl, hEW⟩
          ⟨p, r, k, C, nc, cc, D, r, cd, cells, right, (hN.cell 5).trans rfl, (hN.cell 6).trans rfl, (hN.cell 7).trans rfl, (hN.cell 8).trans rfl, (hN.cell 9).trans rfl, hOW.eqR.1⟩)
        rw [hgNe, hW]
        clear hgNe hW hb4W hbb4 hEW hOW hCI hDI hYI hN hgf hB4 hF4 HOK HNC HCC hp hr4 hk5 hE0 hC0 hD0 hX h hD2 hg hg2 hd hn hab hab1 habw hxx1 hp0 hR0 hK0 hcc0 hnc0 hnd0
        go_loopw [68] (fun i wr => ∃ j : Nat, j ≤ 2 ∧ i = .int .i64 j ∧ Below W.heap.size W wr) (fun i _ => 2 - (intOf i).toNat)
        case atStart => exact ⟨0, by omega, rfl, Below.refl _ _⟩
        case round =>
          obtain ⟨j, hj2, rfl, hS⟩ := hrel
          by_cases hj : j < 2
          · obtain ⟨p, R, K, C, nc, cc, D, nd, cd, cells, right, e0, e1, e2, e3, e4, hEq⟩ := EQS.out j hj
            have hjl : (j : Int) < 2 := by omega
            have hj0 : (0 : Int) ≤ (j : Int) := by omega
            have hv0 := (hS.cell (p := ⟨gN, j * 5, none⟩) hNl).trans e0
            have hv1 := (hS.cell (p := ⟨gN, j * 5 + 1, none⟩) hNl).trans e1
            have hv2 := (hS.cell (p := ⟨gN, j * 5 + 2, none⟩) hNl).trans e2
            have hv3 := (hS.cell (p := ⟨gN, j * 5 + 3, none⟩) hNl).trans e3
            have hv4 := (hS.cell (p := ⟨gN, j * 5 + 4, none⟩) hNl).trans e4
            obtain ⟨gX, hgX⟩ : ∃ gX, wr.heap.size = gX := ⟨_, rfl⟩
            have hS4 := ballocs hS (.cells (eqRC p R K C nc cc D nd cd) 106)
            have hX4 := Blk.new wr 106 (eqRC p R K C nc cc D nd cd)
            obtain ⟨eq, HEQ⟩ : ∃ eq, Hid (errQ p R K cells right = eq) := ⟨_, Lib.hid rfl⟩
            obtain ⟨W4, hW4⟩ : ∃ W4, wr.alloc (.cells (eqRC p R K C nc cc D nd cd) 106) = W4 := ⟨_, rfl⟩
            have hW4' : wr.alloc (.cells #[.int .i64 p, .int .i64 R, .int .i64 K, .slice C nc cc, .slice D nd cd] 106) = W4 := hW4
            rw [hW4] at hS4 hX4
            rw [hgX] at hX4
            have HE4 := Lib.hid (hEq.upto hS4)
            have ha0 : W4.cell? ⟨gX, 0, none⟩ = some (.int .i64 p) := ((hX4).cell 0).trans rfl
            have ha1 : W4.cell? ⟨gX, 1, none⟩ = some (.int .i64 R) := ((hX4).cell 1).trans rfl
            have ha2 : W4.cell? ⟨gX, 2, none⟩ = some (.int .i64 K) := ((hX4).cell 2).trans rfl
            have ha3 : W4.cell? ⟨gX, 3, none⟩ = some (.slice C nc cc) := ((hX4).cell 3).trans rfl
            have ha4 : W4.cell? ⟨gX, 4, none⟩ = some (.slice D nd cd) := ((hX4).cell 4).trans rfl
            clear hW4 e0 e1 e2 e3 e4 hS
            go_wp2_with (first
              | (go_at_call 95; refine (srank_all HE4.out).mono ?_; rintro e W5 ⟨va, fa, rfl, hr, hb⟩
                 have HR0 := Lib.hid hr
                 have hS5 := bnext hS4 hb
                 have hX5 := hX4.below hb hX4.lt
                 have HE5 := Lib.hid (HE4.out.upto hb)
                 have ha0 : W5.cell? ⟨gX, 0, none⟩ = some (.int .i64 p) := ((hX5).cell 0).trans rfl
                 have ha1 : W5.cell? ⟨gX, 1, none⟩ = some (.int .i64 R) := ((hX5).cell 1).trans rfl
                 have ha2 : W5.cell? ⟨gX, 2, none⟩ = some (.int .i64 K) := ((hX5).cell 2).trans rfl
                 have ha3 : W5.cell? ⟨gX, 3, none⟩ = some (.slice C nc cc) := ((hX5).cell 3).trans rfl
                 have ha4 : W5.cell? ⟨gX, 4, none⟩ = some (.slice D nd cd) := ((hX5).cell 4).trans rfl
                 clear hb hr HE4 hX4 hS4)
              | (go_at_call 96; refine (rrank_all HE5.out).mono ?_; rintro e W6 ⟨vb, fb, rfl, hr2, hb⟩
                 obtain ⟨rfl, rfl⟩ := RankR.one HR0.out hr2
                 have hS6 := bnext hS5 hb
                 have hX6 := hX5.below hb hX5.lt
                 have HE6 := Lib.hid (HE5.out.upto hb)
                 have ha0 : W6.cell? ⟨gX, 0, none⟩ = some (.int .i64 p) := ((hX6).cell 0).trans rfl
                 have ha1 : W6.cell? ⟨gX, 1, none⟩ = some (.int .i64 R) := ((hX6).cell 1).trans rfl
                 have ha2 : W6.cell? ⟨gX, 2, none⟩ = some (.int .i64 K) := ((hX6).cell 2).trans rfl
                 have ha3 : W6.cell? ⟨gX, 3, none⟩ = some (.slice C nc cc) := ((hX6).cell 3).trans rfl
                 have ha4 : W6.cell? ⟨gX, 4, none⟩ = some (.slice D nd cd) := ((hX6).cell 4).trans rfl
                 clear hb hr2 HR0 HE5 hX5 hS5)
              | (go_at_call 97; refine (ssolve_all HE6.out).mono ?_; rintro e W7 ⟨A1, n1, ca1, s1, f1, rfl, hn1, hI1, hr, hb⟩
                 have HR2 := Lib.hid hr
                 have hS7 := bnext hS6 hb
                 have hX7 := hX6.below hb hX6.lt
                 have HE7 := Lib.hid (HE6.out.upto hb)
                 have ha0 : W7.cell? ⟨gX, 0, none⟩ = some (.int .i64 p) := ((hX7).cell 0).trans rfl
                 have ha1 : W7.cell? ⟨gX, 1, none⟩ = some (.int .i64 R) := ((hX7).cell 1).trans rfl
                 have ha2 : W7.cell? ⟨gX, 2, none⟩ = some (.int .i64 K) := ((hX7).cell 2).trans rfl
                 have ha3 : W7.cell? ⟨gX, 3, none⟩ = some (.slice C nc cc) := ((hX7).cell 3).trans rfl
                 have ha4 : W7.cell? ⟨gX, 4, none⟩ = some (.slice D nd cd) := ((hX7).cell 4).trans rfl
                 have HI17 := Lib.hid hI1; clear hI1
                 clear hb hr HE6 hX6 hS6)
              | (go_at_call 98; refine (rsolve_all HE7.out).mono ?_; rintro e W8 ⟨A2, n2, ca2, s2, f2, rfl, hn2, hI2, hr2, hb⟩
                 obtain ⟨rfl, rfl⟩ := SolveR.one HR2.out hr2
                 have hS8 := bnext hS7 hb
                 have hX8 := hX7.below hb hX7.lt
                 have HE8 := Lib.hid (HE7.out.upto hb)
                 have ha0 : W8.cell? ⟨gX, 0, none⟩ = some (.int .i64 p) := ((hX8).cell 0).trans rfl
                 have ha1 : W8.cell? ⟨gX, 1, none⟩ = some (.int .i64 R) := ((hX8).cell 1).trans rfl
                 have ha2 : W8.cell? ⟨gX, 2, none⟩ = some (.int .i64 K) := ((hX8).cell 2).trans rfl
                 have ha3 : W8.cell? ⟨gX, 3, none⟩ = some (.slice C nc cc) := ((hX8).cell 3).trans rfl
                 have ha4 : W8.cell? ⟨gX, 4, none⟩ = some (.slice D nd cd) := ((hX8).cell 4).trans rfl
                 have HI18 := Lib.hid (HI17.out.upto hb); have HI28 := Lib.hid hI2; clear hI2 HI17
                 clear hb hr2 HR2 HE7 hX7 hS7)
              | (go_at_call 99; refine (skernel_all HE8.out).mono ?_; rintro e W9 ⟨A3, n3, ca3, m3, f3, rfl, hn3, hM3, hr, hb⟩
                 have HR4 := Lib.hid hr
                 have hS9 := bnext hS8 hb
                 have hX9 := hX8.below hb hX8.lt
                 have HE9 := Lib.hid (HE8.out.upto hb)
                 have ha0 : W9.cell? ⟨gX, 0, none⟩ = some (.int .i64 p) := ((hX9).cell 0).trans rfl
                 have ha1 : W9.cell? ⟨gX, 1, none⟩ = some (.int .i64 R) := ((hX9).cell 1).trans rfl
                 have ha2 : W9.cell? ⟨gX, 2, none⟩ = some (.int .i64 K) := ((hX9).cell 2).trans rfl
                 have ha3 : W9.cell? ⟨gX, 3, none⟩ = some (.slice C nc cc) := ((hX9).cell 3).trans rfl
                 have ha4 : W9.cell? ⟨gX, 4, none⟩ = some (.slice D nd cd) := ((hX9).cell 4).trans rfl
                 have HI19 := Lib.hid (HI18.out.upto hb); have HI29 := Lib.hid (HI28.out.upto hb); clear HI18 HI28
                 have HM39 := Lib.hid (hM3.mat (Nat.le_refl _)); clear hM3
                 clear hb hr HE8 hX8 hS8)
              | (go_at_call 100; refine (rkernel_all HE9.out).mono ?_; rintro e W10 ⟨A4, n4, ca4, m4, f4, rfl, hn4, hM4, hr2, hb⟩
                 obtain ⟨rfl, rfl⟩ := KernR.one HR4.out hr2
                 have hS10 := bnext hS9 hb
                 have hX10 := hX9.below hb hX9.lt
                 have HE10 := Lib.hid (HE9.out.upto hb)
                 have ha0 : W10.cell? ⟨gX, 0, none⟩ = some (.int .i64 p) := ((hX10).cell 0).trans rfl
                 have ha1 : W10.cell? ⟨gX, 1, none⟩ = some (.int .i64 R) := ((hX10).cell 1).trans rfl
                 have ha2 : W10.cell? ⟨gX, 2, none⟩ = some (.int .i64 K) := ((hX10).cell 2).trans rfl
                 have ha3 : W10.cell? ⟨gX, 3, none⟩ = some (.slice C nc cc) := ((hX10).cell 3).trans rfl
                 have ha4 : W10.cell? ⟨gX, 4, none⟩ = some (.slice D nd cd) := ((hX10).cell 4).trans rfl
                 have HI110 := Lib.hid (HI19.out.upto hb); have HI210 := Lib.hid (HI29.out.upto hb); clear HI19 HI29
                 have HM310 := Lib.hid (HM39.out.upto hb); have HM410 := Lib.hid (hM4.mat (Nat.le_refl _)); clear hM4 HM39
                 clear hb hr2 HR4 HE9 hX9 hS9)
              | (go_at_call 101; refine (scount_all HE10.out).mono ?_; rintro e W11 ⟨vc, fc, rfl, hr, hb⟩
                 have HR6 := Lib.hid hr
                 have hS11 := bnext hS10 hb
                 have hX11 := hX10.below hb hX10.lt
                 have HE11 := Lib.hid (HE10.out.upto hb)
                 have ha0 : W11.cell? ⟨gX, 0, none⟩ = some (.int .i64 p) := ((hX11).cell 0).trans rfl
                 have ha1 : W11.cell? ⟨gX, 1, none⟩ = some (.int .i64 R) := ((hX11).cell 1).trans rfl
                 have ha2 : W11.cell? ⟨gX, 2, none⟩ = some (.int .i64 K) := ((hX11).cell 2).trans rfl
                 have ha3 : W11.cell? ⟨gX, 3, none⟩ = some (.slice C nc cc) := ((hX11).cell 3).trans rfl
                 have ha4 : W11.cell? ⟨gX, 4, none⟩ = some (.slice D nd cd) := ((hX11).cell 4).trans rfl
                 have HI111 := Lib.hid (HI110.out.upto hb); have HI211 := Lib.hid (HI210.out.upto hb); clear HI110 HI210
                 have HM311 := Lib.hid (HM310.out.upto hb); have HM411 := Lib.hid (HM410.out.upto hb); clear HM310 HM410
                 clear hb hr HE10 hX10 hS10)
              | (go_at_call 102; refine (rcount_all HE11.out).mono ?_; rintro e W12 ⟨ve, fe, rfl, hr2, hb⟩
                 obtain ⟨rfl, rfl⟩ := CountR.one HR6.out hr2
                 have hS12 := bnext hS11 hb
                 have hX12 := hX11.below hb hX11.lt
                 have HE12 := Lib.hid (HE11.out.upto hb)
                 have ha0 : W12.cell? ⟨gX, 0, none⟩ = some (.int .i64 p) := ((hX12).cell 0).trans rfl
                 have ha1 : W12.cell? ⟨gX, 1, none⟩ = some (.int .i64 R) := ((hX12).cell 1).trans rfl
                 have ha2 : W12.cell? ⟨gX, 2, none⟩ = some (.int .i64 K) := ((hX12).cell 2).trans rfl
                 have ha3 : W12.cell? ⟨gX, 3, none⟩ = some (.slice C nc cc) := ((hX12).cell 3).trans rfl
                 have ha4 : W12.cell? ⟨gX, 4, none⟩ = some (.slice D nd cd) := ((hX12).cell 4).trans rfl
                 have HI112 := Lib.hid (HI111.out.upto hb); have HI212 := Lib.hid (HI211.out.upto hb); clear HI111 HI211
                 have HM312 := Lib.hid (HM311.out.upto hb); have HM412 := Lib.hid (HM411.out.upto hb); clear HM311 HM411
                 clear hb hr2 HR6 HE11 hX11 hS11))
            clear ha0 ha1 ha2 ha3 ha4 hW4' hgX hv0 hv1 hv2 hv3 hv4
            have hz0 := cell_regrown (show W12.cell? ⟨gX, 0, none⟩ = some (.int .i64 p) from (hX12.cell 0).trans rfl)
            have hz1 := cell_regrown (show W12.cell? ⟨gX, 1, none⟩ = some (.int .i64 R) from (hX12.cell 1).trans rfl)
            have hz2 := cell_regrown (show W12.cell? ⟨gX, 2, none⟩ = some (.int .i64 K) from (hX12.cell 2).trans rfl)
            have hz3 := cell_regrown (show W12.cell? ⟨gX, 3, none⟩ = some (.slice C nc cc) from (hX12.cell 3).trans rfl)
            have hz4 := cell_regrown (show W12.cell? ⟨gX, 4, none⟩ = some (.slice D nd cd) from (hX12.cell 4).trans rfl)
            have CS := Lib.hid (show ∀ d os, Calls Try.prog 103 #[.agg #[.int .i64 p, .int .i64 R, .int .i64 K, .slice C nc cc, .slice D nd cd]] (Go.Sort.grow (redrawn W12 d) os) fun e' w'' => e' = .returned (.int .i64 eq) ∧ ∃ p : Regrown, w'' = Go.Sort.grow (redrawn W12 p.d) p.os from fun d os => by
              have := scheck_all p R K C nc cc D nd cd cells right _ (HE12.out.upto (below_regrown W12 d os))
              rw [HEQ.out] at this
              exact Calls.regrown_of this)
            have CT := Lib.hid (show ∀ d os, Calls Try.prog 104 #[.agg #[.int .i64 p, .int .i64 R, .int .i64 K, .slice C nc cc, .slice D nd cd]] (Go.Sort.grow (redrawn W12 d) os) fun e' w'' => e' = .returned (.int .i64 eq) ∧ ∃ p : Regrown, w'' = Go.Sort.grow (redrawn W12 p.d) p.os from fun d os => by
              have := rcheck_all p R K C nc cc D nd cd cells right _ (HE12.out.upto (below_regrown W12 d os))
              rw [HEQ.out] at this
              exact Calls.regrown_of this)
            have CU := Lib.hid (show ∀ d os, Calls Try.prog 27 #[.slice A1 n1 ca1, .slice A2 n2 ca2] (Go.Sort.grow (redrawn W12 d) os) fun e' w'' => e' = .returned (.bool true) ∧ ∃ p : Regrown, w'' = Go.Sort.grow (redrawn W12 p.d) p.os from fun d os => by
              have hb := below_regrown W12 d os
              refine Calls.regrown_of ((same_any A1 A2 n1 n2 ca1 ca2 s1 s1 _ (HI112.out.upto hb) (HI212.out.upto hb) (by omega) (by omega)).mono ?_)
              rintro e w' ⟨rfl, q, rfl⟩
              exact ⟨ret_bool (by simp [sameL]), below_drewN (Below.refl _ _) _⟩)
            have CV := Lib.hid (show ∀ d os, Calls Try.prog 84 #[.slice A3 n3 ca3, .slice A4 n4 ca4] (Go.Sort.grow (redrawn W12 d) os) fun e' w'' => e' = .returned (.bool true) ∧ ∃ p : Regrown, w'' = Go.Sort.grow (redrawn W12 p.d) p.os from fun d os => by
              have hb := below_regrown W12 d os
              refine Calls.regrown_of ((sameRows_any A3 A4 n3 n4 ca3 ca4 m3 m3 _ (HM312.out.upto hb) (HM412.out.upto hb) (by omega)).mono ?_)
              rintro e w' ⟨rfl, q, rfl⟩
              exact ⟨ret_bool (by simp), below_drewN (Below.refl _ _) _⟩)
            refine wp_region_quiet_below (by kernel_rfl) (by kernel_rfl) ?_
            repeat (go_big_quiet_step (first | exact CS.out _ _ | exact CT.out _ _ | exact CU.out _ _ | exact CV.out _ _))
            refine wpQuiet_nil ?_
            intro w14 hw14
            have hb14 : Below W12.heap.size W12 w14 := by obtain ⟨p, rfl⟩ := hw14; exact below_regrown W12 p.d p.os
            have hS14 := bnext hS12 hb14
            have hX14 := hX12.below hb14 hX12.lt
            have HE14 := Lib.hid (HE12.out.upto hb14)
            have hI14 := HI212.out.upto hb14
            clear hw14 hb14 CS CT CU CV hz0 hz1 hz2 hz3 hz4 hS12 hX12 HE12 HI112 HI212 HM312 HM412
            go_wp2_with fail
            have hSV := ballocs hS14 (.cells #[.slice X lx cx, .slice B2 k d2, .slice A2 n2 ca2] 22)
            have h14V : Below w14.heap.size w14 (w14.alloc (.cells #[.slice X lx cx, .slice B2 k d2, .slice A2 n2 ca2] 22)) := bbox _
            have hL := Blk.new w14 22 #[.slice X lx cx, .slice B2 k d2, .slice A2 n2 ca2]
            obtain ⟨gL, hgL⟩ : ∃ gL, w14.heap.size = gL := ⟨_, rfl⟩
            have hXV := hX14.below h14V hX14.lt
            have HEV := Lib.hid (HE14.out.upto h14V)
            have hIV := hI14.upto h14V
            obtain ⟨V, hV⟩ : ∃ V, w14.alloc (.cells #[.slice X lx cx, .slice B2 k d2, .slice A2 n2 ca2] 22) = V := ⟨_, rfl⟩
            rw [hV] at hSV hL hXV HEV hIV
            rw [hgL] at hL
            have hLl := hL.lt
            have ZS := Lib.hid (three_ofE (P := fun i => ∃ (Z : Option Addr) (zn zc : Nat) (zs : List Int), V.cell? ⟨gL, i, none⟩ = some (.slice Z zn zc) ∧ Ints V V.heap.size Z zn zs ∧ zn ≤ 17592186043904) ⟨X, lx, cx, xx, (hL.cell 0).trans rfl, hXW.upto hSV, hlx⟩ ⟨B2, k, d2, yo, (hL.cell 1).trans rfl, hYW.upto hSV, hkl⟩ ⟨A2, n2, ca2, s1, (hL.cell 2).trans rfl, hIV, by omega⟩)
            rw [hgL, hV]
            clear hgL hV hS14 hX14 HE14 hI14 h14V hL hIV
            go_loopw [164] (fun i wx => ∃ i3 : Nat, i3 ≤ 3 ∧ i = .int .i64 i3 ∧ Below V.heap.size V wx) (fun i _ => 3 - (intOf i).toNat)
            case atStart => exact ⟨0, by omega, rfl, Below.refl _ _⟩
            case round =>
              rename_i wo _
              obtain ⟨i3, hi3, rfl, hT⟩ := hrel
              by_cases hi3' : i3 < 3
              · obtain ⟨Z, zn, zc, zs, hzv, hZI, hzn⟩ := ZS.out i3 hi3'
                have hil3 : (i3 : Int) < 3 := by omega
                have hi03 : (0 : Int) ≤ (i3 : Int) := by omega
                have hv3 := (hT.cell (p := ⟨gL, i3, none⟩) hLl).trans hzv
                have hX0 := hXV.below hT hXV.lt
                have HE0 := Lib.hid (HEV.out.upto hT)
                have HZ0 := Lib.hid (hZI.upto hT)
                obtain ⟨sb, HSB⟩ : ∃ sb, Hid (sAns p R K cells right zs = sb) := ⟨_, Lib.hid rfl⟩
                obtain ⟨se, HSE⟩ : ∃ se, Hid (sErr p R K cells right zs = se) := ⟨_, Lib.hid rfl⟩
                have ha0 : wr.cell? ⟨gX, 0, none⟩ = some (.int .i64 p) := ((hX0).cell 0).trans rfl
                have ha1 : wr.cell? ⟨gX, 1, none⟩ = some (.int .i64 R) := ((hX0).cell 1).trans rfl
                have ha2 : wr.cell? ⟨gX, 2, none⟩ = some (.int .i64 K) := ((hX0).cell 2).trans rfl
                have ha3 : wr.cell? ⟨gX, 3, none⟩ = some (.slice C nc cc) := ((hX0).cell 3).trans rfl
                have ha4 : wr.cell? ⟨gX, 4, none⟩ = some (.slice D nd cd) := ((hX0).cell 4).trans rfl
                go_wp2_with (first
                  | (go_at_call 105; refine (ssolves_all HE0.out HZ0.out (by omega)).mono ?_; rintro e V1 ⟨rfl, hb1⟩; rw [HSB.out, HSE.out]
                     have hT1 := bnext hT hb1
                     have hX1 := hX0.below hb1 hX0.lt
                     have HE1 := Lib.hid (HE0.out.upto hb1)
                     have HZ1 := Lib.hid (HZ0.out.upto hb1)
                     have ha0 : V1.cell? ⟨gX, 0, none⟩ = some (.int .i64 p) := ((hX1).cell 0).trans rfl
                     have ha1 : V1.cell? ⟨gX, 1, none⟩ = some (.int .i64 R) := ((hX1).cell 1).trans rfl
                     have ha2 : V1.cell? ⟨gX, 2, none⟩ = some (.int .i64 K) := ((hX1).cell 2).trans rfl
                     have ha3 : V1.cell? ⟨gX, 3, none⟩ = some (.slice C nc cc) := ((hX1).cell 3).trans rfl
                     have ha4 : V1.cell? ⟨gX, 4, none⟩ = some (.slice D nd cd) := ((hX1).cell 4).trans rfl
                     clear hb1)
                  | (go_at_call 106; refine (rsolves_all HE1.out HZ1.out (by omega)).mono ?_; rintro e V2 ⟨rfl, hb2⟩; rw [HSB.out, HSE.out]
                     have hT2 := bnext hT1 hb2
                     clear hb2))
                go_roundw
                case rel => exact ⟨i3 + 1, by omega, by go_num, hT2⟩
                case measure => simp [intOf]; omega
              · obtain rfl : i3 = 3 := by omega
                go_wp2
                go_roundw
                case rel => exact ⟨j + 1, by omega, by go_num, bnext hSV hT⟩
                case measure => simp [intOf]; omega
          · obtain rfl : j = 2 := by omega
            go_wp2
            go_ret
            exact ⟨rfl, bnext hbW hS⟩
      · have hxx1 : (100 : Int) < (lx : Int) := by omega
        go_enter Try.func11, Try.ntmps11
        go_wp2_with (first
          | (go_at_call 93; refine (sane06_any _).mono ?_; rintro e w1 ⟨rfl, hb1⟩
             have hbb1 := bnext hb0 hb1
             have hB1 := hB0.below hb1 (by simp)
             have hs3 : w1.cell? ⟨w.heap.size, 3, none⟩ = some (.slice C0 nc0 cc0) := (hB1.cell 3).trans rfl
             have hs4 : w1.cell? ⟨w.heap.size, 4, none⟩ = some (.slice D0 nd0 cd0) := (hB1.cell 4).trans rfl)
          | (go_at_call 16; refine (few_any T n c _).mono ?_; rintro e w' ⟨rfl, rfl⟩))
        go_ret
        exact ⟨rfl, hbb1⟩
    · have hab1 : (1100 : Int) < (nc0 : Int) + (nd0 : Int) := by omega
      have habw : IntKind.i64.wrap ((nc0 : Int) + (nd0 : Int)) = (nc0 : Int) + (nd0 : Int) := IntWalk.i64_in _ (by omega)
      go_enter Try.func11, Try.ntmps11
      go_wp2_with (first
        | (go_at_call 93; refine (sane06_any _).mono ?_; rintro e w1 ⟨rfl, hb1⟩
           have hbb1 := bnext hb0 hb1
           have hB1 := hB0.below hb1 (by simp)
           have hs3 : w1.cell? ⟨w.heap.size, 3, none⟩ = some (.slice C0 nc0 cc0) := (hB1.cell 3).trans rfl
           have hs4 : w1.cell? ⟨w.heap.size, 4, none⟩ = some (.slice D0 nd0 cd0) := (hB1.cell 4).trans rfl)
        | (go_at_call 16; refine (few_any T n c _).mono ?_; rintro e w' ⟨rfl, rfl⟩))
      go_ret
      exact ⟨rfl, hbb1⟩
  · have hd : decide (n ≤ 500) = false := by simpa using hn
    go_enter Try.func11, Try.ntmps11
    go_wp2_with (first
      | (go_at_call 93; refine (sane06_any _).mono ?_; rintro e w1 ⟨rfl, hb1⟩
         have hbb1 := bnext hb0 hb1)
      | (go_at_call 16; refine (few_any T n c _).mono ?_; rintro e w' ⟨rfl, rfl⟩))
    go_ret
    exact ⟨rfl, hbb1⟩
end Go.Proofs.Ytoblofilaegnaaa
