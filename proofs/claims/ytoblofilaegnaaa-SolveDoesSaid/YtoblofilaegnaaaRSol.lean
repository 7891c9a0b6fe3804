/-
  What the second form's Check and Solve on equations hand back for valid equations. Conditions: the lists read as their numbers.
-/
import Derived.Test.YtoblofilaegnaaaGSolv
import Derived.Test.YtoblofilaegnaaaRRed
import Derived.Test.YtoblofilaegnaaaChk
namespace Go.Proofs.Ytoblofilaegnaaa
open Go.RowKit
set_option linter.unusedVariables false

set_option maxRecDepth 100000 in
theorem rcheck06_ok (p : Int) (r c nc : Nat) (C : Option Addr) (cc : Nat) (D : Option Addr) (cd : Nat) (cells right : List Int) (w : World) (h : EqOk p r c cells right) (hnc : Hid (r * c = nc)) (hC : Ints w w.heap.size C nc cells) (hD : Ints w w.heap.size D r right) :
    Calls Try.prog 104 #[eqV p r c C nc cc D r cd] w fun e w' => e = .returned (.int .i64 0) ∧ Below w.heap.size w w' := by
  have HO := Lib.hid h.ok
  have HA : Hid (inF p cells = true) := Lib.hid (inF_iff.2 ⟨h.ok, h.ac⟩)
  have HR : Hid (inF p right = true) := Lib.hid (inF_iff.2 ⟨h.ok, h.ar⟩)
  have h1 : ¬ (r : Int) < 0 := by omega
  have h2 : ¬ (32 : Int) < (r : Int) := by have := h.r32; omega
  have h3 : ¬ (c : Int) < 0 := by omega
  have h4 : ¬ (32 : Int) < (c : Int) := by have := h.c32; omega
  have hle : r * c ≤ 32 * 32 := Nat.mul_le_mul h.r32 h.c32
  have hnc2 : nc ≤ 1024 := by rw [hnc.out] at hle; exact hle
  have hr32 := h.r32
  have hprod : (r : Int) * (c : Int) = (nc : Int) := by rw [← Int.natCast_mul, hnc.out]
  have hB := Blk.new w 106 (eqC p r c C nc cc D r cd)
  have hb0 : Below w.heap.size w (w.alloc (.cells (eqC p r c C nc cc D r cd) 106)) := bbox _
  clear h hle
  go_enter Try.func104, Try.ntmps104
  go_wp2_with (first
    | (go_at_call 128; refine (check_yes p _ HO.out).mono ?_; rintro e w1 ⟨rfl, hb1⟩
       have hbb1 := bnext hb0 hb1
       have hB1 := hB.below hb1 hB.lt
       have hc0 : w1.cell? ⟨w.heap.size, 0, none⟩ = some (.int .i64 p) := (hB1.cell 0).trans rfl
       have hc1 : w1.cell? ⟨w.heap.size, 1, none⟩ = some (.int .i64 r) := (hB1.cell 1).trans rfl
       have hc2 : w1.cell? ⟨w.heap.size, 2, none⟩ = some (.int .i64 c) := (hB1.cell 2).trans rfl
       have hc3 : w1.cell? ⟨w.heap.size, 3, none⟩ = some (.slice C nc cc) := (hB1.cell 3).trans rfl
       have hc4 : w1.cell? ⟨w.heap.size, 4, none⟩ = some (.slice D r cd) := (hB1.cell 4).trans rfl
       clear hb1)
    | (go_at_call 126; (with_reducible refine (in_any p C nc cc cells w1 (hC.upto hbb1) (by omega)).mono ?_); rintro e w2 ⟨rfl, hb2⟩; rw [HA.out]
       have hbb2 := bnext hbb1 hb2
       have hB2 := hB1.below hb2 hB1.lt
       have hc5 : w2.cell? ⟨w.heap.size, 0, none⟩ = some (.int .i64 p) := (hB2.cell 0).trans rfl
       have hc6 : w2.cell? ⟨w.heap.size, 4, none⟩ = some (.slice D r cd) := (hB2.cell 4).trans rfl
       clear hb2)
    | (go_at_call 126; (with_reducible refine (in_any p D r cd right w2 (hD.upto hbb2) (by omega)).mono ?_); rintro e w3 ⟨rfl, hb3⟩; rw [HR.out]
       have hbb3 := bnext hbb2 hb3
       clear hb3))
  go_ret
  exact ⟨rfl, hbb3⟩

theorem RefW.cap_ {w : World} {base wd n cap : Nat} {R : Option Addr} {bs : List (Nat × Nat)} {m : List (List Int)} (h : RefW w base wd R n cap bs m) : n ≤ cap := by
  rcases h.out.2 with ⟨hv, _⟩ | ⟨g, cp, cur, hv, _, _, hnc, _⟩
  · injection hv with _ h1 h2
    omega
  · injection hv with _ h1 h2
    omega

set_option maxHeartbeats 1600000 in
set_option maxRecDepth 100000 in
/-- A solution of valid equations. -/
theorem rsolve06_ok {p : Int} {r c nc cc cd : Nat} {C D : Option Addr} {cells right : List Int} {w : World} (h : EqW w p r c nc C cc D cd cells right) :
    Calls Try.prog 98 #[eqV p r c C nc cc D r cd] w (SolvePost p c (augM r c cells right) w) := by
  obtain ⟨i0, hi0, hz0, hz1, hz2⟩ := info_parts info_int
  have hb0 : Below w.heap.size w (w.alloc (.cells (eqC p r c C nc cc D r cd) 106)) := bbox _
  have HE := Lib.hid (h.upto hb0)
  have HB0 := Lib.hid (Blk.new w 106 (eqC p r c C nc cc D r cd))
  have HL := h.ln
  have hc32 := h.ok.c32
  have hr32 := h.ok.r32
  have hp := okP_pos h.ok.ok
  clear h
  go_enter Try.func98, Try.ntmps98
  go_upto_region 5 with (first
    | (go_at_call 104; refine (rcheck06_ok p r c nc C cc D cd cells right _ HE.out.ok (Lib.hid HL) HE.out.hC HE.out.hD).mono ?_; rintro e w1 ⟨rfl, hb1⟩
       have HB1 := Lib.hid (HB0.out.below hb1 HB0.out.lt)
       have HE1 := Lib.hid (HE.out.upto hb1)
       have hbb1 := hb0.trans (hb1.mono (by simp))
       have hs1 := HB1.out.lt
       have ha0 : w1.cell? ⟨w.heap.size, 0, none⟩ = some (.int .i64 p) := (HB1.out.cell 0).trans rfl
       have ha1 : w1.cell? ⟨w.heap.size, 1, none⟩ = some (.int .i64 r) := (HB1.out.cell 1).trans rfl
       have ha2 : w1.cell? ⟨w.heap.size, 2, none⟩ = some (.int .i64 c) := (HB1.out.cell 2).trans rfl
       have ha3 : w1.cell? ⟨w.heap.size, 3, none⟩ = some (.slice C nc cc) := (HB1.out.cell 3).trans rfl
       have ha4 : w1.cell? ⟨w.heap.size, 4, none⟩ = some (.slice D r cd) := (HB1.out.cell 4).trans rfl
       clear hb1)
    | (go_at_call 158; refine (rreduce_ok HE1.out).mono ?_; rintro e w2 ⟨R, cap, bs, m, L, lc, lead, rfl, hR, hLd, hred, hb2⟩
       have hbb2 := bnext hbb1 hb2
       have HR2 := Lib.hid hR
       have HRed := Lib.hid hred
       have HL2 := Lib.hid hLd
       have HB2 := Lib.hid (HB1.out.below hb2 HB1.out.lt)
       clear hb2 hR hred hLd))
  clear ha0 ha1 ha2 ha3 ha4 HE HE1 HB0 HB1
  have ha2 : w2.cell? ⟨w.heap.size, 2, none⟩ = some (.int .i64 c) := (HB2.out.cell 2).trans rfl
  have hcap := HR2.out.cap_
  have hrm : lead.length ≤ r := by rw [← HR2.out.ln]; exact HRed.out.inv.rm
  obtain ⟨rk, hrk⟩ : ∃ rk, lead.length = rk := ⟨_, rfl⟩
  have HRK := Lib.hid hrk
  rw [hrk] at hrm HL2 ⊢
  clear hrk
  have hk0 : (0 : Int) ≤ (rk : Int) := by omega
  have hk1 : (rk : Int) ≤ (r : Int) := by omega
  have HF : Hid (∀ j, j < r → ∃ go b cb, R = some ⟨go, 0, none⟩ ∧ w2.cell? ⟨go, j, none⟩ = some (.slice (some ⟨b, 0, none⟩) (c + 1) cb) ∧ w2.cell? ⟨b, c, none⟩ = some (.int .i64 (mx m j c)) ∧ go < w2.heap.size ∧ b < w2.heap.size) := Lib.hid fun j hj => by
    obtain ⟨go, h1, _, h3, _, h2⟩ := HR2.out.form (by omega)
    exact ⟨go, _, _, h1, (h2 j hj).1, (HR2.out.rws.own j (by rw [HR2.out.ln]; exact hj)).cellAt (by omega), h3, (HR2.out.rws.row (by rw [HR2.out.ln]; exact hj)).2⟩
  obtain ⟨A4, hA4, HA4⟩ : ∃ A4 : Option Addr, (if cap = rk then R else Option.map (fun x => x.add rk) R) = A4 ∧ Hid (rk < r → ∀ go, R = some ⟨go, 0, none⟩ → A4 = some ⟨go, rk, none⟩) := by
    refine ⟨_, rfl, Lib.hid fun h1 go h2 => ?_⟩
    rw [if_neg (by omega), h2]; simp [Addr.add]; omega
  have HM : Hid (m.length = r) := Lib.hid HR2.out.ln
  go_wp2
  go_loop [27] (fun v => ∃ j : Nat, j ≤ r - rk ∧ v = .int .i64 j ∧ Hid (∀ i, i < j → mx m (rk + i) c = 0)) (fun v => r - rk - (intOf v).toNat)
  case atStart => exact ⟨0, Nat.zero_le _, rfl, Lib.hid fun i hi => absurd hi (by omega)⟩
  case round =>
    obtain ⟨j, hj, rfl, HZ⟩ := hrel
    by_cases hlt : j < r - rk
    · obtain ⟨go, b, cb, hR, hrow, hcell, _, _⟩ := HF.out (rk + j) (by omega)
      have hA := HA4.out (by omega) go hR
      subst hA
      have h1 : (j : Int) < ((r - rk : Nat) : Int) := by omega
      have h0 : (0 : Int) ≤ (j : Int) := by omega
      have hcc : (c : Int) < ((c + 1 : Nat) : Int) := by omega
      have hc0 : (0 : Int) ≤ (c : Int) := by omega
      by_cases hz : mx m (rk + j) c = 0
      · rw [hz] at hcell
        go_wp2
        go_round
        case rel => exact ⟨j + 1, by omega, by go_num, Lib.hid fun i hi => by
          by_cases e : i = j
          · rw [e]; exact hz
          · exact HZ.out i (by omega)⟩
        case measure => simp [intOf]; omega
      · have HNZ : Hid (SolveOf p c (augM r c cells right) none) := Lib.hid ⟨m, lead, HRed.out, fun h => hz (h (rk + j) (by rw [HRK.out]; omega) (by rw [HM.out]; omega))⟩
        obtain ⟨y, hy⟩ : ∃ y, mx m (rk + j) c = y := ⟨_, rfl⟩
        rw [hy] at hcell hz
        clear hy
        go_wp2
        go_ret2
        exact ⟨.inl ⟨HNZ.out, rfl⟩, hbb2⟩
    · obtain rfl : r - rk = j := by omega
      have HC : Hid (SolveOf p c (augM r c cells right) (some (solL c lead m c))) := Lib.hid ⟨m, lead, HRed.out, fun i hi1 hi2 => by
        have := HZ.out (i - rk) (by rw [HM.out] at hi2; rw [HRK.out] at hi1; omega)
        rw [HRK.out] at hi1
        rwa [show rk + (i - rk) = i by omega] at this, solL_solX HRed.out.inv⟩
      have hc0 : (0 : Int) ≤ (c : Int) := by omega
      go_wp2_with (
        at_make
        refine wpList_make_full _ rfl _ _ 22 rfl w.heap.size 3 i0 (.int .i64 0) 1 Try.underlying22 hi0 hz0 hz1 .i64 .i64 c c c rfl rfl rfl rfl (by rw [hz2]; omega) (by unfold maxLen; omega) hbb2.size ?_
        intro w4 hown hgr
        have hown4 : OwnI w4 w.heap.size 3 (some ⟨w2.heap.size, 0, none⟩) c c (List.replicate c 0) := by rw [made_zerosS] at hown; exact hown
        have hb4 : Below w2.heap.size w2 w4 := (Below.refl _ _).grown hgr (Nat.le_refl _) (fun k hk => by cases hk)
        clear hown hgr)
      obtain ⟨g, hg⟩ : ∃ g, w2.heap.size = g := ⟨_, rfl⟩
      have HLc : Hid (∀ n, n < rk → ∃ gl, L = some ⟨gl, 0, none⟩ ∧ w2.cell? ⟨gl, n, none⟩ = some (.int .i64 (lead.getD n 0 : Nat)) ∧ gl < w2.heap.size) := Lib.hid fun n hn => by
        obtain ⟨gl, h1, h2, h3⟩ := HL2.out.form (by omega)
        subst h1
        have h4 := HL2.out.cellAt hn
        rw [show (lead.map Int.ofNat).getD n 0 = ((lead.getD n 0 : Nat) : Int) by
          rw [List.getD_eq_getElem?_getD, List.getElem?_map, List.getD_eq_getElem?_getD, List.getElem?_eq_getElem (by rw [HRK.out]; exact hn)]; rfl] at h4
        exact ⟨gl, rfl, h4, h3⟩
      rw [hg] at hown4 hb4 HF HLc ⊢
      have HG := Lib.hid hg
      have hgw : w.heap.size < g := by rw [← hg]; exact HB2.out.lt
      clear hg
      go_loopw [43] (fun v wx => ∃ n : Nat, n ≤ rk ∧ v = .int .i64 n ∧ OwnI wx w.heap.size 3 (some ⟨g, 0, none⟩) c c (solR c lead m n) ∧ Below g w2 wx) (fun v _ => rk - (intOf v).toNat)
      case atStart => exact ⟨0, Nat.zero_le _, rfl, by rw [solR_zero]; exact hown4, hb4⟩
      case round =>
        obtain ⟨n, hn, rfl, hown, hb⟩ := hrel
        by_cases hlt : n < rk
        · obtain ⟨gl, rfl, hlc, hll⟩ := HLc.out n hlt
          obtain ⟨go, b, cb, rfl, hrow, hcell, hgl, hbl⟩ := HF.out n (by omega)
          have hx0 := (hb.cell (p := ⟨gl, n, none⟩) hll).trans hlc
          have hx1 := (hb.cell (p := ⟨go, n, none⟩) hgl).trans hrow
          have hx2 := (hb.cell (p := ⟨b, c, none⟩) hbl).trans hcell
          have hx3 := (hb.cell (p := ⟨w.heap.size, 2, none⟩) hgw).trans ha2
          have HST := Lib.hid (solR_set HRed.out.inv (n := n) (by rw [HRK.out]; exact hlt))
          have hlk := HRed.out.inv.lt n (by rw [HRK.out]; exact hlt)
          obtain ⟨k, hk⟩ : ∃ k, lead.getD n 0 = k := ⟨_, rfl⟩
          rw [hk] at hx0 HST hlk
          obtain ⟨y, hy⟩ : ∃ y, mx m n c = y := ⟨_, rfl⟩
          rw [hy] at hx2 HST
          have h1n : (n : Int) < (rk : Int) := by omega
          have h1r : (n : Int) < (r : Int) := by omega
          have h0n : (0 : Int) ≤ (n : Int) := by omega
          have hkc : (k : Int) < (c : Int) := by omega
          have h0k : (0 : Int) ≤ (k : Int) := by omega
          have hcc : (c : Int) < ((c + 1 : Nat) : Int) := by omega
          obtain ⟨c1, hc1⟩ : ∃ c1, c + 1 = c1 := ⟨_, rfl⟩
          rw [hc1] at hx1 hcc
          clear hc1
          have hoc := hown.cellAt (j := k) hlk
          generalize (solR c lead m n).getD k 0 = y0 at hoc
          have hfz := hown.frozenAt k
          have hst := hown.stored k y
          rw [HST.out] at hst
          have HS := Lib.hid hst
          have HBS := Lib.hid (hb.setCell (p := ⟨g, k, none⟩) (Nat.le_refl _) (.int .i64 y))
          clear hst hown hlc hrow hcell hk hy
          go_wp2_with fail
          go_still_tail 11, (by kernel_rfl)
          go_wp2
          go_roundw
          case rel => exact ⟨n + 1, by omega, by go_num, HS.out.drew, HBS.out.drew⟩
          case measure => simp [intOf]; omega
        · obtain rfl : n = rk := by omega
          have hown2 : OwnI wr w.heap.size 3 (some ⟨g, 0, none⟩) c c (solL c lead m c) := by rw [← solR_all, HRK.out]; exact hown
          go_wp2
          go_ret2
          exact ⟨.inr ⟨g, _, HC.out, rfl, hown2⟩, hbb2.trans (hb.mono (Nat.le_of_lt hgw))⟩
end Go.Proofs.Ytoblofilaegnaaa
