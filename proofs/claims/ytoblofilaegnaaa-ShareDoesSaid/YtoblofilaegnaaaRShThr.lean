/-
  What the second form's through, At, Join and Agree on shares hand back for any arguments: the result, or the error. Conditions: the shares read as their points and values.
-/
import Derived.Test.YtoblofilaegnaaaShAll
import Derived.Test.YtoblofilaegnaaaR5All
import Derived.Test.YtoblofilaegnaaaRItp
namespace Go.Proofs.Ytoblofilaegnaaa
open Go.RowKit
set_option linter.unusedVariables false

theorem Ints.twoAt (w : World) (x y : Int) (t : TypeId) (g : Nat) (hg : g = w.heap.size) : Ints (w.alloc (.cells #[.int .i64 x, .int .i64 y] t)) (w.alloc (.cells #[.int .i64 x, .int .i64 y] t)).heap.size (some ⟨g, 0, none⟩) 2 [x, y] := by
  subst hg
  have hB := Blk.new w t #[.int .i64 x, .int .i64 y]
  refine ⟨rfl, fun _ => ⟨w.heap.size, 0, rfl, by simp, fun j hj => ?_⟩⟩
  rcases (by omega : j = 0 ∨ j = 1) with rfl | rfl
  · exact (hB.cell 0).trans rfl
  · exact (hB.cell 1).trans rfl
theorem inF_two {p x y : Int} (hok : okP p = true) (hx : 0 ≤ x ∧ x < p) (hy : 0 ≤ y ∧ y < p) : inF p [x, y] = true := inF_iff.2 ⟨hok, allP_iff.2 fun z hz => by
  rcases List.mem_cons.1 hz with rfl | h1
  · exact hx
  · rw [List.mem_singleton.1 h1]; exact hy⟩
theorem inF_two_no {p x y : Int} (h : ¬ ((0 ≤ x ∧ x < p) ∧ (0 ≤ y ∧ y < p))) : inF p [x, y] = false := inF_false.2 fun _ => by
  rw [← Bool.not_eq_true, allP_iff]
  intro ha
  exact h ⟨ha x List.mem_cons_self, ha y (List.mem_cons_of_mem _ List.mem_cons_self)⟩
/-- What the second form's through leaves. -/
def RThrPost (p m : Int) (us ys : List Int) (x : Int) (w : World) (e : Ending) (w' : World) : Prop :=
  ∃ er : Int, ThrR (okP p = true ∧ allP p [x] = true) p m us ys er ∧ ((er ≠ 0 ∧ e = .returned (.tuple #[.slice none 0 0, .int .i64 er])) ∨
    (er = 0 ∧ ∃ (R : List Int) (A' : Option Addr) (c' : Nat), e = .returned (.tuple #[.slice A' R.length c', .int .i64 0]) ∧ OwnI w' w.heap.size 3 A' R.length c' R ∧ Through p (us.take (m.toNat + 1)) (ys.take (m.toNat + 1)) R)) ∧ Below w.heap.size w w'
theorem RThrPost.bad {p m x : Int} {us ys : List Int} {w w' : World} {er : Int} (h : ThrR (okP p = true ∧ allP p [x] = true) p m us ys er) (h0 : er ≠ 0) (hb : Below w.heap.size w w') : RThrPost p m us ys x w (.returned (.tuple #[.slice none 0 0, .int .i64 er])) w' := ⟨er, h, .inl ⟨h0, rfl⟩, hb⟩
theorem rinterp_thrS (p : Int) (A : Option Addr) (n c : Nat) (us ys : List Int) (w : World) (h : Sh w w.heap.size A n us ys) (hn : n ≤ 100) (h0 : errL p [us, ys] = 0) (hd : Dist us) :
    Calls Try.prog 49 #[.agg #[.int .i64 p], .slice A n c] w fun e w' => (∃ R A' c', e = .returned (.tuple #[.slice A' R.length c', .int .i64 0]) ∧ OwnI w' w.heap.size 3 A' R.length c' R ∧ Through p us ys R) ∧ Below w.heap.size w w' := by
  refine (rinterp_all p A n c us ys w h hn).mono ?_
  rintro e w' (⟨h1, _⟩ | ⟨_, h1, _⟩ | ⟨_, _, R, A', c', rfl, hO, hT, hb⟩)
  · exact absurd h0 h1
  · exact absurd hd h1
  · exact ⟨⟨R, A', c', rfl, hO, hT⟩, hb⟩

set_option maxRecDepth 100000 in
set_option maxHeartbeats 3200000 in
theorem rthrough_all (p m x0 : Int) (A : Option Addr) (n c : Nat) (us ys : List Int) (w : World) (hm64 : -9223372036854775808 ≤ m ∧ m ≤ 9223372036854775807) (h : Sh w w.heap.size A n us ys) (hn : n ≤ 100) (hc : n ≤ c) :
    Calls Try.prog 143 #[.agg #[.int .i64 p], .int .i64 m, .slice A n c, .int .i64 x0] w (RThrPost p m us ys x0 w) := by
  have hF0 := (Blk.new w 24 #[.int .i64 p]).alloc (.cells #[.int .i64 x0] 3)
  have hw0 : Below w.heap.size w ((w.alloc (.cells #[.int .i64 p] 24)).alloc (.cells #[.int .i64 x0] 3)) := ballocs (bbox _) _
  by_cases hok : okP p = true ∧ allP p [x0] = true
  · have HK := Lib.hid hok
    have HIN : Hid (inF p [x0] = true) := Lib.hid (inF_iff.2 hok)
    have hp := okP_pos hok.1
    have HLA := Lib.hid h.1
    have HLY := Lib.hid h.2.1
    clear hok
    go_enter Try.func143, Try.ntmps143
    go_wp2_with (go_at_call 126; refine (in_any p _ 1 1 [x0] _ (by exact Ints.oneAt _ x0 _ _ (by simp)) (by omega)).mono ?_; rintro e w1 ⟨rfl, hb1⟩; rw [HIN.out]
                 have hbw1 := bnext hw0 hb1
                 have hF1 := hF0.below hb1 hF0.lt
                 clear hb1)
    go_loopw [21] (fun i wz => ∃ k : Nat, k ≤ n ∧ i = .int .i64 k ∧ Hid (allP p (us.take k) = true ∧ allP p (ys.take k) = true) ∧ Below w1.heap.size w1 wz) (fun i _ => n - (intOf i).toNat)
    case atStart => exact ⟨0, Nat.zero_le _, rfl, Lib.hid ⟨rfl, rfl⟩, Below.refl _ _⟩
    case round =>
      obtain ⟨k, hk, rfl, HG, hbf⟩ := hrel
      have hbz := bnext hbw1 hbf
      have hFz := hF1.below hbf hF1.lt
      by_cases hlt : k < n
      · obtain ⟨b, off, rfl, hbl, hcell⟩ := h.2.2 (by omega)
        have hcA := (hbz.cell (p := ⟨b, off + k * 2, none⟩) hbl).trans (hcell k hlt).1
        have hcY := (hbz.cell (p := ⟨b, off + k * 2 + 1, none⟩) hbl).trans (hcell k hlt).2
        clear hcell
        have HG1 : Hid (0 ≤ us.getD k 0 ∧ us.getD k 0 < p → 0 ≤ ys.getD k 0 ∧ ys.getD k 0 < p → allP p (us.take (k + 1)) = true ∧ allP p (ys.take (k + 1)) = true) := Lib.hid fun h1 h2 => ⟨allP_snoc_take (by rw [HLA.out]; exact hlt) HG.out.1 h1, allP_snoc_take (by rw [HLY.out]; exact hlt) HG.out.2 h2⟩
        have HB1 : Hid (¬ ((0 ≤ us.getD k 0 ∧ us.getD k 0 < p) ∧ (0 ≤ ys.getD k 0 ∧ ys.getD k 0 < p)) → ¬ (allP p us = true ∧ allP p ys = true)) := Lib.hid fun h1 h2 => h1 ⟨allP_getD h2.1 (by rw [HLA.out]; exact hlt), allP_getD h2.2 (by rw [HLY.out]; exact hlt)⟩
        generalize us.getD k 0 = x at *
        generalize ys.getD k 0 = y at *
        have hbf8 := ballocs (ballocs hbf (.cells #[.int .i64 x, .int .i64 y] 52)) (.cells #[.int .i64 x, .int .i64 y] 3)
        have hFa := hFz.alloc (.cells #[.int .i64 x, .int .i64 y] 52)
        have hfc : (wr.alloc (.cells #[.int .i64 x, .int .i64 y] 52)).cell? ⟨w.heap.size, 0, none⟩ = some (.int .i64 p) := (hFa.cell 0).trans rfl
        have hN := Blk.new wr 52 #[.int .i64 x, .int .i64 y]
        have hn0 : (wr.alloc (.cells #[.int .i64 x, .int .i64 y] 52)).cell? ⟨wr.heap.size, 0, none⟩ = some (.int .i64 x) := (hN.cell 0).trans rfl
        have hn1 : (wr.alloc (.cells #[.int .i64 x, .int .i64 y] 52)).cell? ⟨wr.heap.size, 1, none⟩ = some (.int .i64 y) := (hN.cell 1).trans rfl
        by_cases hx : (0 ≤ x ∧ x < p) ∧ (0 ≤ y ∧ y < p)
        · have HI1 : Hid (inF p [x, y] = true) := Lib.hid (inF_two HK.out.1 hx.1 hx.2)
          have HG2 := Lib.hid (HG1.out hx.1 hx.2)
          clear hx HG1 HB1
          go_wp2_with (go_at_call 126; refine (in_any p _ 2 2 [x, y] _ (by exact Ints.twoAt _ x y _ _ (by simp)) (by omega)).mono ?_; rintro e w2 ⟨rfl, hb2⟩; rw [HI1.out]
                       have hbf9 := bnext hbf8 hb2)
          go_roundw
          case rel => exact ⟨k + 1, by omega, by go_num, HG2, hbf9⟩
          case measure => simp [intOf]; omega
        · have HI1 : Hid (inF p [x, y] = false) := Lib.hid (inF_two_no hx)
          have HBB := Lib.hid (HB1.out hx)
          clear hx HG1 HB1
          go_wp2_with (go_at_call 126; refine (in_any p _ 2 2 [x, y] _ (by exact Ints.twoAt _ x y _ _ (by simp)) (by omega)).mono ?_; rintro e w2 ⟨rfl, hb2⟩; rw [HI1.out]
                       have hbf9 := bnext hbf8 hb2)
          go_ret2
          exact RThrPost.bad (.inr ⟨HK.out, .inl ⟨HBB.out, rfl⟩⟩) (by omega) (bnext hbw1 hbf9)
      · have hkn : k = n := by omega
        subst hkn
        have hGG := HG.out
        rw [List.take_of_length_le (by rw [HLA.out]; exact Nat.le_refl _), List.take_of_length_le (by rw [HLY.out]; exact Nat.le_refl _)] at hGG
        have HGG := Lib.hid hGG
        have HA := Lib.hid hGG.1
        have HY := Lib.hid hGG.2
        clear hGG HG
        obtain ⟨w5, hw5⟩ : ∃ w5, w5 = wr := ⟨_, rfl⟩
        subst hw5
        have hn512 : ¬ ((512 : Int) < (k : Int)) := by omega
        by_cases hth : 0 ≤ m ∧ m ≤ 9
        · obtain ⟨th, rfl⟩ : ∃ th : Nat, m = th := ⟨m.toNat, by omega⟩
          have hth9 : th ≤ 9 := by omega
          have HTT := Lib.hid hth
          have h1t : ¬ (th : Int) < 0 := by omega
          have h2t : ¬ (9 : Int) < (th : Int) := by omega
          have htw : IntKind.i64.wrap ((th : Int) + 1) = (th : Int) + 1 := IntWalk.i64_in _ (by omega)
          clear hth
          by_cases hfew : k ≤ th
          · have hfewi : (k : Int) < (th : Int) + 1 := by omega
            have HFW : Hid ((us.length : Int) ≤ (th : Int)) := Lib.hid (by rw [HLA.out]; omega)
            go_wp2
            go_ret2
            exact RThrPost.bad (.inr ⟨HK.out, .inr ⟨HGG.out, .inr ⟨HTT.out, .inl ⟨HFW.out, rfl⟩⟩⟩⟩) (by omega) hbz
          · have HNF : Hid ((th : Int) < (us.length : Int)) := Lib.hid (by rw [HLA.out]; omega)
            have hnfew : ¬ (k : Int) < (th : Int) + 1 := by omega
            have hSz := h.upto hbz
            go_wp2
            go_loopw [50] (fun i wx => ∃ (j q : Nat), j ≤ k ∧ i = .int .i64 j ∧ Hid (Dist (us.take j)) ∧ wx = w5.drewN q) (fun i _ => k - (intOf i).toNat)
            case atStart => exact ⟨0, 0, Nat.zero_le _, rfl, Lib.hid (fun a b _ hb => by simp at hb), rfl⟩
            case round =>
              obtain ⟨j, q, hj, rfl, HDJ, rfl⟩ := hrel
              by_cases hlt2 : j < k
              · obtain ⟨b, off, rfl, hbl, hcell⟩ := hSz.2.2 (by omega)
                have HC := Lib.hid hcell
                have hjc : (j : Int) ≤ (c : Int) := by omega
                have hjk : (j : Int) < (k : Int) := by omega
                have hj0 : (0 : Int) ≤ (j : Int) := by omega
                have HDN : Hid (us.getD j 0 ∉ us.take j → Dist (us.take (j + 1))) := Lib.hid (fun hn => Dist.take_succ (by rw [HLA.out]; exact hlt2) HDJ.out hn)
                clear hcell
                go_wp2
                go_loopw [57] (fun i wx => ∃ (t q2 : Nat), t ≤ j ∧ i = .int .i64 t ∧ Hid (∀ s, s < t → us.getD s 0 ≠ us.getD j 0) ∧ wx = w5.drewN q2) (fun i _ => j - (intOf i).toNat)
                case atStart => exact ⟨0, q, Nat.zero_le _, rfl, Lib.hid (fun s hs => absurd hs (by omega)), rfl⟩
                case round =>
                  obtain ⟨t, q2, ht, rfl, HNE, rfl⟩ := hrel
                  by_cases hlt3 : t < j
                  · have hcj : w5.cell? ⟨b, off + j * 2, none⟩ = some (.int .i64 (us.getD j 0)) := (HC.out j hlt2).1
                    have hct : w5.cell? ⟨b, off + t * 2, none⟩ = some (.int .i64 (us.getD t 0)) := (HC.out t (by omega)).1
                    have HNE2 : Hid (us.getD t 0 ≠ us.getD j 0 → ∀ s, s < t + 1 → us.getD s 0 ≠ us.getD j 0) := Lib.hid fun h1 s hs => by
                      by_cases e : s = t
                      · rw [e]; exact h1
                      · exact HNE.out s (by omega)
                    have HDB : Hid (us.getD t 0 = us.getD j 0 → ¬ Dist us) := Lib.hid fun h1 hd => hd t j hlt3 (by rw [HLA.out]; exact hlt2) h1
                    generalize us.getD j 0 = uj at *
                    generalize us.getD t 0 = ut at *
                    have htj : (t : Int) < (j : Int) := by omega
                    have htk : (t : Int) < (k : Int) := by omega
                    have ht0 : (0 : Int) ≤ (t : Int) := by omega
                    by_cases he : uj = ut
                    · have HND := Lib.hid (HDB.out he.symm)
                      clear HNE2 HDB
                      go_wp2
                      go_quiet (fail)
                      go_wp2
                      go_ret2
                      exact RThrPost.bad (.inr ⟨HK.out, .inr ⟨HGG.out, .inr ⟨HTT.out, .inr ⟨HNF.out, .inl ⟨HND.out, rfl⟩⟩⟩⟩⟩) (by omega) (below_drewN (below_drewN hbz _) _)
                    · have HN3 := Lib.hid (HNE2.out (fun e => he e.symm))
                      clear HNE2 HDB
                      go_wp2
                      go_quiet (fail)
                      go_wp2
                      go_roundw
                      case rel => exact ⟨t + 1, _, by omega, by go_num, HN3, rfl⟩
                      case measure => simp [intOf]; omega
                  · obtain rfl : t = j := by omega
                    have HD2 := Lib.hid (HDN.out fun hm => by
                      obtain ⟨i, hi, hil, e⟩ := take_mem hm
                      exact HNE.out i hi e)
                    go_wp2
                    go_roundw
                    case rel => exact ⟨t + 1, q2, by omega, by go_num, HD2, rfl⟩
                    case measure => simp [intOf]; omega
              · obtain rfl : j = k := by omega
                have hDJ := HDJ.out
                rw [List.take_of_length_le (by rw [HLA.out]; exact Nat.le_refl _)] at hDJ
                have HDI := Lib.hid hDJ
                clear hDJ HDJ
                obtain ⟨t1, ht1⟩ : ∃ t1 : Nat, (th : Int) + 1 = t1 := ⟨th + 1, by omega⟩
                have HT1 : Hid (t1 = th + 1) := Lib.hid (by omega)
                have ht1w : IntKind.i64.wrap ((th : Int) + 1) = t1 := by rw [htw]; exact ht1
                have ht1c : (t1 : Int) ≤ (c : Int) := by omega
                have ht10 : (0 : Int) ≤ (t1 : Int) := by omega
                have ht1n : (t1 : Int) ≤ (j : Int) := by omega
                have ht1j : t1 ≤ j := by omega
                have ht1v : IntKind.i64.wrap (t1 : Int) = t1 := IntWalk.i64_in _ (by omega)
                have HL0 : Hid (errL p [us.take t1, ys.take t1] = 0) := Lib.hid (by
                  unfold errL
                  rw [if_pos ⟨HK.out.1, by rw [allR_iff]; intro r hr; rcases List.mem_cons.1 hr with rfl | hr; exact take_allP HA.out _; rw [List.mem_singleton.1 hr]; exact take_allP HY.out _⟩, if_neg (by simp [List.length_take]; omega)])
                have HTD : Hid (Dist (us.take t1)) := Lib.hid fun a b h1 h2 => by
                  rw [List.length_take] at h2
                  have ga : ∀ i, i < t1 → (us.take t1).getD i 0 = us.getD i 0 := fun i hi => by rw [List.getD_eq_getElem?_getD, List.getElem?_take, if_pos hi, ← List.getD_eq_getElem?_getD]
                  rw [ga a (by omega), ga b (by omega)]
                  exact HDI.out a b h1 (by omega)
                have hcF : w5.cell? ⟨w.heap.size, 0, none⟩ = some (.int .i64 p) := (hFz.cell 0).trans rfl
                have hbq : Below w.heap.size w (w5.drewN q).drew := (below_drewN hbz q).drew
                have hSx : Sh (w5.drewN q).drew (w5.drewN q).drew.heap.size A t1 (us.take t1) (ys.take t1) := (h.upto hbq).take_ t1 ht1j
                have HSX := Lib.hid hSx
                clear ht1 htw hSx
                go_wp2_with fail
                go_region_with (go_at_call 49; refine (rinterp_thrS p A t1 _ _ _ _ (by exact HSX.out) (by omega) HL0.out HTD.out).mono ?_; rintro e w3 ⟨⟨R, A3, c3, rfl, hO3, hT⟩, hb3⟩
                                have HT := Lib.hid hT
                                have HO3 := Lib.hid hO3
                                have hbb3 := bnext hbq hb3
                                clear hT hO3 hb3)
                go_wp2
                go_ret2
                exact ⟨0, .inr ⟨HK.out, .inr ⟨HGG.out, .inr ⟨HTT.out, .inr ⟨HNF.out, .inr ⟨HDI.out, rfl⟩⟩⟩⟩⟩, .inr ⟨rfl, R, A3, c3, rfl, HO3.out.base hbq.size, by have := HT.out; rw [HT1.out] at this; exact this⟩, hbb3⟩
        · have HTT := Lib.hid hth
          have HBD : Hid (m < 0 ∨ (¬ m < 0 ∧ 9 < m)) := Lib.hid (by omega)
          clear hth
          rcases HBD.out with h1 | ⟨h1, h2⟩
          · go_wp2
            go_ret2
            exact RThrPost.bad (.inr ⟨HK.out, .inr ⟨HGG.out, .inl ⟨HTT.out, rfl⟩⟩⟩) (by omega) hbz
          · go_wp2
            go_ret2
            exact RThrPost.bad (.inr ⟨HK.out, .inr ⟨HGG.out, .inl ⟨HTT.out, rfl⟩⟩⟩) (by omega) hbz
  · have HK := Lib.hid hok
    have HIN : Hid (inF p [x0] = false) := Lib.hid (by rw [← Bool.not_eq_true]; intro a; exact hok (inF_iff.1 a))
    clear hok
    go_enter Try.func143, Try.ntmps143
    go_wp2_with (go_at_call 126; refine (in_any p _ 1 1 [x0] _ (by exact Ints.oneAt _ x0 _ _ (by simp)) (by omega)).mono ?_; rintro e w1 ⟨rfl, hb1⟩; rw [HIN.out]
                 have hbw1 := bnext hw0 hb1
                 clear hb1)
    go_ret2
    exact RThrPost.bad (.inl ⟨HK.out, rfl⟩) (by omega) hbw1
end Go.Proofs.Ytoblofilaegnaaa
