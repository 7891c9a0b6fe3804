/-
  Words for memory and contracts of small functions of the second form. Conditions: those of each lemma.
-/
import Derived.Test.YtmcgnpdfpfgfpaaGreatDoorGKwP
import Derived.Test.YtmcgnpdfpfgfpaaGreatDoorGMem
import Derived.Test.YtmcgnpdfpfgfpaaGreatDoorGCod
import Derived.Deep.QuietTactic
import Derived.BigQuiet
import Derived.Test.YtmcgnpdfpfgfpaaGreatDoorGAns
/-! Plc1 -/
namespace Go.Proofs.YtmcgnpdfpfgfpaaGreatDoor
open Go.RowKit
set_option linter.unusedVariables false

theorem cntT_mono : ∀ (s t : List Bool), s.length = t.length → LeB s t → cntT s ≤ cntT t
  | [], [], _, _ => Nat.le_refl _
  | a :: s, b :: t, h, hl => by
    have h1 := cntT_mono s t (by simpa using h) (fun i hi => hl (i + 1) hi)
    have h2 := hl 0
    simp only [List.getD_cons_zero] at h2
    simp only [cntT]
    cases a <;> cases b <;> simp_all <;> omega
theorem cntT_more : ∀ (s : List Bool) (k : Nat), k < s.length → s.getD k false = false → cntT (s.set k true) = cntT s + 1
  | b :: s, 0, _, h => by
    simp only [List.getD_cons_zero] at h
    subst h
    simp only [List.set_cons_zero, cntT]
    simp; omega
  | b :: s, k + 1, hk, h => by
    have := cntT_more s k (by simpa using hk) (by simpa using h)
    simp only [List.set_cons_succ, cntT, this]
    omega
theorem cntT_len : ∀ (s : List Bool), cntT s ≤ s.length
  | [] => Nat.le_refl _
  | b :: s => by
    have := cntT_len s
    simp only [cntT, List.length_cons]
    cases b <;> simp <;> omega
theorem LeB.set_ (s : List Bool) (k : Nat) : LeB s (s.set k true) := fun b hb => by
  rw [List.getD_eq_getElem?_getD] at hb ⊢
  rw [List.getElem?_set]
  by_cases e : k = b
  · subst e
    rw [if_pos rfl]
    rcases h : s[k]? with _ | v
    · rw [h] at hb; cases hb
    · rw [if_pos (List.getElem?_eq_some_iff.1 h).1]; rfl
  · rw [if_neg e]; exact hb
theorem getD_set_true (s : List Bool) (k : Nat) (hk : k < s.length) : (s.set k true).getD k false = true := by
  rw [List.getD_eq_getElem?_getD, List.getElem?_set, if_pos rfl, if_pos hk]; rfl
theorem getD_set_bool (s : List Bool) (k b : Nat) (hk : k < s.length) : (s.set k true).getD b false = if k = b then true else s.getD b false := by
  rw [List.getD_eq_getElem?_getD, List.getElem?_set]
  by_cases e : k = b
  · rw [if_pos e, if_pos e, if_pos hk]; rfl
  · rw [if_neg e, if_neg e, List.getD_eq_getElem?_getD]

/-- A number in a row of its own. -/
theorem GrW.setRow {w : World} {base g S k b x : Nat} {bs : List (Option Addr × Nat × Nat)} {m : List (List Int)} {y : Int} (h : GrW w base g S bs m) (hk : k < S) (hb : (bs.getD k (none, 0, 0)).1 = some ⟨b, 0, none⟩) :
    GrW (w.setCell ⟨b, x, none⟩ (.int .i64 y)) base g S bs (m.set k ((m.getD k []).set x y)) := by
  have hs : Step b w (w.setCell ⟨b, x, none⟩ (.int .i64 y)) := (Step.refl b w).set x _
  have hok := h.own k hk
  rw [hb] at hok
  have hgb : g ≠ b := own_ne h.out hok types_row
  refine ⟨World.ownsRow.kept h.out hs (.inr (fun e => hgb (by have e2 : some g = some b := e; injection e2))), h.lb, by rw [List.length_set]; exact h.ln, fun j hj => ?_, h.apart⟩
  rw [getD_setG _ _ _ _ _ (by rw [h.ln]; exact hk)]
  by_cases hkj : k = j
  · subst hkj
    rw [if_pos rfl, hb]
    exact hok.stored x y
  · rw [if_neg hkj]
    refine (h.own j hj).kept hs ?_
    rcases h3 : (bs.getD j (none, 0, 0)).1 with _ | a
    · exact .inl rfl
    · refine .inr (fun e => h.apart k j hk hj hkj _ _ hb h3 ?_)
      have e2 : some a.block = some b := e
      injection e2 with e2
      exact e2.symm
/-- Marks stay where a row turns, and rows where a mark does. -/
theorem GrW.mark {w : World} {base base2 g gS S nb k : Nat} {bs : List (Option Addr × Nat × Nat)} {m : List (List Int)} {sn : List Bool} {v : Value} (h : GrW w base g S bs m) (hB : BlW w base2 gS nb sn) (hne : (4 : TypeId) ≠ 22) : GrW (w.setCell ⟨gS, k, none⟩ v) base g S bs m := by
  have hs : Step gS w (w.setCell ⟨gS, k, none⟩ v) := (Step.refl gS w).set k v
  refine ⟨World.ownsRow.kept h.out hs (.inr (fun e => own_ne hB h.out hne (by have e2 : some g = some gS := e; injection e2 with e2; exact e2.symm))), h.lb, h.ln, fun j hj => (h.own j hj).kept hs ?_, h.apart⟩
  rcases (h.own j hj).at0 with h3 | ⟨b, h3⟩
  · rw [h3]; exact .inl rfl
  · rw [h3]
    refine .inr (fun e => ?_)
    have h4 := h.own j hj
    rw [h3] at h4
    have e2 : some b = some gS := e
    injection e2 with e2
    exact hB.ne_own h4 e2
theorem types_bool2 : (4 : TypeId) ≠ 22 := by decide +kernel

theorem getD_gets (l : List Int) (t : Nat) (h : t < l.length) : l.getD t 0 = l[t] := by
  rw [List.getD_eq_getElem?_getD, List.getElem?_eq_getElem h]; rfl
/-- What place leaves. -/
def PcPost (H : List (List Int)) (nb room : Nat) (us : Nat → Nat) (base gI gS : Nat) (bs : List (Option Addr × Nat × Nat)) (seen : List Bool) (I : List (List Int)) (item : Nat) (w : World) (e : Ending) (w' : World) : Prop :=
  ∃ (r : Bool) (bs' : List (Option Addr × Nat × Nat)) (I' : List (List Int)) (s1 : List Bool), e = .returned (.bool r) ∧ GrW w' base gI nb bs' I' ∧ BlW w' base gS nb s1 ∧ Below base w w' ∧ LeB seen s1 ∧
    (r = true → PlY H nb room us seen I I' item) ∧ (r = false → bs' = bs ∧ I' = I ∧ PlC H nb room us seen s1 I ∧ ∀ x ∈ H.getD item [], ∃ c : Nat, x = (c : Int) ∧ c < nb ∧ s1.getD c false = true)

set_option maxRecDepth 100000 in
set_option maxHeartbeats 16000000 in
theorem place_any (H : List (List Int)) (nb room m base lo gI gS : Nat) (us : Nat → Nat) (HA U : Option Addr) (hc uc : Nat) (uL : List Int) (w0 : World) (hnb : nb ≤ 1000) (hro : room ≤ 1000) (hmH : m = H.length) (hM : Mat w0 lo base HA m H) (hU : Ints w0 base U nb uL) (hb0 : base ≤ w0.heap.size) (hUn : ∀ b, b < nb → uL.getD b 0 = (us b : Int) ∧ us b ≤ 1000) (hHV : ∀ j, j < m → ∀ x ∈ H.getD j [], ∃ c : Nat, x = (c : Int) ∧ c < nb) :
    ∀ (N : Nat) (bs : List (Option Addr × Nat × Nat)) (seen : List Bool) (I : List (List Int)) (item : Nat) (w : World), nb ≤ cntT seen + N → item < m → Below base w0 w → GrW w base gI nb bs I → BlW w base gS nb seen → PlS H nb room us seen I → ¬ InU nb seen I item →
      Calls Tryz.prog 134 #[.slice HA m hc, .slice (some ⟨gI, 0, none⟩) nb nb, .slice U nb uc, .int .i64 room, .int .i64 item, .slice (some ⟨gS, 0, none⟩) nb nb] w (PcPost H nb room us base gI gS bs seen I item w) := by
  have HHV := Lib.hid hHV
  have HUN := Lib.hid hUn
  have HMH := Lib.hid hmH
  clear hHV hUn hmH
  intro N
  induction N using Nat.strongRecOn with
  | _ N ih =>
  intro bs seen I item w hN him hbw hG hB hS hnu
  have HIH := Lib.hid ih
  have HS := Lib.hid hS
  have HNU := Lib.hid hnu
  have HN := Lib.hid hN
  have HSL := Lib.hid hB.len
  clear ih hS hnu hN
  obtain ⟨bH, oH, A1, n1, c1, rfl, _, hbH, hcH, hn1, hI1, _⟩ := (hM.below hbw).at_ him
  have him0 : (0 : Int) ≤ (item : Int) := by omega
  have himi : (item : Int) < (m : Int) := by omega
  obtain ⟨i0, hi0, hz0, hz1, hz2⟩ := info_parts info_int
  go_enter Tryz.func134, Tryz.ntmps134
  go_wp2_with fail
  go_loopw [22] (fun v22 wz => ∃ (t : Nat) (sn : List Bool), t ≤ n1 ∧ v22 = .int .i64 t ∧ GrW wz base gI nb bs I ∧ BlW wz base gS nb sn ∧ Below base w wz ∧ Hid (LeB seen sn ∧ PlC H nb room us seen sn I ∧ (∀ i, i < t → ∃ c : Nat, (H.getD item []).getD i 0 = (c : Int) ∧ c < nb ∧ sn.getD c false = true))) (fun v22 _ => n1 - (intOf v22).toNat)
  case atStart => exact ⟨0, seen, Nat.zero_le _, rfl, hG, hB, Below.refl _ _, Lib.hid ⟨LeB.refl _, PlC.refl _, fun i hi => absurd hi (Nat.not_lt_zero _)⟩⟩
  case round =>
  obtain ⟨t, sn, ht, rfl, hGz, hBz, hbz, HP⟩ := hrel
  by_cases hts : t < n1
  · have htsi : (t : Int) < (n1 : Int) := by omega
    have ht0 : (0 : Int) ≤ (t : Int) := by omega
    obtain ⟨b1, o1, rfl, hb1, hc1⟩ := (hI1.below hbz).2 (by omega)
    have hct := hc1 t hts
    have hmt : (H.getD item []).getD t 0 ∈ H.getD item [] := by
      rw [getD_gets _ _ (by rw [hI1.len]; exact hts)]
      exact List.getElem_mem _
    obtain ⟨b, hbe, hbn⟩ := HHV.out item him _ hmt
    rw [hbe] at hct hmt
    have HBE := Lib.hid hbe
    have HMT := Lib.hid hmt
    clear hc1 hbe hmt
    have hbi0 : (0 : Int) ≤ (b : Int) := by omega
    have hbin : (b : Int) < (nb : Int) := by omega
    obtain ⟨hsc, hsf⟩ := hBz.at_ hbn
    rcases hsb : sn.getD b false with _ | _
    · rw [hsb] at hsc
      obtain ⟨wS, hwS⟩ : ∃ v, wr.setCell ⟨gS, b, none⟩ (.bool true) = v := ⟨_, rfl⟩
      have hGS : GrW wS base gI nb bs I := by rw [← hwS]; exact hGz.mark hBz types_bool2
      have hBS : BlW wS base gS nb (sn.set b true) := by rw [← hwS]; exact hBz.set b true
      have hbS : Below base w wS := by rw [← hwS]; exact hbz.setCell hBz.lt.1 _
      obtain ⟨bU, oU, rfl, hbU, hcU⟩ := (hU.below (hbw.trans hbS)).2 (by omega)
      have hcb := hcU b hbn
      rw [(HUN.out b hbn).1] at hcb
      obtain ⟨hgc, hgf⟩ := hGS.at_ hbn
      rcases hbb : bs.getD b (none, 0, 0) with ⟨Ak, nk, ck⟩
      rw [hbb] at hgc
      have hown := hGS.own b hbn
      rw [hbb] at hown
      have hnk : (I.getD b []).length = nk := hown.len
      have husb := (HUN.out b hbn).2
      have hfit := (HS.out.mono HP.out.1).fits b hbn hsb
      rw [hnk] at hfit
      have hgc2 : wS.cell? ⟨gI, b, none⟩ = some (.slice Ak nk ck) := hgc
      have hgd2 : wS.drew.cell? ⟨gI, b, none⟩ = some (.slice Ak nk ck) := hgc
      have hcbd : wS.drew.cell? ⟨bU, oU + b, none⟩ = some (.int .i64 (us b : Int)) := hcb
      have hwu : -9223372036854775808 ≤ (nk : Int) + (us b : Int) ∧ (nk : Int) + (us b : Int) < 9223372036854775808 := by omega
      clear hcU hgc
      by_cases hroom : nk + us b < room
      · have hr : (nk : Int) + (us b : Int) < (room : Int) := by omega
        go_wp2_with fail
        go_quiet (fail)
        obtain ⟨w2, hw2⟩ : ∃ v, wS.drewN nq = v := ⟨_, rfl⟩
        have hG2 : GrW w2 base gI nb bs I := by rw [← hw2]; exact hGS.drewN nq
        have hB2 : BlW w2 base gS nb (sn.set b true) := by rw [← hw2]; exact hBS
        have hb2 : Below base w w2 := by rw [← hw2]; exact below_drewN hbS nq
        have hc2 : w2.cell? ⟨gI, b, none⟩ = some (.slice Ak nk ck) := by rw [← hw2]; exact hgc2
        have hf2 : w2.frozen? ⟨gI, b, none⟩ = false := by rw [← hw2]; exact hgf
        rw [hw2]
        clear hGz hBz hbz hGS hBS hbS hsc hsf hgc2 hgd2 hcb hcbd hown hgf hwS hct hcH hG hB
        have hl2 : base ≤ w2.heap.size := Nat.le_trans hG2.lo.1 (Nat.le_of_lt hG2.lo.2)
        have hGa := hG2.alloc (.cells #[.int .i64 (item : Int)] 3)
        have hown := hGa.own b hbn
        rw [hbb] at hown
        have hB3 := hB2.belowAll (bbox (.cells #[.int .i64 (item : Int)] 3))
        have hb3 := hb2.alloc hl2 (.cells #[.int .i64 (item : Int)] 3)
        have hcz := hc2
        go_wp2_with (at_builtin
                     refine wpList_append_ints rfl _ _ 22 rfl base 3 i0 _ Tryz.underlying22 hi0 hz0 hz1 hz2 rfl Ak nk ck _ rfl hown _ _ 1 1 [(item : Int)] rfl (Ints.oneAt _ _ _ _ rfl) (nk + 1) rfl _ rfl (by omega) (le_alloc hl2 _) ?_
                     intro A3 c3 w7 hown7 hgr7 hb7 hab7
                     have hat := hGa.at_grown hbn (by rw [hbb]; exact hgr7)
                     rw [hbb] at hat
                     have hc7 : w7.cell? ⟨gI, b, none⟩ = some (.slice Ak nk ck) := hat.1
                     have hf7 : w7.frozen? ⟨gI, b, none⟩ = false := hat.2)
        have hG7 := hGa.grown hbn (by rw [hbb]; exact hgr7) hown7 (by rw [hbb]; exact hab7)
        have hgS0 : gS ≠ gI := own_ne hB3 hGa.out types_bool2
        have hgS := hgS0.symm
        have hrow : (Value.slice Ak nk ck).ownBlock ≠ some gS := fun e => by
          rcases hown.at0 with h3 | ⟨bA, h3⟩
          · rw [h3] at e; cases e
          · rw [h3] at hown e
            have e2 : some bA = some gS := e
            injection e2 with e2
            exact hB3.ne_own hown e2
        have hB7 : BlW w7 base gS nb (sn.set b true) := World.ownsRow.kept hB3 hgr7 (.inr (fun e => hrow e.symm))
        have hB8 := hB7.step ((Step.refl gI w7).set b (.slice A3 (nk + 1) c3)) hgS
        go_ret
        refine ⟨true, _, _, _, rfl, hG7, hB8, (hb3.trans hb7).setCell hG2.lo.1 _, HP.out.1.trans (LeB.set_ _ _), fun _ => PlY.append HS.out hG2.ln hbn (Un.of HP.out.1 hsb) HMT.out (by rw [← HMH.out]; exact him) (by rw [hnk]; exact hroom) HNU.out, fun e => by cases e⟩
      · have hr : ¬ ((nk : Int) + (us b : Int) < (room : Int)) := by omega
        go_wp2_with fail
        go_quiet (fail)
        obtain ⟨w2, hw2⟩ : ∃ v, wS.drewN nq = v := ⟨_, rfl⟩
        have hG2 : GrW w2 base gI nb bs I := by rw [← hw2]; exact hGS.drewN nq
        have hB2 : BlW w2 base gS nb (sn.set b true) := by rw [← hw2]; exact hBS
        have hb2 : Below base w w2 := by rw [← hw2]; exact below_drewN hbS nq
        have hc2 : w2.cell? ⟨gI, b, none⟩ = some (.slice Ak nk ck) := by rw [← hw2]; exact hgc2
        rw [hw2]
        have hsl : sn.length = nb := hBz.len
        clear hGz hBz hbz hGS hBS hbS hsc hsf hgc2 hgd2 hcb hcbd hown hgf hwS hct hcH hG hB
        have hnk0 : (0 : Int) ≤ (nk : Int) := by omega
        go_wp2_with fail
        go_loopw [60] (fun v60 wz => ∃ (k : Nat) (s2 : List Bool), k ≤ nk ∧ v60 = .int .i64 k ∧ GrW wz base gI nb bs I ∧ BlW wz base gS nb s2 ∧ Below base w wz ∧ Hid (LeB (sn.set b true) s2 ∧ PlC H nb room us (sn.set b true) s2 I ∧ ∀ i, i < k → ∀ j : Nat, (I.getD b []).getD i 0 = (j : Int) → ∀ h ∈ H.getD j [], ∃ c : Nat, h = (c : Int) ∧ c < nb ∧ s2.getD c false = true)) (fun v60 _ => nk - (intOf v60).toNat)
        case atStart => exact ⟨0, _, Nat.zero_le _, rfl, hG2, hB2, hb2, Lib.hid ⟨LeB.refl _, PlC.refl _, fun i hi => absurd hi (Nat.not_lt_zero _)⟩⟩
        case round =>
        obtain ⟨k, s2, hk, rfl, hG4, hB4, hb4, HP2⟩ := hrel
        by_cases hkn : k < nk
        · have hkni : (k : Int) < (nk : Int) := by omega
          have hk0 : (0 : Int) ≤ (k : Int) := by omega
          have hown4 := hG4.own b hbn
          rw [hbb] at hown4
          have hIA : Ints wr wr.heap.size Ak nk (I.getD b []) := Ints.of_own hown4
          obtain ⟨bA, oA, rfl, _, hcA⟩ := hIA.2 (by omega)
          clear hIA hown4
          have hck := hcA k hkn
          have hmk : (I.getD b []).getD k 0 ∈ I.getD b [] := by
            rw [getD_gets _ _ (by rw [hnk]; exact hkn)]; exact List.getElem_mem _
          obtain ⟨j, hje, hjl, hjh⟩ := (HS.out.mono HP.out.1).home b hbn hsb _ hmk
          rw [hje] at hck hmk
          have HJE := Lib.hid hje
          have HMK := Lib.hid hmk
          have hle2 : LeB seen s2 := HP.out.1.trans ((LeB.set_ _ _).trans HP2.out.1)
          have hb2s : s2.getD b false = true := HP2.out.1 b (getD_set_true sn b (by omega))
          have hcn : cntT s2 ≤ nb ∧ cntT seen + 1 ≤ cntT s2 := by
            have h1 := cntT_len s2
            have h2 := hB4.len
            have h3 := cntT_mono (sn.set b true) s2 (by rw [List.length_set]; omega) HP2.out.1
            have h4 := cntT_more sn b (by omega) hsb
            have h5 := cntT_mono seen sn (by rw [hsl]; exact HSL.out) HP.out.1
            omega
          have hnu2 : ¬ InU nb s2 I (j : Int) := fun ⟨c, hc1, hc2, hc3⟩ => by
            have hbc : b ≠ c := fun e => by subst e; unfold Un at hc2; rw [hb2s] at hc2; cases hc2
            exact (HS.out.mono HP.out.1).ap b c hbn hc1 hsb (Un.of ((LeB.set_ _ _).trans HP2.out.1) hc2) hbc _ HMK.out hc3
          have HCALL := Lib.hid (HIH.out (N - 1) (by have := HN.out; omega) bs s2 I j wr (by have := HN.out; omega) (by rw [HMH.out]; exact hjl) (hbw.trans hb4) hG4 hB4 (HS.out.mono hle2) hnu2)
          clear hcA hje hmk hnu2 hcn
          go_wp2_with (go_at_call 134; refine (HCALL.out).mono ?_; rintro e w5 ⟨r, bs5, I5, s5, rfl, hG5, hB5, hb5, hle5, hT5, hF5⟩
                       obtain ⟨hg5, hf5⟩ := hG5.at_ hbn
                       have hown5 := hG5.own b hbn
                       rcases hbb5 : bs5.getD b (none, 0, 0) with ⟨A5, n5, c5⟩
                       rw [hbb5] at hg5 hown5
                       have hI5 : Ints w5 w5.heap.size A5 n5 (I5.getD b []) := Ints.of_own hown5
                       have hg5b : w5.cell? ⟨gI, b, none⟩ = some (.slice A5 n5 c5) := hg5
                       have hk5 : I5.getD b [] = I.getD b [] := by
                         rcases r with _ | _
                         · rw [(hF5 rfl).2.1]
                         · exact (hT5 rfl).keep b hbn hb2s
                       have hn5 : n5 = nk := by rw [← hI5.len, hk5, hnk]
                       subst hn5
                       obtain ⟨bB, hA5⟩ : ∃ bB, A5 = some ⟨bB, 0, none⟩ := by
                         rcases hown5.at0 with h3 | h3
                         · obtain ⟨_, _, h4, _⟩ := hI5.2 (by omega)
                           have h3' : A5 = none := h3
                           rw [h3'] at h4; cases h4
                         · exact h3
                       subst hA5
                       have hfz : w5.frozen? ⟨bB, k, none⟩ = false := World.ownsRow.frozenAt hown5 k
                       have hcz5 : w5.cell? ⟨bB, k, none⟩ = some (.int .i64 ((I5.getD b []).getD k 0)) := by
                         obtain ⟨b9, o9, h4, _, h5⟩ := hI5.2 (by omega)
                         injection h4 with h4; injection h4 with h4 h6
                         subst h4 h6
                         simpa using h5 k hkn
                       have HT5 := Lib.hid hT5
                       have HF5 := Lib.hid hF5
                       clear hT5 hF5
                       rcases r with _ | _)
          all_goals (first
            | (obtain ⟨e1, e2, hC, hh⟩ := HF5.out (by simp)
               subst e1 e2
               go_wp2
               go_roundw
               case rel =>
                 refine ⟨k + 1, s5, by omega, by go_num, hG5, hB5, hb4.trans hb5, Lib.hid ⟨HP2.out.1.trans hle5, HP2.out.2.1.trans hC hle5, fun i hi j2 hj2 => ?_⟩⟩
                 rcases Nat.lt_succ_iff_lt_or_eq.1 hi with h1 | rfl
                 · intro h hh2
                   obtain ⟨c, h3, h4, h5⟩ := HP2.out.2.2 i h1 j2 hj2 h hh2
                   exact ⟨c, h3, h4, hle5 c h5⟩
                 · rw [HJE.out] at hj2
                   obtain rfl : j = j2 := by omega
                   exact hh
               case measure => simp [intOf]; omega)
            | (have hY := HT5.out (by simp)
               have hG6 := hG5.setRow (x := k) (y := (item : Int)) hbn (by rw [hbb5])
               have hB6 := hB5.step ((Step.refl bB w5).set k (.int .i64 (item : Int))) (hB5.ne_own hown5)
               have hbB : base ≤ bB := (World.ownsRow.lt hown5 bB rfl).1
               have hb6 := (hb4.trans hb5).setCell (p := ⟨bB, k, none⟩) hbB (.int .i64 (item : Int))
               go_wp2
               go_ret
               refine ⟨true, _, _, _, rfl, hG6, hB6, hb6, hle2.trans hle5, fun _ => ?_, fun e => by cases e⟩
               have hkl : k < (I.getD b []).length := by rw [hnk]; exact hkn
               exact PlY.swap HS.out hle2 hbn (Un.of HP.out.1 hsb) hb2s (by rw [List.getElem?_eq_getElem hkl, ← getD_gets _ _ hkl, HJE.out]) HMT.out (by rw [← HMH.out]; exact him) HNU.out hY hG5.ln))
        · obtain rfl : k = nk := by omega
          go_wp2
          go_roundw
          case rel =>
            have hle2 : LeB sn s2 := (LeB.set_ _ _).trans HP2.out.1
            have hb2s : s2.getD b false = true := HP2.out.1 b (getD_set_true sn b (by omega))
            refine ⟨t + 1, s2, by omega, by go_num, hG4, hB4, hb4, Lib.hid ⟨HP.out.1.trans hle2, HP.out.2.1.trans (fun c hc hs hu => ?_) hle2, fun i hi => ?_⟩⟩
            · by_cases e : b = c
              · subst e
                refine ⟨by omega, fun j hj => ?_⟩
                obtain ⟨i, hi, hi2⟩ := List.getElem_of_mem hj
                exact HP2.out.2.2 i (by rw [← hnk]; exact hi) j (by rw [getD_gets _ _ hi]; exact hi2)
              · exact HP2.out.2.1 c hc hs (by unfold Un at *; rw [getD_set_bool _ _ _ (by omega), if_neg e]; exact hu)
            · rcases Nat.lt_succ_iff_lt_or_eq.1 hi with h1 | rfl
              · obtain ⟨c, h2, h3, h4⟩ := HP.out.2.2 i h1
                exact ⟨c, h2, h3, hle2 c h4⟩
              · exact ⟨b, HBE.out, hbn, hb2s⟩
          case measure => simp [intOf]; omega
    · rw [hsb] at hsc
      go_wp2
      go_roundw
      case rel =>
        refine ⟨t + 1, sn, by omega, by go_num, hGz, hBz, hbz, Lib.hid ⟨HP.out.1, HP.out.2.1, fun i hi => ?_⟩⟩
        rcases Nat.lt_succ_iff_lt_or_eq.1 hi with h1 | rfl
        · exact HP.out.2.2 i h1
        · exact ⟨b, HBE.out, hbn, hsb⟩
      case measure => simp [intOf]; omega
  · obtain rfl : t = n1 := by omega
    go_wp2
    go_ret
    refine ⟨false, bs, I, sn, rfl, hGz, hBz, hbz, HP.out.1, (fun e => by cases e), fun _ => ⟨rfl, rfl, HP.out.2.1, fun x hx => ?_⟩⟩
    obtain ⟨i, hi, rfl⟩ := List.getElem_of_mem hx
    obtain ⟨c, h1, h2⟩ := HP.out.2.2 i (by rw [← hI1.len]; exact hi)
    refine ⟨c, ?_, h2⟩
    rw [← h1, getD_gets _ _ hi]
end Go.Proofs.YtmcgnpdfpfgfpaaGreatDoor

/-! Plc2 -/
namespace Go.Proofs.YtmcgnpdfpfgfpaaGreatDoor
open Go.RowKit
set_option linter.unusedVariables false

theorem info_rowP : (Tryz.prog.info? 22).map (fun i => (i.zero, i.size, i.bytes)) = some (some (.slice none 0 0), 1, 24) := by kernel_rfl
theorem un_none (nb b : Nat) : Un (List.replicate nb false) b := by
  unfold Un
  rw [List.getD_eq_getElem?_getD, List.getElem?_replicate]
  split <;> rfl
theorem pls_start (H : List (List Int)) (nb room : Nat) (us : Nat → Nat) (seen : List Bool) (hu : ∀ b, b < nb → us b ≤ room) : PlS H nb room us seen (List.replicate nb []) := by
  have h0 : ∀ b, (List.replicate nb ([] : List Int)).getD b [] = [] := fun b => by
    rw [List.getD_eq_getElem?_getD, List.getElem?_replicate]; split <;> rfl
  exact ⟨fun b _ _ x hx => (by rw [h0] at hx; cases hx), fun b hb _ => (by rw [h0]; simpa using hu b hb), fun b _ _ => (by rw [h0]; exact List.nodup_nil), fun b c _ _ _ _ _ x hx => (by rw [h0] at hx; cases hx)⟩
theorem inu_start (nb : Nat) (seen : List Bool) (x : Int) : ¬ InU nb seen (List.replicate nb []) x := fun ⟨b, _, _, h⟩ => by
  rw [List.getD_eq_getElem?_getD, List.getElem?_replicate] at h
  split at h <;> cases h

/-- What Possible leaves. -/
def PosPost (H : List (List Int)) (nb room : Nat) (us : Nat → Nat) (w : World) (e : Ending) (w' : World) : Prop :=
  ∃ r : Bool, e = .returned (.bool r) ∧ (r = true ↔ ∃ φ, PlcL H nb room us φ) ∧ Below w.heap.size w w'

set_option maxRecDepth 100000 in
set_option maxHeartbeats 4000000 in
theorem possible_any (H : List (List Int)) (nb room m : Nat) (us : Nat → Nat) (HA U : Option Addr) (hc uc : Nat) (uL : List Int) (w : World) (hnb : nb ≤ 1000) (hro : room ≤ 1000) (hm1 : m ≤ 1000) (hM : Mat w 0 w.heap.size HA m H) (hU : Ints w w.heap.size U nb uL) (hUn : ∀ b, b < nb → uL.getD b 0 = (us b : Int) ∧ us b ≤ room) (hHV : ∀ j, j < m → ∀ x ∈ H.getD j [], ∃ c : Nat, x = (c : Int) ∧ c < nb) :
    Calls Tryz.prog 109 #[.slice HA m hc, .int .i64 nb, .int .i64 room, .slice U nb uc] w (PosPost H nb room us w) := by
  obtain ⟨i9, hi9, hy0, hy1, hy2⟩ := info_parts info_rowP
  obtain ⟨ib, hib, hb0', hb1', hb2'⟩ := info_parts info_bool
  have HML := Lib.hid hM.len
  have HPL := Lib.hid (fun (N : Nat) => place_any H nb room m w.heap.size 0 w.heap.size N us HA U hc uc uL w hnb hro hM.len.symm hM hU (Nat.le_refl _) (fun b hb => ⟨(hUn b hb).1, by have := (hUn b hb).2; omega⟩) hHV nb)
  have HS0 := Lib.hid (pls_start H nb room us (List.replicate nb false) fun b hb => (hUn b hb).2)
  clear hUn hHV hU
  go_enter Tryz.func109, Tryz.ntmps109
  go_wp2_with (at_make
               refine wpList_make_full _ rfl _ _ 45 rfl w.heap.size 22 i9 (.slice none 0 0) 1 Tryz.underlying45 hi9 hy0 hy1 .i64 .i64 nb nb nb rfl rfl rfl rfl (by rw [hy2]; omega) (by unfold maxLen; omega) (Nat.le_refl _) ?_
               intro w4 hown4 hgr4
               rw [made_rows] at hown4
               have hG4 := GrW.start hown4
               have hb4 := (Below.refl w.heap.size w).grown hgr4 (Nat.le_refl _) (fun k hk => by cases hk)
               clear hown4 hgr4)
  go_loopw [16] (fun v16 wz => ∃ (i : Nat) (bs : List (Option Addr × Nat × Nat)) (I : List (List Int)), i ≤ m ∧ v16 = .int .i64 i ∧ GrW wz w.heap.size w.heap.size nb bs I ∧ Below w.heap.size w wz ∧ Hid (PlS H nb room us (List.replicate nb false) I ∧ ∀ x, InU nb (List.replicate nb false) I x ↔ ∃ j : Nat, j < i ∧ x = (j : Int))) (fun v16 _ => m - (intOf v16).toNat)
  case atStart => exact ⟨0, _, _, Nat.zero_le _, rfl, hG4, hb4, Lib.hid ⟨HS0.out, fun x => ⟨fun h => absurd h (inu_start _ _ _), fun ⟨j, hj, _⟩ => absurd hj (Nat.not_lt_zero _)⟩⟩⟩
  case round =>
  obtain ⟨i, bs, I, hi, rfl, hG, hbz, HI⟩ := hrel
  clear hb4 hG4
  by_cases him : i < m
  · have himi : (i : Int) < (m : Int) := by omega
    have hle := hbz.size
    have HNU : Hid (¬ InU nb (List.replicate nb false) I (i : Int)) := Lib.hid fun h => by
      obtain ⟨j, hj, e⟩ := (HI.out.2 _).1 h
      omega
    go_wp2_with (first
      | (at_make
         refine wpList_make_full _ rfl _ _ 139 rfl w.heap.size 4 ib (.bool false) 1 Tryz.underlying139 hib hb0' hb1' .i64 .i64 nb nb nb rfl rfl rfl rfl (by rw [hb2']; omega) (by unfold maxLen; omega) hle ?_
         intro w5 hown5 hgr5
         rw [made_bools] at hown5
         have hb5 := (Below.refl wr.heap.size wr).grown hgr5 (Nat.le_refl _) (fun k hk => by cases hk)
         have hB5 : BlW w5 w.heap.size wr.heap.size nb (List.replicate nb false) := hown5
         have hG5 := hG.belowAll hb5
         have hbz5 := bnext hbz hb5
         have HCALL := Lib.hid (HPL.out wr.heap.size bs (List.replicate nb false) I i w5 (by omega) him hbz5 hG5 hB5 HI.out.1 HNU.out)
         clear hown5 hgr5 hb5 hG)
      | (go_at_call 134; refine (HCALL.out).mono ?_; rintro e w6 ⟨r, bs6, I6, s6, rfl, hG6, hB6, hb6, hle6, hT6, hF6⟩
         have HT6 := Lib.hid hT6
         have HF6 := Lib.hid hF6
         have hbz6 := hbz5.trans hb6
         clear hT6 hF6 hB6 hb6 hB5 hG5
         rcases r with _ | _))
    · obtain ⟨_, _, hC, hh⟩ := HF6.out (by simp)
      go_ret
      exact ⟨false, rfl, ⟨fun h => (by cases h), fun ⟨φ, h⟩ => absurd h (fail_top HI.out.1 (un_none nb) HI.out.2 (by rw [HML.out]; exact him) hC hh φ)⟩, hbz6⟩
    · have hY := HT6.out (by simp)
      go_roundw
      case rel => exact ⟨i + 1, bs6, I6, by omega, by go_num, hG6, hbz6, Lib.hid ⟨hY.s, fun x => by
        rw [hY.mem, HI.out.2]
        constructor
        · rintro (rfl | ⟨j, hj, e⟩)
          · exact ⟨i, by omega, rfl⟩
          · exact ⟨j, by omega, e⟩
        · rintro ⟨j, hj, e⟩
          rcases Nat.lt_succ_iff_lt_or_eq.1 hj with h1 | rfl
          · exact .inr ⟨j, h1, e⟩
          · exact .inl e⟩⟩
      case measure => simp [intOf]; omega
  · obtain rfl : i = m := by omega
    go_wp2
    go_ret
    have h1 := HI.out.2
    rw [← HML.out] at h1
    exact ⟨true, rfl, ⟨fun _ => all_placed HI.out.1 (un_none nb) h1, fun _ => rfl⟩, hbz⟩
end Go.Proofs.YtmcgnpdfpfgfpaaGreatDoor

/-! Plc3 -/
namespace Go.Proofs.YtmcgnpdfpfgfpaaGreatDoor
open Go.RowKit
set_option linter.unusedVariables false

/-- How many items lie in a bucket. -/
def usF (ys : List Int) (b : Nat) : Nat := (ys.filter fun y => decide (y = (b : Int))).length
theorem usF_snoc (ys : List Int) (x b : Nat) : usF (ys ++ [(x : Int)]) b = if b = x then usF ys b + 1 else usF ys b := by
  unfold usF
  rw [List.filter_append, List.length_append]
  by_cases h : b = x
  · subst h; simp
  · rw [if_neg h]
    have : ¬ ((x : Int) = (b : Int)) := by omega
    simp [this]
theorem Mat.cut {w : World} {lo B n cap k : Nat} {A : Option Addr} {rows : List (List Int)} (h : Mat w lo B A n rows) (hk : k ≤ n) (hc : n ≤ cap) : Mat w lo B (if cap = k then A else A.map (·.add k)) (n - k) (rows.drop k) := by
  refine ⟨by rw [List.length_drop, h.1], fun hn => ?_⟩
  obtain ⟨b, off, rfl, hl, hb, hcell⟩ := h.2 (by omega)
  rw [if_neg (by omega)]
  refine ⟨b, off + k, by by_cases h0 : k = 0 <;> simp [Addr.add, h0], hl, hb, fun j hj => ?_⟩
  obtain ⟨A', n', c', h1, h2, h3, h4⟩ := hcell (k + j) (by omega)
  refine ⟨A', n', c', by rw [Nat.add_assoc]; exact h1, h2, ?_, h4⟩
  rw [List.getD_eq_getElem?_getD, List.getElem?_drop, ← List.getD_eq_getElem?_getD]; exact h3
theorem drop_cons_getD (H : List (List Int)) {i : Nat} (hi : i < H.length) : H.drop i = H.getD i [] :: H.drop (i + 1) := by
  rw [List.drop_eq_getElem_cons hi, List.getD_eq_getElem?_getD, List.getElem?_eq_getElem hi]; rfl
theorem getD_setI (l : List Int) (j i : Nat) (v : Int) (hj : j < l.length) : (l.set j v).getD i 0 = if i = j then v else l.getD i 0 := by
  rw [List.getD_eq_getElem?_getD, List.getElem?_set, List.getD_eq_getElem?_getD]
  by_cases h : j = i
  · rw [if_pos h, if_pos hj, if_pos h.symm]; rfl
  · rw [if_neg h, if_neg (fun e => h e.symm)]
/-- The places found so far. -/
structure FsR (H : List (List Int)) (nb room i : Nat) (ys uL : List Int) : Prop where
  len : ys.length = i
  mem : ∀ j, j < i → ys.getD j 0 ∈ H.getD j [] ∧ ∃ c : Nat, ys.getD j 0 = (c : Int) ∧ c < nb
  us : ∀ b, b < nb → uL.getD b 0 = (usF ys b : Int) ∧ usF ys b ≤ room
  rest : ∃ φ, PlcL (H.drop i) nb room (usF ys) φ
/-- What First leaves. -/
def FstPost (H : List (List Int)) (nb room : Nat) (w : World) (e : Ending) (w' : World) : Prop :=
  ((∃ (A : Option Addr) (c : Nat) (ys : List Int), e = .returned (.tuple #[.slice A H.length c, .bool true]) ∧ OwnI w' w.heap.size 3 A H.length c ys ∧ (∀ j, j < H.length → ys.getD j 0 ∈ H.getD j [] ∧ ∃ c : Nat, ys.getD j 0 = (c : Int) ∧ c < nb) ∧ ∀ b, b < nb → usF ys b ≤ room) ∨
    (e = .returned (.tuple #[.slice none 0 0, .bool false]) ∧ ¬ ∃ φ, PlcL H nb room (fun _ => 0) φ)) ∧ Below w.heap.size w w'

set_option maxRecDepth 100000 in
set_option maxHeartbeats 8000000 in
theorem first19_any (H : List (List Int)) (nb room m : Nat) (HA : Option Addr) (hc : Nat) (w : World) (hnb : nb ≤ 1000) (hro : room ≤ 1000) (hm1 : m ≤ 1000) (hmc : m ≤ hc) (hM : Mat w 0 w.heap.size HA m H) (hHV : ∀ j, j < m → ∀ x ∈ H.getD j [], ∃ c : Nat, x = (c : Int) ∧ c < nb) :
    Calls Tryz.prog 75 #[.slice HA m hc, .int .i64 nb, .int .i64 room] w (FstPost H nb room w) := by
  obtain ⟨i0, hi0, hz0, hz1, hz2⟩ := info_parts info_int
  have HML := Lib.hid hM.len
  have HHV := Lib.hid hHV
  clear hHV
  go_enter Tryz.func75, Tryz.ntmps75
  go_upto_region 2 with (at_make
                         refine wpList_make_full _ rfl _ _ 22 rfl w.heap.size 3 i0 (.int .i64 0) 1 Tryz.underlying22 hi0 hz0 hz1 .i64 .i64 nb nb nb rfl rfl rfl rfl (by rw [hz2]; omega) (by unfold maxLen; omega) (Nat.le_refl _) ?_
                         intro w4 hown4 hgr4
                         rw [made_zeros] at hown4
                         have hU4 : OwnI w4 w.heap.size 3 (some ⟨w.heap.size, 0, none⟩) nb nb (List.replicate nb 0) := hown4
                         have hb4 := (Below.refl w.heap.size w).grown hgr4 (Nat.le_refl _) (fun k hk => by cases hk)
                         clear hown4 hgr4)
  have HU0 : Hid (∀ b, b < nb → (List.replicate nb (0 : Int)).getD b 0 = ((0 : Nat) : Int) ∧ 0 ≤ room) := Lib.hid fun b hb => ⟨by rw [List.getD_eq_getElem?_getD, List.getElem?_replicate, if_pos hb]; rfl, Nat.zero_le _⟩
  have HCALL := Lib.hid (possible_any H nb room m (fun _ => 0) HA (some ⟨w.heap.size, 0, none⟩) hc nb (List.replicate nb 0) w4 hnb hro hm1 ((hM.below hb4).more hb4.size) hU4.ints HU0.out HHV.out)
  go_upto_region 4 with (go_at_call 109
                         refine (HCALL.out).mono ?_
                         rintro e w5 ⟨r, rfl, hr, hb5⟩
                         have HR := Lib.hid hr
                         clear hr
                         rcases r with _ | _)
  · go_ret2
    exact ⟨.inr ⟨rfl, fun h => by have := HR.out.2 h; cases this⟩, bnext hb4 hb5⟩
  have hφ := HR.out.1 trivial
  have hU5 := hU4.belowAll hb5
  have hbw5 := bnext hb4 hb5
  have hF5 : Hid (FsR H nb room 0 [] (List.replicate nb 0)) := Lib.hid ⟨rfl, fun j hj => absurd hj (Nat.not_lt_zero _), HU0.out, hφ⟩
  clear HR hφ hb4 hb5 hU4 HCALL HU0
  go_wp2
  go_loopw [9, 24] (fun v9 v24 wz => ∃ (i : Nat) (A : Option Addr) (c : Nat) (ys uL : List Int), i ≤ m ∧ v9 = .slice A i c ∧ v24 = .int .i64 i ∧ OwnI wz w.heap.size 3 A i c ys ∧ OwnI wz w.heap.size 3 (some ⟨w.heap.size, 0, none⟩) nb nb uL ∧ (Value.slice A i c).ownBlock ≠ some w.heap.size ∧ Below w.heap.size w wz ∧ Hid (FsR H nb room i ys uL)) (fun _ v24 _ => m - (intOf v24).toNat)
  case atStart => exact ⟨0, none, 0, [], _, Nat.zero_le _, rfl, rfl, OwnI.nil_, hU5, (by simp [Value.ownBlock]), hbw5, hF5⟩
  case round =>
  obtain ⟨i, A, c, ys, uL, hi, rfl, rfl, hA, hU, hap, hbz, HF⟩ := hrel
  clear hU5 hbw5 hF5
  by_cases him : i < m
  · have himi : (i : Int) < (m : Int) := by omega
    have hii0 : (0 : Int) ≤ (i : Int) := by omega
    obtain ⟨bH, oH, A1, n1, c1, rfl, _, hbH, hcH, hn1, hI1, _⟩ := (hM.below hbz).at_ him
    go_wp2
    go_loopw [9, 31] (fun v9 v31 wz => ∃ (k : Nat) (uL : List Int), k ≤ n1 ∧ v9 = .slice A i c ∧ v31 = .int .i64 k ∧ OwnI wz w.heap.size 3 A i c ys ∧ OwnI wz w.heap.size 3 (some ⟨w.heap.size, 0, none⟩) nb nb uL ∧ Below w.heap.size w wz ∧ Hid (FsR H nb room i ys uL) ∧ Hid (∀ j, j < k → ∀ x : Nat, (H.getD i []).getD j 0 = (x : Int) → usF ys x = room ∨ ¬ ∃ φ, PlcL (H.drop (i + 1)) nb room (fun b => if b = x then usF ys b + 1 else usF ys b) φ)) (fun _ v31 _ => n1 - (intOf v31).toNat)
    case atStart => exact ⟨0, _, Nat.zero_le _, rfl, rfl, hA, hU, hbz, HF, Lib.hid fun j hj => absurd hj (Nat.not_lt_zero _)⟩
    case round =>
    obtain ⟨k, uK, hk, rfl, rfl, hA2, hU2, hb2, HF2, HN⟩ := hrel
    by_cases hkn : k < n1
    · have hkni : (k : Int) < (n1 : Int) := by omega
      obtain ⟨b1, o1, rfl, hbb1, hc1⟩ := hI1.2 (by omega)
      have hck := (hb2.cell (p := ⟨b1, o1 + k, none⟩) hbb1).trans ((hbz.cell (p := ⟨b1, o1 + k, none⟩) hbb1).symm.trans (hc1 k hkn))
      have hmk : (H.getD i []).getD k 0 ∈ H.getD i [] := by
        rw [getD_gets _ _ (by rw [hI1.len]; exact hkn)]; exact List.getElem_mem _
      obtain ⟨b, hbe, hbn⟩ := HHV.out i him _ hmk
      rw [hbe] at hck hmk
      have HBE := Lib.hid hbe
      have HMK := Lib.hid hmk
      clear hc1 hbe hmk
      have hbi0 : (0 : Int) ≤ (b : Int) := by omega
      have hbin : (b : Int) < (nb : Int) := by omega
      have hub := hU2.cellAt hbn
      have huf := hU2.frozenAt b
      obtain ⟨hu1, hu2⟩ := HF2.out.us b hbn
      rw [hu1] at hub
      have HU1 := Lib.hid hu1
      clear hu1
      have hubd : wr.drew.cell? ⟨w.heap.size, b, none⟩ = some (.int .i64 (usF ys b : Int)) := hub
      obtain ⟨u, hue⟩ : ∃ u, usF ys b = u := ⟨_, rfl⟩
      rw [hue] at hub hubd hu2
      have HUE := Lib.hid hue
      clear hue
      by_cases hfull : u = room
      · have hq : ((u : Int) == (room : Int)) = true := by simp; omega
        have HFU := Lib.hid hfull
        clear hfull
        go_wp2
        go_roundw
        case rel => exact ⟨k + 1, uK, by omega, rfl, by go_num, hA2, hU2, hb2, HF2, Lib.hid fun j hj x hx => by
          rcases Nat.lt_succ_iff_lt_or_eq.1 hj with h1 | rfl
          · exact HN.out j h1 x hx
          · rw [HBE.out] at hx
            obtain rfl : b = x := by omega
            exact .inl (HUE.out.trans HFU.out)⟩
        case measure => simp [intOf]; omega
      · have hq : ((u : Int) == (room : Int)) = false := by simp; omega
        have hlt : u < room := by omega
        clear hfull
        go_upto_region 13 with (fail)
        obtain ⟨wS, hwS⟩ : ∃ v, wr.setCell ⟨w.heap.size, b, none⟩ (.int .i64 ((u : Int) + 1)) = v := ⟨_, rfl⟩
        have hsS : Step w.heap.size wr wS := by rw [← hwS]; exact (Step.refl _ _).set b _
        have hUS : OwnI wS w.heap.size 3 (some ⟨w.heap.size, 0, none⟩) nb nb (uK.set b ((u : Int) + 1)) := by rw [← hwS]; exact hU2.stored b _
        have hAS : OwnI wS w.heap.size 3 A i c ys := hA2.kept hsS (.inr hap)
        have hbS : Below w.heap.size w wS := by rw [← hwS]; exact hb2.setCell (Nat.le_refl _) _
        rw [hwS]
        have HUL : Hid (∀ x, x < nb → (uK.set b ((u : Int) + 1)).getD x 0 = (((if x = b then usF ys x + 1 else usF ys x) : Nat) : Int) ∧ (if x = b then usF ys x + 1 else usF ys x) ≤ room) := Lib.hid fun x hx => by
          rw [getD_setI _ _ _ _ (by rw [hU2.len]; exact hbn)]
          obtain ⟨h1, h2⟩ := HF2.out.us x hx
          by_cases e : x = b
          · subst e
            rw [if_pos rfl, if_pos rfl, HUE.out]
            exact ⟨by omega, by omega⟩
          · rw [if_neg e, if_neg e]
            exact ⟨h1, h2⟩
        have HHD : Hid (∀ j, j < m - (i + 1) → ∀ x ∈ (H.drop (i + 1)).getD j [], ∃ c : Nat, x = (c : Int) ∧ c < nb) := Lib.hid fun j hj x hx => by
          rw [List.getD_eq_getElem?_getD, List.getElem?_drop, ← List.getD_eq_getElem?_getD] at hx
          exact HHV.out _ (by omega) x hx
        have HMS := Lib.hid (((hM.below hbS).more hbS.size).cut (k := i + 1) (cap := hc) (by omega) hmc)
        have hi1 : IntKind.i64.wrap ((i : Int) + 1) = (i : Int) + 1 := IntWalk.i64_in _ (by omega)
        have HXS : Hid ((uK.set b ((u : Int) + 1)).getD b 0 = (u : Int) + 1) := Lib.hid (by rw [getD_setI _ _ _ _ (by rw [hU2.len]; exact hbn), if_pos rfl])
        clear hub hubd huf hwS hck hU2 hA2
        obtain ⟨HA2, hHA2⟩ : ∃ v, (if hc = i + 1 then some (⟨bH, oH, none⟩ : Addr) else (some (⟨bH, oH, none⟩ : Addr)).map (·.add (i + 1))) = v := ⟨_, rfl⟩
        have HMT := HMS.out
        rw [hHA2] at HMT
        have HCALL := Lib.hid (fun (cc mm : Nat) (hmm : m - (i + 1) = mm) => possible_any (H.drop (i + 1)) nb room mm (fun x => if x = b then usF ys x + 1 else usF ys x) HA2 (some ⟨w.heap.size, 0, none⟩) cc nb (uK.set b ((u : Int) + 1)) wS hnb hro (by omega) (by rw [← hmm]; exact HMT) hUS.ints HUL.out (by rw [← hmm]; exact HHD.out))
        clear HMT HMS
        have HA2E : hc = i + 1 ∧ HA2 = some ⟨bH, oH, none⟩ ∨ ¬ hc = i + 1 ∧ HA2 = some ⟨bH, oH + (i + 1), none⟩ := by
          by_cases hcap : hc = i + 1
          · rw [if_pos hcap] at hHA2; exact .inl ⟨hcap, hHA2.symm⟩
          · rw [if_neg hcap] at hHA2; exact .inr ⟨hcap, by rw [← hHA2]; simp [Addr.add]⟩
        clear hHA2
        have hnp : (Value.slice A i c).ownBlock ≠ some w.heap.size := hap
        rcases HA2E with ⟨rfl, rfl⟩ | ⟨hcap, rfl⟩
        all_goals
          go_wp2_with (first
            | (go_at_call 109
               refine (HCALL.out _ _ (by omega)).mono ?_
               rintro e w5 ⟨r, rfl, hr, hb5⟩
               have HR := Lib.hid hr
               clear hr
               have hb5w := bnext hbS hb5
               have hU5 := hUS.belowAll hb5
               have hA5 := hAS.belowAll hb5
               have hub5 := hU5.cellAt hbn
               have huf5 := hU5.frozenAt b
               rw [HXS.out] at hub5
               have hub5d : w5.drew.cell? ⟨w.heap.size, b, none⟩ = some (.int .i64 ((u : Int) + 1)) := hub5
               have hA5a := hA5.alloc (.cells #[.int .i64 (b : Int)] 3)
               have hle5 := hb5w.size
               clear hb5
               rcases r with _ | _)
            | (at_builtin
               refine wpList_append_ints rfl _ _ 22 rfl w.heap.size 3 i0 _ Tryz.underlying22 hi0 hz0 hz1 hz2 rfl A i c _ rfl hA5a _ _ 1 1 [(b : Int)] rfl (Ints.oneAt _ _ _ _ rfl) (i + 1) rfl _ rfl (by omega) (le_alloc hle5 _) ?_
               intro A7 c7 w7 hown7 hgr7 hb7 hab7))
          · go_roundw
            case rel => exact ⟨k + 1, (uK.set b ((u : Int) + 1)).set b (u : Int), by omega, rfl, by go_num, hA5.kept ((Step.refl _ _).set b _) (.inr hnp), hU5.stored b _, hb5w.setCell (Nat.le_refl _) _, Lib.hid ⟨HF2.out.len, HF2.out.mem, fun x hx => (by
              rw [getD_setI _ _ _ _ (by rw [hU5.len]; exact hbn)]
              by_cases e : x = b
              · subst e
                rw [if_pos rfl]
                have := HUE.out
                exact ⟨by rw [this], by omega⟩
              · rw [if_neg e]
                have := HUL.out x hx
                rw [if_neg e] at this
                exact this), HF2.out.rest⟩, Lib.hid fun j hj x hx => (by
              rcases Nat.lt_succ_iff_lt_or_eq.1 hj with h1 | rfl
              · exact HN.out j h1 x hx
              · rw [HBE.out] at hx
                obtain rfl : b = x := by omega
                exact .inr (fun h => by have := HR.out.2 h; cases this))⟩
            case measure => simp [intOf]; omega
          · go_roundw
            case rel => exact ⟨i + 1, A7, c7, ys ++ [(b : Int)], _, by omega, rfl, by go_num, hown7, (hU5.alloc _).kept hgr7 (.inr (fun e => hap (by rw [← e]; rfl))), (by
              rcases hab7 with h7 | h7
              · rw [h7]; exact hap
              · rw [h7]; intro e; injection e with e; simp at e; omega), (hb5w.alloc hle5 _).trans hb7, Lib.hid ⟨by rw [List.length_append, HF2.out.len]; rfl, fun j hj => (by
                rcases Nat.lt_succ_iff_lt_or_eq.1 hj with h1 | rfl
                · have h2 : (ys ++ [(b : Int)]).getD j 0 = ys.getD j 0 := by
                    rw [List.getD_eq_getElem?_getD, List.getElem?_append_left (by rw [HF2.out.len]; exact h1), ← List.getD_eq_getElem?_getD]
                  rw [h2]
                  exact HF2.out.mem j h1
                · have h2 : (ys ++ [(b : Int)]).getD j 0 = (b : Int) := by
                    rw [List.getD_eq_getElem?_getD, List.getElem?_append_right (by rw [HF2.out.len]; exact Nat.le_refl _), HF2.out.len, Nat.sub_self]; rfl
                  rw [h2]
                  exact ⟨HMK.out, b, rfl, hbn⟩), fun x hx => (by
                rw [usF_snoc]
                exact HUL.out x hx), (by
                have := HR.out.1 trivial
                rw [show usF (ys ++ [(b : Int)]) = fun x => if x = b then usF ys x + 1 else usF ys x from funext fun x => usF_snoc ys b x]
                exact this)⟩⟩
            case measure => simp [intOf]; omega
    · obtain rfl : k = n1 := by omega
      exfalso
      obtain ⟨φ, hP⟩ := HF2.out.rest
      rw [drop_cons_getD H (by rw [HML.out]; exact him)] at hP
      obtain ⟨h1, h2, h3, h4⟩ := plcL_cons hP
      obtain ⟨j, hj, hj2⟩ := List.getElem_of_mem h1
      rcases HN.out j (by rw [← hI1.len]; exact hj) (φ 0) (by rw [getD_gets _ _ hj]; exact hj2) with h5 | h5
      · omega
      · exact h5 ⟨_, h4⟩
  · obtain rfl : i = m := by omega
    go_wp2
    go_ret2
    rw [← HML.out] at hA
    refine ⟨.inl ⟨A, c, ys, by simp [HML.out], hA, fun j hj => HF.out.mem j (by rw [← HML.out]; exact hj), fun b hb => (HF.out.us b hb).2⟩, hbz⟩
end Go.Proofs.YtmcgnpdfpfgfpaaGreatDoor
