/-
  What slices.CompactFunc hands back, for list's equality: a beginning of the row, in which each value's like is left. Conditions: the row's values read as lists.
-/
import Derived.Test.YtmcgnpdfpfgfpaaGreatDoorGSrF
import Derived.Lib.SliceRun
namespace Go.Proofs.YtmcgnpdfpfgfpaaGreatDoor
open Go.RowKit
set_option linter.unusedVariables false

/-- What is asked of the equality: on the row's values it tells, by the values alone, and 'yes' only where they are alike. -/
def EqV (w0 : World) (b : Nat) (vs0 : List Value) (E : Value → Value → Prop) (ev : Value → Value → Bool) : Prop := (∀ W, Step b w0 W → ∀ x ∈ vs0, ∀ y ∈ vs0, Calls Tryz.prog 100 #[x, y] W fun e w' => e = .returned (.bool (ev x y)) ∧ W = w') ∧ ∀ x ∈ vs0, ∀ y ∈ vs0, ev x y = true → E x y
theorem EqV.quiet {w0 w : World} {b : Nat} {vs0 : List Value} {E : Value → Value → Prop} {ev : Value → Value → Bool} (h : EqV w0 b vs0 E ev) (hS : Step b w0 w) {x y : Value} (hx : x ∈ vs0) (hy : y ∈ vs0) (q : Nat) :
    Calls Tryz.prog 100 #[x, y] (w.drewN q) fun e w' => e = .returned (.bool (ev x y)) ∧ ∃ m, w' = w.drewN m :=
  (h.1 _ (hS.drewN q) x hx y hy).mono fun _ _ ⟨he, hw⟩ => ⟨he, q, hw.symm⟩

/-- What CompactFunc leaves: the first m places hold values of the row, and each value's like is among them. -/
def CptPost (w0 : World) (base b n c : Nat) (vs : List Value) (E : Value → Value → Prop) (e : Ending) (w' : World) : Prop :=
  ∃ (m : Nat) (us : List Value), e = .returned (.slice (some ⟨b, 0, none⟩) m c) ∧ m ≤ n ∧ w'.ownsRow base 22 1 (.slice (some ⟨b, 0, none⟩) n c) n us ∧ Step b w0 w' ∧ (∀ j, j < m → ∃ v, us[j]? = some v ∧ v ∈ vs) ∧ ∀ v ∈ vs, ∃ j, j < m ∧ ∃ u, us[j]? = some u ∧ E v u

/-- A stretch of places to the row's end, all set to one value. -/
theorem owns_clear {base b n c : Nat} {e : TypeId} (z : Value) : ∀ (m o : Nat) {w : World} {us : List Value}, w.ownsRow base e 1 (.slice (some ⟨b, 0, none⟩) n c) n us →
    ∃ us', (w.setCells b o (List.replicate m z)).ownsRow base e 1 (.slice (some ⟨b, 0, none⟩) n c) n us' ∧ (∀ j, j < o → us'[j]? = us[j]?) ∧ Step b w (w.setCells b o (List.replicate m z))
  | 0, o, w, us, h => ⟨us, h, fun _ _ => rfl, Step.refl b w⟩
  | m + 1, o, w, us, h => by
    obtain ⟨us', h1, h2, h3⟩ := owns_clear z m (o + 1) (World.ownsRow.stored h o z).1
    refine ⟨us', h1, fun j hj => ?_, ((Step.refl b w).set o z).trans h3⟩
    rw [h2 j (by omega), List.getElem?_set, if_neg (by omega)]

set_option maxRecDepth 100000 in
set_option maxHeartbeats 4000000 in
theorem compact_any (base b n c : Nat) (vs : List Value) (E : Value → Value → Prop) (ev : Value → Value → Bool) (w w0 : World) (HE : Hid (EqV w0 b vs E ev)) (hrf : ∀ v, E v v) (htr : ∀ x y z, E x y → E y z → E x z) (hw : Step b w0 w) (hn : n ≤ 100000) (hnc : n ≤ c) (hown : w.ownsRow base 22 1 (.slice (some ⟨b, 0, none⟩) n c) n vs) (hsl : ∀ v ∈ vs, ∃ A k d, v = .slice A k d) :
    Calls Tryz.prog 99 #[.slice (some ⟨b, 0, none⟩) n c, .func (.func 100) #[] #[]] w (CptPost w0 base b n c vs E) := by
  have hvl : vs.length = n := by have := hown.1; omega
  have hat : ∀ j, j < n → ∃ A k d, vs[j]? = some (.slice A k d) ∧ Value.slice A k d ∈ vs := fun j hj => by
    obtain ⟨A, k, d, h1⟩ := hsl _ (List.getElem_mem (l := vs) (n := j) (by omega))
    exact ⟨A, k, d, by rw [List.getElem?_eq_getElem (by omega), h1], by rw [← h1]; exact List.getElem_mem _⟩
  have HAT := Lib.hid hat
  clear hat
  go_enter Tryz.func99, Tryz.ntmps99
  by_cases hn2 : n < 2
  · have hn2i : (n : Int) < 2 := by omega
    go_wp2
    go_ret
    refine ⟨n, vs, rfl, Nat.le_refl _, hown, hw, fun j hj => ?_, fun v hv => ?_⟩
    · obtain ⟨A, k, d, h1, h2⟩ := HAT.out j hj
      exact ⟨_, h1, h2⟩
    · obtain ⟨j, hj, rfl⟩ := List.getElem_of_mem hv
      exact ⟨j, by omega, _, List.getElem?_eq_getElem hj, hrf _⟩
  · have hn2i : ¬ (n : Int) < 2 := by omega
    go_wp2
    go_loopw [5] (fun v5 wz => ∃ k : Nat, v5 = .int .i64 k ∧ 1 ≤ k ∧ k ≤ n ∧ wz.ownsRow base 22 1 (.slice (some ⟨b, 0, none⟩) n c) n vs ∧ Step b w0 wz) (fun v5 _ => n - (intOf v5).toNat)
    case atStart => exact ⟨1, rfl, Nat.le_refl _, by omega, hown, hw⟩
    case round =>
      clear hown hw
      obtain ⟨k, rfl, hk1, hkn, hown, hw⟩ := hrel
      by_cases hlt : k < n
      · have hlti : (k : Int) < (n : Int) := by omega
        have hck : ¬ c = k := by omega
        obtain ⟨p, hp⟩ : ∃ p, k - 1 = p := ⟨_, rfl⟩
        have hpi : (k : Int) - 1 = (p : Int) := by omega
        obtain ⟨xA, xk, xd, hx, hxm⟩ := HAT.out k hlt
        obtain ⟨yA, yk, yd, hy, hym⟩ := HAT.out p (by omega)
        have hcx : wr.cell? ⟨b, k, none⟩ = some (.slice xA xk xd) := by rw [World.ownsRow.cellAt hown k (by omega)]; exact hx
        have hcy : wr.cell? ⟨b, p, none⟩ = some (.slice yA yk yd) := by rw [World.ownsRow.cellAt hown p (by omega)]; exact hy
        have hk0 : (0 : Int) ≤ (k : Int) := by omega
        have hp0 : (0 : Int) ≤ (p : Int) := by omega
        have hpn : (p : Int) < (n : Int) := by omega
        have HQ := Lib.hid (fun qq => HE.out.quiet hw hxm hym qq)
        obtain ⟨r, hr⟩ : ∃ r, ev (.slice xA xk xd) (.slice yA yk yd) = r := ⟨_, rfl⟩
        have HR := Lib.hid hr
        rw [hr] at HQ
        clear hr
        cases r
        · go_upto_region 6 with fail
          go_quiet ((go_at_call 100; exact HQ.out _))
          go_wp2
          go_roundw
          case rel => exact ⟨k + 1, by go_num, by omega, by omega, hown, hw.drewN nq⟩
          case measure => simp [intOf]; omega
        · go_upto_region 6 with fail
          go_quiet ((go_at_call 100; exact HQ.out _))
          go_upto_region 9 with fail
          have HRp : Hid (E (.slice xA xk xd) (.slice yA yk yd)) := Lib.hid (HE.out.2 _ hxm _ hym HR.out)
          have hown1 : (wr.drewN nq).ownsRow base 22 1 (.slice (some ⟨b, 0, none⟩) n c) n vs := hown
          have hw1 := hw.drewN nq
          clear hown hw HQ hcx hcy
          generalize wr.drewN nq = w1 at *
          obtain ⟨rn, hrn⟩ : ∃ t, n - k = t := ⟨_, rfl⟩
          rw [hrn]
          go_loopw [5, 7] (fun v5 v7 wz => ∃ (kw k2 : Nat) (us : List Value), v5 = .int .i64 kw ∧ v7 = .int .i64 k2 ∧ 1 ≤ k2 ∧ k2 ≤ rn ∧ k ≤ kw ∧ kw + 1 ≤ k + k2 ∧ wz.ownsRow base 22 1 (.slice (some ⟨b, 0, none⟩) n c) n us ∧ Step b w0 wz ∧
            Hid (∀ j, k + k2 ≤ j + 1 → us[j]? = vs[j]?) ∧ Hid (∀ j, j < kw → ∃ v, us[j]? = some v ∧ v ∈ vs) ∧ Hid (∀ t v, t < k + k2 → vs[t]? = some v → ∃ j, j < kw ∧ ∃ u, us[j]? = some u ∧ E v u)) (fun _ v7 _ => rn - (intOf v7).toNat)
          case atStart =>
            refine ⟨k, 1, vs, rfl, rfl, Nat.le_refl _, by omega, Nat.le_refl _, Nat.le_refl _, hown1, hw1, Lib.hid fun j _ => rfl, Lib.hid fun j hj => ?_, Lib.hid fun t v ht hv => ?_⟩
            · obtain ⟨A, kk, d, h1, h2⟩ := HAT.out j (by omega)
              exact ⟨_, h1, h2⟩
            · rcases Nat.lt_or_ge t k with h3 | h3
              · exact ⟨t, h3, v, hv, hrf _⟩
              · obtain rfl : t = k := by omega
                rw [hx] at hv
                cases hv
                exact ⟨p, by omega, _, hy, HRp.out⟩
          case round =>
            clear hown1 hw1
            obtain ⟨kw, k2, us, rfl, rfl, hk21, hk22, hkw1, hkw2, hown, hw, HU, HM, HP⟩ := hrel
            by_cases hlt2 : k2 < rn
            · have hlt2i : (k2 : Int) < (rn : Int) := by omega
              obtain ⟨p2, hp2⟩ : ∃ t, k2 - 1 = t := ⟨_, rfl⟩
              have hp2i : (k2 : Int) - 1 = (p2 : Int) := by omega
              obtain ⟨uA, uk, ud, hu, hum⟩ := HAT.out (k + k2) (by omega)
              obtain ⟨zA, zk, zd, hz, hzm⟩ := HAT.out (k + p2) (by omega)
              have hcu : wr.cell? ⟨b, k + k2, none⟩ = some (.slice uA uk ud) := by rw [World.ownsRow.cellAt hown (k + k2) (by omega), HU.out _ (by omega)]; exact hu
              have hcz : wr.cell? ⟨b, k + p2, none⟩ = some (.slice zA zk zd) := by rw [World.ownsRow.cellAt hown (k + p2) (by omega), HU.out _ (by omega)]; exact hz
              have hk20 : (0 : Int) ≤ (k2 : Int) := by omega
              have hp20 : (0 : Int) ≤ (p2 : Int) := by omega
              have hp2n : (p2 : Int) < (rn : Int) := by omega
              have HQ := Lib.hid (fun qq => HE.out.quiet hw hum hzm qq)
              obtain ⟨r2, hr2⟩ : ∃ r, ev (.slice uA uk ud) (.slice zA zk zd) = r := ⟨_, rfl⟩
              have HR2 := Lib.hid hr2
              rw [hr2] at HQ
              clear hr2
              cases r2
              · go_upto_region 11 with fail
                go_quiet ((go_at_call 100; exact HQ.out _))
                have hown1 : (wr.drewN nq).ownsRow base 22 1 (.slice (some ⟨b, 0, none⟩) n c) n us := hown
                have hw1 := hw.drewN nq
                clear hown hw HQ hcu hcz
                generalize wr.drewN nq = w2 at *
                have hcu : w2.cell? ⟨b, k + k2, none⟩ = some (.slice uA uk ud) := by rw [World.ownsRow.cellAt hown1 (k + k2) (by omega), HU.out _ (by omega)]; exact hu
                obtain ⟨wv, hwv⟩ : ∃ wv, w2.cell? ⟨b, kw, none⟩ = some wv := by
                  rw [World.ownsRow.cellAt hown1 kw (by omega), List.getElem?_eq_getElem (by have := hown1.1; omega)]; exact ⟨_, rfl⟩
                have hfw := World.ownsRow.frozenAt hown1 kw
                have hkw0 : (0 : Int) ≤ (kw : Int) := by omega
                have hkwn : (kw : Int) < (n : Int) := by omega
                have hul : us.length = n := by have := hown1.1; omega
                have hgs : ∀ j, (us.set kw (.slice uA uk ud))[j]? = if kw = j then some (.slice uA uk ud) else us[j]? := fun j => by
                  rw [List.getElem?_set]
                  by_cases h3 : kw = j
                  · rw [if_pos h3, if_pos h3, if_pos (by omega)]
                  · rw [if_neg h3, if_neg h3]
                have HGS := Lib.hid hgs
                have hown2 := (World.ownsRow.stored hown1 kw (.slice uA uk ud)).1
                have hw2 := hw1.set kw (.slice uA uk ud)
                have HU2 : Hid (∀ j, k + (k2 + 1) ≤ j + 1 → (us.set kw (.slice uA uk ud))[j]? = vs[j]?) := Lib.hid fun j hj => by rw [HGS.out, if_neg (by omega)]; exact HU.out j (by omega)
                have HM2 : Hid (∀ j, j < kw + 1 → ∃ v, (us.set kw (.slice uA uk ud))[j]? = some v ∧ v ∈ vs) := Lib.hid fun j hj => by
                  rw [HGS.out]
                  by_cases h3 : kw = j
                  · rw [if_pos h3]; exact ⟨_, rfl, hum⟩
                  · rw [if_neg h3]; exact HM.out j (by omega)
                have HP2 : Hid (∀ t v, t < k + (k2 + 1) → vs[t]? = some v → ∃ j, j < kw + 1 ∧ ∃ u, (us.set kw (.slice uA uk ud))[j]? = some u ∧ E v u) := Lib.hid fun t v ht hv => by
                  rcases Nat.lt_or_ge t (k + k2) with h3 | h3
                  · obtain ⟨j, hj, u, h1, h2⟩ := HP.out t v h3 hv
                    exact ⟨j, by omega, u, by rw [HGS.out, if_neg (by omega)]; exact h1, h2⟩
                  · obtain rfl : t = k + k2 := by omega
                    rw [hu] at hv
                    cases hv
                    exact ⟨kw, by omega, _, by rw [HGS.out, if_pos rfl], hrf _⟩
                clear hgs hown1 hw1
                go_wp2
                go_roundw
                case rel => exact ⟨kw + 1, k2 + 1, _, by go_num, by go_num, by omega, by omega, by omega, by omega, hown2, hw2, HU2, HM2, HP2⟩
                case measure => (simp [intOf] <;> omega)
              · go_upto_region 11 with fail
                go_quiet ((go_at_call 100; exact HQ.out _))
                have hown1 : (wr.drewN nq).ownsRow base 22 1 (.slice (some ⟨b, 0, none⟩) n c) n us := hown
                have hw1 := hw.drewN nq
                have HE2 : Hid (E (.slice uA uk ud) (.slice zA zk zd)) := Lib.hid (HE.out.2 _ hum _ hzm HR2.out)
                have HP2 : Hid (∀ t v, t < k + (k2 + 1) → vs[t]? = some v → ∃ j, j < kw ∧ ∃ u, us[j]? = some u ∧ E v u) := Lib.hid fun t v ht hv => by
                  rcases Nat.lt_or_ge t (k + k2) with h3 | h3
                  · exact HP.out t v h3 hv
                  · obtain rfl : t = k + k2 := by omega
                    rw [hu] at hv
                    cases hv
                    obtain ⟨j, hj, u, h1, h2⟩ := HP.out (k + p2) _ (by omega) hz
                    exact ⟨j, hj, u, h1, htr _ _ _ HE2.out h2⟩
                go_wp2
                go_roundw
                case rel => exact ⟨kw, k2 + 1, us, rfl, by go_num, by omega, by omega, hkw1, by omega, hown1, hw1, Lib.hid fun j hj => HU.out j (by omega), HM, HP2⟩
                case measure => (simp [intOf] <;> omega)
            · have hlt2i : ¬ (k2 : Int) < (rn : Int) := by omega
              have hkwn : kw < n := by omega
              have hckw : ¬ c = kw := by omega
              have hul : us.length = n := by have := hown.1; omega
              have hcl : ∀ ty, (Builtin.clear_ #[45] ty #[.slice (some ⟨b, kw, none⟩) (n - kw) (c - kw)]).run Tryz.prog wr = .ok (.tuple #[]) (wr.setCells b kw (List.replicate (n - kw) (.slice none 0 0))) :=
                fun ty => Lib.run_clear_slice wr _ _ ty _ Tryz.underlying45 (fun w => by kernel_rfl) rfl rfl b kw _ _ (by omega) (fun j hj => by rw [World.ownsRow.cellAt hown (kw + j) (by omega), List.getElem?_eq_getElem (by omega)]; rfl) (fun j _ => World.ownsRow.frozenAt hown (kw + j))
              obtain ⟨us2, hown2, hus2, hs2⟩ := owns_clear (.slice none 0 0) (n - kw) kw hown
              have hw2 := hw.trans hs2
              have HUS := Lib.hid hus2
              clear hown hw hus2 hs2
              go_wp2
              go_ret
              refine ⟨kw, us2, rfl, by omega, hown2, hw2, fun j hj => ?_, fun v hv => ?_⟩
              · obtain ⟨v, h1, h2⟩ := HM.out j hj
                exact ⟨v, by rw [HUS.out j hj]; exact h1, h2⟩
              · obtain ⟨t, ht, rfl⟩ := List.getElem_of_mem hv
                obtain ⟨j, hj, u, h1, h2⟩ := HP.out t _ (by omega) (List.getElem?_eq_getElem ht)
                exact ⟨j, hj, u, by rw [HUS.out j hj]; exact h1, h2⟩
      · have hlti : ¬ (k : Int) < (n : Int) := by omega
        go_wp2
        go_ret
        refine ⟨n, vs, rfl, Nat.le_refl _, hown, hw, fun j hj => ?_, fun v hv => ?_⟩
        · obtain ⟨A, k, d, h1, h2⟩ := HAT.out j hj
          exact ⟨_, h1, h2⟩
        · obtain ⟨j, hj, rfl⟩ := List.getElem_of_mem hv
          exact ⟨j, by omega, _, List.getElem?_eq_getElem hj, hrf _⟩
end Go.Proofs.YtmcgnpdfpfgfpaaGreatDoor
