/-
  What share's through hands back for any arguments: the polynomial, or the error. Conditions: the shares read as their points and values, the list as its numbers.
-/
import Derived.Test.YtoblofilaegnaaaGSha
import Derived.Test.YtoblofilaegnaaaPItp
namespace Go.Proofs.Ytoblofilaegnaaa
open Go.RowKit
open Go.Maps
set_option linter.unusedVariables false

/-- The error of going through shares. -/
def ThrR (ok : Prop) (p m : Int) (us ys : List Int) (er : Int) : Prop :=
  (¬ ok ∧ er = 9) ∨ (ok ∧ ((¬ (allP p us = true ∧ allP p ys = true) ∧ er = 9) ∨ ((allP p us = true ∧ allP p ys = true) ∧ ((¬ (0 ≤ m ∧ m ≤ 9) ∧ er = 1) ∨ ((0 ≤ m ∧ m ≤ 9) ∧ (((us.length : Int) ≤ m ∧ er = 11) ∨ (m < (us.length : Int) ∧ ((¬ Dist us ∧ er = 7) ∨ (Dist us ∧ er = 0)))))))))
theorem ThrR.one {ok ok' : Prop} {p m : Int} {us ys : List Int} {er er' : Int} (hk : ok ↔ ok') (h : ThrR ok p m us ys er) (h' : ThrR ok' p m us ys er') : er = er' := by
  rcases h with ⟨a, b⟩ | ⟨a, h⟩ <;> rcases h' with ⟨a', b'⟩ | ⟨a', h'⟩
  · rw [b, b']
  · exact absurd (hk.2 a') a
  · exact absurd (hk.1 a) a'
  · rcases h with ⟨c, d⟩ | ⟨c, h⟩ <;> rcases h' with ⟨c', d'⟩ | ⟨c', h'⟩
    · rw [d, d']
    · exact absurd c' c
    · exact absurd c c'
    · rcases h with ⟨e, f⟩ | ⟨e, h⟩ <;> rcases h' with ⟨e', f'⟩ | ⟨e', h'⟩
      · rw [f, f']
      · exact absurd e' e
      · exact absurd e e'
      · rcases h with ⟨g, i⟩ | ⟨g, h⟩ <;> rcases h' with ⟨g', i'⟩ | ⟨g', h'⟩
        · rw [i, i']
        · omega
        · omega
        · rcases h with ⟨q, r⟩ | ⟨q, r⟩ <;> rcases h' with ⟨q', r'⟩ | ⟨q', r'⟩
          · rw [r, r']
          · exact absurd q' q
          · exact absurd q q'
          · rw [r, r']
theorem ThrR.zero {ok : Prop} {p m : Int} {us ys : List Int} (h : ThrR ok p m us ys 0) : ok ∧ (allP p us = true ∧ allP p ys = true) ∧ (0 ≤ m ∧ m ≤ 9) ∧ m < (us.length : Int) ∧ Dist us := by
  rcases h with ⟨a, b⟩ | ⟨a, ⟨c, d⟩ | ⟨c, ⟨e, f⟩ | ⟨e, ⟨g, i⟩ | ⟨g, ⟨q, r⟩ | ⟨q, r⟩⟩⟩⟩⟩
  · cases b
  · cases d
  · cases f
  · cases i
  · cases r
  · exact ⟨a, c, e, g, q⟩
/-- What through leaves. -/
def ThrPost (p m : Int) (us ys ms : List Int) (w : World) (e : Ending) (w' : World) : Prop :=
  ∃ er : Int, ThrR (okP p = true ∧ allP p ms = true) p m us ys er ∧ ((er ≠ 0 ∧ e = .returned (.tuple #[.int .i64 0, .slice none 0 0, .int .i64 er])) ∨
    (er = 0 ∧ ∃ (R : List Int) (A' : Option Addr) (c' : Nat), e = .returned (.tuple #[.int .i64 p, .slice A' R.length c', .int .i64 0]) ∧ OwnI w' w.heap.size 3 A' R.length c' R ∧ Through p (us.take (m.toNat + 1)) (ys.take (m.toNat + 1)) R)) ∧ Below w.heap.size w w'
theorem ThrPost.bad {p m : Int} {us ys ms : List Int} {w w' : World} {er : Int} (h : ThrR (okP p = true ∧ allP p ms = true) p m us ys er) (h0 : er ≠ 0) (hb : Below w.heap.size w w') : ThrPost p m us ys ms w (.returned (.tuple #[.int .i64 0, .slice none 0 0, .int .i64 er])) w' := ⟨er, h, .inl ⟨h0, rfl⟩, hb⟩
theorem allP_snoc_take {p : Int} {l : List Int} {k : Nat} (hk : k < l.length) (h : allP p (l.take k) = true) (hx : 0 ≤ l.getD k 0 ∧ l.getD k 0 < p) : allP p (l.take (k + 1)) = true := by
  rw [take_succ_getD l k hk, allP_iff]
  intro x hx'
  rcases List.mem_append.1 hx' with h1 | h1
  · exact allP_iff.1 h x h1
  · rw [List.mem_singleton.1 h1]; exact hx

set_option maxRecDepth 100000 in
set_option maxHeartbeats 3200000 in
theorem through_all (p m : Int) (A M : Option Addr) (n c mm d : Nat) (us ys ms : List Int) (w : World) (hp64 : -9223372036854775808 ≤ p ∧ p ≤ 9223372036854775807) (hm64 : -9223372036854775808 ≤ m ∧ m ≤ 9223372036854775807) (h : Sh w w.heap.size A n us ys) (hM : Ints w w.heap.size M mm ms)
    (hn : n ≤ 100) (hmm : mm ≤ 60) (hc : n ≤ c) :
    Calls Try.prog 142 #[.agg #[.int .i64 p], .int .i64 m, .slice A n c, .slice M mm d] w (ThrPost p m us ys ms w) := by
  have hF0 := Blk.new w 24 #[.int .i64 p]
  have hw0 : Below w.heap.size w (w.alloc (.cells #[.int .i64 p] 24)) := bbox _
  by_cases hok : okP p = true
  · have HO := Lib.hid hok
    have hp := okP_pos hok
    have hbf0 : Below (w.alloc (.cells #[.int .i64 p] 24)).heap.size (w.alloc (.cells #[.int .i64 p] 24)) (w.alloc (.cells #[.int .i64 p] 24)) := Below.refl _ _
    by_cases hma : allP p ms = true
    · have HM := Lib.hid hma
      have HK : Hid (okP p = true ∧ allP p ms = true) := Lib.hid ⟨hok, hma⟩
      have HLA := Lib.hid h.1
      have HLY := Lib.hid h.2.1
      have law : Keyed Try.prog 3 := int_keyed Try.underlying3
      have zeroE : ∀ w : World, (zeroValue 4).run Try.prog w = .ok (.bool false) w := fun w => by kernel_rfl
      have hmk := @run_makeMap Try.prog
      have hcap : n ≤ c := hc
      clear hok hma
      go_enter Try.func142, Try.ntmps142
      go_wp2_with (first
        | (go_at_call 118; refine (of_yes p _ HO.out).mono ?_; rintro e w1 ⟨rfl, hb1⟩
           have hbf1 := bnext hbf0 hb1
           clear hb1)
        | (go_at_call 119; (refine (all_any p M mm d ms _ ((hM.upto hw0).upto hbf1) (by omega)).mono ?_); rintro e w2 ⟨rfl, hb2⟩; rw [HM.out]
           have hbf2 := bnext hbf1 hb2
           clear hb2))
      go_loopw [35] (fun i wz => ∃ k : Nat, k ≤ n ∧ i = .int .i64 k ∧ Hid (allP p (us.take k) = true ∧ allP p (ys.take k) = true) ∧ Below (w.alloc (.cells #[.int .i64 p] 24)).heap.size (w.alloc (.cells #[.int .i64 p] 24)) wz) (fun i _ => n - (intOf i).toNat)
      case atStart => exact ⟨0, Nat.zero_le _, rfl, Lib.hid ⟨rfl, rfl⟩, hbf2⟩
      case round =>
        obtain ⟨k, hk, rfl, HG, hbf⟩ := hrel
        have hbz := bnext hw0 hbf
        by_cases hlt : k < n
        · obtain ⟨b, off, rfl, hbl, hcell⟩ := h.2.2 (by omega)
          have hcA := (hbz.cell (p := ⟨b, off + k * 2, none⟩) hbl).trans (hcell k hlt).1
          have hcY := (hbz.cell (p := ⟨b, off + k * 2 + 1, none⟩) hbl).trans (hcell k hlt).2
          clear hcell
          have HG1 : Hid (0 ≤ us.getD k 0 ∧ us.getD k 0 < p → 0 ≤ ys.getD k 0 ∧ ys.getD k 0 < p → allP p (us.take (k + 1)) = true ∧ allP p (ys.take (k + 1)) = true) := Lib.hid fun h1 h2 => ⟨allP_snoc_take (by rw [HLA.out]; exact hlt) HG.out.1 h1, allP_snoc_take (by rw [HLY.out]; exact hlt) HG.out.2 h2⟩
          have HB1 : Hid (¬ (0 ≤ us.getD k 0 ∧ us.getD k 0 < p) → ¬ (allP p us = true ∧ allP p ys = true)) := Lib.hid fun h1 h2 => h1 (allP_getD h2.1 (by rw [HLA.out]; exact hlt))
          have HB2 : Hid (¬ (0 ≤ ys.getD k 0 ∧ ys.getD k 0 < p) → ¬ (allP p us = true ∧ allP p ys = true)) := Lib.hid fun h1 h2 => h1 (allP_getD h2.2 (by rw [HLY.out]; exact hlt))
          generalize us.getD k 0 = x at *
          generalize ys.getD k 0 = y at *
          have hbf8 := ballocs hbf (.cells #[.int .i64 x, .int .i64 y] 52)
          have hN := Blk.new wr 52 #[.int .i64 x, .int .i64 y]
          have hn0 : (wr.alloc (.cells #[.int .i64 x, .int .i64 y] 52)).cell? ⟨wr.heap.size, 0, none⟩ = some (.int .i64 x) := (hN.cell 0).trans rfl
          have hn1 : (wr.alloc (.cells #[.int .i64 x, .int .i64 y] 52)).cell? ⟨wr.heap.size, 1, none⟩ = some (.int .i64 y) := (hN.cell 1).trans rfl
          by_cases hx : 0 ≤ x ∧ x < p
          · have HI1 : Hid (inP p x = true) := Lib.hid (inP_iff.2 hx)
            by_cases hy : 0 ≤ y ∧ y < p
            · have HI2 : Hid (inP p y = true) := Lib.hid (inP_iff.2 hy)
              have HG2 := Lib.hid (HG1.out hx hy)
              clear hx hy HG1 HB1 HB2
              go_wp2_with (first
                | (go_at_call 123; (with_reducible refine (has_any p x _).mono ?_); rintro e w' ⟨rfl, rfl⟩; rw [HI1.out])
                | (go_at_call 123; (with_reducible refine (has_any p y _).mono ?_); rintro e w' ⟨rfl, rfl⟩; rw [HI2.out]))
              go_roundw
              case rel => exact ⟨k + 1, by omega, by go_num, HG2, hbf8⟩
              case measure => simp [intOf]; omega
            · have HI2 : Hid (inP p y = false) := Lib.hid (by rw [← Bool.not_eq_true, inP_iff]; exact hy)
              have HBB := Lib.hid (HB2.out hy)
              clear hx hy HG1 HB1 HB2
              go_wp2_with (first
                | (go_at_call 123; (with_reducible refine (has_any p x _).mono ?_); rintro e w' ⟨rfl, rfl⟩; rw [HI1.out])
                | (go_at_call 123; (with_reducible refine (has_any p y _).mono ?_); rintro e w' ⟨rfl, rfl⟩; rw [HI2.out]))
              go_ret3
              exact ThrPost.bad (.inr ⟨HK.out, .inl ⟨HBB.out, rfl⟩⟩) (by omega) (bnext hw0 hbf8)
          · have HI1 : Hid (inP p x = false) := Lib.hid (by rw [← Bool.not_eq_true, inP_iff]; exact hx)
            have HBB := Lib.hid (HB1.out hx)
            clear hx HG1 HB1 HB2
            go_wp2_with (first
              | (go_at_call 123; (with_reducible refine (has_any p x _).mono ?_); rintro e w' ⟨rfl, rfl⟩; rw [HI1.out]))
            go_ret3
            exact ThrPost.bad (.inr ⟨HK.out, .inl ⟨HBB.out, rfl⟩⟩) (by omega) (bnext hw0 hbf8)
        · have hkn : k = n := by omega
          subst hkn
          have hGG := HG.out
          rw [List.take_of_length_le (by rw [HLA.out]; exact Nat.le_refl _), List.take_of_length_le (by rw [HLY.out]; exact Nat.le_refl _)] at hGG
          have HGG := Lib.hid hGG
          have HA := Lib.hid hGG.1
          have HY := Lib.hid hGG.2
          clear hGG HG
          obtain ⟨w5, hw5⟩ : ∃ w5, w5 = wr := ⟨_, rfl⟩
          subst hw5
          by_cases hth : 0 ≤ m ∧ m ≤ 9
          · have HTH : Hid (decide (0 ≤ m ∧ m ≤ 9) = true) := Lib.hid (decide_eq_true hth)
            obtain ⟨th, rfl⟩ : ∃ th : Nat, m = th := ⟨m.toNat, by omega⟩
            have hth9 : th ≤ 9 := by omega
            have HTT := Lib.hid hth
            clear hth
            have hn512 : ¬ ((512 : Int) < (k : Int)) := by omega
            by_cases hfew : k ≤ th
            · have hfewi : (k : Int) ≤ (th : Int) := by omega
              have HFW : Hid ((us.length : Int) ≤ (th : Int)) := Lib.hid (by rw [HLA.out]; exact hfewi)
              go_wp2_with (go_at_call 140; refine (threshold_any th _).mono ?_; rintro e w' ⟨rfl, rfl⟩; rw [HTH.out])
              go_ret3
              exact ThrPost.bad (.inr ⟨HK.out, .inr ⟨HGG.out, .inr ⟨HTT.out, .inl ⟨HFW.out, rfl⟩⟩⟩⟩) (by omega) hbz
            · have HNF : Hid ((th : Int) < (us.length : Int)) := Lib.hid (by rw [HLA.out]; omega)
              have hnth : ¬ ((k : Int) ≤ (th : Int)) := by omega
              have hnthN : ¬ k ≤ th := by omega
              have hkthN : th < k := by omega
              have hdkth : decide (k ≤ th) = false := by simpa using hkthN
              go_wp2_with (go_at_call 140; refine (threshold_any th _).mono ?_; rintro e w' ⟨rfl, rfl⟩; rw [HTH.out])
              have hbz0 := hbz
              have hSz := h.upto hbz
              have hbfz := hbf
              go_loopw [68] (fun i wx => ∃ (j : Nat) (D : DataW Unit), j ≤ k ∧ i = .int .i64 j ∧ Hid (wx.ownsMap Try.prog 3 (plainElem Try.prog 4) w5.heap.size j D) ∧ Hid (SeenIs D (us.take j)) ∧ Hid (Dist (us.take j)) ∧ Below w5.heap.size w5 wx) (fun i _ => k - (intOf i).toNat)
              case atStart => exact ⟨0, .map [], Nat.zero_le _, rfl, Lib.hid (World.ownsMap_made _ _ _ _), Lib.hid SeenIs.start, Lib.hid (fun a b _ hb => by simp at hb), bbox _⟩
              case round =>
                obtain ⟨j, D, hj, rfl, HMp, HU, HDJ, hbx⟩ := hrel
                by_cases hlt2 : j < k
                · obtain ⟨b, off, rfl, hbl, hcell⟩ := hSz.2.2 (by omega)
                  have hcx := (hbx.cell (p := ⟨b, off + j * 2, none⟩) hbl).trans (hcell j hlt2).1
                  have hcy := (hbx.cell (p := ⟨b, off + j * 2 + 1, none⟩) hbl).trans (hcell j hlt2).2
                  clear hcell
                  have hxe := allP_getD HA.out (k := j) (by rw [HLA.out]; exact hlt2)
                  have HTS := Lib.hid (take_succ_getD us j (by rw [HLA.out]; exact hlt2))
                  have HUN := Lib.hid (HU.out.2 (us.getD j 0))
                  have HUS := Lib.hid (HU.out.step (us.getD j 0))
                  have HDN : Hid (us.getD j 0 ∉ us.take j → Dist (us.take (j + 1))) := Lib.hid (fun hn => Dist.take_succ (by rw [HLA.out]; exact hlt2) HDJ.out hn)
                  have HDB : Hid (us.getD j 0 ∈ us.take j → ¬ Dist us) := Lib.hid (fun hm hd => by
                    obtain ⟨i, hi, hil, e⟩ := take_mem hm
                    exact hd i j hi (by rw [HLA.out]; exact hlt2) e)
                  by_cases hin : us.getD j 0 ∈ us.take j
                  · have HUN2 : Hid (D.atKey (.int .i64 (us.getD j 0)) (.lit (.bool false)) = .lit (.bool true)) := Lib.hid (by rw [HUN.out]; simp only [hin, decide_true])
                    have HND := Lib.hid (HDB.out hin)
                    clear hin HDN HDB HUN
                    generalize us.getD j 0 = x at *
                    generalize ys.getD j 0 = y at *
                    have hwf : (Lit.int .i64 x).wf = true := by simp [Lit.wf, IntKind.min, IntKind.max, IntKind.signed, IntKind.bits]; omega
                    have hbx8 := ballocs hbx (.cells #[.int .i64 x, .int .i64 y] 52)
                    have HMA := Lib.hid (HMp.out.alloc (.cells #[.int .i64 x, .int .i64 y] 52))
                    have hN := Blk.new wr 52 #[.int .i64 x, .int .i64 y]
                    have hn0 : (wr.alloc (.cells #[.int .i64 x, .int .i64 y] 52)).cell? ⟨wr.heap.size, 0, none⟩ = some (.int .i64 x) := (hN.cell 0).trans rfl
                    go_wp2_with (
                        at_lookup
                        refine wpList_lookup_own_bool _ rfl _ _ 143 rfl 3 4 law Try.underlying143 Try.underlying4 (zeroE _) w5.heap.size j D rfl HMA.out _ _ rfl (keyOf_int_mk Try.underlying3 hwf) ?_
                        intro c hat
                        have hcf : c = true := by have := HUN2.out.symm.trans hat; injection this with this; injection this with this; exact this.symm
                        subst hcf)
                    go_ret3
                    exact ThrPost.bad (.inr ⟨HK.out, .inr ⟨HGG.out, .inr ⟨HTT.out, .inr ⟨HNF.out, .inl ⟨HND.out, rfl⟩⟩⟩⟩⟩) (by omega) (bnext hbz0 hbx8)
                  · have HUN2 : Hid (D.atKey (.int .i64 (us.getD j 0)) (.lit (.bool false)) = .lit (.bool false)) := Lib.hid (by rw [HUN.out]; simp only [hin, decide_false])
                    have HDN2 := Lib.hid (HDN.out hin)
                    clear hin HDN HDB HUN
                    generalize us.getD j 0 = x at *
                    generalize ys.getD j 0 = y at *
                    have hwf : (Lit.int .i64 x).wf = true := by simp [Lit.wf, IntKind.min, IntKind.max, IntKind.signed, IntKind.bits]; omega
                    have hbx8 := ballocs hbx (.cells #[.int .i64 x, .int .i64 y] 52)
                    have hs1 := hbx8.size
                    have HMA := Lib.hid (HMp.out.alloc (.cells #[.int .i64 x, .int .i64 y] 52))
                    have hN := Blk.new wr 52 #[.int .i64 x, .int .i64 y]
                    have hn0 : (wr.alloc (.cells #[.int .i64 x, .int .i64 y] 52)).cell? ⟨wr.heap.size, 0, none⟩ = some (.int .i64 x) := (hN.cell 0).trans rfl
                    go_wp2_with (first
                      | (at_lookup
                         refine wpList_lookup_own_bool _ rfl _ _ 143 rfl 3 4 law Try.underlying143 Try.underlying4 (zeroE _) w5.heap.size j D rfl HMA.out _ _ rfl (keyOf_int_mk Try.underlying3 hwf) ?_
                         intro c hat
                         have hcf : c = false := by have := HUN2.out.symm.trans hat; injection this with this; injection this with this; exact this.symm
                         subst hcf)
                      | (at_mapUpdate
                         refine wpList_mapUpdate_own _ rfl _ _ _ 143 rfl 3 4 law Try.underlying143 _ w5.heap.size j D rfl HMA.out (by unfold maxLen; omega) _ _ _ rfl rfl (keyOf_int_mk Try.underlying3 hwf) _ [] (plainElem_bool Try.underlying4 true) ?_
                         intro w2 hown2 hgr2
                         have hbx2 := hbx8.grown hgr2 hs1 (fun g e => by cases e; exact Nat.le_refl _)))
                    go_roundw
                    case rel => exact ⟨j + 1, _, by omega, by go_num, Lib.hid hown2, Lib.hid (by rw [HTS.out]; exact HUS.out), HDN2, hbx2⟩
                    case measure => simp [intOf]; omega
                · obtain rfl : j = k := by omega
                  have hDJ := HDJ.out
                  rw [List.take_of_length_le (by rw [HLA.out]; exact Nat.le_refl _)] at hDJ
                  have HDI := Lib.hid hDJ
                  clear hDJ HDJ
                  have hth1 : (th : Int) + 1 = ((th + 1 : Nat) : Int) := by omega
                  obtain ⟨t1, ht1⟩ : ∃ t1 : Nat, (th : Int) + 1 = t1 := ⟨th + 1, by omega⟩
                  have HT1 : Hid (t1 = th + 1) := Lib.hid (by omega)
                  have ht1w : IntKind.i64.wrap ((th : Int) + 1) = t1 := by rw [IntWalk.i64_in _ (by omega)]; exact ht1
                  have ht1c : (t1 : Int) ≤ (c : Int) := by omega
                  have ht10 : (0 : Int) ≤ (t1 : Int) := by omega
                  have ht1n : (t1 : Int) ≤ (j : Int) := by omega
                  have ht1v : IntKind.i64.wrap (t1 : Int) = t1 := IntWalk.i64_in _ (by omega)
                  have hbzx := bnext hbz0 hbx
                  have hF := hF0.below (bnext hbfz hbx) (by simp)
                  have hcF : wr.drew.cell? ⟨w.heap.size, 0, none⟩ = some (.int .i64 p) := (hF.cell 0).trans rfl
                  have hSx : Sh wr.drew wr.drew.heap.size A t1 (us.take t1) (ys.take t1) := (hSz.upto hbx).take_ t1 (by omega)
                  have HTA := Lib.hid (take_allP HA.out t1)
                  have HTY := Lib.hid (take_allP HY.out t1)
                  have HTD : Hid (∀ a b, a < b → b < t1 → (us.take t1).getD a 0 ≠ (us.take t1).getD b 0) := Lib.hid fun a b h1 h2 => by
                    have ga : ∀ i, i < t1 → (us.take t1).getD i 0 = us.getD i 0 := fun i hi => by rw [List.getD_eq_getElem?_getD, List.getElem?_take, if_pos hi, ← List.getD_eq_getElem?_getD]
                    rw [ga a (by omega), ga b h2]
                    exact HDI.out a b h1 (by rw [HLA.out]; omega)
                  clear hth1
                  go_wp2_with fail
                  go_region_held3 (fun w' => w'.cell? ⟨w.heap.size, 0, none⟩ = some (.int .i64 p)) (first | exact hcF | exact hcG)
                    (first
                      | (go_at_call 48; (refine (interp_ok p A t1 c (us.take t1) (ys.take t1) _ HO.out hSx HTA.out HTY.out (by omega) HTD.out).mono ?_); rintro e w8 ⟨⟨R, A8, c8, rfl, hown8, hT⟩, hb8⟩
                         have HRT := Lib.hid hT
                         have hG := (Blk.drew hF).below hb8 hF.lt
                         have hcG : w8.cell? ⟨w.heap.size, 0, none⟩ = some (.int .i64 p) := (hG.cell 0).trans rfl
                         have hbw8 := bnext hbzx.drew hb8
                         have hown88 := hown8.base hbzx.size
                         clear hT hown8))
                  go_wp2
                  go_ret3
                  exact ⟨0, .inr ⟨HK.out, .inr ⟨HGG.out, .inr ⟨HTT.out, .inr ⟨HNF.out, .inr ⟨HDI.out, rfl⟩⟩⟩⟩⟩, .inr ⟨rfl, R, A8, c8, rfl, hown88, by have := HRT.out; rw [HT1.out] at this; exact this⟩, hbw8⟩
          · have HTH : Hid (decide (0 ≤ m ∧ m ≤ 9) = false) := Lib.hid (decide_eq_false hth)
            have HTT := Lib.hid hth
            clear hth
            go_wp2_with (go_at_call 140; refine (threshold_any m _).mono ?_; rintro e w' ⟨rfl, rfl⟩; rw [HTH.out])
            go_ret3
            exact ThrPost.bad (.inr ⟨HK.out, .inr ⟨HGG.out, .inl ⟨HTT.out, rfl⟩⟩⟩) (by omega) hbz
    · have HM : Hid (allP p ms = false) := Lib.hid (by simpa using hma)
      have HK : Hid (¬ (okP p = true ∧ allP p ms = true)) := Lib.hid fun a => hma a.2
      clear hok hma
      go_enter Try.func142, Try.ntmps142
      go_wp2_with (first
        | (go_at_call 118; refine (of_yes p _ HO.out).mono ?_; rintro e w1 ⟨rfl, hb1⟩
           have hbf1 := bnext hbf0 hb1
           clear hb1)
        | (go_at_call 119; (refine (all_any p M mm d ms _ ((hM.upto hw0).upto hbf1) (by omega)).mono ?_); rintro e w2 ⟨rfl, hb2⟩; rw [HM.out]
           have hbf2 := bnext hbf1 hb2
           clear hb2))
      go_ret3
      exact ThrPost.bad (.inl ⟨HK.out, rfl⟩) (by omega) (bnext hw0 hbf2)
  · have hokf : okP p = false := by simpa using hok
    have HO := Lib.hid hokf
    have HK : Hid (¬ (okP p = true ∧ allP p ms = true)) := Lib.hid fun a => hok a.1
    clear hok hokf
    go_enter Try.func142, Try.ntmps142
    go_wp2_with (go_at_call 118; refine (of_no p _ hp64 HO.out).mono ?_; rintro e w1 ⟨rfl, hb1⟩
                 have hbf1 := bnext hw0 hb1
                 clear hb1)
    go_ret3
    exact ThrPost.bad (.inl ⟨HK.out, rfl⟩) (by omega) hbf1
end Go.Proofs.Ytoblofilaegnaaa
