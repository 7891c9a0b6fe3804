/-
  What share's At, Join and Agree hand back for any arguments: the result, or the error. Conditions: the shares read as their points and values.
-/
import Derived.Test.YtoblofilaegnaaaShThr
import Derived.Test.YtoblofilaegnaaaGSha
import Derived.Test.YtoblofilaegnaaaPlain
namespace Go.Proofs.Ytoblofilaegnaaa
open Go.RowKit
set_option linter.unusedVariables false

/-- The value at a point, or the error. -/
def AtR (ok : Prop) (p m : Int) (us ys : List Int) (x v er : Int) : Prop :=
  ThrR ok p m us ys er ∧ ((er ≠ 0 ∧ v = 0) ∨ (er = 0 ∧ ∃ R, Through p (us.take (m.toNat + 1)) (ys.take (m.toNat + 1)) R ∧ v = valueP p x R))
/-- Whether all agree, or the error. -/
def AgrR (ok : Prop) (p m : Int) (us ys : List Int) (b : Bool) (er : Int) : Prop :=
  ThrR ok p m us ys er ∧ ((er ≠ 0 ∧ b = false) ∨ (er = 0 ∧ ∃ R, Through p (us.take (m.toNat + 1)) (ys.take (m.toNat + 1)) R ∧ b = agreeB p us ys R))
def AtPost (ok : Prop) (p m : Int) (us ys : List Int) (x : Int) (w : World) (e : Ending) (w' : World) : Prop := ∃ v er : Int, e = .returned (.tuple #[.int .i64 v, .int .i64 er]) ∧ AtR ok p m us ys x v er ∧ Below w.heap.size w w'
def AgrPost (ok : Prop) (p m : Int) (us ys : List Int) (w : World) (e : Ending) (w' : World) : Prop := ∃ (b : Bool) (er : Int), e = .returned (.tuple #[.bool b, .int .i64 er]) ∧ AgrR ok p m us ys b er ∧ Below w.heap.size w w'
theorem thr_points {p : Int} {us : List Int} (ha : allP p us = true) (hd : Dist us) (k : Nat) : (us.take k).Pairwise (fun x y => ¬ Cong p (y - x) 0) :=
  pairwise_of (take_allP ha k) fun i j h1 h2 => by
    rw [List.length_take] at h2
    have ga : ∀ i, i < k → (us.take k).getD i 0 = us.getD i 0 := fun i hi => by rw [List.getD_eq_getElem?_getD, List.getElem?_take, if_pos hi, ← List.getD_eq_getElem?_getD]
    rw [ga i (by omega), ga j (by omega)]
    exact hd i j h1 (by omega)
theorem thr_one {ok : Prop} {p m : Int} {us ys R R' : List Int} (hok : ok → okP p = true) (h : ThrR ok p m us ys 0) (hR : Through p (us.take (m.toNat + 1)) (ys.take (m.toNat + 1)) R) (hR' : Through p (us.take (m.toNat + 1)) (ys.take (m.toNat + 1)) R') : R = R' := by
  obtain ⟨a, b, c, d, e⟩ := h.zero
  have := Through.unique (hok a) hR (thr_points b.1 e _) hR'.al hR'.ln hR'.va
  rw [this, hR'.tr.trimL]
theorem AtR.one {ok ok' : Prop} {p m : Int} {us ys : List Int} {x v v' er er' : Int} (hok : ok → okP p = true) (hk : ok ↔ ok') (h : AtR ok p m us ys x v er) (h' : AtR ok' p m us ys x v' er') : v = v' ∧ er = er' := by
  have he := h.1.one hk h'.1
  subst he
  refine ⟨?_, rfl⟩
  rcases h.2 with ⟨a, b⟩ | ⟨a, R, b, c⟩ <;> rcases h'.2 with ⟨a', b'⟩ | ⟨a', R', b', c'⟩
  · rw [b, b']
  · exact absurd a' a
  · exact absurd a a'
  · have h1 := h.1
    rw [a] at h1
    rw [c, c', thr_one hok h1 b b']
theorem AgrR.one {ok ok' : Prop} {p m : Int} {us ys : List Int} {v v' : Bool} {er er' : Int} (hok : ok → okP p = true) (hk : ok ↔ ok') (h : AgrR ok p m us ys v er) (h' : AgrR ok' p m us ys v' er') : v = v' ∧ er = er' := by
  have he := h.1.one hk h'.1
  subst he
  refine ⟨?_, rfl⟩
  rcases h.2 with ⟨a, b⟩ | ⟨a, R, b, c⟩ <;> rcases h'.2 with ⟨a', b'⟩ | ⟨a', R', b', c'⟩
  · rw [b, b']
  · exact absurd a' a
  · exact absurd a a'
  · have h1 := h.1
    rw [a] at h1
    rw [c, c', thr_one hok h1 b b']

set_option maxRecDepth 100000 in
set_option maxHeartbeats 800000 in
theorem at_share_all (p m x : Int) (A : Option Addr) (n c : Nat) (us ys : List Int) (w : World) (hp64 : -9223372036854775808 ≤ p ∧ p ≤ 9223372036854775807) (hm64 : -9223372036854775808 ≤ m ∧ m ≤ 9223372036854775807) (h : Sh w w.heap.size A n us ys) (hn : n ≤ 100) (hc : n ≤ c) :
    Calls Try.prog 63 #[.agg #[.int .i64 p], .int .i64 m, .slice A n c, .int .i64 x] w (AtPost (okP p = true ∧ allP p [x] = true) p m us ys x w) := by
  have hb0 : Below w.heap.size w ((w.alloc (.cells #[.int .i64 p] 24)).alloc (.cells #[.int .i64 x] 3)) := ballocs (bbox _) _
  have hS0 := h.upto hb0
  go_enter Try.func63, Try.ntmps63
  go_wp2_with (go_at_call 142; refine (?_ : Hid _).out)
  refine Lib.hid ?_
  refine (through_all p m A _ n c 1 1 us ys [x] _ hp64 hm64 hS0 (by exact Ints.oneAt _ x _ _ (by simp)) hn (by omega) hc).mono ?_
  rintro e w1 ⟨er, hR, ⟨h0, rfl⟩ | ⟨rfl, R, A1, c1, rfl, hown1, hT⟩, hb1⟩
  · have HR := Lib.hid hR
    have H0 := Lib.hid h0
    have hbb1 := bnext hb0 hb1
    have h00 : ¬ er = 0 := h0
    clear hR h0 hb1
    go_wp2
    go_ret2
    exact ⟨0, er, rfl, ⟨HR.out, .inl ⟨H0.out, rfl⟩⟩, hbb1⟩
  · have HR := Lib.hid hR
    have hz := hR.zero
    have hp := okP_pos hz.1.1
    have hx : 0 ≤ x ∧ x < p := allP_iff.1 hz.1.2 x List.mem_cons_self
    have HT := Lib.hid hT
    have hRA := Lib.hid hT.al
    have hRL : R.length ≤ 10 := by have := hT.ln; rw [List.length_take] at this; have := hz.2.2.1; omega
    have hbb1 := bnext hb0 hb1
    have hI1 := hown1.ints
    clear hT hR hz hb1 hown1
    go_wp2_with (go_at_call 138; refine (value_any p x A1 R.length c1 R _ hp hx hI1 hRA.out (by omega)).mono ?_; rintro e w2 ⟨rfl, hb2⟩
                 have hbb2 := bnext hbb1 hb2)
    go_ret2
    exact ⟨_, 0, rfl, ⟨HR.out, .inr ⟨rfl, R, HT.out, rfl⟩⟩, hbb2⟩
set_option maxRecDepth 100000 in
theorem join_share_all (p m : Int) (A : Option Addr) (n c : Nat) (us ys : List Int) (w : World) (hp64 : -9223372036854775808 ≤ p ∧ p ≤ 9223372036854775807) (hm64 : -9223372036854775808 ≤ m ∧ m ≤ 9223372036854775807) (h : Sh w w.heap.size A n us ys) (hn : n ≤ 100) (hc : n ≤ c) :
    Calls Try.prog 59 #[.agg #[.int .i64 p], .int .i64 m, .slice A n c] w (AtPost (okP p = true ∧ allP p [0] = true) p m us ys 0 w) := by
  have hb0 : Below w.heap.size w (w.alloc (.cells #[.int .i64 p] 24)) := bbox _
  have hS0 := h.upto hb0
  go_enter Try.func59, Try.ntmps59
  go_wp2_with (go_at_call 63; (refine (at_share_all p m 0 A n c us ys _ hp64 hm64 hS0 hn hc).mono ?_); rintro e w1 ⟨v, er, rfl, hR, hb1⟩
               have HR := Lib.hid hR
               clear hR)
  go_ret2
  exact ⟨v, er, rfl, HR.out, bnext hb0 hb1⟩

set_option maxRecDepth 100000 in
set_option maxHeartbeats 1600000 in
theorem agree_share_all (p m : Int) (A : Option Addr) (n c : Nat) (us ys : List Int) (w : World) (hp64 : -9223372036854775808 ≤ p ∧ p ≤ 9223372036854775807) (hm64 : -9223372036854775808 ≤ m ∧ m ≤ 9223372036854775807) (h : Sh w w.heap.size A n us ys) (hn : n ≤ 100) (hc : n ≤ c) :
    Calls Try.prog 61 #[.agg #[.int .i64 p], .int .i64 m, .slice A n c] w (AgrPost (okP p = true ∧ allP p [] = true) p m us ys w) := by
  have HLA := Lib.hid h.1
  have HLY := Lib.hid h.2.1
  have hb0 : Below w.heap.size w (w.alloc (.cells #[.int .i64 p] 24)) := bbox _
  have hS0 := h.upto hb0
  go_enter Try.func61, Try.ntmps61
  go_wp2_with (go_at_call 142; refine (?_ : Hid _).out)
  refine Lib.hid ?_
  refine (through_all p m A none n c 0 0 us ys [] _ hp64 hm64 hS0 Ints.nil_ hn (by omega) hc).mono ?_
  rintro e w1 ⟨er, hR, ⟨h0, rfl⟩ | ⟨rfl, R, A1, c1, rfl, hown1, hT⟩, hb1⟩
  · have HR := Lib.hid hR
    have H0 := Lib.hid h0
    have hbb1 := bnext hb0 hb1
    have h00 : ¬ er = 0 := h0
    clear hR h0 hb1
    go_wp2
    go_ret2
    exact ⟨false, er, rfl, ⟨HR.out, .inl ⟨H0.out, rfl⟩⟩, hbb1⟩
  · have HR := Lib.hid hR
    have hz := hR.zero
    have hp := okP_pos hz.1.1
    have HA := Lib.hid hz.2.1.1
    have HT := Lib.hid hT
    have hRA := Lib.hid hT.al
    have hRL : R.length ≤ 10 := by have := hT.ln; rw [List.length_take] at this; have := hz.2.2.1; omega
    have hbb1 := bnext hb0 hb1
    have hI1 := hown1.ints
    have hS1 := h.upto hbb1
    clear hT hR hz hb1 hown1
    go_wp2_with fail
    go_loopw [26] (fun i wz => ∃ k : Nat, k ≤ n ∧ i = .int .i64 k ∧ Hid (∀ i, i < k → valueP p (us.getD i 0) R = ys.getD i 0) ∧ Below w1.heap.size w1 wz) (fun i _ => n - (intOf i).toNat)
    case atStart => exact ⟨0, Nat.zero_le _, rfl, Lib.hid (fun i hi => absurd hi (by omega)), Below.refl _ _⟩
    case round =>
      obtain ⟨k, hk, rfl, HV, hbz⟩ := hrel
      by_cases hlt : k < n
      · obtain ⟨b, off, rfl, hbl, hcell⟩ := hS1.2.2 (by omega)
        have hcA := (hbz.cell (p := ⟨b, off + k * 2, none⟩) hbl).trans (hcell k hlt).1
        have hcY := (hbz.cell (p := ⟨b, off + k * 2 + 1, none⟩) hbl).trans (hcell k hlt).2
        clear hcell
        have hxe := allP_getD HA.out (k := k) (by rw [HLA.out]; exact hlt)
        obtain ⟨x, HX⟩ : ∃ x, Hid (us.getD k 0 = x) := ⟨_, Lib.hid rfl⟩
        obtain ⟨y, HYk⟩ : ∃ y, Hid (ys.getD k 0 = y) := ⟨_, Lib.hid rfl⟩
        rw [HX.out] at hcA hxe
        rw [HYk.out] at hcY
        obtain ⟨v, HVV⟩ : ∃ v, Hid (valueP p x R = v) := ⟨_, Lib.hid rfl⟩
        have hN := Blk.new wr 52 #[.int .i64 x, .int .i64 y]
        have hsc : (wr.alloc (.cells #[.int .i64 x, .int .i64 y] 52)).drew.cell? ⟨wr.heap.size, 0, none⟩ = some (.int .i64 x) ∧ (wr.alloc (.cells #[.int .i64 x, .int .i64 y] 52)).drew.cell? ⟨wr.heap.size, 1, none⟩ = some (.int .i64 y) := ⟨(hN.cell 0).trans rfl, (hN.cell 1).trans rfl⟩
        have hbzA := (ballocs hbz (.cells #[.int .i64 x, .int .i64 y] 52)).drew
        have hIA : Ints (wr.alloc (.cells #[.int .i64 x, .int .i64 y] 52)).drew (wr.alloc (.cells #[.int .i64 x, .int .i64 y] 52)).drew.heap.size A1 R.length R := hI1.upto hbzA
        go_wp2_with fail
        go_region_held3 (fun w' => w'.cell? ⟨wr.heap.size, 0, none⟩ = some (.int .i64 x) ∧ w'.cell? ⟨wr.heap.size, 1, none⟩ = some (.int .i64 y)) (first | exact hsc | exact hsd)
          (first
            | (go_at_call 138; (refine (value_any p x A1 R.length c1 R _ hp hxe hIA hRA.out (by omega)).mono ?_); rintro e w2 ⟨rfl, hb2⟩
               rw [HVV.out]
               have hM := (Blk.drew hN).below hb2 hN.lt
               have hsd : w2.cell? ⟨wr.heap.size, 0, none⟩ = some (.int .i64 x) ∧ w2.cell? ⟨wr.heap.size, 1, none⟩ = some (.int .i64 y) := ⟨(hM.cell 0).trans rfl, (hM.cell 1).trans rfl⟩
               have hbz2 := bnext hbzA hb2))
        by_cases hvy : v = y
        · have HN : Hid (∀ i, i < k + 1 → valueP p (us.getD i 0) R = ys.getD i 0) := Lib.hid fun i hi => by
            by_cases hik : i = k
            · rw [hik, HX.out, HVV.out, HYk.out]; exact hvy
            · exact HV.out i (by omega)
          have hvb : (v != y) = false := by simpa using hvy
          clear hvy
          go_wp2
          go_roundw
          case rel => exact ⟨k + 1, by omega, by go_num, HN, hbz2⟩
          case measure => simp [intOf]; omega
        · have HF : Hid (agreeB p us ys R = false) := Lib.hid (by
            rw [← Bool.not_eq_true, agreeB_iff]
            intro hall
            have := hall k (by rw [HLA.out]; exact hlt)
            rw [HX.out, HVV.out, HYk.out] at this
            exact hvy this)
          have hvb : (v != y) = true := by simpa using hvy
          clear hvy
          go_wp2
          go_ret2
          exact ⟨_, 0, rfl, ⟨HR.out, .inr ⟨rfl, R, HT.out, HF.out.symm⟩⟩, bnext hbb1 hbz2⟩
      · have HF : Hid (agreeB p us ys R = true) := Lib.hid (agreeB_iff.2 fun i hi => HV.out i (by rw [HLA.out] at hi; omega))
        go_wp2
        go_ret2
        exact ⟨_, 0, rfl, ⟨HR.out, .inr ⟨rfl, R, HT.out, HF.out.symm⟩⟩, bnext hbb1 hbz⟩
end Go.Proofs.Ytoblofilaegnaaa
