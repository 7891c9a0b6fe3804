/-
  Words for memory and contracts of small functions of the second form. Conditions: those of each lemma.
-/
import Derived.Test.YtnjdjcgandfnfaaDoorChk
import Derived.Test.YtnjdjcgandfnfaaDoorOrder
import Derived.Test.YtnjdjcgandfnfaaDoorGPoly
import Derived.Test.YtnjdjcgandfnfaaDoorPlain
import Derived.Deep.RegionHeld3
import Derived.Deep.RegionLaw
import Derived.Deep.DeepCutAuto
import Derived.Test.YtnjdjcgandfnfaaDoorGSha
import Derived.Deep.QuietTactic
import Derived.BigQuiet
import Derived.Test.YtnjdjcgandfnfaaDoorKnown
import Derived.Test.YtnjdjcgandfnfaaDoorValue
import Derived.Test.YtnjdjcgandfnfaaDoorDeck
/-! Ref5 -/
namespace Go.Proofs.YtnjdjcgandfnfaaDoor
open Go.RowKit
set_option linter.unusedVariables false

set_option maxRecDepth 100000 in
theorem rlists_ok (p : Int) (V : Option Addr) (n c : Nat) (rows : List (List Int)) (w : World) {lo : Nat} (hok : okP p = true) (hM : Mat w lo w.heap.size V n rows) (hn : n ≤ 1024) (hr : ∀ r ∈ rows, allP p r = true ∧ r.length ≤ 512) :
    Calls Tryd.prog 51 #[.agg #[.int .i64 p], .slice V n c] w fun e w' => e = .returned (.int .i64 0) ∧ Below w.heap.size w w' := by
  have HO := Lib.hid hok
  have HR := Lib.hid hr
  have HM := Lib.hid hM.len
  have hF0 := Blk.new w 24 #[.int .i64 p]
  clear hok hr
  go_enter Tryd.func51, Tryd.ntmps51
  go_wp2_with (go_at_call 71; refine (check_yes p _ HO.out).mono ?_; rintro e w1 ⟨rfl, hb1⟩
               have hbb1 := bnext (bbox _) hb1
               have hF1 := hF0.below hb1 hF0.lt
               clear hb1)
  go_loopw [17] (fun i wr => ∃ k : Nat, k ≤ n ∧ i = .int .i64 k ∧ Below w.heap.size w wr ∧ Blk wr w.heap.size 24 #[.int .i64 p]) (fun i _ => n - (intOf i).toNat)
  case atStart => exact ⟨0, Nat.zero_le _, rfl, hbb1, hF1⟩
  case round =>
    obtain ⟨k, hk, rfl, hbr, hFr⟩ := hrel
    have hcF : wr.cell? ⟨w.heap.size, 0, none⟩ = some (.int .i64 p) := (hFr.cell 0).trans rfl
    by_cases hlt : k < n
    · obtain ⟨b, off, B1, m, d1, rfl, _, hb1, hcell, hm, hI, _⟩ := (hM.upto hbr).at_ hlt
      have hrow := HR.out _ (row_mem (d := []) (k := k) (by rw [HM.out]; exact hlt))
      generalize rows.getD k [] = row at *
      have HA : Hid (inF p row = true) := Lib.hid (inF_iff.2 ⟨HO.out, hrow.1⟩)
      have hm5 : m ≤ 512 := by have := hrow.2; rw [hI.len] at this; exact this
      clear hrow
      go_wp2_with (go_at_call 72; refine (in_any p B1 m d1 row _ hI (by omega)).mono ?_; rintro e w3 ⟨rfl, hb3⟩; rw [HA.out]
                   have hbr3 := bnext hbr hb3
                   have hF3 := hFr.below hb3 hFr.lt
                   clear hb3)
      go_roundw
      case rel => exact ⟨k + 1, by omega, by go_num, hbr3, hF3⟩
      case measure => simp [intOf]; omega
    · go_wp2
      have hb0 := hbr
      go_loopw [28] (fun i wz => ∃ k : Nat, k ≤ n ∧ i = .int .i64 k ∧ wz = wr) (fun i _ => n - (intOf i).toNat)
      case atStart => exact ⟨0, Nat.zero_le _, rfl, rfl⟩
      case round =>
        obtain ⟨k2, hk2, rfl, rfl⟩ := hrel
        by_cases hlt2 : k2 < n
        · obtain ⟨b, off, B1, m, d1, rfl, _, hb1, hcell, hm, hI, _⟩ := (hM.upto hb0).at_ hlt2
          have hrow := HR.out _ (row_mem (d := []) (k := k2) (by rw [HM.out]; exact hlt2))
          generalize rows.getD k2 [] = row at *
          have hm5 : m ≤ 512 := by have := hrow.2; rw [hI.len] at this; exact this
          have hm5i : ¬ ((512 : Int) < (m : Int)) := by omega
          clear hrow
          go_wp2
          go_roundw
          case rel => exact ⟨k2 + 1, by omega, by go_num, trivial⟩
          case measure => simp [intOf]; omega
        · go_wp2
          go_ret
          exact ⟨rfl, hb0⟩

set_option maxRecDepth 100000 in
/-- The reference's trim. -/
theorem rtrim_any (A : Option Addr) (n c : Nat) (xs : List Int) (w : World) (h : Ints w w.heap.size A n xs) (hc : n ≤ c) (hn : n ≤ 17592186044416) :
    Calls Tryd.prog 52 #[.slice A n c] w fun e w' => (∃ A' c', e = .returned (.slice A' (tn xs n) c') ∧ OwnI w' w.heap.size 3 A' (tn xs n) c' (trimL xs)) ∧ Below w.heap.size w w' := by
  obtain ⟨i0, hi0, hz0, hz1, hz2⟩ := info_parts info_int
  have HL := Lib.hid h.len
  have HTR := Lib.hid h.trim
  obtain ⟨t, HT⟩ : ∃ t, Hid (tn xs n = t) := ⟨_, Lib.hid rfl⟩
  rw [HT.out]
  rw [HT.out] at HTR
  go_enter Tryd.func52, Tryd.ntmps52
  go_wp2
  go_loop [0] (fun s => ∃ k : Nat, k ≤ n ∧ s = .slice A k c ∧ Hid (tn xs k = t)) (fun s => sliceLen s)
  case atStart => exact ⟨n, Nat.le_refl _, rfl, HT⟩
  case round =>
    obtain ⟨k, hk, rfl, HK⟩ := hrel
    by_cases hk0 : 0 < k
    · obtain ⟨j, rfl⟩ : ∃ j, k = j + 1 := ⟨k - 1, by omega⟩
      obtain ⟨b, off, rfl, hb, hcell⟩ := h.2 (by omega)
      have hcj := hcell j (by omega)
      clear hcell
      have HX : Hid (tn xs (j + 1) = if xs.getD j 0 = 0 then tn xs j else j + 1) := Lib.hid rfl
      generalize xs.getD j 0 = x at *
      have hjj : IntKind.i64.wrap (((j + 1 : Nat) : Int) - 1) = j := by rw [IntWalk.i64_in _ (by omega)]; omega
      have hj0 : (0 : Int) < ((j + 1 : Nat) : Int) := by omega
      have hj1 : (0 : Int) ≤ (j : Int) := by omega
      have hj2 : (j : Int) < ((j + 1 : Nat) : Int) := by omega
      have hjc : (j : Int) ≤ (c : Int) := by omega
      have hjcn : j ≤ c := by omega
      by_cases hx : x = 0
      · have HJ : Hid (tn xs j = t) := Lib.hid (by rw [← HK.out, HX.out, if_pos hx])
        subst hx
        clear HX HK
        go_wp2
        go_round
        case rel => exact ⟨j, by omega, rfl, HJ⟩
        case measure => simp [sliceLen]
      · have HJ : Hid (j + 1 = t) := Lib.hid (by rw [← HK.out, HX.out, if_neg hx])
        have hxb : (x == 0) = false := by simpa using hx
        clear HX HK
        obtain rfl : t = j + 1 := HJ.out.symm
        go_wp2_with ((at_builtin; refine wpList_append_ints rfl _ _ _ rfl w.heap.size 3 i0 _ Tryd.underlying22 hi0 hz0 hz1 hz2 rfl none 0 0 [] rfl OwnI.nil_ w.heap.size _ (j + 1) _ (trimL xs) rfl HTR.out (j + 1) (Nat.zero_add _) (trimL xs) rfl (by omega) (Nat.le_refl _) ?_; intro A2 c2 w2 hown2 hgr hbw2 hab))
        go_ret
        exact ⟨⟨A2, c2, rfl, hown2⟩, hbw2⟩
    · obtain rfl : k = 0 := by omega
      have ht : t = 0 := HK.out.symm
      subst ht
      go_wp2_with ((at_builtin; refine wpList_append_ints rfl _ _ _ rfl w.heap.size 3 i0 _ Tryd.underlying22 hi0 hz0 hz1 hz2 rfl none 0 0 [] rfl OwnI.nil_ w.heap.size _ 0 _ (trimL xs) rfl HTR.out 0 rfl (trimL xs) rfl (by omega) (Nat.le_refl _) ?_; intro A2 c2 w2 hown2 hgr hbw2 hab))
      go_ret
      exact ⟨⟨A2, c2, rfl, hown2⟩, hbw2⟩

theorem set_at (l : List Int) (v : Int) {k : Nat} (hk : k < l.length) : (l.set k v).getD k 0 = v := by
  rw [List.getD_eq_getElem?_getD, List.getElem?_set_self hk]; rfl
theorem getD_out5 (l : List Int) {k : Nat} (hk : l.length ≤ k) : l.getD k 0 = 0 := by
  rw [List.getD_eq_getElem?_getD, List.getElem?_eq_none hk]; rfl
/-- The sum as far as it is made. -/
def addTill (p : Int) (xs ys : List Int) (N k : Nat) : List Int := (rawAdd p xs ys).take k ++ List.replicate (N - k) 0
theorem rawAdd_len (p : Int) (xs ys : List Int) : (rawAdd p xs ys).length = max xs.length ys.length := by simp [rawAdd]
theorem rawAdd_at (p : Int) {xs ys : List Int} {k : Nat} (hk : k < max xs.length ys.length) : (rawAdd p xs ys).getD k 0 = (xs.getD k 0 + ys.getD k 0) % p := by
  unfold rawAdd
  rw [List.getD_eq_getElem?_getD, List.getElem?_map, List.getElem?_range hk]; rfl
theorem addTill_zero (p : Int) (xs ys : List Int) (N : Nat) : addTill p xs ys N 0 = List.replicate N 0 := by simp [addTill]
theorem addTill_all (p : Int) (xs ys : List Int) : addTill p xs ys (max xs.length ys.length) (max xs.length ys.length) = rawAdd p xs ys := by
  unfold addTill
  rw [List.take_of_length_le (by rw [rawAdd_len]; exact Nat.le_refl _)]; simp
theorem addTill_at (p : Int) {xs ys : List Int} {N k : Nat} (hN : N = max xs.length ys.length) (hk : k < N) : (addTill p xs ys N k).getD k 0 = 0 := by
  unfold addTill
  have hl : ((rawAdd p xs ys).take k).length = k := by rw [List.length_take, rawAdd_len]; omega
  rw [List.getD_eq_getElem?_getD, List.getElem?_append_right (by omega), hl, Nat.sub_self, List.getElem?_replicate]
  simp [show 0 < N - k by omega]
theorem addTill_set (p : Int) {xs ys : List Int} {N k : Nat} (hN : N = max xs.length ys.length) (hk : k < N) : (addTill p xs ys N k).set k ((xs.getD k 0 + ys.getD k 0) % p) = addTill p xs ys N (k + 1) := by
  unfold addTill
  have hl : ((rawAdd p xs ys).take k).length = k := by rw [List.length_take, rawAdd_len]; omega
  rw [List.set_append_right _ _ (by omega), hl, Nat.sub_self, take_succ_getD (rawAdd p xs ys) k (by rw [rawAdd_len]; omega), rawAdd_at p (by omega), List.append_assoc]
  congr 1
  obtain ⟨r, hr⟩ : ∃ r, N - k = r + 1 := ⟨N - k - 1, by omega⟩
  rw [hr, show N - (k + 1) = r by omega, List.replicate_succ]; rfl

set_option maxRecDepth 100000 in
set_option maxHeartbeats 3200000 in
/-- The reference's Add on polynomials. -/
theorem radd5_ok (p : Int) (A B : Option Addr) (n m c d : Nat) (xs ys : List Int) (w : World) (hok : okP p = true) (h : Ints w w.heap.size A n xs) (h2 : Ints w w.heap.size B m ys) (hx : allP p xs = true) (hy : allP p ys = true) (hn : n ≤ 512) (hm : m ≤ 512) :
    Calls Tryd.prog 30 #[.agg #[.int .i64 p], .slice A n c, .slice B m d] w fun e w' =>
      (∃ A' c', e = .returned (.tuple #[.slice A' (addL p xs ys).length c', .int .i64 0]) ∧ OwnI w' w.heap.size 3 A' (addL p xs ys).length c' (addL p xs ys)) ∧ Below w.heap.size w w' := by
  have hp := okP_pos hok
  obtain ⟨i0, hi0, hz0, hz1, hz2⟩ := info_parts info_int
  have HO := Lib.hid hok
  have HX := Lib.hid hx
  have HY := Lib.hid hy
  have HL := Lib.hid h.len
  have HM := Lib.hid h2.len
  have HR : Hid (∀ r ∈ [xs, ys], allP p r = true ∧ r.length ≤ 512) := Lib.hid fun r hr => by
    simp only [List.mem_cons, List.not_mem_nil, or_false] at hr
    rcases hr with rfl | rfl
    · exact ⟨hx, by rw [h.len]; exact hn⟩
    · exact ⟨hy, by rw [h2.len]; exact hm⟩
  obtain ⟨N, hN⟩ : ∃ N, N = max n m := ⟨_, rfl⟩
  have HN : Hid (N = max xs.length ys.length) := Lib.hid (by rw [h.len, h2.len]; exact hN)
  have hnN : n ≤ N := by omega
  have hmN : m ≤ N := by omega
  have hN5 : N ≤ 512 := by omega
  have hNi : (if (n : Int) < (m : Int) then (m : Int) else (n : Int)) = N := by split <;> omega
  have hNj : (if n < m then (m : Int) else (n : Int)) = N := by split <;> omega
  have hNk : (if n < m then Value.int .i64 (m : Int) else Value.int .i64 (n : Int)) = Value.int .i64 (N : Int) := by rw [← hNj]; split <;> rfl
  have hNor : ∀ k, k < N → k < n ∨ k < m := fun k hk => by omega
  have hF0 := Blk.new w 24 #[.int .i64 p]
  clear hok hx hy hN
  go_enter Tryd.func30, Tryd.ntmps30
  go_wp2_with (first
    | (go_at_call 51; (refine (rlists_ok p _ 2 2 [xs, ys] _ HO.out (by exact Mat.two _ A B n m c d xs ys 22 _ (by simp) (h.upto (bbox _)) (h2.upto (bbox _)) (by omega) (by omega)) (by omega) HR.out).mono ?_); rintro e w1 ⟨rfl, hb1⟩
       have hbb1 := bnext (ballocs (bbox _) _) hb1
       have hF1 := (hF0.alloc _).below hb1 (hF0.alloc _).lt
       clear hb1)
    | (at_make
       refine wpList_make_full _ rfl _ _ 22 rfl w1.heap.size 3 i0 (.int .i64 0) 1 Tryd.underlying22 hi0 hz0 hz1 .i64 .i64 _ _ N rfl rfl (by first | rfl | omega) (by first | rfl | omega) (by rw [hz2]; omega) (by unfold maxLen; omega) (Nat.le_refl _) ?_
       intro w2 hown hgr
       have hown2 : OwnI w2 w1.heap.size 3 (some ⟨w1.heap.size, 0, none⟩) N N (List.replicate N 0) := by rw [zeros_made] at hown; exact hown
       have hb12 : Below w1.heap.size w1 w2 := (Below.refl _ _).grown hgr (Nat.le_refl _) (fun k hk => by cases hk)
       clear hown hgr))
  have hF2 := hF1.below hb12 hF1.lt
  have hsz12 : w1.heap.size ≤ w2.heap.size := hb12.size
  have hg1 := hF1.lt
  go_loopw [27] (fun i wz => ∃ k : Nat, k ≤ N ∧ i = .int .i64 k ∧ OwnI wz w1.heap.size 3 (some ⟨w1.heap.size, 0, none⟩) N N (addTill p xs ys N k) ∧ Below w1.heap.size w1 wz) (fun i _ => N - (intOf i).toNat)
  case atStart => exact ⟨0, Nat.zero_le _, rfl, by rw [addTill_zero]; exact hown2, hb12⟩
  case round =>
    obtain ⟨k, hk, rfl, hown, hb⟩ := hrel
    by_cases hlt : k < N
    · have hk0 : (0 : Int) ≤ (k : Int) := by omega
      have hkN : (k : Int) < (N : Int) := by omega
      have hFz := hF1.below hb hF1.lt
      have hcz : wr.cell? ⟨w.heap.size, 0, none⟩ = some (.int .i64 p) := (hFz.cell 0).trans rfl
      have hc0 := hown.cellAt hlt
      rw [addTill_at p HN.out hlt] at hc0
      have hfz : wr.frozen? ⟨w1.heap.size, k, none⟩ = false := hown.frozenAt k
      by_cases hxl : k < n
      · obtain ⟨b1, o1, rfl, hb1, hc1⟩ := h.2 (by omega)
        have hb1' : b1 < w1.heap.size := Nat.lt_of_lt_of_le hb1 hbb1.size
        have hcx := (hb.cell (p := ⟨b1, o1 + k, none⟩) hb1').trans ((hbb1.cell (p := ⟨b1, o1 + k, none⟩) hb1).trans (hc1 k hxl))
        clear hc1
        have hxe := allP_getD HX.out (k := k) (by rw [HL.out]; exact hxl)
        obtain ⟨x, HXX⟩ : ∃ x, Hid (xs.getD k 0 = x) := ⟨_, Lib.hid rfl⟩
        rw [HXX.out] at hcx hxe
        have hxi : (k : Int) < (n : Int) := by omega
        have hw0 : IntKind.i64.wrap (0 + x) = x := by rw [Int.zero_add]; exact IntWalk.i64_in _ (by omega)
        have hwx : IntKind.i64.wrap x = x := IntWalk.i64_in _ (by omega)
        have hxs : (0 : Int) ≤ x := by omega
        by_cases hyl : k < m
        · go_wp2_with fail
          go_region
          obtain ⟨w9, hw9⟩ : ∃ w9, w9 = (wr.setCell ⟨w1.heap.size, k, none⟩ (.int .i64 x)).drew := ⟨_, rfl⟩
          rw [← hw9]
          have ownw9 : OwnI w9 w1.heap.size 3 (some ⟨w1.heap.size, 0, none⟩) N N ((addTill p xs ys N k).set k x) := by rw [hw9]; exact (hown.stored k x).drew
          have hbw9 : Below w1.heap.size w1 w9 := by rw [hw9]; exact (hb.setCell (p := ⟨w1.heap.size, k, none⟩) (Nat.le_refl _) _).drew
          have hcw9 : w9.cell? ⟨w1.heap.size, k, none⟩ = some (.int .i64 x) := by
            have := ownw9.cellAt hlt
            rwa [set_at _ _ (by have := ownw9.len; rw [List.length_set] at this; omega)] at this
          have hfw9 : w9.frozen? ⟨w1.heap.size, k, none⟩ = false := ownw9.frozenAt k
          clear hw9
          obtain ⟨b2, o2, rfl, hb2, hc2⟩ := h2.2 (by omega)
          have hb2' : b2 < w1.heap.size := Nat.lt_of_lt_of_le hb2 hbb1.size
          have hcy := (hbw9.cell (p := ⟨b2, o2 + k, none⟩) hb2').trans ((hbb1.cell (p := ⟨b2, o2 + k, none⟩) hb2).trans (hc2 k hyl))
          clear hc2
          have hye := allP_getD HY.out (k := k) (by rw [HM.out]; exact hyl)
          obtain ⟨y, HYY⟩ : ∃ y, Hid (ys.getD k 0 = y) := ⟨_, Lib.hid rfl⟩
          rw [HYY.out] at hcy hye
          have hyi : (k : Int) < (m : Int) := by omega
          have hwxy : IntKind.i64.wrap (x + y) = x + y := IntWalk.i64_in _ (by omega)
          go_wp2_with fail
          go_region
          obtain ⟨w10, hw10⟩ : ∃ w10, w10 = (w9.setCell ⟨w1.heap.size, k, none⟩ (.int .i64 (x + y))).drew := ⟨_, rfl⟩
          rw [← hw10]
          have ownw10 : OwnI w10 w1.heap.size 3 (some ⟨w1.heap.size, 0, none⟩) N N (((addTill p xs ys N k).set k x).set k (x + y)) := by rw [hw10]; exact (ownw9.stored k (x + y)).drew
          have hbw10 : Below w1.heap.size w1 w10 := by rw [hw10]; exact (hbw9.setCell (p := ⟨w1.heap.size, k, none⟩) (Nat.le_refl _) _).drew
          have hcw10 : w10.cell? ⟨w1.heap.size, k, none⟩ = some (.int .i64 (x + y)) := by
            have := ownw10.cellAt hlt
            rwa [set_at _ _ (by have := ownw10.len; rw [List.length_set] at this; omega)] at this
          have hfw10 : w10.frozen? ⟨w1.heap.size, k, none⟩ = false := ownw10.frozenAt k
          clear hw10
          have hFe := hF1.below hbw10 hF1.lt
          have hce : w10.cell? ⟨w.heap.size, 0, none⟩ = some (.int .i64 p) := (hFe.cell 0).trans rfl
          obtain ⟨v, hv⟩ : ∃ v, (x + y) % p = v := ⟨_, rfl⟩
          have hvt : (x + y).tmod p = v := by rw [Int.tmod_eq_emod_of_nonneg (by omega)]; exact hv
          have HVV : Hid ((xs.getD k 0 + ys.getD k 0) % p = v) := Lib.hid (by rw [HXX.out, HYY.out]; exact hv)
          have HVH := Lib.hid hv
          clear hv
          have hp0 : ¬ p = 0 := by omega
          go_wp2_with fail
          go_region
          obtain ⟨w12, hw12⟩ : ∃ w12, w12 = (w10.setCell ⟨w1.heap.size, k, none⟩ (.int .i64 v)).drew := ⟨_, rfl⟩
          rw [← hw12]
          have ownw12 : OwnI w12 w1.heap.size 3 (some ⟨w1.heap.size, 0, none⟩) N N ((((addTill p xs ys N k).set k x).set k (x + y)).set k v) := by rw [hw12]; exact (ownw10.stored k v).drew
          have hbw12 : Below w1.heap.size w1 w12 := by rw [hw12]; exact (hbw10.setCell (p := ⟨w1.heap.size, k, none⟩) (Nat.le_refl _) _).drew
          have hcw12 : w12.cell? ⟨w1.heap.size, k, none⟩ = some (.int .i64 v) := by
            have := ownw12.cellAt hlt
            rwa [set_at _ _ (by have := ownw12.len; rw [List.length_set] at this; omega)] at this
          have hfw12 : w12.frozen? ⟨w1.heap.size, k, none⟩ = false := ownw12.frozenAt k
          clear hw12
          go_wp2
          go_roundw
          case rel => exact ⟨k + 1, by omega, by go_num, by rw [← addTill_set p HN.out hlt, HVV.out]; simpa only [List.set_set] using ownw12, hbw12⟩
          case measure => simp [intOf]; omega
        · have hyi : ¬ ((k : Int) < (m : Int)) := by omega
          go_wp2_with fail
          go_region
          obtain ⟨w9, hw9⟩ : ∃ w9, w9 = (wr.setCell ⟨w1.heap.size, k, none⟩ (.int .i64 x)).drew := ⟨_, rfl⟩
          rw [← hw9]
          have ownw9 : OwnI w9 w1.heap.size 3 (some ⟨w1.heap.size, 0, none⟩) N N ((addTill p xs ys N k).set k x) := by rw [hw9]; exact (hown.stored k x).drew
          have hbw9 : Below w1.heap.size w1 w9 := by rw [hw9]; exact (hb.setCell (p := ⟨w1.heap.size, k, none⟩) (Nat.le_refl _) _).drew
          have hcw9 : w9.cell? ⟨w1.heap.size, k, none⟩ = some (.int .i64 x) := by
            have := ownw9.cellAt hlt
            rwa [set_at _ _ (by have := ownw9.len; rw [List.length_set] at this; omega)] at this
          have hfw9 : w9.frozen? ⟨w1.heap.size, k, none⟩ = false := ownw9.frozenAt k
          clear hw9
          have hFe := hF1.below hbw9 hF1.lt
          have hce : w9.cell? ⟨w.heap.size, 0, none⟩ = some (.int .i64 p) := (hFe.cell 0).trans rfl
          obtain ⟨v, hv⟩ : ∃ v, (x) % p = v := ⟨_, rfl⟩
          have hvt : (x).tmod p = v := by rw [Int.tmod_eq_emod_of_nonneg (by omega)]; exact hv
          have HVV : Hid ((xs.getD k 0 + ys.getD k 0) % p = v) := Lib.hid (by rw [HXX.out, getD_out5 ys (by rw [HM.out]; omega), Int.add_zero]; exact hv)
          have HVH := Lib.hid hv
          clear hv
          have hp0 : ¬ p = 0 := by omega
          go_wp2_with fail
          go_region
          obtain ⟨w12, hw12⟩ : ∃ w12, w12 = (w9.setCell ⟨w1.heap.size, k, none⟩ (.int .i64 v)).drew := ⟨_, rfl⟩
          rw [← hw12]
          have ownw12 : OwnI w12 w1.heap.size 3 (some ⟨w1.heap.size, 0, none⟩) N N (((addTill p xs ys N k).set k x).set k v) := by rw [hw12]; exact (ownw9.stored k v).drew
          have hbw12 : Below w1.heap.size w1 w12 := by rw [hw12]; exact (hbw9.setCell (p := ⟨w1.heap.size, k, none⟩) (Nat.le_refl _) _).drew
          have hcw12 : w12.cell? ⟨w1.heap.size, k, none⟩ = some (.int .i64 v) := by
            have := ownw12.cellAt hlt
            rwa [set_at _ _ (by have := ownw12.len; rw [List.length_set] at this; omega)] at this
          have hfw12 : w12.frozen? ⟨w1.heap.size, k, none⟩ = false := ownw12.frozenAt k
          clear hw12
          go_wp2
          go_roundw
          case rel => exact ⟨k + 1, by omega, by go_num, by rw [← addTill_set p HN.out hlt, HVV.out]; simpa only [List.set_set] using ownw12, hbw12⟩
          case measure => simp [intOf]; omega
      · have hxi : ¬ ((k : Int) < (n : Int)) := by omega
        have hyl : k < m := by have := hNor k hlt; omega
        obtain ⟨b2, o2, rfl, hb2, hc2⟩ := h2.2 (by omega)
        have hb2' : b2 < w1.heap.size := Nat.lt_of_lt_of_le hb2 hbb1.size
        have hcy := (hb.cell (p := ⟨b2, o2 + k, none⟩) hb2').trans ((hbb1.cell (p := ⟨b2, o2 + k, none⟩) hb2).trans (hc2 k hyl))
        clear hc2
        have hye := allP_getD HY.out (k := k) (by rw [HM.out]; exact hyl)
        obtain ⟨y, HYY⟩ : ∃ y, Hid (ys.getD k 0 = y) := ⟨_, Lib.hid rfl⟩
        rw [HYY.out] at hcy hye
        have hyi : (k : Int) < (m : Int) := by omega
        have hw0 : IntKind.i64.wrap (0 + y) = y := by rw [Int.zero_add]; exact IntWalk.i64_in _ (by omega)
        have hwy : IntKind.i64.wrap y = y := IntWalk.i64_in _ (by omega)
        go_wp2_with fail
        go_region
        obtain ⟨w10, hw10⟩ : ∃ w10, w10 = (wr.setCell ⟨w1.heap.size, k, none⟩ (.int .i64 y)).drew := ⟨_, rfl⟩
        rw [← hw10]
        have ownw10 : OwnI w10 w1.heap.size 3 (some ⟨w1.heap.size, 0, none⟩) N N ((addTill p xs ys N k).set k y) := by rw [hw10]; exact (hown.stored k y).drew
        have hbw10 : Below w1.heap.size w1 w10 := by rw [hw10]; exact (hb.setCell (p := ⟨w1.heap.size, k, none⟩) (Nat.le_refl _) _).drew
        have hcw10 : w10.cell? ⟨w1.heap.size, k, none⟩ = some (.int .i64 y) := by
          have := ownw10.cellAt hlt
          rwa [set_at _ _ (by have := ownw10.len; rw [List.length_set] at this; omega)] at this
        have hfw10 : w10.frozen? ⟨w1.heap.size, k, none⟩ = false := ownw10.frozenAt k
        clear hw10
        have hFe := hF1.below hbw10 hF1.lt
        have hce : w10.cell? ⟨w.heap.size, 0, none⟩ = some (.int .i64 p) := (hFe.cell 0).trans rfl
        obtain ⟨v, hv⟩ : ∃ v, (y) % p = v := ⟨_, rfl⟩
        have hvt : (y).tmod p = v := by rw [Int.tmod_eq_emod_of_nonneg (by omega)]; exact hv
        have HVV : Hid ((xs.getD k 0 + ys.getD k 0) % p = v) := Lib.hid (by rw [HYY.out, getD_out5 xs (by rw [HL.out]; omega), Int.zero_add]; exact hv)
        have HVH := Lib.hid hv
        clear hv
        have hp0 : ¬ p = 0 := by omega
        go_wp2_with fail
        go_region
        obtain ⟨w12, hw12⟩ : ∃ w12, w12 = (w10.setCell ⟨w1.heap.size, k, none⟩ (.int .i64 v)).drew := ⟨_, rfl⟩
        rw [← hw12]
        have ownw12 : OwnI w12 w1.heap.size 3 (some ⟨w1.heap.size, 0, none⟩) N N (((addTill p xs ys N k).set k y).set k v) := by rw [hw12]; exact (ownw10.stored k v).drew
        have hbw12 : Below w1.heap.size w1 w12 := by rw [hw12]; exact (hbw10.setCell (p := ⟨w1.heap.size, k, none⟩) (Nat.le_refl _) _).drew
        have hcw12 : w12.cell? ⟨w1.heap.size, k, none⟩ = some (.int .i64 v) := by
          have := ownw12.cellAt hlt
          rwa [set_at _ _ (by have := ownw12.len; rw [List.length_set] at this; omega)] at this
        have hfw12 : w12.frozen? ⟨w1.heap.size, k, none⟩ = false := ownw12.frozenAt k
        clear hw12
        go_wp2
        go_roundw
        case rel => exact ⟨k + 1, by omega, by go_num, by rw [← addTill_set p HN.out hlt, HVV.out]; simpa only [List.set_set] using ownw12, hbw12⟩
        case measure => simp [intOf]; omega
    · obtain rfl : k = N := by omega
      have hall : addTill p xs ys k k = rawAdd p xs ys := by have := addTill_all p xs ys; rwa [← HN.out] at this
      rw [hall] at hown
      have hTL : tn (rawAdd p xs ys) k = (addL p xs ys).length := by unfold addL; rw [trimL_len, rawAdd_len, ← HN.out]
      have HTL := Lib.hid hTL
      have HAD : Hid (trimL (rawAdd p xs ys) = addL p xs ys) := Lib.hid rfl
      have hIw := hown.ints
      have hbw := bnext hbb1 hb
      clear hall hTL
      go_wp2_with (go_at_call 52; refine (rtrim_any _ k k (rawAdd p xs ys) _ hIw (Nat.le_refl _) (by omega)).mono ?_; rintro e w13 ⟨⟨A5, c5, rfl, hown5⟩, hb13⟩
                   rw [HTL.out, HAD.out] at hown5
                   rw [HTL.out])
      go_ret2
      exact ⟨⟨A5, c5, rfl, hown5.base hbw.size⟩, bnext hbw hb13⟩
end Go.Proofs.YtnjdjcgandfnfaaDoor

/-! Ref5b -/
namespace Go.Proofs.YtnjdjcgandfnfaaDoor
open Go.RowKit
set_option linter.unusedVariables false

theorem value_step {p : Int} (hp : 2 ≤ p) (x : Int) (zs : List Int) {j : Nat} (hj : j < zs.length) : (valueP p x (zs.drop (j + 1)) * x + zs.getD j 0) % p = valueP p x (zs.drop j) := by
  rw [List.drop_eq_getElem_cons hj]
  show _ = addP p (mulP p (valueP p x (zs.drop (j + 1))) x) _
  unfold addP mulP
  rw [List.getD_eq_getElem?_getD, List.getElem?_eq_getElem hj, Option.getD_some]
  exact (Int.emod_add_emod _ _ _).symm

set_option maxRecDepth 100000 in
set_option maxHeartbeats 800000 in
theorem rvalue_any (p x : Int) (A : Option Addr) (n c : Nat) (zs : List Int) (w : World) (hp : 2 ≤ p ∧ p ≤ 65521) (hx : 0 ≤ x ∧ x < p) (h : Ints w w.heap.size A n zs) (hz : allP p zs = true) (hn : n ≤ 1000) :
    Calls Tryd.prog 73 #[.agg #[.int .i64 p], .slice A n c, .int .i64 x] w fun e w' => e = .returned (.int .i64 (valueP p x zs)) ∧ Below w.heap.size w w' := by
  have HL := Lib.hid h.len
  have HZ := Lib.hid hz
  have hB0 : Below w.heap.size w (w.alloc (.cells #[.int .i64 p] 24)) := bbox _
  have hF0 := Blk.new w 24 #[.int .i64 p]
  have hcF0 : (w.alloc (.cells #[.int .i64 p] 24)).cell? ⟨w.heap.size, 0, none⟩ = some (.int .i64 p) := (hF0.cell 0).trans rfl
  have hI := h.upto hB0
  have hn1 : IntKind.i64.wrap ((n : Int) - 1) = (n : Int) - 1 := IntWalk.i64_in _ (by omega)
  clear hz
  go_enter Tryd.func73, Tryd.ntmps73
  go_wp2
  obtain ⟨w1, hw1⟩ : ∃ w1, w1 = w.alloc (.cells #[.int .i64 p] 24) := ⟨_, rfl⟩
  rw [← hw1] at hB0 hcF0 hI ⊢
  clear hw1 hF0
  go_loopw [7, 8] (fun s i wz => ∃ (k q : Nat) (iv sv : Int), k ≤ n ∧ i = .int .i64 iv ∧ Hid (iv = (k : Int) - 1) ∧ s = .int .i64 sv ∧ Hid (valueP p x (zs.drop k) = sv) ∧ wz = w1.drewN q) (fun _ i _ => (intOf i + 1).toNat)
  case atStart => exact ⟨n, 0, _, 0, Nat.le_refl _, rfl, Lib.hid rfl, rfl, Lib.hid (by rw [List.drop_of_length_le (by rw [HL.out]; exact Nat.le_refl _)]; rfl), rfl⟩
  case round =>
    obtain ⟨k, q, iv, sv, hk, rfl, HI, rfl, HS, rfl⟩ := hrel
    by_cases hk0 : 0 < k
    · obtain ⟨j, rfl⟩ : ∃ j, k = j + 1 := ⟨k - 1, by omega⟩
      obtain rfl : iv = (j : Int) := by have := HI.out; omega
      obtain ⟨b, off, rfl, hb, hcell⟩ := hI.2 (by omega)
      have hcj := hcell j (by omega)
      clear hcell
      have hye := allP_getD HZ.out (k := j) (by rw [HL.out]; omega)
      have hsv := valueP_in hp.1 x (zs.drop (j + 1))
      have hst := value_step hp.1 x zs (j := j) (by rw [HL.out]; omega)
      rw [HS.out] at hsv hst
      obtain ⟨y, HY⟩ : ∃ y, Hid (zs.getD j 0 = y) := ⟨_, Lib.hid rfl⟩
      rw [HY.out] at hcj hye hst
      obtain ⟨v, hv⟩ : ∃ v, (sv * x + y) % p = v := ⟨_, rfl⟩
      have HN : Hid (valueP p x (zs.drop j) = v) := Lib.hid (hst.symm.trans hv)
      have hsx : 0 ≤ sv * x ∧ sv * x ≤ 65521 * 65521 := ⟨Int.mul_nonneg hsv.1 hx.1, by have := Int.mul_le_mul (show sv ≤ 65521 by omega) (show x ≤ 65521 by omega) hx.1 (by omega); omega⟩
      have hw1 : IntKind.i64.wrap (sv * x) = sv * x := IntWalk.i64_in _ (by omega)
      have hw2 : IntKind.i64.wrap (sv * x + y) = sv * x + y := IntWalk.i64_in _ (by omega)
      have hvt : (sv * x + y).tmod p = v := by rw [Int.tmod_eq_emod_of_nonneg (by omega)]; exact hv
      have hjm : IntKind.i64.wrap ((j : Int) - 1) = (j : Int) - 1 := IntWalk.i64_in _ (by omega)
      have hj0 : (0 : Int) ≤ (j : Int) := by omega
      have hjn : (j : Int) < (n : Int) := by omega
      have hp0 : ¬ p = 0 := by omega
      clear hst hv hsx HI
      go_wp2
      go_quiet (fail)
      go_wp2
      go_roundw
      case rel => exact ⟨j, _, _, v, by omega, rfl, Lib.hid rfl, rfl, HN, rfl⟩
      case measure => simp [intOf]
    · obtain rfl : k = 0 := by omega
      have hiv : iv < 0 := by have := HI.out; omega
      have hiv2 : ¬ (0 ≤ iv) := by omega
      have HS2 : Hid (valueP p x zs = sv) := HS
      go_wp2
      go_ret
      exact ⟨ret_int HS2.out.symm, below_drewN hB0 _⟩

set_option maxRecDepth 100000 in
theorem rValue_ok (p x : Int) (A : Option Addr) (n c : Nat) (zs : List Int) (w : World) (hok : okP p = true) (hx : 0 ≤ x ∧ x < p) (h : Ints w w.heap.size A n zs) (hz : allP p zs = true) (hn : n ≤ 512) :
    Calls Tryd.prog 53 #[.agg #[.int .i64 p], .slice A n c, .int .i64 x] w fun e w' => e = .returned (.tuple #[.int .i64 (valueP p x zs), .int .i64 0]) ∧ Below w.heap.size w w' := by
  have hp := okP_pos hok
  have HO := Lib.hid hok
  have HZ := Lib.hid hz
  have HXI : Hid (inF p [x] = true) := Lib.hid (inF_iff.2 ⟨hok, allP_iff.2 (by simpa using hx)⟩)
  have HR : Hid (∀ r ∈ [zs], allP p r = true ∧ r.length ≤ 512) := Lib.hid fun r hr => by rw [List.mem_singleton.1 hr]; exact ⟨hz, by rw [h.len]; exact hn⟩
  have hF0 := (Blk.new w 24 #[.int .i64 p]).alloc (.cells #[.int .i64 x] 3)
  have hb0 : Below w.heap.size w ((w.alloc (.cells #[.int .i64 p] 24)).alloc (.cells #[.int .i64 x] 3)) := ballocs (bbox _) _
  obtain ⟨v, HV⟩ : ∃ v, Hid (valueP p x zs = v) := ⟨_, Lib.hid rfl⟩
  rw [HV.out]
  clear hok hz
  go_enter Tryd.func53, Tryd.ntmps53
  go_wp2_with (first
    | (go_at_call 72; (refine (in_any p _ 1 1 [x] _ (by exact Ints.oneAt _ x 3 _ (by simp)) (by omega)).mono ?_); rintro e w1 ⟨rfl, hb1⟩
       rw [HXI.out]
       have hbb1 := bnext hb0 hb1
       have hF1 := hF0.below hb1 hF0.lt
       have hcF1 : w1.cell? ⟨w.heap.size, 0, none⟩ = some (.int .i64 p) := (hF1.cell 0).trans rfl
       have hI1 := h.upto hbb1)
    | (go_at_call 51; (refine (rlists_ok p _ 1 1 [zs] _ HO.out (by exact Mat.one _ A n c zs 22 _ rfl hI1 (by omega)) (by omega) HR.out).mono ?_); rintro e w2 ⟨rfl, hb2⟩
       have hbb2 := bnext (ballocs hbb1 _) hb2
       have hF2 := (hF1.alloc _).below hb2 (hF1.alloc _).lt
       have hcF2 : w2.cell? ⟨w.heap.size, 0, none⟩ = some (.int .i64 p) := (hF2.cell 0).trans rfl
       have hI2 := h.upto hbb2)
    | (go_at_call 73; (with_reducible refine (rvalue_any p x A n c zs _ hp hx hI2 HZ.out (by omega)).mono ?_); rintro e w3 ⟨rfl, hb3⟩
       rw [HV.out]
       have hbb3 := bnext hbb2 hb3))
  go_ret2
  exact ⟨rfl, hbb3⟩

set_option maxRecDepth 100000 in
theorem rTrim_ok (p : Int) (A : Option Addr) (n c : Nat) (zs : List Int) (w : World) (hok : okP p = true) (h : Ints w w.heap.size A n zs) (hz : allP p zs = true) (hc : n ≤ c) (hn : n ≤ 512) :
    Calls Tryd.prog 28 #[.agg #[.int .i64 p], .slice A n c] w fun e w' => (∃ A' c', e = .returned (.tuple #[.slice A' (trimL zs).length c', .int .i64 0]) ∧ OwnI w' w.heap.size 3 A' (trimL zs).length c' (trimL zs)) ∧ Below w.heap.size w w' := by
  have HO := Lib.hid hok
  have HR : Hid (∀ r ∈ [zs], allP p r = true ∧ r.length ≤ 512) := Lib.hid fun r hr => by rw [List.mem_singleton.1 hr]; exact ⟨hz, by rw [h.len]; exact hn⟩
  have HTL : Hid (tn zs n = (trimL zs).length) := Lib.hid (by rw [trimL_len, h.len])
  have hb0 : Below w.heap.size w (w.alloc (.cells #[.int .i64 p] 24)) := bbox _
  have hI0 := h.upto hb0
  clear hok hz
  go_enter Tryd.func28, Tryd.ntmps28
  go_wp2_with (first
    | (go_at_call 51; (refine (rlists_ok p _ 1 1 [zs] _ HO.out (by exact Mat.one _ A n c zs 22 _ (by simp) hI0 (by omega)) (by omega) HR.out).mono ?_); rintro e w2 ⟨rfl, hb2⟩
       have hbb2 := bnext (ballocs hb0 _) hb2
       have hI2 := h.upto hbb2)
    | (go_at_call 52; (with_reducible refine (rtrim_any A n c zs _ hI2 hc (by omega)).mono ?_); rintro e w3 ⟨⟨A3, c3, rfl, hown3⟩, hb3⟩
       rw [HTL.out] at hown3
       rw [HTL.out]
       have hbb3 := bnext hbb2 hb3))
  go_ret2
  exact ⟨⟨A3, c3, rfl, hown3.base hbb2.size⟩, hbb3⟩

set_option maxRecDepth 100000 in
set_option maxHeartbeats 1600000 in
theorem rencode_ok (p : Int) (C : Option Addr) (m c n : Nat) (cs : List Int) (w : World) (hok : okP p = true) (h : Ints w w.heap.size C m cs) (hca : allP p cs = true) (hmc : m ≤ c) (hm : m ≤ 512) (hn : n ≤ 32) (hnp : (n : Int) < p) :
    Calls Tryd.prog 29 #[.agg #[.int .i64 p], .slice C m c, .int .i64 n] w fun e w' => (∃ A' c', e = .returned (.tuple #[.slice A' n c', .int .i64 0]) ∧ OwnI w' w.heap.size 3 A' n c' (valsP p cs (ptsL n))) ∧ Below w.heap.size w w' := by
  obtain ⟨i0, hi0, hz0, hz1, hz2⟩ := info_parts info_int
  have hp := okP_pos hok
  have HO := Lib.hid hok
  have HC := Lib.hid hca
  have h1 : ¬ ((n : Int) < 0) := by omega
  have h3 : ¬ ((32 : Int) < (n : Int)) := by omega
  have h3N : ¬ 32 < n := by omega
  have h4 : ¬ (p ≤ (n : Int)) := by omega
  have hb0 : Below w.heap.size w (w.alloc (.cells #[.int .i64 p] 24)) := bbox _
  have hF0 := Blk.new w 24 #[.int .i64 p]
  have hS0 := h.upto hb0
  clear hok hca
  go_enter Tryd.func29, Tryd.ntmps29
  go_wp2_with (go_at_call 28; (refine (rTrim_ok p C m c cs _ HO.out hS0 HC.out hmc hm).mono ?_); rintro e w1 ⟨⟨A1, c1, rfl, _⟩, hb1⟩
               have hbb1 := bnext hb0 hb1
               have hF1 := hF0.below hb1 hF0.lt
               have hcF1 : w1.cell? ⟨w.heap.size, 0, none⟩ = some (.int .i64 p) := (hF1.cell 0).trans rfl
               have hC1 := hS0.upto hb1)
  go_loopw [10, 11] (fun s i wz => ∃ (k m' : Nat) (L : Option Addr) (lc : Nat), k ≤ n ∧ s = .slice L k lc ∧ i = .int .i64 m' ∧ Hid (m' = k + 1) ∧ OwnI wz w1.heap.size 3 L k lc (valsP p cs (ptsL k)) ∧ Below w1.heap.size w1 wz) (fun _ i _ => n + 1 - (intOf i).toNat)
  case atStart => exact ⟨0, 1, none, 0, Nat.zero_le _, rfl, rfl, Lib.hid rfl, OwnI.nil_, Below.refl _ _⟩
  case round =>
    obtain ⟨k, m', L, lc, hk, rfl, rfl, HM, hown, hb⟩ := hrel
    by_cases hlt : k < n
    · have hki : (m' : Int) ≤ (n : Int) := by have := HM.out; omega
      obtain ⟨m2, hm2⟩ : ∃ m2 : Nat, m' + 1 = m2 := ⟨_, rfl⟩
      have hkw : IntKind.i64.wrap ((m' : Int) + 1) = (m2 : Int) := by rw [IntWalk.i64_in _ (by omega)]; omega
      have HM2 : Hid (m2 = k + 1 + 1) := Lib.hid (by rw [← hm2, HM.out])
      have hFz := hF1.below hb hF1.lt
      have hcz : wr.cell? ⟨w.heap.size, 0, none⟩ = some (.int .i64 p) := (hFz.cell 0).trans rfl
      have hCz := hC1.upto hb
      have hx : 0 ≤ (m' : Int) ∧ (m' : Int) < p := by omega
      clear hm2
      obtain ⟨v, HV⟩ : ∃ v, Hid (valueP p (m' : Int) cs = v) := ⟨_, Lib.hid rfl⟩
      have HS : Hid (valsP p cs (ptsL (k + 1)) = valsP p cs (ptsL k) ++ [v]) := Lib.hid (by rw [ptsL_succ, valsP_snoc, ← HV.out, HM.out]; rfl)
      go_wp2_with (first
        | (go_at_call 53; (with_reducible refine (rValue_ok p (m' : Int) C m c cs _ HO.out hx hCz HC.out hm).mono ?_); rintro e w2 ⟨rfl, hb2⟩
           rw [HV.out]
           have hbz2 := bnext hb hb2
           have hbz3 := ballocs hbz2 (.cells #[.int .i64 v] 3)
           have hown2 := (hown.belowAll hb2).alloc (.cells #[.int .i64 v] 3))
        | (at_builtin
           refine wpList_append_ints rfl _ _ _ rfl w1.heap.size 3 i0 _ Tryd.underlying22 hi0 hz0 hz1 hz2 rfl L k lc _ rfl hown2 _ _ 1 1 [v] rfl (Ints.one _ _ _) (k + 1) rfl _ HS.out.symm (by omega) hbz3.size ?_
           intro A2 c2 w4 hown4 hgr hbw4 hab
           have hbz4 := hbz3.trans hbw4))
      go_roundw
      case rel => exact ⟨k + 1, m2, A2, c2, by omega, rfl, by go_num, HM2, hown4, hbz4⟩
      case measure => have e1 := HM.out; have e2 := HM2.out; simp [intOf]; omega
    · obtain rfl : k = n := by omega
      have hki : ¬ ((m' : Int) ≤ (k : Int)) := by have := HM.out; omega
      go_wp2
      go_ret2
      exact ⟨⟨L, lc, rfl, hown.base hbb1.size⟩, bnext hbb1 hb⟩
end Go.Proofs.YtnjdjcgandfnfaaDoor

/-! Ref8D -/
namespace Go.Proofs.YtnjdjcgandfnfaaDoor
open Go.RowKit
set_option linter.unusedVariables false

theorem knL_ptvl (l : List (Int × Int)) (a b : Int) : ptK (l ++ [(a, b)]) = ptK l ++ [a] ∧ vlK (l ++ [(a, b)]) = vlK l ++ [b] := by simp [ptK, vlK]
set_option maxRecDepth 100000 in
theorem rknown_ok (A : Option Addr) (m c : Nat) (vs : List Int) (bs : List Bool) (w : World) (h : Cel w w.heap.size A m vs bs) (hm : m ≤ 32) :
    Calls Tryd.prog 36 #[.slice A m c] w fun e w' => (∃ (A' : Option Addr) (c' : Nat), e = .returned (.slice A' (knL vs bs).length c') ∧ OwnS w' w.heap.size A' (knL vs bs).length c' (ptK (knL vs bs)) (vlK (knL vs bs))) ∧ Below w.heap.size w w' := by
  have HV := Lib.hid h.1
  have HB := Lib.hid h.2.1
  go_enter Tryd.func36, Tryd.ntmps36
  go_wp2_with fail
  go_loopw [3, 8] (fun s i wz => ∃ (k q : Nat) (L : Option Addr) (lc : Nat) (l : List (Int × Int)), k ≤ m ∧ q ≤ k ∧ i = .int .i64 k ∧ s = .slice L q lc ∧ Hid (OwnS wz w.heap.size L q lc (ptK l) (vlK l)) ∧ Hid (knL (vs.take k) (bs.take k) = l) ∧ Below w.heap.size w wz) (fun _ i _ => m - (intOf i).toNat)
  case atStart => exact ⟨0, 0, none, 0, [], Nat.zero_le _, Nat.le_refl _, rfl, rfl, Lib.hid OwnS.nil_, Lib.hid (by simp [knL, knF]), Below.refl _ _⟩
  case round =>
    obtain ⟨k, q, L, lc, l, hk, hqk, rfl, rfl, HO, HQ, hb⟩ := hrel
    by_cases hlt : k < m
    · obtain ⟨b1, o1, rfl, hb1, hc1⟩ := h.2.2 (by omega)
      have hx0 := (hb.cell (p := ⟨b1, o1 + k * 2, none⟩) hb1).trans (hc1 k hlt).1
      have hx1 := (hb.cell (p := ⟨b1, o1 + k * 2 + 1, none⟩) hb1).trans (hc1 k hlt).2
      clear hc1
      have HS := Lib.hid (knL_step (vs := vs) (bs := bs) (by rw [HV.out, HB.out]) (j := k) (by rw [HV.out]; exact hlt))
      have hki : (k : Int) < (m : Int) := by omega
      have hk0 : (0 : Int) ≤ (k : Int) := by omega
      have hkw : IntKind.i64.wrap ((k : Int) + 1) = (k : Int) + 1 := IntWalk.i64_in _ (by omega)
      obtain ⟨y, hy⟩ : ∃ y, vs.getD k 0 = y := ⟨_, rfl⟩
      rw [hy] at hx0 HS
      clear hy
      by_cases hbk : bs.getD k false = true
      · have HQ2 : Hid (knL (vs.take (k + 1)) (bs.take (k + 1)) = l ++ [((k : Int) + 1, y)]) := Lib.hid (by rw [HS.out, if_pos hbk, HQ.out])
        rw [hbk] at hx1
        clear hbk HS
        have HP := Lib.hid (knL_ptvl l ((k : Int) + 1) y)
        have hO1 := (HO.out.belowAll (bbox (.cells #[.int .i64 y, .bool true] 59))).belowAll (bbox (.cells #[.int .i64 ((k : Int) + 1), .int .i64 y] 85))
        have hb2 := ballocs (ballocs hb (.cells #[.int .i64 y, .bool true] 59)) (.cells #[.int .i64 ((k : Int) + 1), .int .i64 y] 85)
        have hN9 := Blk.new1 wr (.cells #[.int .i64 y, .bool true] 59) 85 #[.int .i64 ((k : Int) + 1), .int .i64 y]
        go_wp2_with (at_builtin
                     refine wpList_append_share rfl _ _ _ rfl Tryd.underlying70 w.heap.size L q lc (ptK l) (vlK l) rfl hO1 (wr.heap.size + 1) 1 ((k : Int) + 1) y rfl ((hN9.cell 0).trans rfl) ((hN9.cell 1).trans rfl) (by omega) hb2.size ?_
                     intro L2 lc2 w4 hO4 hb4)
        go_roundw
        case rel => exact ⟨k + 1, q + 1, L2, lc2, _, by omega, by omega, by go_num, rfl, Lib.hid (by rw [HP.out.1, HP.out.2]; exact hO4), HQ2, hb2.trans hb4⟩
        case measure => simp [intOf]; omega
      · have HQ2 : Hid (knL (vs.take (k + 1)) (bs.take (k + 1)) = l) := Lib.hid (by rw [HS.out, if_neg hbk, List.append_nil, HQ.out])
        have hbf : bs.getD k false = false := by simpa using hbk
        rw [hbf] at hx1
        clear hbk hbf HS
        have hO1 := Lib.hid (HO.out.belowAll (bbox (.cells #[.int .i64 y, .bool false] 59)))
        go_wp2
        go_roundw
        case rel => exact ⟨k + 1, q, L, lc, l, by omega, by omega, by go_num, rfl, hO1, HQ2, ballocs hb _⟩
        case measure => simp [intOf]; omega
    · obtain rfl : k = m := by omega
      have HQ3 := HQ.out
      rw [List.take_of_length_le (by rw [HV.out]; exact Nat.le_refl _), List.take_of_length_le (by rw [HB.out]; exact Nat.le_refl _)] at HQ3
      have hql : l.length = q := by have := HO.out.1; rwa [ptK_len] at this
      have HO2 := HO.out
      rw [← HQ3] at HO2 hql
      have HL := Lib.hid hql
      have HO3 := Lib.hid HO2
      clear HQ3 hql HO2
      go_wp2
      go_ret
      rw [HL.out]
      exact ⟨⟨L, lc, rfl, HO3.out⟩, hb⟩
set_option maxRecDepth 100000 in
theorem rcells_ok (p : Int) (A : Option Addr) (m c : Nat) (vs : List Int) (bs : List Bool) (w : World) (hok : okP p = true) (h : Cel w w.heap.size A m vs bs) (hm : m ≤ 32) (hmp : (m : Int) < p) (hkn : knOk p vs bs) :
    Calls Tryd.prog 54 #[.agg #[.int .i64 p], .slice A m c] w fun e w' => e = .returned (.int .i64 0) ∧ Below w.heap.size w w' := by
  have hp := okP_pos hok
  have HOK := Lib.hid hok
  have HKN := Lib.hid hkn
  have HV := Lib.hid h.1
  have HB := Lib.hid h.2.1
  have hF0 := Blk.new w 24 #[.int .i64 p]
  have hb0 : Below w.heap.size w (w.alloc (.cells #[.int .i64 p] 24)) := bbox _
  have hge1 : ¬ p ≤ (m : Int) := by omega
  have hge2 : ¬ (32 : Int) < (m : Int) := by omega
  have hge3 : ¬ 32 < m := by omega
  have hge5 : decide ((m : Int) ≥ p) = false := decide_eq_false hge1
  clear hok hkn
  go_enter Tryd.func54, Tryd.ntmps54
  go_wp2_with (go_at_call 71; refine (check_yes p _ HOK.out).mono ?_; rintro e w1 ⟨rfl, hb1⟩
               have hbb1 := bnext hb0 hb1
               have hF1 := hF0.below hb1 hF0.lt
               have hcf : w1.cell? ⟨w.heap.size, 0, none⟩ = some (.int .i64 p) := (hF1.cell 0).trans rfl)
  go_loopw [25] (fun i wz => ∃ k : Nat, k ≤ m ∧ i = .int .i64 k ∧ Below w1.heap.size w1 wz) (fun i _ => m - (intOf i).toNat)
  case atStart => exact ⟨0, Nat.zero_le _, rfl, Below.refl _ _⟩
  case round =>
    obtain ⟨k, hk, rfl, hb⟩ := hrel
    have hFz := hF1.below hb hF1.lt
    have hbw := bnext hbb1 hb
    by_cases hlt : k < m
    · have hS := h.upto hbw
      obtain ⟨b1, o1, rfl, hbl1, hc1⟩ := hS.2.2 (by omega)
      have hx0 := (hc1 k hlt).1
      have hx1 := (hc1 k hlt).2
      clear hc1
      have hki : (k : Int) < (m : Int) := by omega
      have hk0 : (0 : Int) ≤ (k : Int) := by omega
      by_cases hbk : bs.getD k false = true
      · have hyb := knOk_at HKN.out (by rw [HV.out, HB.out]) hbk
        obtain ⟨y, hy⟩ : ∃ y, vs.getD k 0 = y := ⟨_, rfl⟩
        rw [hy] at hx0 hyb
        rw [hbk] at hx1
        clear hy hbk
        have HIN : Hid (inF p [y] = true) := Lib.hid (inF_iff.2 ⟨HOK.out, allP_iff.2 fun z hz => by rw [List.mem_singleton.1 hz]; exact hyb⟩)
        have hFz1 := hFz.alloc (.cells #[.int .i64 y, .bool true] 59)
        have hcf1 : (wr.alloc (.cells #[.int .i64 y, .bool true] 59)).cell? ⟨w.heap.size, 0, none⟩ = some (.int .i64 p) := (hFz1.cell 0).trans rfl
        have hcf2 : wr.cell? ⟨w.heap.size, 0, none⟩ = some (.int .i64 p) := (hFz.cell 0).trans rfl
        go_wp2_with (go_at_call 72; (refine (in_any p _ 1 1 [y] _ (by exact Ints.oneAt _ y 3 _ (by simp)) (by omega)).mono ?_); rintro e w2 ⟨rfl, hb2⟩
                     rw [HIN.out]
                     have hbz2 := bnext (ballocs (ballocs hb (.cells #[.int .i64 y, .bool true] 59)) (.cells #[.int .i64 y] 3)) hb2)
        go_roundw
        case rel => exact ⟨k + 1, by omega, by go_num, hbz2⟩
        case measure => simp [intOf]; omega
      · have hbf : bs.getD k false = false := by simpa using hbk
        obtain ⟨y, hy⟩ : ∃ y, vs.getD k 0 = y := ⟨_, rfl⟩
        rw [hy] at hx0
        rw [hbf] at hx1
        clear hy hbk hbf
        go_wp2_with fail
        go_roundw
        case rel => exact ⟨k + 1, by omega, by go_num, ballocs hb _⟩
        case measure => simp [intOf]; omega
    · obtain rfl : k = m := by omega
      go_wp2
      go_ret
      exact ⟨rfl, hbw⟩
theorem wrL_snocN (p : Int) (P : List Int) (l : List (Int × Int)) (e : Int × Int) : (wrL p P (l ++ [e])).length = (wrL p P l).length + (if valueP p e.1 P = e.2 then 0 else 1) := by
  unfold wrL
  rw [List.filter_append, List.map_append, List.length_append]
  by_cases h : valueP p e.1 P = e.2 <;> simp [h]
end Go.Proofs.YtnjdjcgandfnfaaDoor

/-! RCelD -/
namespace Go.Proofs.YtnjdjcgandfnfaaDoor
open Go.RowKit
set_option linter.unusedVariables false

/-- The error of a field and cells. -/
def cellsE (p : Int) (vs : List Int) (bs : List Bool) : Int := if okP p = true then (if 32 < vs.length ∨ p ≤ (vs.length : Int) then 4 else (if (knL vs bs).all (fun e => inP p e.2) = true then 0 else 9)) else 9
theorem knOk_iff {p : Int} {vs : List Int} {bs : List Bool} : knOk p vs bs ↔ (knL vs bs).all (fun e => inP p e.2) = true := by
  rw [List.all_eq_true]
  exact ⟨fun h e he => inP_iff.2 (h e he), fun h e he => inP_iff.1 (h e he)⟩
theorem cellsE_ok {p : Int} {vs : List Int} {bs : List Bool} (h : cellsE p vs bs = 0) : okP p = true ∧ vs.length ≤ 32 ∧ (vs.length : Int) < p ∧ knOk p vs bs := by
  unfold cellsE at h
  split at h
  · rename_i h1
    split at h
    · cases h
    · rename_i h2
      split at h
      · rename_i h3
        exact ⟨h1, by omega, by omega, knOk_iff.2 h3⟩
      · cases h
  · cases h
theorem cellsE_field {p : Int} {vs : List Int} {bs : List Bool} (h : okP p = false) : cellsE p vs bs = 9 := by unfold cellsE; rw [if_neg (by rw [h]; simp)]
theorem cellsE_size {p : Int} {vs : List Int} {bs : List Bool} (h : okP p = true) (h2 : 32 < vs.length ∨ p ≤ (vs.length : Int)) : cellsE p vs bs = 4 := by unfold cellsE; rw [if_pos h, if_pos h2]
theorem cellsE_bad {p : Int} {vs : List Int} {bs : List Bool} (h : okP p = true) (h2 : ¬ (32 < vs.length ∨ p ≤ (vs.length : Int))) (h3 : ¬ knOk p vs bs) : cellsE p vs bs = 9 := by unfold cellsE; rw [if_pos h, if_neg h2, if_neg (fun a => h3 (knOk_iff.2 a))]
theorem cellsE_yes {p : Int} {vs : List Int} {bs : List Bool} (h : okP p = true) (h2 : ¬ (32 < vs.length ∨ p ≤ (vs.length : Int))) (h3 : knOk p vs bs) : cellsE p vs bs = 0 := by unfold cellsE; rw [if_pos h, if_neg h2, if_pos (knOk_iff.1 h3)]
set_option maxRecDepth 100000 in
theorem rcells_bad (p : Int) (A : Option Addr) (m c : Nat) (vs : List Int) (bs : List Bool) (w : World) (hok : okP p = true) (h : Cel w w.heap.size A m vs bs) (hm : m ≤ 32) (hmp : (m : Int) < p) (hkn : ¬ knOk p vs bs) :
    Calls Tryd.prog 54 #[.agg #[.int .i64 p], .slice A m c] w fun e w' => e = .returned (.int .i64 9) ∧ Below w.heap.size w w' := by
  have hp := okP_pos hok
  have HOK := Lib.hid hok
  have HKN := Lib.hid hkn
  have HV := Lib.hid h.1
  have HB := Lib.hid h.2.1
  have hF0 := Blk.new w 24 #[.int .i64 p]
  have hb0 : Below w.heap.size w (w.alloc (.cells #[.int .i64 p] 24)) := bbox _
  have hge1 : ¬ p ≤ (m : Int) := by omega
  have hge2 : ¬ (32 : Int) < (m : Int) := by omega
  have hge3 : ¬ 32 < m := by omega
  have hge5 : decide ((m : Int) ≥ p) = false := decide_eq_false hge1
  clear hok hkn
  go_enter Tryd.func54, Tryd.ntmps54
  go_wp2_with (go_at_call 71; refine (check_yes p _ HOK.out).mono ?_; rintro e w1 ⟨rfl, hb1⟩
               have hbb1 := bnext hb0 hb1
               have hF1 := hF0.below hb1 hF0.lt
               have hcf : w1.cell? ⟨w.heap.size, 0, none⟩ = some (.int .i64 p) := (hF1.cell 0).trans rfl)
  go_loopw [25] (fun i wz => ∃ k : Nat, k ≤ m ∧ i = .int .i64 k ∧ Hid (knOk p (vs.take k) (bs.take k)) ∧ Below w1.heap.size w1 wz) (fun i _ => m - (intOf i).toNat)
  case atStart => exact ⟨0, Nat.zero_le _, rfl, Lib.hid (fun e he => by cases he), Below.refl _ _⟩
  case round =>
    obtain ⟨k, hk, rfl, HK, hb⟩ := hrel
    have hFz := hF1.below hb hF1.lt
    have hbw := bnext hbb1 hb
    by_cases hlt : k < m
    · have hS := h.upto hbw
      obtain ⟨b1, o1, rfl, hbl1, hc1⟩ := hS.2.2 (by omega)
      have hx0 := (hc1 k hlt).1
      have hx1 := (hc1 k hlt).2
      have HST := Lib.hid (knL_step (vs := vs) (bs := bs) (by rw [HV.out, HB.out]) (j := k) (by rw [HV.out]; exact hlt))
      clear hc1
      have hki : (k : Int) < (m : Int) := by omega
      have hk0 : (0 : Int) ≤ (k : Int) := by omega
      by_cases hbk : bs.getD k false = true
      · obtain ⟨y, hy⟩ : ∃ y, vs.getD k 0 = y := ⟨_, rfl⟩
        rw [hy] at hx0 HST
        rw [hbk] at hx1 HST
        clear hy hbk
        have hFz1 := hFz.alloc (.cells #[.int .i64 y, .bool true] 59)
        have hcf1 : (wr.alloc (.cells #[.int .i64 y, .bool true] 59)).cell? ⟨w.heap.size, 0, none⟩ = some (.int .i64 p) := (hFz1.cell 0).trans rfl
        have hcf2 : wr.cell? ⟨w.heap.size, 0, none⟩ = some (.int .i64 p) := (hFz.cell 0).trans rfl
        by_cases hin : 0 ≤ y ∧ y < p
        · have HIN : Hid (inF p [y] = true) := Lib.hid (inF_iff.2 ⟨HOK.out, allP_iff.2 fun z hz => by rw [List.mem_singleton.1 hz]; exact hin⟩)
          have HK2 : Hid (knOk p (vs.take (k + 1)) (bs.take (k + 1))) := Lib.hid fun e he => by
            rw [HST.out] at he
            rcases List.mem_append.1 he with h1 | h1
            · exact HK.out e h1
            · rw [if_pos rfl] at h1; rw [List.mem_singleton.1 h1]; exact hin
          clear hin
          go_wp2_with (go_at_call 72; (refine (in_any p _ 1 1 [y] _ (by exact Ints.oneAt _ y 3 _ (by simp)) (by omega)).mono ?_); rintro e w2 ⟨rfl, hb2⟩
                       rw [HIN.out]
                       have hbz2 := bnext (ballocs (ballocs hb (.cells #[.int .i64 y, .bool true] 59)) (.cells #[.int .i64 y] 3)) hb2)
          go_roundw
          case rel => exact ⟨k + 1, by omega, by go_num, HK2, hbz2⟩
          case measure => simp [intOf]; omega
        · have HIN : Hid (inF p [y] = false) := Lib.hid (inF_false.2 fun _ => by
            rw [← Bool.not_eq_true, allP_iff]
            intro ha
            exact hin (ha y List.mem_cons_self))
          clear hin
          go_wp2_with (go_at_call 72; (refine (in_any p _ 1 1 [y] _ (by exact Ints.oneAt _ y 3 _ (by simp)) (by omega)).mono ?_); rintro e w2 ⟨rfl, hb2⟩
                       rw [HIN.out]
                       have hbz2 := bnext (ballocs (ballocs hb (.cells #[.int .i64 y, .bool true] 59)) (.cells #[.int .i64 y] 3)) hb2)
          go_ret
          exact ⟨rfl, bnext hbb1 hbz2⟩
      · have hbf : bs.getD k false = false := by simpa using hbk
        obtain ⟨y, hy⟩ : ∃ y, vs.getD k 0 = y := ⟨_, rfl⟩
        rw [hy] at hx0
        rw [hbf] at hx1 HST
        have HK2 : Hid (knOk p (vs.take (k + 1)) (bs.take (k + 1))) := Lib.hid fun e he => by
          rw [HST.out] at he
          rcases List.mem_append.1 he with h1 | h1
          · exact HK.out e h1
          · simp at h1
        clear hy hbk hbf
        go_wp2_with fail
        go_roundw
        case rel => exact ⟨k + 1, by omega, by go_num, HK2, ballocs hb _⟩
        case measure => simp [intOf]; omega
    · obtain rfl : k = m := by omega
      have hK := HK.out
      rw [List.take_of_length_le (by rw [HV.out]; exact Nat.le_refl _), List.take_of_length_le (by rw [HB.out]; exact Nat.le_refl _)] at hK
      exact absurd hK HKN.out
set_option maxRecDepth 100000 in
theorem rcells_all (p : Int) (A : Option Addr) (m c : Nat) (vs : List Int) (bs : List Bool) (w : World) (hp64 : -9223372036854775808 ≤ p ∧ p ≤ 9223372036854775807) (h : Cel w w.heap.size A m vs bs) (hm : m ≤ 1000) :
    Calls Tryd.prog 54 #[.agg #[.int .i64 p], .slice A m c] w fun e w' => e = .returned (.int .i64 (cellsE p vs bs)) ∧ Below w.heap.size w w' := by
  have hF0 := Blk.new w 24 #[.int .i64 p]
  have hb0 : Below w.heap.size w (w.alloc (.cells #[.int .i64 p] 24)) := bbox _
  have hv := h.1
  by_cases hok : okP p = true
  · by_cases hs : 32 < m ∨ p ≤ (m : Int)
    · have HE : Hid (cellsE p vs bs = 4) := Lib.hid (cellsE_size hok (by rw [hv]; exact hs))
      have HOK := Lib.hid hok
      rw [HE.out]
      clear hok
      by_cases h1 : 32 < m
      · have h1i : (32 : Int) < (m : Int) := by omega
        go_enter Tryd.func54, Tryd.ntmps54
        go_wp2_with (go_at_call 71; refine (check_yes p _ HOK.out).mono ?_; rintro e w1 ⟨rfl, hb1⟩
                     have hbb1 := bnext hb0 hb1
                     have hF1 := hF0.below hb1 hF0.lt
                     have hcf : w1.cell? ⟨w.heap.size, 0, none⟩ = some (.int .i64 p) := (hF1.cell 0).trans rfl)
        go_ret
        exact ⟨rfl, hbb1⟩
      · have h1i : ¬ (32 : Int) < (m : Int) := by omega
        have hge : p ≤ (m : Int) := by omega
        have hge5 : decide ((m : Int) ≥ p) = true := decide_eq_true hge
        go_enter Tryd.func54, Tryd.ntmps54
        go_wp2_with (go_at_call 71; refine (check_yes p _ HOK.out).mono ?_; rintro e w1 ⟨rfl, hb1⟩
                     have hbb1 := bnext hb0 hb1
                     have hF1 := hF0.below hb1 hF0.lt
                     have hcf : w1.cell? ⟨w.heap.size, 0, none⟩ = some (.int .i64 p) := (hF1.cell 0).trans rfl)
        go_ret
        exact ⟨rfl, hbb1⟩
    · by_cases hk : knOk p vs bs
      · rw [cellsE_yes hok (by rw [hv]; exact hs) hk]
        exact rcells_ok p A m c vs bs w hok h (by omega) (by omega) hk
      · rw [cellsE_bad hok (by rw [hv]; exact hs) hk]
        exact rcells_bad p A m c vs bs w hok h (by omega) (by omega) hk
  · have hokf : okP p = false := by simpa using hok
    have HO := Lib.hid hokf
    rw [cellsE_field hokf]
    clear hok hokf
    go_enter Tryd.func54, Tryd.ntmps54
    go_wp2_with (go_at_call 71; refine (check_no p _ HO.out).mono ?_; rintro e w1 ⟨rfl, hb1⟩
                 have hbb1 := bnext hb0 hb1)
    go_ret
    exact ⟨rfl, hbb1⟩
/-- The error of a field, cells and k, but that of few cells. -/
def beginE (p : Int) (vs : List Int) (bs : List Bool) (k : Int) : Int := if cellsE p vs bs = 0 then (if k < 1 ∨ (vs.length : Int) < k then 1 else 0) else cellsE p vs bs
theorem beginE_ok {p : Int} {vs : List Int} {bs : List Bool} {k : Int} (h : beginE p vs bs k = 0) : cellsE p vs bs = 0 ∧ 1 ≤ k ∧ k ≤ (vs.length : Int) := by
  unfold beginE at h
  split at h
  · rename_i h1
    split at h
    · cases h
    · exact ⟨h1, by omega, by omega⟩
  · rename_i h1; exact absurd h h1
theorem rbegin_all (p : Int) (A : Option Addr) (m c : Nat) (k : Int) (vs : List Int) (bs : List Bool) (w : World) (hp64 : -9223372036854775808 ≤ p ∧ p ≤ 9223372036854775807) (h : Cel w w.heap.size A m vs bs) (hm : m ≤ 1000) (hk64 : -9223372036854775808 ≤ k ∧ k ≤ 9223372036854775807) :
    Calls Tryd.prog 49 #[.agg #[.int .i64 p], .slice A m c, .int .i64 k] w fun e w' => e = .returned (.int .i64 (beginE p vs bs k)) ∧ Below w.heap.size w w' := by
  have hb0 : Below w.heap.size w (w.alloc (.cells #[.int .i64 p] 24)) := bbox _
  have hv := h.1
  have H0 := Lib.hid (h.upto hb0)
  obtain ⟨ce, hce⟩ : ∃ ce, cellsE p vs bs = ce := ⟨_, rfl⟩
  have HCE := Lib.hid hce
  by_cases h0 : ce = 0
  · have HC0 : Hid (cellsE p vs bs = 0) := Lib.hid (by rw [hce, h0])
    have HBG : Hid (beginE p vs bs k = if k < 1 ∨ (m : Int) < k then 1 else 0) := Lib.hid (by unfold beginE; rw [if_pos HC0.out, hv])
    rw [HBG.out]
    clear hce HCE h0 HBG
    by_cases h1 : k < 1
    · rw [if_pos (.inl h1)]
      go_enter Tryd.func49, Tryd.ntmps49
      go_wp2_with (go_at_call 54; refine (rcells_all p A m c vs bs _ hp64 H0.out hm).mono ?_; rintro e w1 ⟨rfl, hb1⟩; rw [HC0.out]
                   have hbb1 := bnext hb0 hb1)
      go_ret
      exact ⟨rfl, hbb1⟩
    · by_cases h2 : (m : Int) < k
      · rw [if_pos (.inr h2)]
        go_enter Tryd.func49, Tryd.ntmps49
        go_wp2_with (go_at_call 54; refine (rcells_all p A m c vs bs _ hp64 H0.out hm).mono ?_; rintro e w1 ⟨rfl, hb1⟩; rw [HC0.out]
                     have hbb1 := bnext hb0 hb1)
        go_ret
        exact ⟨rfl, hbb1⟩
      · rw [if_neg (by omega)]
        go_enter Tryd.func49, Tryd.ntmps49
        go_wp2_with (go_at_call 54; refine (rcells_all p A m c vs bs _ hp64 H0.out hm).mono ?_; rintro e w1 ⟨rfl, hb1⟩; rw [HC0.out]
                     have hbb1 := bnext hb0 hb1)
        go_ret
        exact ⟨rfl, hbb1⟩
  · have HBG : Hid (beginE p vs bs k = ce) := Lib.hid (by unfold beginE; rw [hce, if_neg h0])
    rw [HBG.out]
    clear hce HBG
    go_enter Tryd.func49, Tryd.ntmps49
    go_wp2_with (go_at_call 54; refine (rcells_all p A m c vs bs _ hp64 H0.out hm).mono ?_; rintro e w1 ⟨rfl, hb1⟩; rw [HCE.out]
                 have hbb1 := bnext hb0 hb1)
    go_ret
    exact ⟨rfl, hbb1⟩
end Go.Proofs.YtnjdjcgandfnfaaDoor
