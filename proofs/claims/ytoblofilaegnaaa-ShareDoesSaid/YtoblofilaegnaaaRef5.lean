/-
  What the reference's lists, trim and Add on polynomials hand back for valid arguments. Conditions: the lists read as their numbers, all of them elements.
-/
import Derived.Test.YtoblofilaegnaaaChk
import Derived.Test.YtoblofilaegnaaaOrder
import Derived.Test.YtoblofilaegnaaaPoly1
import Derived.Test.YtoblofilaegnaaaPlain
import Derived.Test.YtoblofilaegnaaaPoly2
import Derived.Deep.RegionHeld3
import Derived.Deep.RegionLaw
import Derived.Deep.DeepCutAuto
namespace Go.Proofs.Ytoblofilaegnaaa
open Go.RowKit
set_option linter.unusedVariables false

set_option maxRecDepth 100000 in
theorem rlists_ok (p : Int) (V : Option Addr) (n c : Nat) (rows : List (List Int)) (w : World) {lo : Nat} (hok : okP p = true) (hM : Mat w lo w.heap.size V n rows) (hn : n ≤ 1024) (hr : ∀ r ∈ rows, allP p r = true ∧ r.length ≤ 512) :
    Calls Try.prog 131 #[.agg #[.int .i64 p], .slice V n c] w fun e w' => e = .returned (.int .i64 0) ∧ Below w.heap.size w w' := by
  have HO := Lib.hid hok
  have HR := Lib.hid hr
  have HM := Lib.hid hM.len
  have hF0 := Blk.new w 24 #[.int .i64 p]
  clear hok hr
  go_enter Try.func131, Try.ntmps131
  go_wp2_with (go_at_call 128; refine (check_yes p _ HO.out).mono ?_; rintro e w1 ⟨rfl, hb1⟩
               have hbb1 := bnext (bbox _) hb1
               have hF1 := hF0.below hb1 hF0.lt
               clear hb1)
  go_loopw [17] (fun i wr => ∃ k : Nat, k ≤ n ∧ i = .int .i64 k ∧ Below w.heap.size w wr ∧ Blk wr w.heap.size 24 #[.int .i64 p]) (fun i _ => n - (intOf i).toNat)
  case atStart => exact ⟨0, Nat.zero_le _, rfl, hbb1, hF1⟩
  case round =>
    obtain ⟨k, hk, rfl, hbr, hFr⟩ := hrel
    have hcF : wr.cell? ⟨w.heap.size, 0, none⟩ = some (.int .i64 p) := (hFr.cell 0).trans rfl
    by_cases hlt : k < n
    · obtain ⟨b, off, B1, m, d1, rfl, _, hb1, hcell, hm, hI, _⟩ := (hM.upto hbr).at_ hlt
      have hrow := HR.out _ (row_mem (d := []) (k := k) (by rw [HM.out]; exact hlt))
      generalize rows.getD k [] = row at *
      have HA : Hid (inF p row = true) := Lib.hid (inF_iff.2 ⟨HO.out, hrow.1⟩)
      have hm5 : m ≤ 512 := by have := hrow.2; rw [hI.len] at this; exact this
      clear hrow
      go_wp2_with (go_at_call 126; refine (in_any p B1 m d1 row _ hI (by omega)).mono ?_; rintro e w3 ⟨rfl, hb3⟩; rw [HA.out]
                   have hbr3 := bnext hbr hb3
                   have hF3 := hFr.below hb3 hFr.lt
                   clear hb3)
      go_roundw
      case rel => exact ⟨k + 1, by omega, by go_num, hbr3, hF3⟩
      case measure => simp [intOf]; omega
    · go_wp2
      have hb0 := hbr
      go_loopw [28] (fun i wz => ∃ k : Nat, k ≤ n ∧ i = .int .i64 k ∧ wz = wr) (fun i _ => n - (intOf i).toNat)
      case atStart => exact ⟨0, Nat.zero_le _, rfl, rfl⟩
      case round =>
        obtain ⟨k2, hk2, rfl, rfl⟩ := hrel
        by_cases hlt2 : k2 < n
        · obtain ⟨b, off, B1, m, d1, rfl, _, hb1, hcell, hm, hI, _⟩ := (hM.upto hb0).at_ hlt2
          have hrow := HR.out _ (row_mem (d := []) (k := k2) (by rw [HM.out]; exact hlt2))
          generalize rows.getD k2 [] = row at *
          have hm5 : m ≤ 512 := by have := hrow.2; rw [hI.len] at this; exact this
          have hm5i : ¬ ((512 : Int) < (m : Int)) := by omega
          clear hrow
          go_wp2
          go_roundw
          case rel => exact ⟨k2 + 1, by omega, by go_num, trivial⟩
          case measure => simp [intOf]; omega
        · go_wp2
          go_ret
          exact ⟨rfl, hb0⟩

set_option maxRecDepth 100000 in
/-- The reference's trim. -/
theorem rtrim_any (A : Option Addr) (n c : Nat) (xs : List Int) (w : World) (h : Ints w w.heap.size A n xs) (hc : n ≤ c) (hn : n ≤ 17592186044416) :
    Calls Try.prog 132 #[.slice A n c] w fun e w' => (∃ A' c', e = .returned (.slice A' (tn xs n) c') ∧ OwnI w' w.heap.size 3 A' (tn xs n) c' (trimL xs)) ∧ Below w.heap.size w w' := by
  obtain ⟨i0, hi0, hz0, hz1, hz2⟩ := info_parts info_int
  have HL := Lib.hid h.len
  have HTR := Lib.hid h.trim
  obtain ⟨t, HT⟩ : ∃ t, Hid (tn xs n = t) := ⟨_, Lib.hid rfl⟩
  rw [HT.out]
  rw [HT.out] at HTR
  go_enter Try.func132, Try.ntmps132
  go_wp2
  go_loop [0] (fun s => ∃ k : Nat, k ≤ n ∧ s = .slice A k c ∧ Hid (tn xs k = t)) (fun s => sliceLen s)
  case atStart => exact ⟨n, Nat.le_refl _, rfl, HT⟩
  case round =>
    obtain ⟨k, hk, rfl, HK⟩ := hrel
    by_cases hk0 : 0 < k
    · obtain ⟨j, rfl⟩ : ∃ j, k = j + 1 := ⟨k - 1, by omega⟩
      obtain ⟨b, off, rfl, hb, hcell⟩ := h.2 (by omega)
      have hcj := hcell j (by omega)
      clear hcell
      have HX : Hid (tn xs (j + 1) = if xs.getD j 0 = 0 then tn xs j else j + 1) := Lib.hid rfl
      generalize xs.getD j 0 = x at *
      have hjj : IntKind.i64.wrap (((j + 1 : Nat) : Int) - 1) = j := by rw [IntWalk.i64_in _ (by omega)]; omega
      have hj0 : (0 : Int) < ((j + 1 : Nat) : Int) := by omega
      have hj1 : (0 : Int) ≤ (j : Int) := by omega
      have hj2 : (j : Int) < ((j + 1 : Nat) : Int) := by omega
      have hjc : (j : Int) ≤ (c : Int) := by omega
      have hjcn : j ≤ c := by omega
      by_cases hx : x = 0
      · have HJ : Hid (tn xs j = t) := Lib.hid (by rw [← HK.out, HX.out, if_pos hx])
        subst hx
        clear HX HK
        go_wp2
        go_round
        case rel => exact ⟨j, by omega, rfl, HJ⟩
        case measure => simp [sliceLen]
      · have HJ : Hid (j + 1 = t) := Lib.hid (by rw [← HK.out, HX.out, if_neg hx])
        have hxb : (x == 0) = false := by simpa using hx
        clear HX HK
        obtain rfl : t = j + 1 := HJ.out.symm
        go_wp2_with ((at_builtin; refine wpList_append_ints rfl _ _ _ rfl w.heap.size 3 i0 _ Try.underlying22 hi0 hz0 hz1 hz2 rfl none 0 0 [] rfl OwnI.nil_ w.heap.size _ (j + 1) _ (trimL xs) rfl HTR.out (j + 1) (Nat.zero_add _) (trimL xs) rfl (by omega) (Nat.le_refl _) ?_; intro A2 c2 w2 hown2 hgr hbw2 hab))
        go_ret
        exact ⟨⟨A2, c2, rfl, hown2⟩, hbw2⟩
    · obtain rfl : k = 0 := by omega
      have ht : t = 0 := HK.out.symm
      subst ht
      go_wp2_with ((at_builtin; refine wpList_append_ints rfl _ _ _ rfl w.heap.size 3 i0 _ Try.underlying22 hi0 hz0 hz1 hz2 rfl none 0 0 [] rfl OwnI.nil_ w.heap.size _ 0 _ (trimL xs) rfl HTR.out 0 rfl (trimL xs) rfl (by omega) (Nat.le_refl _) ?_; intro A2 c2 w2 hown2 hgr hbw2 hab))
      go_ret
      exact ⟨⟨A2, c2, rfl, hown2⟩, hbw2⟩

theorem set_at (l : List Int) (v : Int) {k : Nat} (hk : k < l.length) : (l.set k v).getD k 0 = v := by
  rw [List.getD_eq_getElem?_getD, List.getElem?_set_self hk]; rfl
theorem getD_out5 (l : List Int) {k : Nat} (hk : l.length ≤ k) : l.getD k 0 = 0 := by
  rw [List.getD_eq_getElem?_getD, List.getElem?_eq_none hk]; rfl
/-- The sum as far as it is made. -/
def addTill (p : Int) (xs ys : List Int) (N k : Nat) : List Int := (rawAdd p xs ys).take k ++ List.replicate (N - k) 0
theorem rawAdd_len (p : Int) (xs ys : List Int) : (rawAdd p xs ys).length = max xs.length ys.length := by simp [rawAdd]
theorem rawAdd_at (p : Int) {xs ys : List Int} {k : Nat} (hk : k < max xs.length ys.length) : (rawAdd p xs ys).getD k 0 = (xs.getD k 0 + ys.getD k 0) % p := by
  unfold rawAdd
  rw [List.getD_eq_getElem?_getD, List.getElem?_map, List.getElem?_range hk]; rfl
theorem addTill_zero (p : Int) (xs ys : List Int) (N : Nat) : addTill p xs ys N 0 = List.replicate N 0 := by simp [addTill]
theorem addTill_all (p : Int) (xs ys : List Int) : addTill p xs ys (max xs.length ys.length) (max xs.length ys.length) = rawAdd p xs ys := by
  unfold addTill
  rw [List.take_of_length_le (by rw [rawAdd_len]; exact Nat.le_refl _)]; simp
theorem addTill_at (p : Int) {xs ys : List Int} {N k : Nat} (hN : N = max xs.length ys.length) (hk : k < N) : (addTill p xs ys N k).getD k 0 = 0 := by
  unfold addTill
  have hl : ((rawAdd p xs ys).take k).length = k := by rw [List.length_take, rawAdd_len]; omega
  rw [List.getD_eq_getElem?_getD, List.getElem?_append_right (by omega), hl, Nat.sub_self, List.getElem?_replicate]
  simp [show 0 < N - k by omega]
theorem addTill_set (p : Int) {xs ys : List Int} {N k : Nat} (hN : N = max xs.length ys.length) (hk : k < N) : (addTill p xs ys N k).set k ((xs.getD k 0 + ys.getD k 0) % p) = addTill p xs ys N (k + 1) := by
  unfold addTill
  have hl : ((rawAdd p xs ys).take k).length = k := by rw [List.length_take, rawAdd_len]; omega
  rw [List.set_append_right _ _ (by omega), hl, Nat.sub_self, take_succ_getD (rawAdd p xs ys) k (by rw [rawAdd_len]; omega), rawAdd_at p (by omega), List.append_assoc]
  congr 1
  obtain ⟨r, hr⟩ : ∃ r, N - k = r + 1 := ⟨N - k - 1, by omega⟩
  rw [hr, show N - (k + 1) = r by omega, List.replicate_succ]; rfl

set_option maxRecDepth 100000 in
set_option maxHeartbeats 3200000 in
/-- The reference's Add on polynomials. -/
theorem radd5_ok (p : Int) (A B : Option Addr) (n m c d : Nat) (xs ys : List Int) (w : World) (hok : okP p = true) (h : Ints w w.heap.size A n xs) (h2 : Ints w w.heap.size B m ys) (hx : allP p xs = true) (hy : allP p ys = true) (hn : n ≤ 512) (hm : m ≤ 512) :
    Calls Try.prog 37 #[.agg #[.int .i64 p], .slice A n c, .slice B m d] w fun e w' =>
      (∃ A' c', e = .returned (.tuple #[.slice A' (addL p xs ys).length c', .int .i64 0]) ∧ OwnI w' w.heap.size 3 A' (addL p xs ys).length c' (addL p xs ys)) ∧ Below w.heap.size w w' := by
  have hp := okP_pos hok
  obtain ⟨i0, hi0, hz0, hz1, hz2⟩ := info_parts info_int
  have HO := Lib.hid hok
  have HX := Lib.hid hx
  have HY := Lib.hid hy
  have HL := Lib.hid h.len
  have HM := Lib.hid h2.len
  have HR : Hid (∀ r ∈ [xs, ys], allP p r = true ∧ r.length ≤ 512) := Lib.hid fun r hr => by
    simp only [List.mem_cons, List.not_mem_nil, or_false] at hr
    rcases hr with rfl | rfl
    · exact ⟨hx, by rw [h.len]; exact hn⟩
    · exact ⟨hy, by rw [h2.len]; exact hm⟩
  obtain ⟨N, hN⟩ : ∃ N, N = max n m := ⟨_, rfl⟩
  have HN : Hid (N = max xs.length ys.length) := Lib.hid (by rw [h.len, h2.len]; exact hN)
  have hnN : n ≤ N := by omega
  have hmN : m ≤ N := by omega
  have hN5 : N ≤ 512 := by omega
  have hNi : (if (n : Int) < (m : Int) then (m : Int) else (n : Int)) = N := by split <;> omega
  have hNj : (if n < m then (m : Int) else (n : Int)) = N := by split <;> omega
  have hNk : (if n < m then Value.int .i64 (m : Int) else Value.int .i64 (n : Int)) = Value.int .i64 (N : Int) := by rw [← hNj]; split <;> rfl
  have hNor : ∀ k, k < N → k < n ∨ k < m := fun k hk => by omega
  have hF0 := Blk.new w 24 #[.int .i64 p]
  clear hok hx hy hN
  go_enter Try.func37, Try.ntmps37
  go_wp2_with (first
    | (go_at_call 131; (refine (rlists_ok p _ 2 2 [xs, ys] _ HO.out (by exact Mat.two _ A B n m c d xs ys 22 _ (by simp) (h.upto (bbox _)) (h2.upto (bbox _)) (by omega) (by omega)) (by omega) HR.out).mono ?_); rintro e w1 ⟨rfl, hb1⟩
       have hbb1 := bnext (ballocs (bbox _) _) hb1
       have hF1 := (hF0.alloc _).below hb1 (hF0.alloc _).lt
       clear hb1)
    | (at_make
       refine wpList_make_full _ rfl _ _ 22 rfl w1.heap.size 3 i0 (.int .i64 0) 1 Try.underlying22 hi0 hz0 hz1 .i64 .i64 _ _ N rfl rfl (by first | rfl | omega) (by first | rfl | omega) (by rw [hz2]; omega) (by unfold maxLen; omega) (Nat.le_refl _) ?_
       intro w2 hown hgr
       have hown2 : OwnI w2 w1.heap.size 3 (some ⟨w1.heap.size, 0, none⟩) N N (List.replicate N 0) := by rw [zeros_made] at hown; exact hown
       have hb12 : Below w1.heap.size w1 w2 := (Below.refl _ _).grown hgr (Nat.le_refl _) (fun k hk => by cases hk)
       clear hown hgr))
  have hF2 := hF1.below hb12 hF1.lt
  have hsz12 : w1.heap.size ≤ w2.heap.size := hb12.size
  have hg1 := hF1.lt
  go_loopw [27] (fun i wz => ∃ k : Nat, k ≤ N ∧ i = .int .i64 k ∧ OwnI wz w1.heap.size 3 (some ⟨w1.heap.size, 0, none⟩) N N (addTill p xs ys N k) ∧ Below w1.heap.size w1 wz) (fun i _ => N - (intOf i).toNat)
  case atStart => exact ⟨0, Nat.zero_le _, rfl, by rw [addTill_zero]; exact hown2, hb12⟩
  case round =>
    obtain ⟨k, hk, rfl, hown, hb⟩ := hrel
    by_cases hlt : k < N
    · have hk0 : (0 : Int) ≤ (k : Int) := by omega
      have hkN : (k : Int) < (N : Int) := by omega
      have hFz := hF1.below hb hF1.lt
      have hcz : wr.cell? ⟨w.heap.size, 0, none⟩ = some (.int .i64 p) := (hFz.cell 0).trans rfl
      have hc0 := hown.cellAt hlt
      rw [addTill_at p HN.out hlt] at hc0
      have hfz : wr.frozen? ⟨w1.heap.size, k, none⟩ = false := hown.frozenAt k
      by_cases hxl : k < n
      · obtain ⟨b1, o1, rfl, hb1, hc1⟩ := h.2 (by omega)
        have hb1' : b1 < w1.heap.size := Nat.lt_of_lt_of_le hb1 hbb1.size
        have hcx := (hb.cell (p := ⟨b1, o1 + k, none⟩) hb1').trans ((hbb1.cell (p := ⟨b1, o1 + k, none⟩) hb1).trans (hc1 k hxl))
        clear hc1
        have hxe := allP_getD HX.out (k := k) (by rw [HL.out]; exact hxl)
        obtain ⟨x, HXX⟩ : ∃ x, Hid (xs.getD k 0 = x) := ⟨_, Lib.hid rfl⟩
        rw [HXX.out] at hcx hxe
        have hxi : (k : Int) < (n : Int) := by omega
        have hw0 : IntKind.i64.wrap (0 + x) = x := by rw [Int.zero_add]; exact IntWalk.i64_in _ (by omega)
        have hwx : IntKind.i64.wrap x = x := IntWalk.i64_in _ (by omega)
        have hxs : (0 : Int) ≤ x := by omega
        by_cases hyl : k < m
        · go_wp2_with fail
          go_region
          obtain ⟨w9, hw9⟩ : ∃ w9, w9 = (wr.setCell ⟨w1.heap.size, k, none⟩ (.int .i64 x)).drew := ⟨_, rfl⟩
          rw [← hw9]
          have ownw9 : OwnI w9 w1.heap.size 3 (some ⟨w1.heap.size, 0, none⟩) N N ((addTill p xs ys N k).set k x) := by rw [hw9]; exact (hown.stored k x).drew
          have hbw9 : Below w1.heap.size w1 w9 := by rw [hw9]; exact (hb.setCell (p := ⟨w1.heap.size, k, none⟩) (Nat.le_refl _) _).drew
          have hcw9 : w9.cell? ⟨w1.heap.size, k, none⟩ = some (.int .i64 x) := by
            have := ownw9.cellAt hlt
            rwa [set_at _ _ (by have := ownw9.len; rw [List.length_set] at this; omega)] at this
          have hfw9 : w9.frozen? ⟨w1.heap.size, k, none⟩ = false := ownw9.frozenAt k
          clear hw9
          obtain ⟨b2, o2, rfl, hb2, hc2⟩ := h2.2 (by omega)
          have hb2' : b2 < w1.heap.size := Nat.lt_of_lt_of_le hb2 hbb1.size
          have hcy := (hbw9.cell (p := ⟨b2, o2 + k, none⟩) hb2').trans ((hbb1.cell (p := ⟨b2, o2 + k, none⟩) hb2).trans (hc2 k hyl))
          clear hc2
          have hye := allP_getD HY.out (k := k) (by rw [HM.out]; exact hyl)
          obtain ⟨y, HYY⟩ : ∃ y, Hid (ys.getD k 0 = y) := ⟨_, Lib.hid rfl⟩
          rw [HYY.out] at hcy hye
          have hyi : (k : Int) < (m : Int) := by omega
          have hwxy : IntKind.i64.wrap (x + y) = x + y := IntWalk.i64_in _ (by omega)
          go_wp2_with fail
          go_region
          obtain ⟨w10, hw10⟩ : ∃ w10, w10 = (w9.setCell ⟨w1.heap.size, k, none⟩ (.int .i64 (x + y))).drew := ⟨_, rfl⟩
          rw [← hw10]
          have ownw10 : OwnI w10 w1.heap.size 3 (some ⟨w1.heap.size, 0, none⟩) N N (((addTill p xs ys N k).set k x).set k (x + y)) := by rw [hw10]; exact (ownw9.stored k (x + y)).drew
          have hbw10 : Below w1.heap.size w1 w10 := by rw [hw10]; exact (hbw9.setCell (p := ⟨w1.heap.size, k, none⟩) (Nat.le_refl _) _).drew
          have hcw10 : w10.cell? ⟨w1.heap.size, k, none⟩ = some (.int .i64 (x + y)) := by
            have := ownw10.cellAt hlt
            rwa [set_at _ _ (by have := ownw10.len; rw [List.length_set] at this; omega)] at this
          have hfw10 : w10.frozen? ⟨w1.heap.size, k, none⟩ = false := ownw10.frozenAt k
          clear hw10
          have hFe := hF1.below hbw10 hF1.lt
          have hce : w10.cell? ⟨w.heap.size, 0, none⟩ = some (.int .i64 p) := (hFe.cell 0).trans rfl
          obtain ⟨v, hv⟩ : ∃ v, (x + y) % p = v := ⟨_, rfl⟩
          have hvt : (x + y).tmod p = v := by rw [Int.tmod_eq_emod_of_nonneg (by omega)]; exact hv
          have HVV : Hid ((xs.getD k 0 + ys.getD k 0) % p = v) := Lib.hid (by rw [HXX.out, HYY.out]; exact hv)
          have HVH := Lib.hid hv
          clear hv
          have hp0 : ¬ p = 0 := by omega
          go_wp2_with fail
          go_region
          obtain ⟨w12, hw12⟩ : ∃ w12, w12 = (w10.setCell ⟨w1.heap.size, k, none⟩ (.int .i64 v)).drew := ⟨_, rfl⟩
          rw [← hw12]
          have ownw12 : OwnI w12 w1.heap.size 3 (some ⟨w1.heap.size, 0, none⟩) N N ((((addTill p xs ys N k).set k x).set k (x + y)).set k v) := by rw [hw12]; exact (ownw10.stored k v).drew
          have hbw12 : Below w1.heap.size w1 w12 := by rw [hw12]; exact (hbw10.setCell (p := ⟨w1.heap.size, k, none⟩) (Nat.le_refl _) _).drew
          have hcw12 : w12.cell? ⟨w1.heap.size, k, none⟩ = some (.int .i64 v) := by
            have := ownw12.cellAt hlt
            rwa [set_at _ _ (by have := ownw12.len; rw [List.length_set] at this; omega)] at this
          have hfw12 : w12.frozen? ⟨w1.heap.size, k, none⟩ = false := ownw12.frozenAt k
          clear hw12
          go_wp2
          go_roundw
          case rel => exact ⟨k + 1, by omega, by go_num, by rw [← addTill_set p HN.out hlt, HVV.out]; simpa only [List.set_set] using ownw12, hbw12⟩
          case measure => simp [intOf]; omega
        · have hyi : ¬ ((k : Int) < (m : Int)) := by omega
          go_wp2_with fail
          go_region
          obtain ⟨w9, hw9⟩ : ∃ w9, w9 = (wr.setCell ⟨w1.heap.size, k, none⟩ (.int .i64 x)).drew := ⟨_, rfl⟩
          rw [← hw9]
          have ownw9 : OwnI w9 w1.heap.size 3 (some ⟨w1.heap.size, 0, none⟩) N N ((addTill p xs ys N k).set k x) := by rw [hw9]; exact (hown.stored k x).drew
          have hbw9 : Below w1.heap.size w1 w9 := by rw [hw9]; exact (hb.setCell (p := ⟨w1.heap.size, k, none⟩) (Nat.le_refl _) _).drew
          have hcw9 : w9.cell? ⟨w1.heap.size, k, none⟩ = some (.int .i64 x) := by
            have := ownw9.cellAt hlt
            rwa [set_at _ _ (by have := ownw9.len; rw [List.length_set] at this; omega)] at this
          have hfw9 : w9.frozen? ⟨w1.heap.size, k, none⟩ = false := ownw9.frozenAt k
          clear hw9
          have hFe := hF1.below hbw9 hF1.lt
          have hce : w9.cell? ⟨w.heap.size, 0, none⟩ = some (.int .i64 p) := (hFe.cell 0).trans rfl
          obtain ⟨v, hv⟩ : ∃ v, (x) % p = v := ⟨_, rfl⟩
          have hvt : (x).tmod p = v := by rw [Int.tmod_eq_emod_of_nonneg (by omega)]; exact hv
          have HVV : Hid ((xs.getD k 0 + ys.getD k 0) % p = v) := Lib.hid (by rw [HXX.out, getD_out5 ys (by rw [HM.out]; omega), Int.add_zero]; exact hv)
          have HVH := Lib.hid hv
          clear hv
          have hp0 : ¬ p = 0 := by omega
          go_wp2_with fail
          go_region
          obtain ⟨w12, hw12⟩ : ∃ w12, w12 = (w9.setCell ⟨w1.heap.size, k, none⟩ (.int .i64 v)).drew := ⟨_, rfl⟩
          rw [← hw12]
          have ownw12 : OwnI w12 w1.heap.size 3 (some ⟨w1.heap.size, 0, none⟩) N N (((addTill p xs ys N k).set k x).set k v) := by rw [hw12]; exact (ownw9.stored k v).drew
          have hbw12 : Below w1.heap.size w1 w12 := by rw [hw12]; exact (hbw9.setCell (p := ⟨w1.heap.size, k, none⟩) (Nat.le_refl _) _).drew
          have hcw12 : w12.cell? ⟨w1.heap.size, k, none⟩ = some (.int .i64 v) := by
            have := ownw12.cellAt hlt
            rwa [set_at _ _ (by have := ownw12.len; rw [List.length_set] at this; omega)] at this
          have hfw12 : w12.frozen? ⟨w1.heap.size, k, none⟩ = false := ownw12.frozenAt k
          clear hw12
          go_wp2
          go_roundw
          case rel => exact ⟨k + 1, by omega, by go_num, by rw [← addTill_set p HN.out hlt, HVV.out]; simpa only [List.set_set] using ownw12, hbw12⟩
          case measure => simp [intOf]; omega
      · have hxi : ¬ ((k : Int) < (n : Int)) := by omega
        have hyl : k < m := by have := hNor k hlt; omega
        obtain ⟨b2, o2, rfl, hb2, hc2⟩ := h2.2 (by omega)
        have hb2' : b2 < w1.heap.size := Nat.lt_of_lt_of_le hb2 hbb1.size
        have hcy := (hb.cell (p := ⟨b2, o2 + k, none⟩) hb2').trans ((hbb1.cell (p := ⟨b2, o2 + k, none⟩) hb2).trans (hc2 k hyl))
        clear hc2
        have hye := allP_getD HY.out (k := k) (by rw [HM.out]; exact hyl)
        obtain ⟨y, HYY⟩ : ∃ y, Hid (ys.getD k 0 = y) := ⟨_, Lib.hid rfl⟩
        rw [HYY.out] at hcy hye
        have hyi : (k : Int) < (m : Int) := by omega
        have hw0 : IntKind.i64.wrap (0 + y) = y := by rw [Int.zero_add]; exact IntWalk.i64_in _ (by omega)
        have hwy : IntKind.i64.wrap y = y := IntWalk.i64_in _ (by omega)
        go_wp2_with fail
        go_region
        obtain ⟨w10, hw10⟩ : ∃ w10, w10 = (wr.setCell ⟨w1.heap.size, k, none⟩ (.int .i64 y)).drew := ⟨_, rfl⟩
        rw [← hw10]
        have ownw10 : OwnI w10 w1.heap.size 3 (some ⟨w1.heap.size, 0, none⟩) N N ((addTill p xs ys N k).set k y) := by rw [hw10]; exact (hown.stored k y).drew
        have hbw10 : Below w1.heap.size w1 w10 := by rw [hw10]; exact (hb.setCell (p := ⟨w1.heap.size, k, none⟩) (Nat.le_refl _) _).drew
        have hcw10 : w10.cell? ⟨w1.heap.size, k, none⟩ = some (.int .i64 y) := by
          have := ownw10.cellAt hlt
          rwa [set_at _ _ (by have := ownw10.len; rw [List.length_set] at this; omega)] at this
        have hfw10 : w10.frozen? ⟨w1.heap.size, k, none⟩ = false := ownw10.frozenAt k
        clear hw10
        have hFe := hF1.below hbw10 hF1.lt
        have hce : w10.cell? ⟨w.heap.size, 0, none⟩ = some (.int .i64 p) := (hFe.cell 0).trans rfl
        obtain ⟨v, hv⟩ : ∃ v, (y) % p = v := ⟨_, rfl⟩
        have hvt : (y).tmod p = v := by rw [Int.tmod_eq_emod_of_nonneg (by omega)]; exact hv
        have HVV : Hid ((xs.getD k 0 + ys.getD k 0) % p = v) := Lib.hid (by rw [HYY.out, getD_out5 xs (by rw [HL.out]; omega), Int.zero_add]; exact hv)
        have HVH := Lib.hid hv
        clear hv
        have hp0 : ¬ p = 0 := by omega
        go_wp2_with fail
        go_region
        obtain ⟨w12, hw12⟩ : ∃ w12, w12 = (w10.setCell ⟨w1.heap.size, k, none⟩ (.int .i64 v)).drew := ⟨_, rfl⟩
        rw [← hw12]
        have ownw12 : OwnI w12 w1.heap.size 3 (some ⟨w1.heap.size, 0, none⟩) N N (((addTill p xs ys N k).set k y).set k v) := by rw [hw12]; exact (ownw10.stored k v).drew
        have hbw12 : Below w1.heap.size w1 w12 := by rw [hw12]; exact (hbw10.setCell (p := ⟨w1.heap.size, k, none⟩) (Nat.le_refl _) _).drew
        have hcw12 : w12.cell? ⟨w1.heap.size, k, none⟩ = some (.int .i64 v) := by
          have := ownw12.cellAt hlt
          rwa [set_at _ _ (by have := ownw12.len; rw [List.length_set] at this; omega)] at this
        have hfw12 : w12.frozen? ⟨w1.heap.size, k, none⟩ = false := ownw12.frozenAt k
        clear hw12
        go_wp2
        go_roundw
        case rel => exact ⟨k + 1, by omega, by go_num, by rw [← addTill_set p HN.out hlt, HVV.out]; simpa only [List.set_set] using ownw12, hbw12⟩
        case measure => simp [intOf]; omega
    · obtain rfl : k = N := by omega
      have hall : addTill p xs ys k k = rawAdd p xs ys := by have := addTill_all p xs ys; rwa [← HN.out] at this
      rw [hall] at hown
      have hTL : tn (rawAdd p xs ys) k = (addL p xs ys).length := by unfold addL; rw [trimL_len, rawAdd_len, ← HN.out]
      have HTL := Lib.hid hTL
      have HAD : Hid (trimL (rawAdd p xs ys) = addL p xs ys) := Lib.hid rfl
      have hIw := hown.ints
      have hbw := bnext hbb1 hb
      clear hall hTL
      go_wp2_with (go_at_call 132; refine (rtrim_any _ k k (rawAdd p xs ys) _ hIw (Nat.le_refl _) (by omega)).mono ?_; rintro e w13 ⟨⟨A5, c5, rfl, hown5⟩, hb13⟩
                   rw [HTL.out, HAD.out] at hown5
                   rw [HTL.out])
      go_ret2
      exact ⟨⟨A5, c5, rfl, hown5.base hbw.size⟩, bnext hbw hb13⟩
end Go.Proofs.Ytoblofilaegnaaa
