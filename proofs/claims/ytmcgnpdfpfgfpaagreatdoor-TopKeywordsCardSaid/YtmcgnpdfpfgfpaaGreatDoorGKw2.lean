/-
  Words for memory and contracts of small functions of the second form. Conditions: those of each lemma.
-/
import Derived.Test.YtmcgnpdfpfgfpaaGreatDoorGKw1
import Derived.Test.YtmcgnpdfpfgfpaaGreatDoorGen
import Derived.Test.YtmcgnpdfpfgfpaaGreatDoorPlain
import Derived.StringKeys
/-! KPick -/
namespace Go.Proofs.YtmcgnpdfpfgfpaaGreatDoor
open Go.RowKit
set_option linter.unusedVariables false

/-- A bucket of a slice of buckets. -/
theorem MatV.ents {w : World} {lo B n : Nat} {A : Option Addr} {E : List (List (ByteArray × Int))} (h : MatV w lo B 2 A n (E.map entC)) {j : Nat} (hj : j < n) : ∃ b off A' n' c', A = some ⟨b, off, none⟩ ∧ lo ≤ b ∧ b < B ∧ w.cell? ⟨b, off + j, none⟩ = some (.slice A' n' c') ∧ n' ≤ 17592186044416 ∧ Ents w lo B A' n' (E.getD j []) := by
  obtain ⟨b, off, A', n', c', h1, h2, h3, h4, h5, h6⟩ := h.at_ hj
  have hl : E.length = n := by have := h.1; simpa using this
  rw [List.getD_eq_getElem?_getD, List.getElem?_map, List.getElem?_eq_getElem (by omega)] at h6
  refine ⟨b, off, A', n', c', h1, h2, h3, h4, h5, ?_⟩
  rw [List.getD_eq_getElem?_getD, List.getElem?_eq_getElem (by omega)]
  exact h6

set_option maxRecDepth 100000 in
set_option maxHeartbeats 4000000 in
theorem kpick_ok (key : ByteArray) (A : Option Addr) (n c : Nat) (E : List (List (ByteArray × Int))) (w : World) {lo : Nat} (h1 : 1 ≤ key.size) (h2 : key.size ≤ 32) (hn : n ≤ 1000) (hM : MatV w lo w.heap.size 2 A n (E.map entC)) :
    Calls Tryz.prog 18 #[.string key, .slice A n c] w fun e w' => e = .returned (.tuple #[.int .i64 ((pickB key E).getD 0), .bool (pickB key E).isSome, .int .i64 0]) ∧ Below w.heap.size w w' := by
  have HEL := Lib.hid (show E.length = n by have := hM.1; simpa using this)
  obtain ⟨res, hres⟩ : ∃ r, pickB key E = r := ⟨_, rfl⟩
  rw [hres]
  have HRES := Lib.hid hres
  clear hres
  go_enter Tryz.func18, Tryz.ntmps18
  go_wp2_with (go_at_call 44; refine (proper_ok key _ h1 h2).mono ?_; rintro e w2 ⟨rfl, rfl⟩)
  go_loopw [16] (fun v16 wz => ∃ t : Nat, t ≤ n ∧ v16 = .int .i64 t ∧ Below w.heap.size w wz ∧ Hid (∀ i, i < t → pickL key (E.getD i []) = none)) (fun v16 _ => n - (intOf v16).toNat)
  case atStart => exact ⟨0, Nat.zero_le _, rfl, Below.refl _ _, Lib.hid fun i hi => absurd hi (Nat.not_lt_zero _)⟩
  case round =>
  obtain ⟨t, ht, rfl, hbz, HT⟩ := hrel
  by_cases htn : t < n
  · have hti : (t : Int) < (n : Int) := by omega
    have ht0 : (0 : Int) ≤ (t : Int) := by omega
    obtain ⟨b, off, A1, n1, c1, rfl, _, hbl, hcell, hn1, hE1⟩ := MatV.ents (hM.below hbz) htn
    obtain ⟨l, hl⟩ : ∃ l, E.getD t [] = l := ⟨_, rfl⟩
    rw [hl] at hE1
    have HLE := Lib.hid hl
    clear hl
    obtain ⟨wo, hwo⟩ : ∃ x : World, x = wr := ⟨_, rfl⟩
    subst hwo
    go_wp2_with fail
    go_loopw [22] (fun v22 wz => ∃ j : Nat, j ≤ n1 ∧ v22 = .int .i64 j ∧ Below wo.heap.size wo wz ∧ Hid (∀ i, i < j → (entAt l i).1.toList ≠ key.toList)) (fun v22 _ => n1 - (intOf v22).toNat)
    case atStart => exact ⟨0, Nat.zero_le _, rfl, Below.refl _ _, Lib.hid fun i hi => absurd hi (Nat.not_lt_zero _)⟩
    case round =>
    obtain ⟨j, hj, rfl, hbj, HJ⟩ := hrel
    have hbw := bnext hbz hbj
    by_cases hjn : j < n1
    · have hji : (j : Int) < (n1 : Int) := by omega
      have hj0 : (0 : Int) ≤ (j : Int) := by omega
      obtain ⟨bL, oL, rfl, _, hbL, hcs, hcv⟩ := Ents.at_ (RowV.below hE1 ((Below.mono hbj hbz.size))) hjn
      obtain ⟨u, hu⟩ : ∃ u, (entAt l j).1 = u := ⟨_, rfl⟩
      obtain ⟨v, hv⟩ : ∃ v, (entAt l j).2 = v := ⟨_, rfl⟩
      rw [hu] at hcs
      rw [hv] at hcv
      have HU := Lib.hid hu
      have HV := Lib.hid hv
      clear hu hv
      by_cases heq : u.toList = key.toList
      · have hq : (u.toList == key.toList) = true := by simpa using heq
        have HEQ := Lib.hid heq
        clear heq
        have hfin : res = some v := by
          rw [← HRES.out]
          refine pickB_take (by rw [HEL.out]; exact htn) HT.out ?_
          rw [HLE.out, pickL_take (by rw [Ents.len hE1]; exact hjn) HJ.out (by rw [HU.out]; exact HEQ.out), HV.out]
        subst hfin
        go_wp2
        go_ret3
        exact ⟨rfl, hbw.alloc hbw.size _⟩
      · have hq : (u.toList == key.toList) = false := by simpa using heq
        have HEQ := Lib.hid heq
        clear heq
        go_wp2
        go_roundw
        case rel => exact ⟨j + 1, by omega, by go_num, hbj.alloc hbj.size _, Lib.hid fun i hi => by
          rcases Nat.lt_succ_iff_lt_or_eq.1 hi with h3 | rfl
          · exact HJ.out i h3
          · rw [HU.out]; exact HEQ.out⟩
        case measure => simp [intOf]; omega
    · obtain rfl : n1 = j := by omega
      go_wp2
      go_roundw
      case rel => exact ⟨t + 1, by omega, by go_num, hbw, Lib.hid fun i hi => by
        rcases Nat.lt_succ_iff_lt_or_eq.1 hi with h3 | rfl
        · exact HT.out i h3
        · rw [HLE.out, pickL_none]
          intro x hx
          obtain ⟨a, ha, rfl⟩ := List.getElem_of_mem hx
          have := HJ.out a (by rw [← Ents.len hE1]; exact ha)
          rw [entAt_eq ha] at this
          exact this⟩
      case measure => simp [intOf]; omega
  · obtain rfl : n = t := by omega
    have hfin : res = none := by
      rw [← HRES.out]
      exact pickB_none fun i hi => HT.out i (by rw [← HEL.out]; exact hi)
    subst hfin
    go_wp2
    go_ret3
    exact ⟨rfl, hbz⟩
end Go.Proofs.YtmcgnpdfpfgfpaaGreatDoor

/-! KChk -/
namespace Go.Proofs.YtmcgnpdfpfgfpaaGreatDoor
open Go.RowKit
open Go.Maps
set_option linter.unusedVariables false

theorem index_mem (A : Option Addr) (n c : Nat) (xs : List Int) (x : Int) (w : World) {B : Nat} (h : Ints w B A n xs) (hn : n ≤ 1000000) (hm : x ∈ xs) :
    Calls Tryz.prog 115 #[.slice A n c, .int .i64 x] w fun e w' => (∃ i : Nat, e = .returned (.int .i64 i)) ∧ w = w' := by
  have HM := Lib.hid hm
  have HL := Lib.hid h.len
  clear hm
  go_enter Tryz.func115, Tryz.ntmps115
  go_wp2
  go_loop [8] (fun v8 => ∃ k : Nat, k ≤ n ∧ v8 = .int .i64 k ∧ Hid (∀ i, i < k → xs.getD i 0 ≠ x)) (fun v8 => n - (intOf v8).toNat)
  case atStart => exact ⟨0, Nat.zero_le _, rfl, Lib.hid fun i hi => absurd hi (Nat.not_lt_zero _)⟩
  case round =>
  obtain ⟨k, hk, rfl, HK⟩ := hrel
  by_cases hkn : k < n
  · have hki : (k : Int) < (n : Int) := by omega
    have hk0 : (0 : Int) ≤ (k : Int) := by omega
    obtain ⟨b, off, rfl, _, hc⟩ := h.2 (by omega)
    have hck := hc k hkn
    clear hc
    obtain ⟨y, hy⟩ : ∃ y, xs.getD k 0 = y := ⟨_, rfl⟩
    rw [hy] at hck
    have HY := Lib.hid hy
    clear hy
    by_cases heq : x = y
    · have hq : (x == y) = true := by simpa using heq
      clear heq
      go_wp2
      go_ret
      exact ⟨⟨k, rfl⟩, rfl⟩
    · have hq : (x == y) = false := by simpa using heq
      have HQ := Lib.hid heq
      clear heq
      go_wp2
      go_round
      case rel => exact ⟨k + 1, by omega, by go_num, Lib.hid fun i hi => by
        rcases Nat.lt_succ_iff_lt_or_eq.1 hi with h1 | rfl
        · exact HK.out i h1
        · rw [HY.out]; exact fun e => HQ.out e.symm⟩
      case measure => simp [intOf]; omega
  · exfalso
    obtain ⟨i, hi, e⟩ := List.getElem_of_mem HM.out
    exact HK.out i (by have := HL.out; omega) (by rw [List.getD_eq_getElem?_getD, List.getElem?_eq_getElem hi]; exact e)
theorem contains_mem (A : Option Addr) (n c : Nat) (xs : List Int) (x : Int) (w : World) {B : Nat} (h : Ints w B A n xs) (hn : n ≤ 1000000) (hm : x ∈ xs) :
    Calls Tryz.prog 86 #[.slice A n c, .int .i64 x] w fun e w' => e = .returned (.bool true) ∧ w = w' := by
  have HM := Lib.hid hm
  clear hm
  go_enter Tryz.func86, Tryz.ntmps86
  go_wp2_with (go_at_call 115; refine (index_mem A n c xs x _ h hn HM.out).mono ?_; rintro e w2 ⟨⟨i, rfl⟩, rfl⟩; have hi0 : (0 : Int) ≤ (i : Int) := by omega)
  go_ret
  exact ⟨rfl, rfl⟩

/-- None of some texts is in a set. -/
def UnseenS (D : DataW Unit) (seen : List ByteArray) : Prop := ∀ x : ByteArray, x ∉ seen → D.atKey (.string x.data.toList) (.lit (.bool false)) = .lit (.bool false)
theorem UnseenS.start : UnseenS (.map []) [] := fun x _ => rfl
theorem UnseenS.step {D : DataW Unit} {seen : List ByteArray} (h : UnseenS D seen) (a : ByteArray) : UnseenS (D.put (.string a.data.toList) (.lit (.bool true))) (seen ++ [a]) := fun x hx => by
  have h1 : x ∉ seen ∧ x ≠ a := by simpa using hx
  rw [atKey_put_other (fun e => h1.2 (by
    injection e with e
    exact ba_ext (by rw [ByteArray.toList_eq, ByteArray.toList_eq]; exact e)))]
  exact h x h1.1
theorem grown_none {w w' : World} (h : Below w.heap.size w w') : w.grownBy w' none := ⟨h.os, h.tape, h.output, h.size, fun i hi _ => h.block i hi⟩

/-- The keys of the buckets before one, and of its first entries. -/
def seenT (E : List (List (ByteArray × Int))) (t j : Nat) : List ByteArray := ((E.take t).flatten ++ (E.getD t []).take j).map (·.1)
theorem seenT_step {E : List (List (ByteArray × Int))} {t j : Nat} (hj : j < (E.getD t []).length) : seenT E t (j + 1) = seenT E t j ++ [(entAt (E.getD t []) j).1] := by
  unfold seenT
  rw [List.take_succ_eq_append_getElem hj, ← List.append_assoc, List.map_append, List.map_cons, List.map_nil, entAt_eq hj]
theorem seenT_next {E : List (List (ByteArray × Int))} {t j : Nat} (ht : t < E.length) (hj : (E.getD t []).length ≤ j) : seenT E t j = seenT E (t + 1) 0 := by
  unfold seenT
  rw [List.take_of_length_le hj, List.take_zero, List.append_nil, List.take_succ_eq_append_getElem ht, List.flatten_append, List.getD_eq_getElem?_getD, List.getElem?_eq_getElem ht]
  simp
theorem seenT_new {E : List (List (ByteArray × Int))} {t j : Nat} (hnd : E.flatten.Pairwise fun a b => a.1 ≠ b.1) (ht : t < E.length) (hj : j < (E.getD t []).length) : (entAt (E.getD t []) j).1 ∉ seenT E t j := fun hm => by
  have he : E.getD t [] = E[t] := by rw [List.getD_eq_getElem?_getD, List.getElem?_eq_getElem ht]; rfl
  have hs : E.flatten = (E.take t).flatten ++ (E.getD t []).take j ++ ((entAt (E.getD t []) j) :: (E.getD t []).drop (j + 1) ++ (E.drop (t + 1)).flatten) := by
    have h1 : E = E.take t ++ E[t] :: E.drop (t + 1) := by rw [← List.drop_eq_getElem_cons ht, List.take_append_drop]
    have h2 : E.getD t [] = (E.getD t []).take j ++ entAt (E.getD t []) j :: (E.getD t []).drop (j + 1) := by rw [entAt_eq hj, ← List.drop_eq_getElem_cons hj, List.take_append_drop]
    conv => lhs; rw [h1]
    rw [List.flatten_append, List.flatten_cons, ← he]
    conv => lhs; rw [h2]
    simp [List.append_assoc]
  rw [hs] at hnd
  obtain ⟨x, hx, e⟩ := List.mem_map.1 hm
  exact (List.pairwise_append.1 hnd).2.2 x hx _ (by simp) e

set_option maxRecDepth 100000 in
set_option maxHeartbeats 8000000 in
theorem kcheck_ok (nb np : Nat) (P : Option Addr) (pc : Nat) (us ys : List Int) (slots : Nat) (A : Option Addr) (c : Nat) (E : List (List (ByteArray × Int))) (w : World) {lo : Nat} (hs : Sh w w.heap.size P np us ys) (ho : HsOk nb np us ys) (hsl : 1 ≤ slots ∧ slots ≤ 8) (hM : MatV w lo w.heap.size 2 A nb (E.map entC)) (hD : DirOk nb (us.zip ys) slots E) :
    Calls Tryz.prog 53 #[.agg #[.int .i64 nb, .slice P np pc, .int .i64 slots, .slice A nb c]] w fun e w' => e = .returned (.int .i64 0) ∧ Below w.heap.size w w' := by
  have HOK := Lib.hid ho
  have HD := Lib.hid hD
  have HEL := Lib.hid hD.len
  have hnb := ho.hnb
  have hnpM : np ≤ 1000000 := by have := ho.hnp; omega
  clear ho hD
  have hb0 : Below w.heap.size w (w.alloc (.cells #[.int .i64 nb, .slice P np pc, .int .i64 slots, .slice A nb c] 32)) := bbox _
  have hB0 := Blk.new w 32 #[.int .i64 nb, .slice P np pc, .int .i64 slots, .slice A nb c]
  have hs0 := hs.upto hb0
  have hz0 : (w.alloc (.cells #[.int .i64 nb, .slice P np pc, .int .i64 slots, .slice A nb c] 32)).cell? ⟨w.heap.size, 0, none⟩ = some (.int .i64 nb) := (hB0.cell 0).trans rfl
  have hz1 : (w.alloc (.cells #[.int .i64 nb, .slice P np pc, .int .i64 slots, .slice A nb c] 32)).cell? ⟨w.heap.size, 1, none⟩ = some (.slice P np pc) := (hB0.cell 1).trans rfl
  have law : Keyed Tryz.prog 9 := string_keyed Tryz.underlying9
  have zeroE : ∀ w : World, (zeroValue 4).run Tryz.prog w = .ok (.bool false) w := fun w => by kernel_rfl
  have hmm := @run_makeMap Tryz.prog
  have hnn : ((nb : Int) != (nb : Int)) = false := by simp
  go_enter Tryz.func53, Tryz.ntmps53
  go_upto_region 3 with (first
    | (go_at_call 43
       refine (cucheck_ok nb np P pc us ys _ hs0 HOK.out).mono ?_
       rintro e w1 ⟨rfl, hb1⟩
       have hB1 := hB0.below hb1 hB0.lt
       have hbw1 := bnext hb0 hb1
       have hs1 := hs0.upto hb1
       have hy0 : w1.cell? ⟨w.heap.size, 0, none⟩ = some (.int .i64 nb) := (hB1.cell 0).trans rfl
       have hy1 : w1.cell? ⟨w.heap.size, 1, none⟩ = some (.slice P np pc) := (hB1.cell 1).trans rfl
       have hy2 : w1.cell? ⟨w.heap.size, 2, none⟩ = some (.int .i64 slots) := (hB1.cell 2).trans rfl
       have hy3 : w1.cell? ⟨w.heap.size, 3, none⟩ = some (.slice A nb c) := (hB1.cell 3).trans rfl
       clear hz0 hz1 hB0 hs0 hb0)
    | (go_at_call 37; refine (slotted_ok slots _ hsl.1 hsl.2).mono ?_; rintro e w2 ⟨rfl, rfl⟩))
  have hyM3 : (w1.alloc (.map #[] 0)).cell? ⟨w.heap.size, 3, none⟩ = some (.slice A nb c) := ((hB1.alloc _).cell 3).trans rfl
  have hnbi : (1 : Int) ≤ (nb : Int) := by omega
  go_wp2_with fail
  go_loopw [31] (fun v31 wx => ∃ (t cnt : Nat) (D : DataW Unit), t ≤ nb ∧ v31 = .int .i64 t ∧ Hid (wx.ownsMap Tryz.prog 9 (plainElem Tryz.prog 4) w1.heap.size cnt D) ∧ cnt ≤ 8 * t ∧ Hid (UnseenS D (seenT E t 0)) ∧ Below w1.heap.size w1 wx) (fun v31 _ => nb - (intOf v31).toNat)
  case atStart => exact ⟨0, 0, .map [], Nat.zero_le _, rfl, Lib.hid (World.ownsMap_made _ _ _ _), Nat.le_refl _, Lib.hid UnseenS.start, bbox _⟩
  case round =>
  obtain ⟨t, cnt, D, ht, rfl, HMP, hcnt, HU, hbx⟩ := hrel
  have hbwx := bnext hbw1 hbx
  have hBx := hB1.below hbx hB1.lt
  by_cases htn : t < nb
  · have hti : (t : Int) < (nb : Int) := by omega
    have ht0 : (0 : Int) ≤ (t : Int) := by omega
    obtain ⟨b, off, A1, n1, c1, rfl, _, hbl, hcell0, hn1, hE1⟩ := MatV.ents hM htn
    have hcell := (hbwx.cell (p := ⟨b, off + t, none⟩) hbl).trans hcell0
    obtain ⟨l, hl⟩ : ∃ l, E.getD t [] = l := ⟨_, rfl⟩
    rw [hl] at hE1
    have HLE := Lib.hid hl
    have HLM := Lib.hid (show l ∈ E by rw [← hl, List.getD_eq_getElem?_getD, List.getElem?_eq_getElem (by rw [HEL.out]; exact htn)]; exact List.getElem_mem _)
    have HLL := Lib.hid (Ents.len hE1)
    have hfit : n1 ≤ slots := by rw [← Ents.len hE1]; exact HD.out.fit l HLM.out
    have hfiti : ¬ (slots : Int) < (n1 : Int) := by omega
    have hx2 : wr.cell? ⟨w.heap.size, 2, none⟩ = some (.int .i64 slots) := (hBx.cell 2).trans rfl
    have hE1w : Ents wr lo wr.heap.size A1 n1 l := RowV.more (RowV.below hE1 hbwx) hbwx.size
    clear hl
    go_upto_region 9 with (go_at_call 38
                           refine (ascends_ok A1 n1 c1 l _ (by omega) hE1w (HD.out.asc l HLM.out) (HD.out.val l HLM.out)).mono ?_
                           rintro e w3 ⟨rfl, hb3⟩)
    have HMP3 := Lib.hid (World.ownsMap.kept HMP.out (grown_none hb3) (by simp))
    have hbx3 := hbx.trans (hb3.mono hbx.size)
    clear HMP hbx hb3 hbwx hBx hE1w hx2
    go_wp2_with fail
    go_loopw [48] (fun v48 wx => ∃ (j cnt : Nat) (D : DataW Unit), j ≤ n1 ∧ v48 = .int .i64 j ∧ Hid (wx.ownsMap Tryz.prog 9 (plainElem Tryz.prog 4) w1.heap.size cnt D) ∧ cnt ≤ 8 * t + j ∧ Hid (UnseenS D (seenT E t j)) ∧ Below w1.heap.size w1 wx) (fun v48 _ => n1 - (intOf v48).toNat)
    case atStart => exact ⟨0, cnt, D, Nat.zero_le _, rfl, HMP3, hcnt, HU, hbx3⟩
    case round =>
    clear HMP3 hcnt HU hbx3
    obtain ⟨j, cnt, D, hj, rfl, HMP, hcnt, HU, hbx⟩ := hrel
    have hbwx := bnext hbw1 hbx
    have hBx := hB1.below hbx hB1.lt
    by_cases hjn : j < n1
    · have hji : (j : Int) < (n1 : Int) := by omega
      have hj0 : (0 : Int) ≤ (j : Int) := by omega
      obtain ⟨bL, oL, rfl, _, hbL, hcs, hcv⟩ := Ents.at_ (RowV.below hE1 hbwx) hjn
      have hjl : j < (E.getD t []).length := by rw [HLE.out, HLL.out]; exact hjn
      have HNW := Lib.hid (seenT_new HD.out.nd (by rw [HEL.out]; exact htn) hjl)
      have HST := Lib.hid (seenT_step hjl)
      rw [HLE.out] at HNW HST
      have HEM := Lib.hid (HD.out.val l HLM.out _ (entAt_mem (l := l) (j := j) (by rw [HLL.out]; exact hjn)))
      have HHM := Lib.hid (HD.out.home t htn (entAt l j) (by rw [HLE.out]; exact entAt_mem (by rw [HLL.out]; exact hjn)))
      obtain ⟨s, hse⟩ : ∃ s, (entAt l j).1 = s := ⟨_, rfl⟩
      obtain ⟨v, hve⟩ : ∃ v, (entAt l j).2 = v := ⟨_, rfl⟩
      rw [hse] at hcs HNW HST HHM
      rw [hve] at hcv
      have hsz : 1 ≤ s.size ∧ s.size ≤ 32 := by rw [← hse]; exact ⟨HEM.out.1, HEM.out.2.1⟩
      obtain ⟨hsz1, hsz2⟩ := hsz
      have hml : s.size ≤ maxLen := by unfold maxLen; omega
      have HML := Lib.hid hml
      have HUN := Lib.hid (HU.out s HNW.out)
      have HUS := Lib.hid (HU.out.step s)
      clear hse hve hml hjl
      have hbo := bbox (w0 := wr) (.cells #[.string s, .int .i64 v] 39)
      have hN5 := Blk.new wr 39 #[.string s, .int .i64 v]
      have hB5 := hBx.below hbo hBx.lt
      have HMP5 := Lib.hid (World.ownsMap.kept HMP.out (grown_none hbo) (by simp))
      have hbx5 := hbx.trans (hbo.mono hbx.size)
      have hbw5 := bnext hbw1 hbx5
      have hs5 := hs.upto hbw5
      obtain ⟨g5, hg5⟩ : ∃ g, wr.heap.size = g := ⟨_, rfl⟩
      have HG5 := Lib.hid hg5
      have hx0 : (wr.alloc (.cells #[.string s, .int .i64 v] 39)).cell? ⟨w.heap.size, 0, none⟩ = some (.int .i64 nb) := (hB5.cell 0).trans rfl
      have hx1 : (wr.alloc (.cells #[.string s, .int .i64 v] 39)).cell? ⟨w.heap.size, 1, none⟩ = some (.slice P np pc) := (hB5.cell 1).trans rfl
      have hx5 : (wr.alloc (.cells #[.string s, .int .i64 v] 39)).cell? ⟨wr.heap.size, 0, none⟩ = some (.string s) := (hN5.cell 0).trans rfl
      rw [hg5] at hN5
      have hN5l := hN5.lt
      have hs1x := hbx5.size
      clear hbo hBx HMP hg5
      go_wp2_with (first
        | (at_lookup
           refine wpList_lookup_own_bool _ rfl _ _ 162 rfl 9 4 law Tryz.underlying162 Tryz.underlying4 (zeroE _) w1.heap.size cnt D rfl HMP5.out _ _ rfl (Go.WideMaps.keyOf_string_mk Tryz.underlying9 HML.out) ?_
           intro cc hat
           have hcf : cc = false := by have := HUN.out.symm.trans hat; injection this with this; injection this with this; exact this.symm
           subst hcf)
        | (go_at_call 45
           refine (khomes_ok nb np P pc us ys _ hs5 HOK.out s hsz1 hsz2).mono ?_
           rintro e w6 ⟨A6, c6, rfl, hA6, hb6⟩
           have HMP6 := Lib.hid (World.ownsMap.kept HMP5.out (grown_none hb6) (by simp))
           have hbx6 := hbx5.trans (hb6.mono hbx5.size)
           have hN6 := hN5.below hb6 hN5l
           have hI6 := hA6.ints
           have hy5 : w6.cell? ⟨wr.heap.size, 0, none⟩ = some (.string s) := by rw [HG5.out]; exact (hN6.cell 0).trans rfl
           have hs6x := hbx6.size
           clear HMP5 hb6 hA6)
        | (go_at_call 86
           refine (contains_mem A6 np c6 _ (t : Int) _ hI6 hnpM HHM.out).mono ?_
           rintro e w7 ⟨rfl, rfl⟩)
        | (at_mapUpdate
           refine wpList_mapUpdate_own _ rfl _ _ _ 162 rfl 9 4 law Tryz.underlying162 _ w1.heap.size cnt D rfl HMP6.out (by unfold maxLen; omega) _ _ _ rfl rfl (Go.WideMaps.keyOf_string_mk Tryz.underlying9 HML.out) _ [] (plainElem_bool Tryz.underlying4 true) ?_
           intro w8 hown8 hgr8
           have hbx8 := hbx6.grown hgr8 hs6x (fun g e => by cases e; exact Nat.le_refl _)))
      go_roundw
      case rel => exact ⟨j + 1, cnt + 1, _, by omega, by go_num, Lib.hid hown8, by omega, Lib.hid (by rw [HST.out]; exact HUS.out), hbx8⟩
      case measure => simp [intOf]; omega
    · obtain rfl : n1 = j := by omega
      go_wp2
      go_roundw
      case rel => exact ⟨t + 1, cnt, D, by omega, by go_num, HMP, by omega, Lib.hid (by rw [← seenT_next (j := n1) (by rw [HEL.out]; exact htn) (by rw [HLE.out, HLL.out]; exact Nat.le_refl _)]; exact HU.out), hbx⟩
      case measure => simp [intOf]; omega
  · obtain rfl : nb = t := by omega
    go_wp2
    go_ret
    exact ⟨rfl, hbwx⟩
end Go.Proofs.YtmcgnpdfpfgfpaaGreatDoor

/-! KFind -/
namespace Go.Proofs.YtmcgnpdfpfgfpaaGreatDoor
open Go.RowKit
set_option linter.unusedVariables false

theorem info_rowE2 : (Tryz.prog.info? 33).map (fun i => (i.zero, i.size, i.bytes)) = some (some (.slice none 0 0), 1, 24) := by kernel_rfl
/-- The buckets that are homes of a number. -/
def bucketsF (E : List (List (ByteArray × Int))) (hs : List Int) : List (List (ByteArray × Int)) := hs.map fun b => E.getD b.toNat []
theorem bucketsF_take {E : List (List (ByteArray × Int))} {hs : List Int} {k b : Nat} (hk : k < hs.length) (hb : hs.getD k 0 = (b : Int)) : (bucketsF E (hs.take k)).map entC ++ [entC (E.getD b [])] = (bucketsF E (hs.take (k + 1))).map entC := by
  rw [List.getD_eq_getElem?_getD, List.getElem?_eq_getElem hk] at hb
  have hb : hs[k] = (b : Int) := hb
  unfold bucketsF
  rw [List.take_succ_eq_append_getElem hk, List.map_append, List.map_append, hb]
  simp

set_option maxRecDepth 100000 in
set_option maxHeartbeats 4000000 in
theorem kfind_ok (key : ByteArray) (nb np : Nat) (P : Option Addr) (pc : Nat) (us ys : List Int) (slots : Nat) (A : Option Addr) (c : Nat) (E : List (List (ByteArray × Int))) (w : World) {lo : Nat} (h1 : 1 ≤ key.size) (h2 : key.size ≤ 32) (hs : Sh w w.heap.size P np us ys) (ho : HsOk nb np us ys) (hsl : 1 ≤ slots ∧ slots ≤ 8) (hM : MatV w lo w.heap.size 2 A nb (E.map entC)) (hD : DirOk nb (us.zip ys) slots E) :
    Calls Tryz.prog 19 #[.agg #[.int .i64 nb, .slice P np pc, .int .i64 slots, .slice A nb c], .string key] w fun e w' => e = .returned (.tuple #[.int .i64 ((pickB key (bucketsF E (homI nb us ys (dSum key.data.toList)))).getD 0), .bool (pickB key (bucketsF E (homI nb us ys (dSum key.data.toList)))).isSome, .int .i64 0]) ∧ Below w.heap.size w w' := by
  have HOK := Lib.hid ho
  have HD := Lib.hid hD
  have hnb := ho.hnb
  have hnp : np ≤ 4 := ho.hnp.2
  have HLL := Lib.hid (show (homI nb us ys (dSum key.data.toList)).length = np by rw [homI_len nb us ys _ (by rw [hs.1, hs.2.1]), hs.1])
  have HBD := Lib.hid (fun x hx => homI_bd (nb := nb) (us := us) (ys := ys) (x := dSum key.data.toList) (by omega) x hx)
  clear ho hD
  obtain ⟨H, hH⟩ : ∃ H, homI nb us ys (dSum key.data.toList) = H := ⟨_, rfl⟩
  have HHE := Lib.hid hH
  rw [hH] at HLL HBD
  rw [hH]
  clear hH
  obtain ⟨i9, hi9, hy0, hy1, hy2⟩ := info_parts info_rowE2
  have hb0 : Below w.heap.size w (w.alloc (.cells #[.int .i64 nb, .slice P np pc, .int .i64 slots, .slice A nb c] 32)) := bbox _
  have hB0 := Blk.new w 32 #[.int .i64 nb, .slice P np pc, .int .i64 slots, .slice A nb c]
  have hs0 := hs.upto hb0
  have hM0 := hM.upto hb0
  have hz0 : (w.alloc (.cells #[.int .i64 nb, .slice P np pc, .int .i64 slots, .slice A nb c] 32)).cell? ⟨w.heap.size, 0, none⟩ = some (.int .i64 nb) := (hB0.cell 0).trans rfl
  have hz1 : (w.alloc (.cells #[.int .i64 nb, .slice P np pc, .int .i64 slots, .slice A nb c] 32)).cell? ⟨w.heap.size, 1, none⟩ = some (.slice P np pc) := (hB0.cell 1).trans rfl
  have hz2 : (w.alloc (.cells #[.int .i64 nb, .slice P np pc, .int .i64 slots, .slice A nb c] 32)).cell? ⟨w.heap.size, 2, none⟩ = some (.int .i64 slots) := (hB0.cell 2).trans rfl
  have hz3 : (w.alloc (.cells #[.int .i64 nb, .slice P np pc, .int .i64 slots, .slice A nb c] 32)).cell? ⟨w.heap.size, 3, none⟩ = some (.slice A nb c) := (hB0.cell 3).trans rfl
  go_enter Tryz.func19, Tryz.ntmps19
  go_upto_region 7 with (first
    | (go_at_call 53
       refine (kcheck_ok nb np P pc us ys slots A c E _ hs0 HOK.out hsl hM0 HD.out).mono ?_
       rintro e w1 ⟨rfl, hb1⟩
       have hB1 := hB0.below hb1 hB0.lt
       have hbw1 := bnext hb0 hb1
       have hs1 := hs0.upto hb1
       have hy0' : w1.cell? ⟨w.heap.size, 0, none⟩ = some (.int .i64 nb) := (hB1.cell 0).trans rfl
       have hy1' : w1.cell? ⟨w.heap.size, 1, none⟩ = some (.slice P np pc) := (hB1.cell 1).trans rfl
       clear hz0 hz1 hz2 hz3 hB0 hs0 hb0 hM0)
    | (go_at_call 44; refine (proper_ok key _ h1 h2).mono ?_; rintro e w2 ⟨rfl, rfl⟩)
    | (go_at_call 45
       refine (khomes_ok nb np P pc us ys _ hs1 HOK.out key h1 h2).mono ?_
       rintro e w2 ⟨A2, c2, rfl, hA2, hb2⟩
       rw [HHE.out] at hA2
       have hB2 := hB1.below hb2 hB1.lt
       have hbw2 := bnext hbw1 hb2
       have hI2 := hA2.ints
       clear hb2 hB1 hs1 hA2 hy0' hy1'))
  go_wp2_with fail
  go_loopw [8, 23] (fun v8 v23 wx => ∃ (k : Nat) (F : Option Addr) (fc : Nat), k ≤ np ∧ v8 = .slice F k fc ∧ v23 = .int .i64 k ∧ OwnV wx w2.heap.size lo 2 33 F k fc ((bucketsF E (H.take k)).map entC) ∧ Below w2.heap.size w2 wx) (fun v8 v23 _ => np - (intOf v23).toNat)
  case atStart => exact ⟨0, none, 0, Nat.zero_le _, rfl, rfl, OwnV.nil_, Below.refl _ _⟩
  case round =>
  obtain ⟨k, F, fc, hk, rfl, rfl, hF, hbx⟩ := hrel
  have hbwx := bnext hbw2 hbx
  have hBx := hB2.below hbx hB2.lt
  by_cases hkn : k < np
  · have hki : (k : Int) < (np : Int) := by omega
    have hk0 : (0 : Int) ≤ (k : Int) := by omega
    have HIW := hI2.upto hbx
    obtain ⟨b2, o2, rfl, _, hc2⟩ := HIW.2 (by omega)
    have hck := hc2 k hkn
    clear hc2
    obtain ⟨bk, hbk, hbl⟩ := HBD.out (H.getD k 0) (by rw [List.getD_eq_getElem?_getD, List.getElem?_eq_getElem (by rw [HLL.out]; exact hkn)]; exact List.getElem_mem _)
    have HTK := Lib.hid (bucketsF_take (E := E) (by rw [HLL.out]; exact hkn) hbk)
    rw [hbk] at hck
    have hbi : (bk : Int) < (nb : Int) := by omega
    have hbi0 : (0 : Int) ≤ (bk : Int) := by omega
    obtain ⟨b, off, A1, n1, c1, rfl, _, hbll, hcell0, hn1, hE1⟩ := MatV.ents hM hbl
    have hcell := (hbwx.cell (p := ⟨b, off + bk, none⟩) hbll).trans hcell0
    have hE1w : RowV wr lo wr.heap.size 2 A1 n1 (entC (E.getD bk [])) := RowV.more (RowV.below hE1 hbwx) hbwx.size
    have hx3 : wr.cell? ⟨w.heap.size, 3, none⟩ = some (.slice (some ⟨b, off, none⟩) nb c) := (hBx.cell 3).trans rfl
    have hbo := bbox (w0 := wr) (.cells #[.slice A1 n1 c1] 33)
    have hN5 := Blk.new wr 33 #[.slice A1 n1 c1]
    have hF5 := hF.belowAll hbo
    have hE5 := hE1w.upto hbo
    have hb5 := hbx.alloc hbx.size (.cells #[.slice A1 n1 c1] 33)
    have hle5 := hb5.size
    have HAP : Hid (0 < n1 → ∀ b off sp, A1 = some ⟨b, off, sp⟩ → (Value.slice F k fc).ownBlock ≠ some b) := Lib.hid fun h0 b off sp e e2 => by
      have h3 := (hF.row b e2).1
      have h4 := (RowV.lo_ hE1 h0 e).2
      have := hbw2.size
      omega
    go_wp2_with (at_builtin
                 refine wpList_append_rowV rfl _ _ 30 rfl w2.heap.size lo 2 33 i9 _ Tryz.underlying30 hi9 hy0 hy1 hy2 rfl F k fc _ rfl hF5 wr.heap.size 1 A1 n1 c1 _ rfl ((hN5.cell 0).trans rfl) hN5.lt hn1 hE5 HAP.out (k + 1) rfl (by omega) hle5 ?_
                 intro F8 c8 w8 hF8 hg8 hb8)
    go_roundw
    case rel => exact ⟨k + 1, F8, c8, by omega, rfl, by go_num, by rw [← HTK.out]; exact hF8, hb5.trans hb8⟩
    case measure => simp [intOf]; omega
  · obtain rfl : np = k := by omega
    have HTA : Hid (H.take np = H) := Lib.hid (List.take_of_length_le (by rw [HLL.out]; exact Nat.le_refl _))
    rw [HTA.out] at hF
    have hMF : MatV wr 0 wr.heap.size 2 F np ((bucketsF E H).map entC) := (hF.weaken (Nat.le_refl _) (Nat.zero_le _)).matV (Nat.zero_le _)
    go_wp2_with (go_at_call 18
                 refine (kpick_ok key F np fc (bucketsF E H) _ h1 h2 (by omega) hMF).mono ?_
                 rintro e w9 ⟨rfl, hb9⟩)
    go_ret3
    exact ⟨rfl, bnext hbwx hb9⟩
end Go.Proofs.YtmcgnpdfpfgfpaaGreatDoor
