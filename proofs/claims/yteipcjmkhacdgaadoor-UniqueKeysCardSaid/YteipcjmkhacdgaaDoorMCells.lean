/-
  What Cells hands back where no cell is made wrong: the word's values, some of them not known. Conditions: the polynomial reads as its numbers, all of them elements.
-/
import Derived.Test.YteipcjmkhacdgaaDoorCellsO
import Derived.Test.YteipcjmkhacdgaaDoorRef5b
import Derived.Test.YteipcjmkhacdgaaDoorOrder
namespace Go.Proofs.YteipcjmkhacdgaaDoor
open Go.RowKit
set_option linter.unusedVariables false

theorem OwnI.set_ {w : World} {base n c : Nat} {e : TypeId} {A : Option Addr} {xs : List Int} (h : OwnI w base e A n c xs) {p : Addr} (hp : p.block < base) (v : Value) : OwnI (w.setCell p v) base e A n c xs := by
  refine h.kept (row := some p.block) ⟨rfl, rfl, rfl, by simp [World.setCell], fun k hk hne => Below.heap_setCell w p v k (fun e => hne (by rw [e]))⟩ ?_
  right
  intro e
  have := h.row p.block e
  omega

/-- What Cells leaves. -/
def MCellsPost (g : Nat) (A : Option Addr) (n c : Nat) (xs : List Int) (p : Int) (cs : List Int) (N sil : Nat) (w : World) (e : Ending) (w' : World) : Prop :=
  ∃ (A' : Option Addr) (c' : Nat) (vs : List Int) (bs : List Bool) (q' : Nat), e = .returned (.slice A' N c') ∧ OwnC w' w.heap.size A' N c' vs bs ∧ Hid (∀ j, j < N → bs.getD j false = true → vs.getD j 0 = valueP p ((j : Int) + 1) cs) ∧ Hid (N ≤ (knL vs bs).length + sil) ∧ Deck w' g A n c xs q' ∧ Step g w w'

set_option maxRecDepth 100000 in
set_option maxHeartbeats 3200000 in
theorem mcells_ok (g : Nat) (A : Option Addr) (n c : Nat) (xs : List Int) (q : Nat) (p : Int) (C : Option Addr) (m cc : Nat) (cs : List Int) (N sil : Nat) (w : World) (h : Deck w g A n c xs q) (hok : okP p = true) (hC : Ints w w.heap.size C m cs) (hca : allP p cs = true) (hmc : m ≤ cc) (hm : m ≤ 512) (hN : N ≤ 32) (hNp : (N : Int) < p) (hsil : sil ≤ 32) :
    Calls Tryd.prog 14 #[.pointer (some ⟨g, 0, none⟩), .agg #[.int .i64 p], .slice C m cc, .int .i64 N, .int .i64 0, .int .i64 sil] w (MCellsPost g A n c xs p cs N sil w) := by
  have hp := okP_pos hok
  have HO := Lib.hid hok
  have HC := Lib.hid hca
  have hg := h.1.lt
  have hb0 : Below w.heap.size w (w.alloc (.cells #[.int .i64 p] 24)) := bbox _
  have hC0 := hC.upto hb0
  have hD0 := h.belowAll hb0
  clear hok hca
  go_enter Tryd.func14, Tryd.ntmps14
  go_wp2_with (go_at_call 29; (refine (rencode_ok p C m cc N cs _ HO.out hC0 HC.out hmc hm hN hNp).mono ?_); rintro e w1 ⟨⟨A1, c1, rfl, hown1⟩, hb1⟩
               have hbb1 := bnext hb0 hb1
               have hI1 := hown1.ints
               have hD1 := hD0.belowAll hb1)
  obtain ⟨wv, HW⟩ : ∃ wv, Hid (valsP p cs (ptsL N) = wv) := ⟨_, Lib.hid rfl⟩
  have HWL : Hid (wv.length = N) := Lib.hid (by rw [← HW.out, valsP_len, ptsL_len])
  have HWV : Hid (∀ j, j < N → wv.getD j 0 = valueP p ((j : Int) + 1) cs) := Lib.hid fun j hj => by rw [← HW.out, valsP_at p cs _ (by rw [ptsL_len]; exact hj), ptsL_at hj]
  rw [HW.out] at hI1
  clear hown1 HW
  have hg1 : g < w1.heap.size := hD1.1.lt
  go_loopw [15, 29] (fun s i wz => ∃ (k : Nat) (L : Option Addr) (lc : Nat), k ≤ N ∧ s = .slice L k lc ∧ i = .int .i64 k ∧ Hid (OwnC wz w1.heap.size L k lc (wv.take k) (List.replicate k true)) ∧ Below w1.heap.size w1 wz) (fun _ i _ => N - (intOf i).toNat)
  case atStart => exact ⟨0, none, 0, Nat.zero_le _, rfl, rfl, Lib.hid OwnC.nil_, Below.refl _ _⟩
  case round =>
    obtain ⟨k, L, lc, hk, rfl, rfl, HS, hbz⟩ := hrel
    by_cases hlt : k < N
    · obtain ⟨b1, o1, rfl, hb1', hc1⟩ := hI1.2 (by omega)
      have hcx := (hbz.cell (p := ⟨b1, o1 + k, none⟩) hb1').trans (hc1 k hlt)
      clear hc1
      have HT := Lib.hid (take_succ_getD wv k (by rw [HWL.out]; exact hlt))
      have HRP : Hid (List.replicate (k + 1) true = List.replicate k true ++ [true]) := Lib.hid (List.replicate_succ' ..)
      obtain ⟨x, HX⟩ : ∃ x, Hid (wv.getD k 0 = x) := ⟨_, Lib.hid rfl⟩
      rw [HX.out] at hcx HT
      have hk0 : (0 : Int) ≤ (k : Int) := by omega
      have hkN : (k : Int) < (N : Int) := by omega
      have hbza := hbz.alloc hbz.size (.cells #[.int .i64 x, .bool true] 59)
      have hoA := HS.out.belowAll (bbox (.cells #[.int .i64 x, .bool true] 59))
      have hN9 := Blk.new wr 59 #[.int .i64 x, .bool true]
      go_wp2_with ((at_builtin; refine wpList_append_cell rfl _ _ 25 rfl Tryd.underlying25 w1.heap.size L k lc (wv.take k) (List.replicate k true) rfl hoA wr.heap.size 1 x true rfl ((hN9.cell 0).trans rfl) ((hN9.cell 1).trans rfl) (by omega) hbza.size ?_; intro L2 lc2 w10 hS10 hb10; have hbz10 := hbza.trans hb10))
      go_roundw
      case rel => exact ⟨k + 1, L2, lc2, by omega, rfl, by go_num, Lib.hid (by rw [HT.out, HRP.out]; exact hS10), hbz10⟩
      case measure => simp [intOf]; omega
    · obtain rfl : k = N := by omega
      have hS := HS.out
      rw [List.take_of_length_le (by rw [HWL.out]; exact Nat.le_refl _)] at hS
      have hDz := hD1.belowAll hbz
      have hbw := bnext hbb1 hbz
      clear HS
      go_wp2_with (go_at_call 34; (with_reducible refine (order_any g A n c xs q k _ hDz (by omega)).mono ?_); rintro e w8 ⟨A4, c4, ks, q8, rfl, hown8, hord, hD8, hS8⟩
                   have HK := Lib.hid hord
                   have hS8o := hS.step hS8 hg1
                   have hbw8 : Step g w w8 := (Step.of_below hbw).trans hS8
                   have hg8 : g < w8.heap.size := hD8.1.lt
                   have hgr : g < wr.heap.size := hDz.1.lt
                   clear hord)
      have HKL : Hid (ks.length = k) := Lib.hid (order_len HK.out)
      go_loopw [43] (fun i wz => ∃ (j q : Nat) (vs : List Int) (bs : List Bool), j ≤ k ∧ i = .int .i64 j ∧ Hid (OwnC wz w1.heap.size L k lc vs bs) ∧ Hid (∀ j, j < k → bs.getD j false = true → vs.getD j 0 = valueP p ((j : Int) + 1) cs) ∧ Hid (k ≤ (knL vs bs).length + min j sil) ∧ OwnI wz wr.heap.size 3 A4 k c4 ks ∧ Deck wz g A n c xs q ∧ Step g w wz) (fun i _ => k - (intOf i).toNat)
      case atStart => exact ⟨0, q8, wv, List.replicate k true, Nat.zero_le _, rfl, Lib.hid hS8o, Lib.hid (fun j hj _ => HWV.out j hj), Lib.hid (by have := knL_all wv; rw [HWL.out] at this; omega), hown8, hD8, hbw8⟩
      case round =>
        rename_i wy
        obtain ⟨j, q2, vs, bs, hj, rfl, HOC, HV, HCN, hoK, hD, hSt⟩ := hrel
        by_cases hlt2 : j < k
        · have hIk := hoK.ints
          obtain ⟨b2, o2, rfl, hb2, hc2⟩ := hIk.2 (by omega)
          have hcz := hc2 j hlt2
          obtain ⟨z, hz, hzk⟩ := order_at HK.out hlt2
          rw [hz] at hcz
          clear hc2
          have hj0 : (0 : Int) ≤ (j : Int) := by omega
          have hj00 : ¬ ((j : Int) < 0) := by omega
          have hjk : (j : Int) < (k : Int) := by omega
          have h0s : IntKind.i64.wrap (0 + (sil : Int)) = (sil : Int) := by rw [Int.zero_add]; exact IntWalk.i64_in _ (by omega)
          have hsw : IntKind.i64.wrap (sil : Int) = (sil : Int) := IntWalk.i64_in _ (by omega)
          by_cases hjs : j < sil
          · have hjsi : (j : Int) < (sil : Int) := by omega
            obtain ⟨gP, rfl, hgP, hgPl⟩ := hS.form (by omega)
            have hz0 : (0 : Int) ≤ (z : Int) := by omega
            have hzki : (z : Int) < (k : Int) := by omega
            go_wp2_with (go_at_call 13; (refine (next_any g A n c xs q2 9 _ hD (by omega)).mono ?_); rintro e w9 ⟨r, q9, rfl, hr, _, hD9, hS9, hz9⟩
                         have hrb := hr (by omega)
                         have hoC9 := HOC.out.step hS9 hg1
                         have hoK9 := hoK.step hS9 hgr
                         have hSt9 := hSt.trans hS9
                         have hx0 := (hoC9.cellAt hzk).1
                         have hx1 := (hoC9.cellAt hzk).2
                         have hf0 := hoC9.frozenAt (z * 2)
                         have hf1 := hoC9.frozenAt (z * 2 + 1)
                         have hrw : IntKind.i64.wrap (r - 4) = r - 4 := IntWalk.i64_in _ (by omega)
                         have hoCn := (hoC9.stored hzk (r - 4)).storedB hzk false
                         have hoKn := (hoK9.set_ (p := ⟨gP, z * 2, none⟩) (by show gP < _; omega) (.int .i64 (r - 4))).set_ (p := ⟨gP, z * 2 + 1, none⟩) (by show gP < _; omega) (.bool false)
                         have hDn := (hD9.setCell (p := ⟨gP, z * 2, none⟩) (by show g < gP; omega) (.int .i64 (r - 4))).setCell (p := ⟨gP, z * 2 + 1, none⟩) (by show g < gP; omega) (.bool false)
                         have hStn := (hSt9.setNew (p := ⟨gP, z * 2, none⟩) (by have := hbb1.size; show w.heap.size ≤ gP; omega) (.int .i64 (r - 4))).setNew (p := ⟨gP, z * 2 + 1, none⟩) (by have := hbb1.size; show w.heap.size ≤ gP; omega) (.bool false)
                         have hlv : vs.length = bs.length := by rw [hoC9.1, hoC9.2.1]
                         have HCN2 : Hid (k ≤ (knL (vs.set z (r - 4)) (bs.set z false)).length + min (j + 1) sil) := Lib.hid (by have h1 := knL_less (r - 4) hlv z; have h2 := HCN.out; omega)
                         have HV2 : Hid (∀ j, j < k → (bs.set z false).getD j false = true → (vs.set z (r - 4)).getD j 0 = valueP p ((j : Int) + 1) cs) := Lib.hid fun i hi hb => by
                           rw [setB_getD] at hb
                           rw [setI_getD]
                           by_cases hiz : i = z ∧ z < bs.length
                           · rw [if_pos hiz] at hb; cases hb
                           · rw [if_neg hiz] at hb
                             rw [if_neg (by rw [hlv]; exact hiz)]
                             exact HV.out i hi hb
                         clear hr hz9)
            go_roundw
            case rel => exact ⟨j + 1, q9, _, _, by omega, by go_num, Lib.hid hoCn, HV2, HCN2, hoKn, hDn, hStn⟩
            case measure => simp [intOf]; omega
          · have hjsi : ¬ ((j : Int) < (sil : Int)) := by omega
            go_wp2
            go_roundw
            case rel => exact ⟨j + 1, q2, vs, bs, by omega, by go_num, HOC, HV, Lib.hid (by have := HCN.out; omega), hoK, hD, hSt⟩
            case measure => simp [intOf]; omega
        · obtain rfl : j = k := by omega
          go_wp2
          go_ret
          exact ⟨L, lc, vs, bs, q2, rfl, HOC.out.lower hbb1.size, HV, Lib.hid (by have := HCN.out; omega), hD, hSt⟩
end Go.Proofs.YteipcjmkhacdgaaDoor
