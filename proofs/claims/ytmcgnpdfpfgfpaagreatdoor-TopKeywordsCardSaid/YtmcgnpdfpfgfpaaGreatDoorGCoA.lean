/-
  Words for memory and contracts of small functions of the second form. Conditions: those of each lemma.
-/
import Derived.Test.YtmcgnpdfpfgfpaaGreatDoorGMem
import Derived.Test.YtmcgnpdfpfgfpaaGreatDoorGDec
/-! Col1 -/
namespace Go.Proofs.YtmcgnpdfpfgfpaaGreatDoor
open Go.RowKit
set_option linter.unusedVariables false

set_option maxRecDepth 100000 in
set_option maxHeartbeats 4000000 in
theorem colCheck_ok (p : Int) (W N need : Nat) (A : Option Addr) (c : Nat) (ks : List Bool) (rows : List (List Int)) (w : World) (hok : okP p = true) (hA : Ans w w.heap.size A N ks rows) (hN : N ≤ 1000) (hW : W ≤ 64)
    (hel : ∀ i, i < N → ks.getD i false = true → (rows.getD i []).length = W ∧ allP p (rows.getD i []) = true) (hneed : need ≤ cntT ks) :
    Calls Tryz.prog 68 #[.agg #[.int .i64 p], .int .i64 W, .int .i64 N, .int .i64 need, .slice A N c] w fun e w' => e = .returned (.int .i64 0) ∧ Below w.heap.size w w' := by
  have hb0 : Below w.heap.size w (w.alloc (.cells #[.int .i64 p] 44)) := bbox _
  have hA1 := hA.upto hb0
  have hF1 := Blk.new w 44 #[.int .i64 p]
  obtain ⟨w1, hw1⟩ : ∃ v, w.alloc (.cells #[.int .i64 p] 44) = v := ⟨_, rfl⟩
  rw [hw1] at hb0 hA1 hF1
  have HEL := Lib.hid hel
  have hkl := hA.1
  have c1 : ¬ (W : Int) < 0 := by omega
  have c2 : ¬ (64 : Int) < (W : Int) := by omega
  have HND := Lib.hid hneed
  clear hel hA hneed
  go_enter Tryz.func68, Tryz.ntmps68
  go_wp2
  clear hw1
  go_loopw [11, 12, 27] (fun a b i wz => ∃ k : Nat, k ≤ N ∧ a = .int .i64 (cntT (ks.take k)) ∧ b = .bool true ∧ i = .int .i64 k ∧ Below w1.heap.size w1 wz) (fun _ _ i _ => N - (intOf i).toNat)
  case atStart => exact ⟨0, Nat.zero_le _, rfl, rfl, rfl, Below.refl _ _⟩
  case round =>
    obtain ⟨k, hk, rfl, rfl, rfl, hbz⟩ := hrel
    have HT := Lib.hid (fun h => cntT_take ks k h)
    obtain ⟨nc, hnc⟩ : ∃ nc, cntT (ks.take k) = nc := ⟨_, rfl⟩
    have hncb : nc ≤ 1000 := by
      have := cntT_le (ks.take k)
      rw [List.length_take] at this
      omega
    have HNC := Lib.hid hnc
    rw [hnc] at HT
    rw [hnc]
    clear hnc
    by_cases hlt : k < N
    · have hkNi : (k : Int) < (N : Int) := by omega
      have hk0 : (0 : Int) ≤ (k : Int) := by omega
      obtain ⟨b, off, A', n', c', rfl, hbl, h0, h1, hn', hI⟩ := (hA1.upto hbz).at_ hlt
      have HT2 := Lib.hid (HT.out (by omega))
      have hFr := hF1.below hbz hF1.lt
      have hpr : wr.cell? ⟨w.heap.size, 0, none⟩ = some (.int .i64 p) := (hFr.cell 0).trans rfl
      have hB4 := Blk.new wr 85 #[.bool (ks.getD k false), .slice A' n' c']
      have hbz4 := hbz.alloc hbz.size (.cells #[.bool (ks.getD k false), .slice A' n' c'] 85)
      have hF4 := hFr.alloc (.cells #[.bool (ks.getD k false), .slice A' n' c'] 85)
      have hI4 := hI.upto (bbox (.cells #[.bool (ks.getD k false), .slice A' n' c'] 85))
      obtain ⟨w4, hw4⟩ : ∃ v, wr.alloc (.cells #[.bool (ks.getD k false), .slice A' n' c'] 85) = v := ⟨_, rfl⟩
      rw [hw4] at hB4 hbz4 hF4 hI4
      have hp4 : w4.cell? ⟨w.heap.size, 0, none⟩ = some (.int .i64 p) := (hF4.cell 0).trans rfl
      have hk4 : w4.cell? ⟨wr.heap.size, 0, none⟩ = some (.bool (ks.getD k false)) := (hB4.cell 0).trans rfl
      have hk5 : w4.cell? ⟨wr.heap.size, 1, none⟩ = some (.slice A' n' c') := (hB4.cell 1).trans rfl
      cases hb : ks.getD k false
      · rw [hb] at h0 hw4 hk4 HT2
        clear hb hB4 hF4 hFr
        go_wp2
        go_roundw
        case rel => exact ⟨k + 1, by omega, by rw [HT2.out]; rfl, rfl, by go_num, hbz4⟩
        case measure => simp [intOf]; omega
      · obtain ⟨hWl, hal⟩ := HEL.out k hlt hb
        have hn2 : n' = W := by rw [← hI.len]; exact hWl
        subst hn2
        have HAL := Lib.hid hal
        rw [hb] at h0 hw4 hk4 HT2
        clear hb hB4 hF4 hFr hal hWl
        go_wp2_with (go_at_call 47; (with_reducible refine (all_any p A' n' c' _ _ hI4 (by omega)).mono ?_); rintro e w5 ⟨rfl, hb5⟩; rw [HAL.out]
                     have hbz5 := hbz4.trans (hb5.mono hbz4.size))
        go_roundw
        case rel => exact ⟨k + 1, by omega, by rw [HT2.out]; rfl, rfl, by go_num, hbz5⟩
        case measure => simp [intOf]; omega
    · obtain rfl : N = k := by omega
      have hnn : ¬ (nc : Int) < (need : Int) := by
        have h1 := HND.out
        have h2 := HNC.out
        rw [List.take_of_length_le (by omega)] at h2
        omega
      go_wp2
      go_ret
      exact ⟨rfl, bnext hb0 hbz⟩

/-- What a column is decoded to. -/
def CdPost (P : List Int) (N : Nat) (w : World) (e : Ending) (w' : World) : Prop :=
  (∃ (A : Option Addr) (c : Nat) (A2 : Option Addr) (n2 c2 : Nat) (ws : List Int), e = .returned (.tuple #[.agg #[.slice A P.length c, .slice A2 n2 c2], .int .i64 0]) ∧ Ints w' w'.heap.size A P.length P ∧ Ints w' w'.heap.size A2 n2 ws ∧ n2 ≤ N ∧ P.length ≤ c ∧ n2 ≤ c2 ∧ Frs w.heap.size A P.length ∧ Frs w.heap.size A2 n2) ∧ Below w.heap.size w w'

set_option maxRecDepth 100000 in
set_option maxHeartbeats 4000000 in
theorem colDecode_ok (p : Int) (W N need col : Nat) (A : Option Addr) (c : Nat) (ks : List Bool) (rows : List (List Int)) (w : World) (hok : okP p = true) (hA : Ans w w.heap.size A N ks rows) (hN : N ≤ 10) (hNp : (N : Int) < p) (hcol : col < W)
    (hel : ∀ i, i < N → ks.getD i false = true → (rows.getD i []).length = W ∧ allP p (rows.getD i []) = true) (hno : ∀ i, i < N → ks.getD i false = false → (rows.getD i []).length = 0) (hn1 : 1 ≤ need) (hnN : need ≤ N) (hneed : need ≤ cntT ks) (hW : ErrW w)
    (P0 : List Int) (hP0 : allP p P0 = true) (hP0l : P0.length ≤ need) (hwr : (wrL p P0 (knL (colP rows col) ks)).length ≤ (cntT ks - need) / 2) :
    Calls Tryz.prog 70 #[.agg #[.int .i64 p, .int .i64 need, .slice A N c], .int .i64 col] w (CdPost (trimL P0) N w) := by
  have hrl := hA.2.1
  have hkl := hA.1
  have hcl : (colP rows col).length = N := by rw [colP_len]; exact hrl
  have hkn := knOk_col hkl hrl hcol hel
  have hlen := knL_cnt (vs := colP rows col) (bs := ks) (by omega)
  have hone : ∀ a, DecOf p need (((knL (colP rows col) ks).length - need) / 2) (knL (colP rows col) ks) a → a = some (trimL P0) := fun a ha => DecOf.one hok ha (knL_apart (by rw [hcl]; exact hNp)) (by omega) hP0 hP0l (by rw [hlen]; exact hwr)
  have HONE := Lib.hid hone
  have HUD := Lib.hid (fun (A2 : Option Addr) (c2 : Nat) (w9 : World) (h9 : Cel w9 w9.heap.size A2 N (colP rows col) ks) (hE : ErrW w9) => uDecode_ok p A2 N c2 need (colP rows col) ks w9 hok h9 (by omega) hNp hkn hn1 hnN (by rw [hlen]; exact hneed) hE)
  have HEL := Lib.hid hel
  have HNO := Lib.hid hno
  obtain ⟨l, hl⟩ : ∃ l, knL (colP rows col) ks = l := ⟨_, rfl⟩
  have HLL : Hid (l.length ≤ N) := Lib.hid (by rw [← hl]; have := knL_len (colP rows col) ks; omega)
  rw [hl] at HONE HUD
  clear hel hno hkn hone hwr hP0 hP0l hneed hlen hl hok
  have hb2 : Below w.heap.size w ((w.alloc (.cells #[.int .i64 p, .int .i64 need, .slice A N c] 147)).alloc (.cells #[.slice none 0 0, .slice none 0 0] 186)) := ballocs (bbox _) _
  have hR2 := Blk.new1 w (.cells #[.int .i64 p, .int .i64 need, .slice A N c] 147) 186 #[.slice none 0 0, .slice none 0 0]
  have hC2 := (Blk.new w 147 #[.int .i64 p, .int .i64 need, .slice A N c]).alloc (.cells #[.slice none 0 0, .slice none 0 0] 186)
  have hA2 := hA.upto hb2
  have hE2 := hW.below hb2
  obtain ⟨w2, hw2⟩ : ∃ v, (w.alloc (.cells #[.int .i64 p, .int .i64 need, .slice A N c] 147)).alloc (.cells #[.slice none 0 0, .slice none 0 0] 186) = v := ⟨_, rfl⟩
  rw [hw2] at hb2 hR2 hC2 hA2 hE2
  have hc2 : w2.cell? ⟨w.heap.size, 2, none⟩ = some (.slice A N c) := (hC2.cell 2).trans rfl
  clear hA hW
  go_enter Tryz.func70, Tryz.ntmps70
  go_wp2
  clear hw2
  go_loopw [6, 13] (fun s i wz => ∃ (k : Nat) (L : Option Addr) (lc : Nat), k ≤ N ∧ s = .slice L k lc ∧ i = .int .i64 k ∧ Hid (OwnC wz w2.heap.size L k lc ((colP rows col).take k) (ks.take k)) ∧ Below w2.heap.size w2 wz) (fun _ i _ => N - (intOf i).toNat)
  case atStart => exact ⟨0, none, 0, Nat.zero_le _, rfl, rfl, Lib.hid OwnC.nil_, Below.refl _ _⟩
  case round =>
    obtain ⟨k, L, lc, hk, rfl, rfl, HS, hbz⟩ := hrel
    by_cases hlt : k < N
    · have hkNi : (k : Int) < (N : Int) := by omega
      have hk0 : (0 : Int) ≤ (k : Int) := by omega
      obtain ⟨b, off, A', n', c', rfl, hbl, h0, h1, hn', hI⟩ := (hA2.upto hbz).at_ hlt
      have HT := Lib.hid (take_succ_getD (colP rows col) k (by omega))
      have HTK := Lib.hid (take_succB ks (j := k) (by omega))
      obtain ⟨kb, hkb⟩ : ∃ kb, ks.getD k false = kb := ⟨_, rfl⟩
      have HKB := Lib.hid hkb
      rw [hkb] at h0 HTK
      clear hkb
      have hB5 := Blk.new1 wr (.cells #[.bool kb, .slice A' n' c'] 85) 87 #[.int .i64 0, .bool kb]
      have hB4 := (Blk.new wr 85 #[.bool kb, .slice A' n' c']).alloc (.cells #[.int .i64 0, .bool kb] 87)
      have hb5 : Below wr.heap.size wr ((wr.alloc (.cells #[.bool kb, .slice A' n' c'] 85)).alloc (.cells #[.int .i64 0, .bool kb] 87)) := ballocs (bbox _) _
      have hI5 := hI.upto hb5
      obtain ⟨w5, hw5⟩ : ∃ v, (wr.alloc (.cells #[.bool kb, .slice A' n' c'] 85)).alloc (.cells #[.int .i64 0, .bool kb] 87) = v := ⟨_, rfl⟩
      rw [hw5] at hB5 hB4 hb5 hI5
      have hq0 : w5.cell? ⟨wr.heap.size, 0, none⟩ = some (.bool kb) := (hB4.cell 0).trans rfl
      have hq1 : w5.cell? ⟨wr.heap.size, 1, none⟩ = some (.slice A' n' c') := (hB4.cell 1).trans rfl
      have hr0 : w5.cell? ⟨wr.heap.size + 1, 0, none⟩ = some (.int .i64 0) := (hB5.cell 0).trans rfl
      have hr1 : w5.cell? ⟨wr.heap.size + 1, 1, none⟩ = some (.bool kb) := (hB5.cell 1).trans rfl
      have hS5 := HS.out.belowAll hb5
      have hbz5 := hbz.trans (hb5.mono hbz.size)
      have hcolk := colP_at rows col (j := k) (by omega)
      have HW5 := Lib.hid hw5
      clear hw5
      go_upto_region 6 with fail
      rw [HW5.out]
      clear HW5
      cases kb
      · have hz : (colP rows col).getD k 0 = 0 := by
          rw [hcolk, List.eq_nil_of_length_eq_zero (HNO.out k hlt HKB.out)]; rfl
        rw [hz] at HT
        have hN6 := Blk.new w5 87 #[.int .i64 0, .bool false]
        have hS6 := hS5.belowAll (bbox (.cells #[.int .i64 0, .bool false] 87))
        have hbz6 := hbz5.alloc hbz5.size (.cells #[.int .i64 0, .bool false] 87)
        clear hB4 hB5 hI5 hI hcolk hz hS5
        go_wp2_with ((at_builtin; refine wpList_append_cell rfl _ _ 83 rfl Tryz.underlying83 w2.heap.size L k lc _ _ rfl hS6 w5.heap.size 1 0 false rfl ((hN6.cell 0).trans rfl) ((hN6.cell 1).trans rfl) (by omega) hbz6.size ?_; intro L2 lc2 w10 hS10 hb10; have hbz10 := hbz6.trans hb10))
        go_roundw
        case rel => exact ⟨k + 1, L2, lc2, by omega, rfl, by go_num, Lib.hid (by rw [HT.out, HTK.out]; exact hS10), hbz10⟩
        case measure => simp [intOf]; omega
      · obtain ⟨hWl, hal⟩ := HEL.out k hlt HKB.out
        have hn2 : n' = W := by rw [← hI.len]; exact hWl
        subst hn2
        obtain ⟨x, hx⟩ : ∃ x, (rows.getD k []).getD col 0 = x := ⟨_, rfl⟩
        rw [hx] at hcolk
        rw [hcolk] at HT
        obtain ⟨b2, off2, rfl, hb2l, hcc⟩ := hI5.2 (by omega)
        have hcx := hcc col hcol
        rw [hx] at hcx
        have hcol0 : (0 : Int) ≤ (col : Int) := by omega
        have hcolW : (col : Int) < (n' : Int) := by omega
        have hfr := hB5.frozen 0
        have hB6 := hB5.set_ 0 (.int .i64 x)
        have hb6 := hb5.setCell (p := ⟨wr.heap.size + 1, 0, none⟩) (by show wr.heap.size ≤ wr.heap.size + 1; omega) (.int .i64 x)
        have hsz6 : (w5.setCell ⟨wr.heap.size + 1, 0, none⟩ (.int .i64 x)).heap.size = w5.heap.size := by simp [World.setCell]
        obtain ⟨w6, hw6⟩ : ∃ v, w5.setCell ⟨wr.heap.size + 1, 0, none⟩ (.int .i64 x) = v := ⟨_, rfl⟩
        rw [hw6] at hB6 hb6 hsz6
        have hs0 : w6.cell? ⟨wr.heap.size + 1, 0, none⟩ = some (.int .i64 x) := (hB6.cell 0).trans rfl
        have hs1 : w6.cell? ⟨wr.heap.size + 1, 1, none⟩ = some (.bool true) := (hB6.cell 1).trans (by rfl)
        have hS6 := HS.out.belowAll hb6
        have hbz6 := hbz.trans (hb6.mono hbz.size)
        have hN7 := Blk.new w6 87 #[.int .i64 x, .bool true]
        rw [hsz6] at hN7
        have hS7 := hS6.belowAll (bbox (.cells #[.int .i64 x, .bool true] 87))
        have hbz7 := hbz6.alloc hbz6.size (.cells #[.int .i64 x, .bool true] 87)
        clear hB4 hB5 hI5 hI hcolk hS5 hal hWl hB6 hcc hx hS6
        go_wp2_with ((at_builtin; refine wpList_append_cell rfl _ _ 83 rfl Tryz.underlying83 w2.heap.size L k lc _ _ rfl hS7 w5.heap.size 1 x true rfl ((hN7.cell 0).trans rfl) ((hN7.cell 1).trans rfl) (by omega) hbz7.size ?_; intro L2 lc2 w10 hS10 hb10; have hbz10 := hbz7.trans hb10))
        go_roundw
        case rel => exact ⟨k + 1, L2, lc2, by omega, rfl, by go_num, Lib.hid (by rw [HT.out, HTK.out]; exact hS10), hbz10⟩
        case measure => simp [intOf]; omega
    · obtain rfl : N = k := by omega
      have hS := HS.out
      rw [List.take_of_length_le (by omega), List.take_of_length_le (by omega)] at hS
      have hCr := hC2.below hbz hC2.lt
      have hRr := hR2.below hbz hR2.lt
      have hEr := hE2.below hbz
      have hbwr := bnext hb2 hbz
      have hp0 : wr.cell? ⟨w.heap.size, 0, none⟩ = some (.int .i64 p) := (hCr.cell 0).trans rfl
      have hp1 : wr.cell? ⟨w.heap.size, 1, none⟩ = some (.int .i64 need) := (hCr.cell 1).trans rfl
      have HU := Lib.hid (HUD.out L lc wr hS.cel hEr)
      clear HS HUD
      go_wp2_with fail
      go_at_call 105
      refine HU.out.mono ?_
      rintro e w7 ⟨⟨hD, rfl⟩ | ⟨P, A1, c1, A2, c2', hD, rfl, hI1, hI2, hd1, hd2, hm1, hm2⟩, hb7⟩
      · exact absurd (HONE.out _ hD) (by simp)
      · have hPe : P = trimL P0 := by
          have := HONE.out _ hD
          injection this
        have hwl : (wrL p P l).length ≤ N := by
          have h1 := HLL.out
          unfold wrL
          rw [List.length_map]
          exact Nat.le_trans (List.length_filter_le _ _) h1
        rw [← hPe]
        have hR7 := hRr.below hb7 hRr.lt
        have hbb7 := bnext hbwr hb7
        obtain ⟨wl, hwn'⟩ : ∃ ws, wrL p P l = ws := ⟨_, rfl⟩
        rw [hwn'] at hI2 hd2 hm2 hwl ⊢
        obtain ⟨pn, hpn⟩ : ∃ pn, P.length = pn := ⟨_, rfl⟩
        obtain ⟨wn, hwn⟩ : ∃ wn, wl.length = wn := ⟨_, rfl⟩
        rw [hpn] at hI1 hd1 hm1
        rw [hwn] at hI2 hd2 hm2 hwl
        rw [hpn, hwn]
        have hw2 : w.heap.size + 1 < w2.heap.size := hR2.lt
        have hw2r := hbz.size
        have hm1' : ∀ b o s, A1 = some ⟨b, o, s⟩ → 0 < pn → w.heap.size + 2 ≤ b := fun b o s e h0 => by have := hm1 b o s e h0; omega
        have hm2' : ∀ b o s, A2 = some ⟨b, o, s⟩ → 0 < wn → w.heap.size + 2 ≤ b := fun b o s e h0 => by have := hm2 b o s e h0; omega
        have hz0 : w7.cell? ⟨w.heap.size + 1, 0, none⟩ = some (.slice none 0 0) := (hR7.cell 0).trans rfl
        have hf0 := hR7.frozen 0
        have hz1 : w7.cell? ⟨w.heap.size + 1, 1, none⟩ = some (.slice none 0 0) := (hR7.cell 1).trans rfl
        have hf1 := hR7.frozen 1
        have hFB := (hR7.set_ 0 (.slice A1 pn c1)).set_ 1 (.slice A2 wn c2')
        have hfin0 : ((w7.setCell ⟨w.heap.size + 1, 0, none⟩ (.slice A1 pn c1)).setCell ⟨w.heap.size + 1, 1, none⟩ (.slice A2 wn c2')).cell? ⟨w.heap.size + 1, 0, none⟩ = some (.slice A1 pn c1) := (hFB.cell 0).trans rfl
        have hfin1 : ((w7.setCell ⟨w.heap.size + 1, 0, none⟩ (.slice A1 pn c1)).setCell ⟨w.heap.size + 1, 1, none⟩ (.slice A2 wn c2')).cell? ⟨w.heap.size + 1, 1, none⟩ = some (.slice A2 wn c2') := (hFB.cell 1).trans rfl
        have hbf : Below w.heap.size w ((w7.setCell ⟨w.heap.size + 1, 0, none⟩ (.slice A1 pn c1)).setCell ⟨w.heap.size + 1, 1, none⟩ (.slice A2 wn c2')) := (hbb7.setCell (p := ⟨w.heap.size + 1, 0, none⟩) (by show w.heap.size ≤ w.heap.size + 1; omega) _).setCell (p := ⟨w.heap.size + 1, 1, none⟩) (by show w.heap.size ≤ w.heap.size + 1; omega) _
        have hJ1 := (hI1.setFar _ 0 (.slice A1 pn c1) (fun b o s e h0 => (by have := hm1' b o s e h0; omega : b ≠ w.heap.size + 1))).setFar _ 1 (.slice A2 wn c2') (fun b o s e h0 => (by have := hm1' b o s e h0; omega : b ≠ w.heap.size + 1))
        have hJ2 := (hI2.setFar _ 0 (.slice A1 pn c1) (fun b o s e h0 => (by have := hm2' b o s e h0; omega : b ≠ w.heap.size + 1))).setFar _ 1 (.slice A2 wn c2') (fun b o s e h0 => (by have := hm2' b o s e h0; omega : b ≠ w.heap.size + 1))
        have HPO : CdPost P N w (.returned (.tuple #[.agg #[.slice A1 pn c1, .slice A2 wn c2'], .int .i64 0])) ((w7.setCell ⟨w.heap.size + 1, 0, none⟩ (.slice A1 pn c1)).setCell ⟨w.heap.size + 1, 1, none⟩ (.slice A2 wn c2')) :=
          ⟨⟨A1, c1, A2, wn, c2', wl, by rw [hpn], by rw [hpn]; simpa [World.setCell] using hJ1, by simpa [World.setCell] using hJ2, hwl, by rw [hpn]; exact hd1, hd2, by rw [hpn]; exact fun b o s e h0 => (by have := hm1' b o s e h0; omega), fun b o s e h0 => (by have := hm2' b o s e h0; omega)⟩, hbf⟩
        clear hFB hR7 hI1 hI2 hJ1 hJ2 hD
        go_wp2
        refine bodyPost_ret (v := .tuple #[.agg #[.slice A1 pn c1, .slice A2 wn c2'], .int .i64 0]) (by simp [results, Tryz.results70, go_sem, hfin0, hfin1]) rfl (by rw [← hPe]; exact HPO)
end Go.Proofs.YtmcgnpdfpfgfpaaGreatDoor

/-! Col2A -/
namespace Go.Proofs.YtmcgnpdfpfgfpaaGreatDoor
open Go.RowKit
set_option linter.unusedVariables false

/-- A slice of rows that the call itself made; none of the rows lies in it, nor in another block. -/
def OwnMO (w : World) (base : Nat) (e : TypeId) (A : Option Addr) (n c : Nat) (rows : List (List Int)) (V : Option Nat) : Prop :=
  rows.length = n ∧ ∃ vs, w.ownsRow base e 1 (.slice A n c) n vs ∧ ∀ j, j < n → ∃ A' n' c', vs[j]? = some (.slice A' n' c') ∧ n' ≤ 17592186044416 ∧ Ints w w.heap.size A' n' (rows.getD j []) ∧
    (0 < n' → ∀ b off s, A' = some ⟨b, off, s⟩ → base ≤ b ∧ (Value.slice A n c).ownBlock ≠ some b ∧ V ≠ some b)

section
variable {w w' : World} {base n c : Nat} {e : TypeId} {A : Option Addr} {rows : List (List Int)} {V : Option Nat}
theorem OwnMO.nil_ : OwnMO w base e none 0 0 [] V := ⟨rfl, [], World.ownsRow_nil _ _ _ _, fun j hj => absurd hj (by omega)⟩
theorem OwnMO.belowAll (h : OwnMO w base e A n c rows V) (hb : Below w.heap.size w w') : OwnMO w' base e A n c rows V := by
  obtain ⟨hl, vs, hown, hr⟩ := h
  refine ⟨hl, vs, ⟨hown.1, ?_⟩, fun j hj => ?_⟩
  · rcases hown.2 with h0 | ⟨g, cap, cur, hv, hg, hh, r⟩
    · exact .inl h0
    · refine .inr ⟨g, cap, cur, hv, hg, ?_, r⟩
      rw [hb.block g (World.ownsRow.lt hown g (by rw [hv]; rfl)).2]; exact hh
  · obtain ⟨A', n', c', h1, h2, h3, h4⟩ := hr j hj
    exact ⟨A', n', c', h1, h2, h3.upto hb, h4⟩
/-- The other block has turned. -/
theorem OwnMO.kept (h : OwnMO w base e A n c rows V) (hg : w.grownBy w' V) (hV : (Value.slice A n c).ownBlock = none ∨ (Value.slice A n c).ownBlock ≠ V) : OwnMO w' base e A n c rows V := by
  obtain ⟨hl, vs, hown, hr⟩ := h
  refine ⟨hl, vs, World.ownsRow.kept hown hg hV, fun j hj => ?_⟩
  obtain ⟨A', n', c', h1, h2, h3, h4⟩ := hr j hj
  exact ⟨A', n', c', h1, h2, h3.keepBlk hg.size (fun h0 b off s e1 hb => hg.block b hb (fun e2 => (h4 h0 b off s e1).2.2 e2.symm)), h4⟩
/-- Another block, as old as that one or new. -/
theorem OwnMO.turn {V' : Option Nat} (h : OwnMO w base e A n c rows V) (hV : V' = V ∨ ∃ b, V' = some b ∧ w.heap.size ≤ b) : OwnMO w base e A n c rows V' := by
  obtain ⟨hl, vs, hown, hr⟩ := h
  refine ⟨hl, vs, hown, fun j hj => ?_⟩
  obtain ⟨A', n', c', h1, h2, h3, h4⟩ := hr j hj
  refine ⟨A', n', c', h1, h2, h3, fun h0 b off s e1 => ⟨(h4 h0 b off s e1).1, (h4 h0 b off s e1).2.1, fun e2 => ?_⟩⟩
  rcases hV with hV | ⟨b2, hV, hb2⟩
  · exact (h4 h0 b off s e1).2.2 (by rw [← hV]; exact e2)
  · rw [hV] at e2
    injection e2 with e2
    subst e1
    have := h3.lt h0
    omega
theorem OwnMO.mat (h : OwnMO w base e A n c rows V) : Mat w base w.heap.size A n rows := by
  obtain ⟨hl, vs, hown, hr⟩ := h
  refine ⟨hl, fun hn => ?_⟩
  obtain ⟨g, cap, hv, h1, h2⟩ := World.ownsRow.form hown hn
  injection hv with hA hn2 hc
  subst hA
  refine ⟨g, 0, rfl, h1, h2, fun j hj => ?_⟩
  obtain ⟨A', n', c', k1, k2, k3, k4⟩ := hr j hj
  rw [Nat.zero_add]
  exact ⟨A', n', c', (World.ownsRow.cellAt hown j (by omega)).trans k1, k2, k3, fun h0 b off s e1 => (k4 h0 b off s e1).1⟩
theorem OwnMO.row (h : OwnMO w base e A n c rows V) : ∀ k, (Value.slice A n c).ownBlock = some k → base ≤ k ∧ k < w.heap.size := by
  obtain ⟨_, vs, hown, _⟩ := h
  exact World.ownsRow.lt hown
/-- One more row. -/
theorem OwnMO.snoc {A2 : Option Addr} {c2 : Nat} {A' : Option Addr} {n' c' : Nat} {row : List Int} (h : OwnMO w base e A n c rows V) (hn' : n' ≤ 17592186044416) (hI : Ints w w.heap.size A' n' row)
    (hap : 0 < n' → ∀ b off s, A' = some ⟨b, off, s⟩ → base ≤ b ∧ (Value.slice A n c).ownBlock ≠ some b ∧ V ≠ some b)
    (hnew : ∀ vs, w.ownsRow base e 1 (.slice A n c) n vs → w'.ownsRow base e 1 (.slice A2 (n + 1) c2) (n + 1) (vs ++ [.slice A' n' c'])) (hgr : w.grownBy w' (Value.slice A n c).ownBlock)
    (hab : (Value.slice A2 (n + 1) c2).ownBlock = (Value.slice A n c).ownBlock ∨ (Value.slice A2 (n + 1) c2).ownBlock = some w.heap.size) : OwnMO w' base e A2 (n + 1) c2 (rows ++ [row]) V := by
  obtain ⟨hl, vs, hown, hr⟩ := h
  have hvl : vs.length = n := by have := hown.1; omega
  have key : ∀ (B : Option Addr) (m d : Nat) (xs : List Int), Ints w w.heap.size B m xs → (0 < m → ∀ b off s, B = some ⟨b, off, s⟩ → base ≤ b ∧ (Value.slice A n c).ownBlock ≠ some b ∧ V ≠ some b) →
      Ints w' w'.heap.size B m xs ∧ (0 < m → ∀ b off s, B = some ⟨b, off, s⟩ → base ≤ b ∧ (Value.slice A2 (n + 1) c2).ownBlock ≠ some b ∧ V ≠ some b) := by
    intro B m d xs h3 h5
    refine ⟨h3.keepBlk hgr.size (fun h0 b off s e1 hb => hgr.block b hb (fun e2 => (h5 h0 b off s e1).2.1 e2.symm)), fun h0 b off s e1 => ⟨(h5 h0 b off s e1).1, fun e2 => ?_, (h5 h0 b off s e1).2.2⟩⟩
    rcases hab with h6 | h6
    · exact (h5 h0 b off s e1).2.1 (by rw [← h6, e2])
    · rw [h6] at e2
      injection e2 with e2
      subst e1
      have := h3.lt h0
      omega
  refine ⟨by simp [hl], vs ++ [.slice A' n' c'], hnew vs hown, fun j hj => ?_⟩
  rcases Nat.lt_or_ge j n with hj' | hj'
  · obtain ⟨B, m, d, h1, h2, h3, h4⟩ := hr j hj'
    obtain ⟨k1, k2⟩ := key B m d _ h3 h4
    refine ⟨B, m, d, by rw [List.getElem?_append_left (by omega)]; exact h1, h2, ?_, k2⟩
    rw [List.getD_eq_getElem?_getD, List.getElem?_append_left (by omega), ← List.getD_eq_getElem?_getD]; exact k1
  · obtain rfl : j = n := by omega
    obtain ⟨k1, k2⟩ := key A' n' c' _ hI hap
    refine ⟨A', n', c', by rw [List.getElem?_append_right (by omega), hvl, Nat.sub_self]; rfl, hn', ?_, k2⟩
    rw [List.getD_eq_getElem?_getD, List.getElem?_append_right (by omega), hl, Nat.sub_self]; exact k1
end

/-- Own slices of different kinds are apart. -/
theorem own_apart2 {w : World} {b1 b2 s1 s2 n1 n2 c1 c2 : Nat} {e1 e2 : TypeId} {A1 A2 : Option Addr} {xs ys : List Value} (h1 : w.ownsRow b1 e1 s1 (.slice A1 n1 c1) n1 xs) (h2 : w.ownsRow b2 e2 s2 (.slice A2 n2 c2) n2 ys) (hne : e1 ≠ e2) :
    (Value.slice A1 n1 c1).ownBlock = none ∨ (Value.slice A1 n1 c1).ownBlock ≠ (Value.slice A2 n2 c2).ownBlock := by
  rcases h1.2 with ⟨hv, _⟩ | ⟨g, cap, cur, hv, _⟩
  · rw [hv]; exact .inl rfl
  · refine .inr (fun e => ?_)
    have hv1 := hv
    injection hv with hA
    rcases h2.2 with ⟨hv2, _⟩ | ⟨g2, cap2, cur2, hv2, _⟩
    · rw [hv1, hv2] at e; cases e
    · injection hv2 with hA2
      subst hA hA2
      have e2 : some g = some g2 := e
      injection e2 with e2
      exact own_ne h1 h2 hne e2

/-- A slice's own block lies outside a stretch of blocks. -/
def OutR (M T : Nat) (v : Value) : Prop := ∀ b, v.ownBlock = some b → b < M ∨ T ≤ b
/-- What a slice leads to lies within it. -/
def InR (M T : Nat) (A : Option Addr) (n : Nat) : Prop := 0 < n → ∀ b off s, A = some ⟨b, off, s⟩ → M ≤ b ∧ b < T

/-- Both slices, and the box whose two slices are appended. -/
structure St9 (M T D : Nat) (X : Option Addr) (xn xc : Nat) (P : List Int) (Y : Option Addr) (yn yc : Nat) (ws : List Int) (base : Nat) (W : World) (A : Option Addr) (n c : Nat) (rows : List (List Int)) (A2 : Option Addr) (n2 c2 : Nat) (ys : List Int) : Prop where
  size : T ≤ W.heap.size
  rng : base ≤ M ∧ M ≤ D ∧ D < T
  box : Blk W D 186 #[.slice X xn xc, .slice Y yn yc]
  px : Ints W W.heap.size X xn P
  rx : InR M T X xn
  py : Ints W W.heap.size Y yn ws
  ry : InR M T Y yn
  own1 : OwnMO W base 22 A n c rows (Value.slice A2 n2 c2).ownBlock
  own2 : OwnI W base 3 A2 n2 c2 ys
  out1 : OutR M T (.slice A n c)
  out2 : OutR M T (.slice A2 n2 c2)

section
variable {M T D xn xc yn yc base n c n2 c2 : Nat} {X Y A A2 : Option Addr} {P ws ys : List Int} {rows : List (List Int)} {W W' : World}
theorem St9.belowAll (h : St9 M T D X xn xc P Y yn yc ws base W A n c rows A2 n2 c2 ys) (hb : Below W.heap.size W W') : St9 M T D X xn xc P Y yn yc ws base W' A n c rows A2 n2 c2 ys :=
  ⟨Nat.le_trans h.size hb.size, h.rng, h.box.below hb h.box.lt, h.px.upto hb, h.rx, h.py.upto hb, h.ry, h.own1.belowAll hb, h.own2.belowAll hb, h.out1, h.out2⟩
theorem St9.drew (h : St9 M T D X xn xc P Y yn yc ws base W A n c rows A2 n2 c2 ys) : St9 M T D X xn xc P Y yn yc ws base W.drew A n c rows A2 n2 c2 ys := h.belowAll (Below.refl W.heap.size W).drew
theorem St9.alloc (h : St9 M T D X xn xc P Y yn yc ws base W A n c rows A2 n2 c2 ys) (o : Obj) : St9 M T D X xn xc P Y yn yc ws base (W.alloc o) A n c rows A2 n2 c2 ys := h.belowAll (bbox o)
theorem St9.cells (h : St9 M T D X xn xc P Y yn yc ws base W A n c rows A2 n2 c2 ys) : W.cell? ⟨D, 0, none⟩ = some (.slice X xn xc) ∧ W.cell? ⟨D, 1, none⟩ = some (.slice Y yn yc) := ⟨(h.box.cell 0).trans rfl, (h.box.cell 1).trans rfl⟩
/-- What one of both slices' growing leaves of all else. -/
theorem St9.others {v : Value} (h : St9 M T D X xn xc P Y yn yc ws base W A n c rows A2 n2 c2 ys) (hg : W.grownBy W' v.ownBlock) (hv : OutR M T v) :
    T ≤ W'.heap.size ∧ Blk W' D 186 #[.slice X xn xc, .slice Y yn yc] ∧ Ints W' W'.heap.size X xn P ∧ Ints W' W'.heap.size Y yn ws := by
  have hr := h.rng
  refine ⟨Nat.le_trans h.size hg.size, h.box.grown hg (fun e => by have := hv D e.symm; omega), h.px.keepBlk hg.size fun h0 b off s e hb => hg.block b hb (fun e2 => ?_), h.py.keepBlk hg.size fun h0 b off s e hb => hg.block b hb (fun e2 => ?_)⟩
  · have h1 := h.rx h0 b off s e
    have h2 := hv b e2.symm
    omega
  · have h1 := h.ry h0 b off s e
    have h2 := hv b e2.symm
    omega
theorem OutR.new {v v' : Value} (h : OutR M T v) (hT : T ≤ W.heap.size) (hab : v'.ownBlock = v.ownBlock ∨ v'.ownBlock = some W.heap.size) : OutR M T v' := fun b hb => by
  rcases hab with h1 | h1
  · exact h b (by rw [← h1]; exact hb)
  · rw [h1] at hb
    injection hb with hb
    omega
end

section
variable {M T D xn xc yn yc base n c n2 c2 : Nat} {X Y A A2 : Option Addr} {P ws ys : List Int} {rows : List (List Int)}
/-- The row is appended. -/
theorem step_st9_rows {Pg : Program} {ops : Array Oper} {o : Oper} {a : Act} {w : World} {K : Act → World → Prop} {Q : Exit → Act → World → Prop} {E : Prop}
    (hg : o.guard = none) (s x : Operand) (t : TypeId) (hop : o.op = Op.call { callee := Callee.builtin Builtin.append, args := #[s, x], argTypes := #[t, t] })
    (i : TypeInfo) (z : Value) (ht : Pg.underlying t = some (.slice 22)) (hi : Pg.info? 22 = some i) (hz : i.zero = some z) (hsize : i.size = 1) (hby : i.bytes = 24) (hzs : z.cells.size = 1)
    (h : St9 M T D X xn xc P Y yn yc ws base w A n c rows A2 n2 c2 ys) (hs : a.eval s = .slice A n c) (hxn : xn ≤ 17592186044416) (hn : n ≤ 1000000)
    (b : Nat) (cb : Nat) (hx : a.eval x = .slice (some ⟨b, 0, none⟩) 1 cb) (hc : w.cell? ⟨b, 0, none⟩ = some (.slice X xn xc)) (hb : b < w.heap.size)
    (hK : ∀ A3 c3 w', St9 M T D X xn xc P Y yn yc ws base w' A3 (n + 1) c3 (rows ++ [P]) A2 n2 c2 ys → Below base w w' → K (a.put o.dst (.slice A3 (n + 1) c3)) w') :
    if Region.wanted o (yielded ops a.tmps) = true then Oper.wp Pg o a w K Q else E := by
  obtain ⟨hl, vs, hown, hr⟩ := h.own1
  have hsz := h.size
  have hrg := h.rng
  refine step_append_any (P := Pg) w hg s x t hop base 22 i z 1 24 ht hi hz hsize hby hzs (by omega) (.slice A n c) n vs hs hown w.heap.size (some ⟨b, 0, none⟩) 1 cb [.slice X xn xc] hx ⟨rfl, fun _ => ⟨_, rfl, hb, fun j u hj => ?_⟩⟩ (fun u hu => by simp at hu; subst hu; rfl) (by unfold maxLen; omega) (by omega) (by omega) ?_
  · match j, hj with
    | 0, hj => simp at hj; subst hj; simpa [Addr.add] using hc
  · intro v' w' hown' hgr hab
    have hb2 : Below base w w' := (Below.refl base w).grown hgr (by omega) (fun k hk => (World.ownsRow.lt hown k hk).1)
    obtain ⟨k1, k2, k3, k4⟩ := h.others hgr h.out1
    rcases hown'.2 with ⟨_, h0⟩ | ⟨g2, cap, cur, rfl, _⟩
    · omega
    · refine hK _ cap w' ⟨k1, h.rng, k2, k3, h.rx, k4, h.ry, ?_, ?_, h.out1.new hsz hab, h.out2⟩ hb2
      · refine OwnMO.snoc (c' := xc) h.own1 hxn h.px (fun h0 b2 off s e => ⟨by have := h.rx h0 b2 off s e; omega, fun e2 => ?_, fun e2 => ?_⟩) (fun us hus => ?_) hgr hab
        · have h1 := h.rx h0 b2 off s e
          have h2 := h.out1 b2 e2
          omega
        · have h1 := h.rx h0 b2 off s e
          have h2 := h.out2 b2 e2
          omega
        · have : us = vs := by
            rcases hus.2 with ⟨e1, e2⟩ | ⟨g3, cap3, cur3, e3, _, e4, _, _, _, e5⟩
            · rcases hown.2 with ⟨e6, e7⟩ | ⟨g4, cap4, cur4, e8, _⟩
              · have h1 : us.length = 0 := by have := hus.1; omega
                have h2 : vs.length = 0 := by have := hown.1; omega
                rw [List.eq_nil_of_length_eq_zero h1, List.eq_nil_of_length_eq_zero h2]
              · rw [e1] at e8; cases e8
            · rcases hown.2 with ⟨e6, e7⟩ | ⟨g4, cap4, cur4, e8, _, e9, _, _, _, e10⟩
              · rw [e6] at e3; cases e3
              · rw [e3] at e8
                injection e8 with e11 _ e12
                injection e11 with e11
                injection e11 with e11 _ _
                subst e11
                rw [e4] at e9
                injection e9 with e9
                injection e9 with e9
                rw [← e5, ← e10, e9]
          rw [this]; exact hown'
      · refine h.own2.kept hgr ?_
        exact own_apart2 h.own2 hown (fun e => types_row e.symm)
/-- The numbers are appended. -/
theorem step_st9_ints {Pg : Program} {ops : Array Oper} {o : Oper} {a : Act} {w : World} {K : Act → World → Prop} {Q : Exit → Act → World → Prop} {E : Prop}
    (hg : o.guard = none) (s x : Operand) (t : TypeId) (hop : o.op = Op.call { callee := Callee.builtin Builtin.append, args := #[s, x], argTypes := #[t, t] })
    (i : TypeInfo) (z : Value) (ht : Pg.underlying t = some (.slice 3)) (hi : Pg.info? 3 = some i) (hz : i.zero = some z) (hsize : i.size = 1) (hby : i.bytes = 8) (hzs : z.cells.size = 1)
    (h : St9 M T D X xn xc P Y yn yc ws base w A n c rows A2 n2 c2 ys) (hs : a.eval s = .slice A2 n2 c2) (hx : a.eval x = .slice Y yn yc) (hn : n2 + yn ≤ 1000000)
    (hK : ∀ A3 c3 w', St9 M T D X xn xc P Y yn yc ws base w' A n c rows A3 (n2 + yn) c3 (ys ++ ws) → w.grownBy w' (Value.slice A2 n2 c2).ownBlock → Below base w w' → K (a.put o.dst (.slice A3 (n2 + yn) c3)) w') :
    if Region.wanted o (yielded ops a.tmps) = true then Oper.wp Pg o a w K Q else E := by
  have hsz := h.size
  have hrg := h.rng
  refine step_append_any (P := Pg) w hg s x t hop base 3 i z 1 8 ht hi hz hsize hby hzs (by omega) (.slice A2 n2 c2) n2 (vals ys) hs h.own2 w.heap.size Y yn yc (vals ws) hx h.py.reads (vals_one _) (by unfold maxLen; omega) (by omega) (by omega) ?_
  intro v' w' hown' hgr hab
  have hb2 : Below base w w' := (Below.refl base w).grown hgr (by omega) h.own2.row
  obtain ⟨k1, k2, k3, k4⟩ := h.others hgr h.out2
  have hv : ∃ A3 c3, v' = .slice A3 (n2 + yn) c3 := by
    rcases hown'.2 with ⟨hv, h0⟩ | ⟨g2, cap, cur, hv, _⟩
    · exact ⟨none, 0, by rw [hv, h0]⟩
    · exact ⟨_, _, hv⟩
  obtain ⟨A3, c3, rfl⟩ := hv
  have hown2 : OwnI w' base 3 A3 (n2 + yn) c3 (ys ++ ws) := by
    unfold OwnI
    rw [show vals (ys ++ ws) = vals ys ++ vals ws by simp [vals]]
    exact hown'
  obtain ⟨_, vs, hownR, _⟩ := h.own1
  refine hK A3 c3 w' ⟨k1, h.rng, k2, k3, h.rx, k4, h.ry, ?_, hown2, h.out1, h.out2.new hsz hab⟩ hgr hb2
  have h1 := h.own1.kept hgr (own_apart2 hownR h.own2 types_row)
  have h2 := h.own1.turn (V' := (Value.slice A3 (n2 + yn) c3).ownBlock) (by
    rcases hab with h3 | h3
    · exact .inl h3
    · exact .inr ⟨_, h3, Nat.le_refl _⟩)
  obtain ⟨hl, us, ho, hr⟩ := h1
  obtain ⟨_, us2, ho2, hr2⟩ := h2
  have : us2 = us ∨ n = 0 := by
    rcases ho2.2 with ⟨_, e0⟩ | ⟨g3, cap3, cur3, e3, _, e4, _, _, _, e5⟩
    · exact .inr e0
    · rcases ho.2 with ⟨e6, e7⟩ | ⟨g4, cap4, cur4, e8, _, e9, _, _, _, e10⟩
      · exact .inr e7
      · left
        rw [e3] at e8
        injection e8 with e11 _ e12
        injection e11 with e11
        injection e11 with e11 _ _
        subst e11
        have hne : some g3 ≠ (Value.slice A2 n2 c2).ownBlock := fun e => by
          rcases own_apart2 hownR h.own2 types_row with h5 | h5
          · rw [e3] at h5; cases h5
          · rw [e3] at h5; exact h5 e
        have := hgr.block g3 (Array.getElem?_eq_some_iff.1 e4).1 hne
        rw [this, e4] at e9
        injection e9 with e9
        injection e9 with e9
        rw [← e5, ← e10, e9]
  rcases this with e | e
  · subst e
    refine ⟨hl, us2, ho, fun j hj => ?_⟩
    obtain ⟨A', n', c', m1, m2, m3, _⟩ := hr j hj
    obtain ⟨A'', n'', c'', q1, q2, q3, q4⟩ := hr2 j hj
    rw [m1] at q1
    injection q1 with q1
    injection q1 with q1 q5 q6
    subst q1 q5 q6
    exact ⟨A', n', c', m1, m2, m3, q4⟩
  · exact ⟨hl, us, ho, fun j hj => absurd hj (by omega)⟩
end
end Go.Proofs.YtmcgnpdfpfgfpaaGreatDoor
