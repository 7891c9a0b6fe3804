/-
  TopKeywords returns true: the walk of the law. Conditions: none beyond the reading of its arguments and of the variable errWrong.
-/
import Derived.Test.YtmcgnpdfpfgfpaaGreatDoorKWs
import Derived.Test.YtmcgnpdfpfgfpaaGreatDoorAwk
import Derived.Test.YtmcgnpdfpfgfpaaGreatDoorGBig
import Derived.Test.YtmcgnpdfpfgfpaaGreatDoorLst1
import Derived.Deep.QuietTactic
import Derived.BigQuiet
import Derived.Deep.RegionLaw
import Derived.Deep.DeepCutAuto
import Derived.Deep.RegionHeld3
namespace Go.Proofs.YtmcgnpdfpfgfpaaGreatDoor
open Go.RowKit
set_option linter.unusedVariables false

/-- The last word. -/
def zzT : ByteArray := { data := #[122, 122] }

set_option maxRecDepth 100000 in
set_option maxHeartbeats 16000000 in
theorem topKeywords_walk (A : Option Addr) (n c : Nat) (zs : List Int) (ix : Int) (w : World) (w0 : IsRow .i64 w A n c zs) (hix : 0 ≤ ix ∧ ix < 256) (hW : ErrW w) :
    Calls Tryz.prog 3 #[.slice A n c, .int .u8 ix] w fun e w' => e = .returned (.bool true) ∧ Below w.heap.size w w' := by
  obtain ⟨i0, hi0, hz0, hz1, hz2⟩ := info_parts info_int
  obtain ⟨i9, hi9, hy0, hy1, hy2⟩ := info_parts info_row
  obtain ⟨iE, hiE, hE0, hE1, hE2⟩ := info_parts info_rowE
  obtain ⟨h, hw⟩ := w0.ints
  generalize zs.take n = xs at h hw
  clear w0
  by_cases hn : n ≤ 500
  · have hd : decide (n ≤ 500) = true := by simpa using hn
    have hW0 := hW.2
    go_enter Tryz.func3, Tryz.ntmps3
    go_upto_region 6 with (first
      | (go_at_call 5; refine (awake_any _ hW).mono ?_; rintro e w1 ⟨rfl, hb1⟩
         have hE1 := hW.below hb1)
      | (go_at_call 6; refine (few_any A n c _).mono ?_; rintro e w' ⟨rfl, rfl⟩)
      | (go_at_call 7; refine (new_any A n c xs _ (h.upto hb1) hn).mono ?_; rintro e w2 ⟨⟨g, rfl, hge, hD2⟩, hb2⟩
         have hbb2 := bnext hb1 hb2
         have hg : w.heap.size ≤ g := by rw [hge]; exact hb1.size
         have hEr2 := hE1.below hb2
         clear hge hb1 hb2 hE1))
    have hgM := hD2.1.lt
    obtain ⟨M, hM⟩ : ∃ M, w2.heap.size = M := ⟨_, rfl⟩
    rw [hM] at hgM
    have hwM : w.heap.size ≤ M := by omega
    go_upto_region 7 with (go_at_call 8; refine (mdir_any g A n c xs _ _ hD2).mono ?_; rintro e w3 ⟨nb, np, P, pc, us, ys, slots, B, bc, E, L, m, lc, es, q3, rfl, hok, hnb8, hsl1, hsl4, hDir3, hm9, hEs3, hes, hD3, hS3⟩
                           rw [hM] at hDir3 hEs3
                           have HOK := Lib.hid hok
                           have HES := Lib.hid hes
                           clear hok hes)
    have hbD := bbox (w0 := w3) (.cells #[.int .i64 nb, .slice P np pc, .int .i64 slots, .slice B nb bc] 32)
    have hDb4 := Blk.new w3 32 #[.int .i64 nb, .slice P np pc, .int .i64 slots, .slice B nb bc]
    have hD4 := hD3.belowAll hbD
    have hDir4 := hDir3.below hbD
    have hEs4 : Ents _ M _ L m es := RowV.upto hEs3 hbD
    have hEr4 := (hEr2.stepR hS3 (by omega)).below hbD
    have hS4 := hS3.alloc (.cells #[.int .i64 nb, .slice P np pc, .int .i64 slots, .slice B nb bc] 32)
    have hM3 : M ≤ w3.heap.size := by rw [← hM]; exact World.grownBy.size hS3
    obtain ⟨D, hDD⟩ : ∃ D, w3.heap.size = D := ⟨_, rfl⟩
    obtain ⟨w4, hw4⟩ : ∃ x : World, w3.alloc (.cells #[.int .i64 nb, .slice P np pc, .int .i64 slots, .slice B nb bc] 32) = x := ⟨_, rfl⟩
    rw [hw4] at hbD hDb4 hD4 hDir4 hEs4 hEr4 hS4
    rw [hDD] at hDb4 hM3
    have hsz4 : w4.heap.size = D + 1 := by rw [← hw4, World.size_alloc, hDD]
    rw [hw4, hDD]
    have HSZ4 := Lib.hid hsz4
    have hM4 : M ≤ w4.heap.size := by omega
    have hDl4 : D < w4.heap.size := by omega
    have HMM := Lib.hid hM
    clear hw4 hDD hD3 hDir3 hEs3 hbD hS3 hEr2 hD2 hsz4 hM
    go_upto_region 8 with (first
      | (go_at_call 9; refine (mwords_any g A n c xs q3 4 _ hD4 (by omega)).mono ?_; rintro e w5 ⟨T, m2, tc, ts, q5, rfl, hm2, hT5, hts, hD5, hS5⟩
         have hT5a : OwnT (w5.alloc (.cells #[.string zzT] 9)) w4.heap.size T m2 tc ts := own_below hT5 (bbox _)
         have hN5 := Blk.new w5 9 #[.string zzT]
         have hD5a := hD5.alloc (.cells #[.string zzT] 9)
         have hS5a := hS5.alloc (.cells #[.string zzT] 9)
         have hle5 : w4.heap.size ≤ (w5.alloc (.cells #[.string zzT] 9)).heap.size := World.grownBy.size hS5a
         have HTS := Lib.hid hts
         obtain ⟨n6, hn6⟩ : ∃ n6, m2 + 1 = n6 := ⟨_, rfl⟩
         have HN6 := Lib.hid hn6
         have hn6l : 1 ≤ n6 ∧ n6 ≤ 6 := by omega
         clear hn6 hts)
      | (at_builtin
         refine wpList_append_text rfl _ _ 36 rfl Tryz.underlying36 w4.heap.size T m2 tc ts rfl hT5a w5.heap.size 1 zzT rfl ((hN5.cell 0).trans rfl) (by omega) hle5 ?_
         intro T6 tc6 w6 hT6 hg6 hb6
         rw [HN6.out] at hT6 ⊢))
    have hD6 := hD5a.below hb6 (by omega)
    have hS6 : Step g w4 w6 := hS5a.thenBelow hb6
    have HT6 : Hid (∀ s ∈ ts ++ [zzT], 1 ≤ s.size ∧ s.size ≤ 32) := Lib.hid (fun s hs => by
      rcases List.mem_append.1 hs with h1 | h1
      · have := HTS.out s h1; omega
      · rw [List.mem_singleton.1 h1]; decide)
    clear hD5 hD5a hS5 hS5a hT5 hT5a hN5 hb6 hg6 hle5
    generalize ts ++ [zzT] = ws6 at hT6 HT6
    go_wp2_with fail
    go_loopw [8, 66] (fun v8 v66 wx => ∃ (k nw : Nat) (T : Option Addr) (tc : Nat) (ws : List ByteArray), k ≤ m ∧ v8 = .slice T nw tc ∧ v66 = .int .i64 k ∧ 1 ≤ nw ∧ nw ≤ 6 + k ∧ OwnT wx w4.heap.size T nw tc ws ∧ Hid (∀ s ∈ ws, 1 ≤ s.size ∧ s.size ≤ 32) ∧ Deck wx g A n c xs q5 ∧ Step g w4 wx) (fun _ v66 _ => m - (intOf v66).toNat)
    case atStart => exact ⟨0, n6, T6, tc6, ws6, Nat.zero_le _, rfl, rfl, hn6l.1, by omega, hT6, HT6, hD6, hS6⟩
    case round =>
    clear hT6 HT6 hD6 hS6
    obtain ⟨k, nw, T, tc, ws, hk, rfl, rfl, hnw1, hnw2, hT, HWS, hDk, hS⟩ := hrel
    by_cases hkm : k < m
    · have hki : (k : Int) < (m : Int) := by omega
      have hk0 : (0 : Int) ≤ (k : Int) := by omega
      have hEsx : Ents wr M wr.heap.size L m es := RowV.step hEs4 hS (by omega)
      obtain ⟨bL, oL, rfl, hbL0, hbL, hcs, hcv⟩ := Ents.at_ hEsx hkm
      have HEM := Lib.hid (HES.out (entAt es k) (entAt_mem (by rw [hEsx.len]; exact hkm)))
      obtain ⟨u, hu⟩ : ∃ u, (entAt es k).1 = u := ⟨_, rfl⟩
      obtain ⟨v, hv⟩ : ∃ v, (entAt es k).2 = v := ⟨_, rfl⟩
      rw [hu] at hcs
      rw [hv] at hcv
      have HU : Hid (1 ≤ u.size ∧ u.size ≤ 32) := Lib.hid (by rw [← hu]; exact ⟨HEM.out.1, HEM.out.2.1⟩)
      clear hu hv HEM hEsx
      have hba := bbox (w0 := wr) (.cells #[.string u, .int .i64 v] 39)
      have hNa := Blk.new wr 39 #[.string u, .int .i64 v]
      have hy0 : (wr.alloc (.cells #[.string u, .int .i64 v] 39)).cell? ⟨wr.heap.size, 0, none⟩ = some (.string u) := (hNa.cell 0).trans rfl
      have hbb := ballocs hba (.cells #[.string u] 9)
      have hTb : OwnT _ w4.heap.size T nw tc ws := own_below hT hbb
      have hNb : Blk ((wr.alloc (.cells #[.string u, .int .i64 v] 39)).alloc (.cells #[.string u] 9)) (wr.heap.size + 1) 9 #[.string u] := Blk.new1 _ _ _ _
      have hDb := hDk.belowAll hbb
      have hSb := hS.trans (Step.of_below hbb)
      have hleb : w4.heap.size ≤ ((wr.alloc (.cells #[.string u, .int .i64 v] 39)).alloc (.cells #[.string u] 9)).heap.size := World.grownBy.size hSb
      obtain ⟨n7, hn7⟩ : ∃ n7, nw + 1 = n7 := ⟨_, rfl⟩
      have HN7 := Lib.hid hn7
      have hn7l : 1 ≤ n7 ∧ n7 ≤ 6 + (k + 1) := by omega
      clear hn7
      go_wp2_with (at_builtin
                   refine wpList_append_text rfl _ _ 36 rfl Tryz.underlying36 w4.heap.size T nw tc ws rfl hTb (wr.heap.size + 1) 1 u rfl ((hNb.cell 0).trans rfl) (by omega) hleb ?_
                   intro T7 tc7 w7 hT7 hg7 hb7
                   rw [HN7.out] at hT7 ⊢)
      go_roundw
      case rel => exact ⟨k + 1, n7, T7, tc7, ws ++ [u], by omega, rfl, by go_num, hn7l.1, hn7l.2, hT7, Lib.hid (fun s hs => by
        rcases List.mem_append.1 hs with h1 | h1
        · exact HWS.out s h1
        · rw [List.mem_singleton.1 h1]; exact HU.out), hDb.below hb7 (by omega), hSb.thenBelow hb7⟩
      case measure => simp [intOf]; omega
    · obtain rfl : m = k := by omega
      obtain ⟨r, hr, hrn⟩ : ∃ r : Nat, ix % (nw : Int) = (r : Int) ∧ r < nw := ⟨(ix % (nw : Int)).toNat, by have := Int.emod_nonneg ix (b := (nw : Int)) (by omega); omega, by have h1 := Int.emod_nonneg ix (b := (nw : Int)) (by omega); have h2 := Int.emod_lt_of_pos ix (b := (nw : Int)) (by omega); omega⟩
      have htm : ix.tmod (nw : Int) = (r : Int) := by rw [Int.tmod_eq_emod_of_nonneg hix.1]; exact hr
      have hixw : IntKind.i64.wrap ix = ix := IntWalk.i64_in _ (by omega)
      have hnw0 : ¬ (nw : Int) = 0 := by omega
      have hri : (r : Int) < (nw : Int) := by omega
      have hr0 : (0 : Int) ≤ (r : Int) := by omega
      obtain ⟨gT, rfl, _, hgT, hcT⟩ := hT.at_ hrn
      obtain ⟨key, hkey⟩ : ∃ s, txtAt ws r = s := ⟨_, rfl⟩
      rw [hkey] at hcT
      have HK : Hid (1 ≤ key.size ∧ key.size ≤ 32) := Lib.hid (by rw [← hkey]; exact HWS.out _ (txtAt_mem (by rw [hT.len]; exact hrn)))
      clear hkey hr
      obtain ⟨w7, hw7⟩ : ∃ x : World, x = wr := ⟨_, rfl⟩
      subst hw7
      have hDb7 := Step.block hS hDb4 (by omega)
      have hDir7 := hDir4.step hS hgM
      have hEr7 := hEr4.stepR hS (by omega)
      have hM7 : MatV w7 M w7.heap.size 2 B nb (E.map entC) := hDir7.2.1
      have HDO : Hid (DirOk nb (us.zip ys) slots E) := Lib.hid hDir7.2.2
      have hDl7 := hDb7.lt
      have hMw7 : M ≤ w7.heap.size := by omega
      have hd0 : w7.cell? ⟨D, 0, none⟩ = some (.int .i64 nb) := (hDb7.cell 0).trans rfl
      have hd1 : w7.cell? ⟨D, 1, none⟩ = some (.slice P np pc) := (hDb7.cell 1).trans rfl
      have hd2 : w7.cell? ⟨D, 2, none⟩ = some (.int .i64 slots) := (hDb7.cell 2).trans rfl
      have hd3 : w7.cell? ⟨D, 3, none⟩ = some (.slice B nb bc) := (hDb7.cell 3).trans rfl
      go_upto_region 16 with fail
      clear htm hixw hnw0 hcT hri hr0 hT HWS
      go_loopw [12, 87] (fun v12 v87 wx => ∃ (k : Nat) (RC : Option Addr) (rcc : Nat), k ≤ nb ∧ v12 = .slice RC k rcc ∧ v87 = .int .i64 k ∧ OwnT wx w7.heap.size RC k rcc (recL slots (E.take k)) ∧ Below w7.heap.size w7 wx) (fun _ v87 _ => nb - (intOf v87).toNat)
      case atStart => exact ⟨0, none, 0, Nat.zero_le _, rfl, rfl, OwnT.nil_, Below.refl _ _⟩
      case round =>
      obtain ⟨k, RC, rcc, hk, rfl, rfl, hRC, hbx⟩ := hrel
      by_cases hkn : k < nb
      · have hki : (k : Int) < (nb : Int) := by omega
        have hk0 : (0 : Int) ≤ (k : Int) := by omega
        obtain ⟨b, off, A1, n1, c1, rfl, _, hbl, hcell, hn1, hE1⟩ := MatV.ents (hM7.upto hbx) hkn
        have hkE : k < E.length := by rw [HDO.out.len]; exact hkn
        have HTK := Lib.hid (recL_take (slots := slots) hkE)
        have HLM := Lib.hid (getD_memE hkE)
        obtain ⟨l, hl⟩ : ∃ l, E.getD k [] = l := ⟨_, rfl⟩
        rw [hl] at hE1 HTK HLM
        have hn1s : n1 ≤ slots := by rw [← Ents.len hE1]; exact HDO.out.fit l HLM.out
        obtain ⟨s, hs⟩ : ∃ s : ByteArray, (⟨(encB slots l).toArray⟩ : ByteArray) = s := ⟨_, rfl⟩
        have HEN := Lib.hid hs
        rw [hs] at HTK
        have hd2x := (hbx.cell (p := ⟨D, 2, none⟩) hDl7).trans hd2
        clear hl hs hkE
        go_wp2_with (first
          | (go_at_call 10; refine (kenc_ok slots A1 n1 c1 l _ hsl1 (by omega) hn1s hE1 (HDO.out.asc l HLM.out) (HDO.out.val l HLM.out)).mono ?_; rintro e w8 ⟨rfl, hb8⟩; rw [HEN.out]
             have hRC8 : OwnT (w8.alloc (.cells #[.string s] 9)) w7.heap.size RC k rcc _ := own_below (own_below hRC hb8) (bbox _)
             have hN8 := Blk.new w8 9 #[.string s]
             have hb8x := (bnext hbx hb8).alloc (bnext hbx hb8).size (.cells #[.string s] 9))
          | (at_builtin
             refine wpList_append_text rfl _ _ 36 rfl Tryz.underlying36 w7.heap.size RC k rcc _ rfl hRC8 w8.heap.size 1 s rfl ((hN8.cell 0).trans rfl) (by omega) hb8x.size ?_
             intro R9 rc9 w9 hR9 hg9 hb9
             rw [HTK.out] at hR9))
        go_roundw
        case rel => exact ⟨k + 1, R9, rc9, by omega, rfl, by go_num, hR9, hb8x.trans hb9⟩
        case measure => simp [intOf]; omega
      · obtain rfl : nb = k := by omega
        have HTA : Hid (E.take nb = E) := Lib.hid (List.take_of_length_le (by rw [HDO.out.len]; exact Nat.le_refl _))
        rw [HTA.out] at hRC
        obtain ⟨N, hN⟩ : ∃ N, nb * slots = N := ⟨_, rfl⟩
        have HN := Lib.hid hN
        have hNl : N ≤ 32 := by rw [← hN]; exact Nat.mul_le_mul hnb8 hsl4
        clear hN
        have HRS := Lib.hid (recL_size HDO.out)
        obtain ⟨recs, hrecs⟩ : ∃ l, recL slots E = l := ⟨_, rfl⟩
        rw [hrecs] at hRC HRS
        have HRE := Lib.hid hrecs
        clear hrecs
        have hbf := bbox (w0 := wr) (.cells #[.int .i64 257] 44)
        have hFf := Blk.new wr 44 #[.int .i64 257]
        have hRCf : OwnT _ w7.heap.size RC nb rcc recs := own_below hRC hbf
        have hbxf := ballocs hbx (.cells #[.int .i64 257] 44)
        go_upto_region 24 with fail
        obtain ⟨F, hF⟩ : ∃ F, wr.heap.size = F := ⟨_, rfl⟩
        obtain ⟨wf, hwf⟩ : ∃ x : World, wr.alloc (.cells #[.int .i64 257] 44) = x := ⟨_, rfl⟩
        rw [hwf] at hbf hFf hRCf hbxf
        rw [hF] at hFf
        have hMF : M ≤ F := by rw [← hF]; exact Nat.le_trans hMw7 hbx.size
        have hff : wf.cell? ⟨F, 0, none⟩ = some (.int .i64 257) := (hFf.cell 0).trans rfl
        rw [hwf, hF]
        clear hwf hF hRC hbx hbf
        have hwf7 : w7.heap.size ≤ wf.heap.size := hbxf.size
        go_upto_region 25 with (go_at_call 11; refine (lenc_ok slots nb RC rcc recs _ hsl1 hsl4 (by omega) hRCf HRS.out).mono ?_; rintro e w9 ⟨R, rc, Pl, plc, rfl, hR9, hPl9, hb9⟩
                                rw [HN.out] at hR9 ⊢)
        have hb10 := bbox (w0 := w9) (.cells #[.int .i64 40, .slice Pl nb plc] 48)
        have hbx10 := (hbxf.trans (hb9.mono hwf7)).alloc (Nat.le_trans hwf7 hb9.size) (.cells #[.int .i64 40, .slice Pl nb plc] 48)
        have hF10 := (hFf.below hb9 hFf.lt).alloc (.cells #[.int .i64 40, .slice Pl nb plc] 48)
        have hRC10 : OwnT _ M RC nb rcc recs := own_base (own_below (own_below hRCf hb9) hb10) hMw7
        have hR10 := (hR9.belowAll hb10).weaken (base' := M) (lo' := M) (by omega) (by omega)
        have hPl10 : OwnP _ M Pl nb plc slots := own_base (own_below hPl9 hb10) (by omega)
        have hLb10 := Blk.new w9 48 #[.int .i64 40, .slice Pl nb plc]
        obtain ⟨LB, hLB⟩ : ∃ LB, w9.heap.size = LB := ⟨_, rfl⟩
        obtain ⟨w10, hw10⟩ : ∃ x : World, w9.alloc (.cells #[.int .i64 40, .slice Pl nb plc] 48) = x := ⟨_, rfl⟩
        have hMLB : M ≤ LB := by have := hb9.size; omega
        rw [hw10] at hb10 hbx10 hF10 hRC10 hR10 hPl10 hLb10
        rw [hLB] at hLb10
        rw [hw10, hLB]
        clear hw10 hLB hR9 hPl9 hb9 hb10 hFf hRCf hbxf hwf7 hff
        have hd0x := (hbx10.cell (p := ⟨D, 0, none⟩) hDl7).trans hd0
        have hd1x := (hbx10.cell (p := ⟨D, 1, none⟩) hDl7).trans hd1
        have hDir10 := hDir7.below hbx10
        go_upto_region 26 with (go_at_call 12; refine (kHomes_ok nb np P pc us ys _ hDir10.1.sh HOK.out key HK.out.1 HK.out.2).mono ?_; rintro e w11 ⟨H, hc, rfl, hH11, hb11⟩)
        have hd1y := (hb11.cell (p := ⟨D, 1, none⟩) (Nat.lt_of_lt_of_le hDl7 hbx10.size)).trans hd1x
        have hne1 : ((0 : Int) != 0) = false := by simp
        have hne2 : ((np : Int) != (np : Int)) = false := by simp
        go_upto_region 28 with fail
        have hb12 := bbox (w0 := w11) (.cells #[.int .i64 4, .int .i64 1] 54)
        have hPB12 := Blk.new w11 54 #[.int .i64 4, .int .i64 1]
        have hM11 : M ≤ w11.heap.size := Nat.le_trans hMw7 (Nat.le_trans hbx10.size hb11.size)
        obtain ⟨hl, hhl⟩ : ∃ hl, homI nb us ys (dSum key.data.toList) = hl := ⟨_, rfl⟩
        rw [hhl] at hH11
        have HHL := Lib.hid hhl
        clear hhl
        have hD10 := (hDk.below hbx10 (by omega))
        have hK12 : KWS _ g A n c xs q5 M D F w11.heap.size LB nb np P pc us ys slots B bc E R N rc (rowsL slots recs) Pl plc RC rcc recs H hc hl :=
          ⟨(hD10.belowAll hb11).belowAll hb12, (hF10.below hb11 hF10.lt).below hb12 (hF10.below hb11 hF10.lt).lt, hPB12, (hLb10.below hb11 hLb10.lt).below hb12 (hLb10.below hb11 hLb10.lt).lt, ((hDb7.below hbx10 hDl7).below hb11 (Nat.lt_of_lt_of_le hDl7 hbx10.size)).below hb12 (Nat.lt_of_lt_of_le hDl7 (Nat.le_trans hbx10.size hb11.size)), (hDir10.below hb11).below hb12, (hR10.belowAll hb11).belowAll hb12, own_below (own_below hPl10 hb11) hb12, own_below (own_below hRC10 hb11) hb12, own_base (own_below hH11 hb12) (Nat.le_trans hMw7 hbx10.size), ((hEr7.below hbx10).below hb11).below hb12, by omega, hgM, hMF, hM11, hMLB, hM3⟩
        have hbw4 : Below w.heap.size w w4 := Step.below hbb2 hS4 hbb2.size hg
        have hbw7 : Below w.heap.size w w7 := Step.below hbw4 hS hbw4.size hg
        have hb7b : Below w7.heap.size w7 (w11.alloc (.cells #[.int .i64 4, .int .i64 1] 54)) := (hbx10.trans (hb11.mono hbx10.size)).trans (hb12.mono (Nat.le_trans hbx10.size hb11.size))
        have hbw12 := bnext hbw7 hb7b
        obtain ⟨PB, hPB⟩ : ∃ PB, w11.heap.size = PB := ⟨_, rfl⟩
        obtain ⟨w12, hw12⟩ : ∃ x : World, w11.alloc (.cells #[.int .i64 4, .int .i64 1] 54) = x := ⟨_, rfl⟩
        go_upto_region 31 with fail
        rw [hw12] at hK12 hbw12
        rw [hPB] at hK12
        (try rw [hPB])
        have HLL : Hid (hl.length = np) := Lib.hid hH11.len
        have HBD : Hid (∀ x ∈ hl, ∃ c : Nat, x = (c : Int) ∧ c < nb) := Lib.hid (by rw [← HHL.out]; exact fun x hx => homI_bd HOK.out.hnb.1 x hx)
        have hnp4 : np ≤ 4 := HOK.out.hnp.2
        clear hw12 hPB hb11 hb12 hPB12 hH11 hd1y hd1x hd0x hDir10 hRC10 hR10 hPl10 hLb10 hF10 hbx10 hD10 hDir7 hEr7 hM7 hDb7 hd0 hd1 hd2 hd3 hb7b hbw7 hbw4 hS4 hS hDk hDl7 hDl4 hDb4 hD4 hDir4 hEs4 hEr4 hbb2
        go_wp2_with fail
        go_loopw [24, 25, 138] (fun v24 v25 v138 wx => ∃ (t : Nat) (BK : Option Addr) (bkc q : Nat), t ≤ np ∧ v24 = .slice BK t bkc ∧ v25 = .int .i64 ((t * slots : Nat) : Int) ∧ v138 = .int .i64 t ∧ OwnV wx w12.heap.size w12.heap.size 2 33 BK t bkc ((bucketsF E (hl.take t)).map entC) ∧ Deck wx g A n c xs q ∧ Step g w12 wx) (fun _ _ v138 _ => np - (intOf v138).toNat)
        case atStart => exact ⟨0, none, 0, q5, Nat.zero_le _, rfl, by rw [Nat.zero_mul]; rfl, rfl, OwnV.nil_, hK12.dk, Step.refl _ _⟩
        case round =>
        have HK12 := Lib.hid hK12
        clear hK12
        obtain ⟨t, BK, bkc, q, ht, rfl, rfl, rfl, hBK, hDx, hSx⟩ := hrel
        have hKW := HK12.out.step hSx hDx
        have hg12 : g < w12.heap.size := by have := HK12.out.gs; have := HK12.out.f.lt; omega
        by_cases htn : t < np
        · have hti : (t : Int) < (np : Int) := by omega
          have ht0 : (0 : Int) ≤ (t : Int) := by omega
          obtain ⟨b2, o2, rfl, _, hc2⟩ := hKW.hm.ints.2 (by omega)
          have hck := hc2 t htn
          clear hc2
          obtain ⟨bk, hbk, hbl⟩ := HBD.out (hl.getD t 0) (by rw [List.getD_eq_getElem?_getD, List.getElem?_eq_getElem (by rw [HLL.out]; exact htn)]; exact List.getElem_mem _)
          have HTK := Lib.hid (bucketsF_take (E := E) (by rw [HLL.out]; exact htn) hbk)
          rw [hbk] at hck
          have hbE : bk < E.length := by rw [HDO.out.len]; exact hbl
          have HRA : Hid (txtAt recs bk = ⟨(encB slots (E.getD bk [])).toArray⟩) := Lib.hid (by rw [← HRE.out]; exact recL_at hbE)
          have HLM := Lib.hid (getD_memE hbE)
          obtain ⟨l, hll⟩ : ∃ l, E.getD bk [] = l := ⟨_, rfl⟩
          rw [hll] at HRA HLM HTK
          obtain ⟨s, hs⟩ : ∃ s, txtAt recs bk = s := ⟨_, rfl⟩
          have HSZ : Hid (s.size = slots * 37) := Lib.hid (by rw [← hs]; exact HRS.out _ (txtAt_mem (by rw [hKW.recs.len]; exact hbl)))
          have HSR := Lib.hid hs
          rw [hs] at HRA
          obtain ⟨ts0, hts⟩ : ∃ x, t * slots = x := ⟨_, rfl⟩
          obtain ⟨ts1, hts1⟩ : ∃ x, ts0 + slots = x := ⟨_, rfl⟩
          have HTS1 : Hid ((t + 1) * slots = ts1) := Lib.hid (by rw [Nat.succ_mul, hts, hts1])
          have htsl : ts0 ≤ 16 := by rw [← hts]; exact Nat.mul_le_mul (by omega : t ≤ 4) hsl4
          have HTS0 := Lib.hid hts1
          rw [hts]
          have hcl0 := hKW.cl0
          have hcl1 := hKW.cl1
          have hbN : bk * slots + slots ≤ N := by rw [← HN.out, ← Nat.succ_mul]; exact Nat.mul_le_mul_right _ hbl
          clear hbk hll hs hts hts1 hbE
          go_upto_region 38 with (go_at_call 13; refine (asked_ok Pl nb plc slots N bk _ hsl1 hsl4 (by omega) HN.out hbl hKW.pl.plcs).mono ?_; rintro e w13 ⟨A2, c2, rfl, hA2, hb13⟩)
          have hKW13 := hKW.below hb13
          have hBK13 := hBK.belowAll hb13
          have hA2M : OwnI w13 M 3 A2 slots c2 _ := own_base hA2 (by have := hKW.gs; have := hKW.f.lt; omega)
          have hS13 := hSx.trans (Step.of_below hb13)
          clear hKW hBK hA2 hb13 hSx hcl0 hcl1 hck
          go_wp2_with fail
          go_loopw [25, 30, 154] (fun v25 v30 v154 wy => ∃ (j : Nat) (O : Option Addr) (oc qy : Nat), j ≤ slots ∧ v25 = .int .i64 ((ts0 + j : Nat) : Int) ∧ v30 = .slice O j oc ∧ v154 = .int .i64 j ∧ OwnM wy w13.heap.size w13.heap.size 22 O j oc ((List.range j).map (rowF (elsF s slots))) ∧ Deck wy g A n c xs qy ∧ Step g w13 wy) (fun _ _ v154 _ => slots - (intOf v154).toNat)
          case atStart => exact ⟨0, none, 0, q, Nat.zero_le _, rfl, rfl, rfl, OwnM.nil_, hKW13.dk, Step.refl _ _⟩
          case round =>
          have HK13 := Lib.hid hKW13
          clear hKW13
          obtain ⟨j, O, oc, qy, hj, rfl, rfl, rfl, hO, hDy, hSy⟩ := hrel
          have hKW := HK13.out.step hSy hDy
          have hg13 : g < w13.heap.size := by have := HK13.out.gs; have := HK13.out.f.lt; omega
          by_cases hjs : j < slots
          · have hji : (j : Int) < (slots : Int) := by omega
            have hj0 : (0 : Int) ≤ (j : Int) := by omega
            obtain ⟨ba, oa, rfl, _, hca⟩ := (OwnI.ints (own_step hA2M hSy hgM)).2 (by omega)
            have hcj := hca j hjs
            obtain ⟨ri, hri⟩ : ∃ x, bk * slots + j = x := ⟨_, rfl⟩
            have hrv : ((List.range slots).map fun k => ((bk * slots + k : Nat) : Int)).getD j 0 = (ri : Int) := by
              rw [List.getD_eq_getElem?_getD, List.getElem?_map, List.getElem?_range hjs, ← hri]; rfl
            rw [hrv] at hcj
            have hriN : ri < N := by omega
            have HRW : Hid ((rowsL slots recs).getD ri [] = rowF (elsF s slots) j) := Lib.hid (by rw [← hri, rowsL_getD (by rw [hKW.recs.len]; exact hbl) hjs, HSR.out])
            have HRN : Hid ((List.range (j + 1)).map (rowF (elsF s slots)) = (List.range j).map (rowF (elsF s slots)) ++ [rowF (elsF s slots) j]) := Lib.hid (by rw [List.range_succ, List.map_append]; rfl)
            obtain ⟨tj, htj⟩ : ∃ x, ts0 + j = x := ⟨_, rfl⟩
            have HTJ : Hid (ts0 + (j + 1) = tj + 1) := Lib.hid (by omega)
            have htjl : tj ≤ 100 := by omega
            rw [htj]
            clear hca hri hrv htj
            have hcs := hKW.cs
            have hcd := hKW.cd
            have HKW := Lib.hid hKW
            clear hKW
            go_wp2_with (first
              | (go_at_call 14; refine (faults_ok g A n c xs qy 4 1 _ hDy (by omega) (by omega)).mono ?_; rintro e w14 ⟨sil, nwr, q14, rfl, hbear, hD14, hS14⟩
                 have hK14 := HKW.out.step hS14 hD14
                 have hcs14 := hK14.cs
                 have hcd14 := hK14.cd
                 have hcf14 := hK14.cf
                 have hm14 := hK14.mat
                 have HK14 := Lib.hid hK14
                 clear hK14 hcs hcd)
              | (go_at_call 15; refine (read_ok g A n c xs q14 257 4 1 40 N ri sil nwr M R rc (rowsL slots recs) _ hD14 (by decide) (by omega) (by omega) (by omega) (by omega) hriN hm14 hgM (rowsL_all HRS.out) (by omega) hbear HK14.out.er HK14.out.gs.1).mono ?_; rintro e w15 ⟨Rw, rwc, Q, qn, qc, Wn, on, wc, q15, rfl, hI15, hF15, hD15, hS15⟩
                 rw [HRW.out] at hI15
                 have hS15y := (hS14.trans hS15)
                 have hO15 := hO.step hS15y hg13 hg13
                 have HK15 := Lib.hid (HK14.out.step hS15 hD15)
                 have hXb := Blk.new w15 59 #[.slice Rw 40 rwc, .slice Q qn qc]
                 have hx0 : (w15.alloc (.cells #[.slice Rw 40 rwc, .slice Q qn qc] 59)).cell? ⟨w15.heap.size, 0, none⟩ = some (.slice Rw 40 rwc) := (hXb.cell 0).trans rfl
                 have hbb := ballocs (bbox (w0 := w15) (.cells #[.slice Rw 40 rwc, .slice Q qn qc] 59)) (.cells #[.slice Rw 40 rwc] 22)
                 have hObb := hO15.belowAll hbb
                 have hIbb := hI15.upto hbb
                 have hNbb : Blk ((w15.alloc (.cells #[.slice Rw 40 rwc, .slice Q qn qc] 59)).alloc (.cells #[.slice Rw 40 rwc] 22)) (w15.heap.size + 1) 22 #[.slice Rw 40 rwc] := Blk.new1 _ _ _ _
                 have hDbb := HK15.out.dk.belowAll hbb
                 have hSbb := (hSy.trans hS15y).trans (Step.of_below hbb)
                 have hMl : w13.heap.size ≤ ((w15.alloc (.cells #[.slice Rw 40 rwc, .slice Q qn qc] 59)).alloc (.cells #[.slice Rw 40 rwc] 22)).heap.size := World.grownBy.size hSbb
                 have HLO : Hid (∀ b o s, Rw = some ⟨b, o, s⟩ → 0 < 40 → wr.heap.size ≤ b) := Lib.hid (fun b o s e h => Nat.le_trans (World.grownBy.size hS14) (hF15 b o s e h))
                 have HOL : Hid (∀ k, (Value.slice O j oc).ownBlock = some k → k < wr.heap.size) := Lib.hid (fun k e => (hO.row k e).2)
                 have HMW : Hid (w13.heap.size ≤ wr.heap.size) := Lib.hid (World.grownBy.size hSy)
                 clear hO15 hI15 hF15 hD15 hS15 hXb hcs14 hcd14 hcf14 hm14)
              | (at_builtin
                 refine wpList_append_rowH rfl _ _ 45 rfl w13.heap.size w13.heap.size 22 i9 _ Tryz.underlying45 hi9 hy0 hy1 hy2 rfl O j oc _ rfl hObb (w15.heap.size + 1) 1 Rw 40 rwc _ rfl ((hNbb.cell 0).trans rfl) hNbb.lt (by omega) hIbb (fun h0 b off s e => Nat.le_trans HMW.out (HLO.out b off s e h0)) (fun h0 b off s e e2 => by have h1 := HLO.out b off s e h0; have h2 := HOL.out b e2; omega) (j + 1) rfl (by omega) hMl ?_
                 intro O7 oc7 w7 hO7 hg7 hb7 hab7))
            go_roundw
            case rel => exact ⟨j + 1, O7, oc7, q15, by omega, by rw [HTJ.out]; go_num, rfl, by go_num, by rw [HRN.out]; exact hO7, hDbb.below hb7 hg13, hSbb.thenBelow hb7⟩
            case measure => simp [intOf]; omega
          · obtain rfl : slots = j := by omega
            rw [HTS0.out]
            obtain ⟨Ls, hLs⟩ : ∃ x, slots * 37 = x := ⟨_, rfl⟩
            have hLsb : Ls ≤ 148 := by omega
            have hsz : s.size = Ls := by rw [HSZ.out, hLs]
            have HLS := Lib.hid hLs
            clear hLs
            obtain ⟨gR, rfl, _, hgR, hcR0⟩ := hKW.recs.at_ hbl
            have hcR : wr.cell? ⟨gR, bk, none⟩ = some (.string s) := by rw [hcR0, HSR.out]
            have hcF := hKW.cf
            have hbki : (bk : Int) < (nb : Int) := by omega
            have hbk0 : (0 : Int) ≤ (bk : Int) := by omega
            have hFl := hKW.f.lt
            have hMd : Mat wr.drew w13.heap.size wr.drew.heap.size O slots ((List.range slots).map (rowF (elsF s slots))) := hO.mat (Nat.le_refl _)
            have hBKr := hBK13.step hSy hg12 hg12
            have HKW := Lib.hid hKW
            have hWl := World.grownBy.size hSy
            clear hcR0 hKW hBK13 hO
            go_upto_region 48 with fail
            go_region_held3 (fun w' => w'.cell? ⟨F, 0, none⟩ = some (.int .i64 257) ∧ w'.cell? ⟨gR, bk, none⟩ = some (.string s)) (first | exact ⟨hcF, hcR⟩ | exact hS2)
              (first
                | (go_at_call 16; refine (ldec_ok slots O oc Ls s _ hsl1 hsl4 hsz HLS.out hMd).mono ?_; rintro e w16 ⟨rfl, hb16⟩; have hS2 : w16.cell? ⟨F, 0, none⟩ = some (.int .i64 257) ∧ w16.cell? ⟨gR, bk, none⟩ = some (.string s) := ⟨(hb16.cell (p := ⟨F, 0, none⟩) hFl).trans hcF, (hb16.cell (p := ⟨gR, bk, none⟩) hgR).trans hcR⟩))
            have hb16' : Below wr.heap.size wr w16 := ⟨hb16.os, hb16.tape, hb16.output, hb16.size, hb16.block⟩
            have hK16 := HKW.out.below hb16'
            have hd2 := hK16.cd2
            obtain ⟨nl, hnl⟩ : ∃ nl, l.length = nl := ⟨_, rfl⟩
            have hnls : nl ≤ slots := by rw [← hnl]; exact HDO.out.fit l HLM.out
            have HNL := Lib.hid hnl
            have hBK16 := hBKr.belowAll hb16'
            clear hnl hb16 hS2 hcF hcR hMd hBKr
            have hne0 : ((0 : Int) != 0) = false := by simp
            go_wp2_with (first
              | (go_at_call 17; refine (kdec_ok slots nl l s _ hsl1 (by omega) HNL.out hnls (HDO.out.asc l HLM.out) (HDO.out.val l HLM.out) HRA.out).mono ?_; rintro e w17 ⟨A6, c6, rfl, hE17, hb17⟩
                 have hb17a := ballocs hb17 (.cells #[.slice A6 nl c6] 33)
                 have hBK17 := hBK16.belowAll hb17a
                 have hN17 := Blk.new w17 33 #[.slice A6 nl c6]
                 have hR17 : RowV _ w12.heap.size _ 2 A6 nl (entC l) := RowV.low (RowV.upto hE17.ents (bbox (.cells #[.slice A6 nl c6] 33))) (Nat.le_trans (World.grownBy.size (hS13.trans hSy)) hb16'.size)
                 have hSe := ((hS13.trans hSy).trans (Step.of_below hb16')).trans (Step.of_below hb17a)
                 have hDe := hK16.dk.belowAll hb17a
                 have hle17 : w12.heap.size ≤ (w17.alloc (.cells #[.slice A6 nl c6] 33)).heap.size := World.grownBy.size hSe
                 have HAP : Hid (0 < nl → ∀ b off sp, A6 = some ⟨b, off, sp⟩ → (Value.slice BK t bkc).ownBlock ≠ some b) := Lib.hid fun h0 b off sp e e2 => by
                   have h3 := (hBK16.row b e2).2
                   have h4 := hE17.row b (by rw [e]; rfl)
                   omega)
              | (at_builtin
                 refine wpList_append_rowV rfl _ _ 30 rfl w12.heap.size w12.heap.size 2 33 iE _ Tryz.underlying30 hiE hE0 hE1 hE2 rfl BK t bkc _ rfl hBK17 w17.heap.size 1 A6 nl c6 _ rfl ((hN17.cell 0).trans rfl) hN17.lt (by omega) hR17 HAP.out (t + 1) rfl (by omega) hle17 ?_
                 intro F8 c8 w8 hF8 hg8 hb8
                 rw [HTK.out] at hF8))
            go_roundw
            case rel => exact ⟨t + 1, F8, c8, qy, by omega, rfl, by rw [HTS1.out], by go_num, hF8, hDe.below hb8 hg12, hSe.thenBelow hb8⟩
            case measure => simp [intOf]; omega
        · obtain rfl : np = t := by omega
          have HTA2 : Hid (hl.take np = hl) := Lib.hid (List.take_of_length_le (by rw [HLL.out]; exact Nat.le_refl _))
          rw [HTA2.out] at hBK
          obtain ⟨NS, hNS⟩ : ∃ x, np * slots = x := ⟨_, rfl⟩
          have hmul : (np : Int) * (slots : Int) = (NS : Int) := by rw [← hNS]; exact (Int.natCast_mul np slots).symm
          have hNSl : NS ≤ 16 := by rw [← hNS]; exact Nat.mul_le_mul hnp4 hsl4
          rw [hNS]
          clear hNS
          obtain ⟨pk, hpk⟩ : ∃ x, pickB key (bucketsF E hl) = x := ⟨_, rfl⟩
          have HPK := Lib.hid hpk
          obtain ⟨pv, hpv⟩ : ∃ x : Int, pk.getD 0 = x := ⟨_, rfl⟩
          obtain ⟨pb, hpb⟩ : ∃ x : Bool, pk.isSome = x := ⟨_, rfl⟩
          have HPV := Lib.hid hpv
          have HPB := Lib.hid hpb
          clear hpk hpv hpb
          have hMV : MatV wr 0 wr.heap.size 2 BK np ((bucketsF E hl).map entC) := (hBK.weaken (Nat.le_refl _) (Nat.zero_le _)).matV (Nat.zero_le _)
          have hbwr := Step.below hbw12 hSx hbw12.size hg
          have e1 : (pv == pv) = true := by simp
          have e2 : (pb == pb) = true := by simp
          have e3 : ((NS : Int) == (NS : Int)) = true := by simp
          go_upto_region 55 with (go_at_call 18; refine (kpick_ok key BK np bkc (bucketsF E hl) _ HK.out.1 HK.out.2 (by omega) hMV).mono ?_; rintro e w16 ⟨rfl, hb16⟩; rw [HPK.out, HPV.out, HPB.out])
          have hK16 := hKW.below hb16
          have hd0 : w16.cell? ⟨D, 0, none⟩ = some (.int .i64 nb) := (hK16.d.cell 0).trans rfl
          have hd1 : w16.cell? ⟨D, 1, none⟩ = some (.slice P np pc) := (hK16.d.cell 1).trans rfl
          have hd2 : w16.cell? ⟨D, 2, none⟩ = some (.int .i64 slots) := (hK16.d.cell 2).trans rfl
          have hd3 : w16.cell? ⟨D, 3, none⟩ = some (.slice B nb bc) := (hK16.d.cell 3).trans rfl
          go_upto_region 56 with (go_at_call 19; refine (kfind_ok key nb np P pc us ys slots B bc E _ HK.out.1 HK.out.2 hK16.sh HOK.out ⟨hsl1, by omega⟩ hK16.dir.2.1 HDO.out).mono ?_; rintro e w17 ⟨rfl, hb17⟩; rw [HHL.out, HPK.out, HPV.out, HPB.out])
          have hK17 := hK16.below hb17
          have hcl0 := hK17.cl0
          have hcl1 := hK17.cl1
          have hnb1 : 0 < nb := HOK.out.hnb.1
          have hbw17 := bnext (bnext hbwr hb16) hb17
          clear hd0 hd1 hd2 hd3 hMV hb16 hb17 hbwr
          go_wp2_with (go_at_call 20; refine (most_ok Pl nb plc slots _ hnb1 (by omega) hK17.pl.plcs).mono ?_; rintro e w18 ⟨rfl, hb18⟩)
          go_ret
          exact ⟨rfl, bnext hbw17 hb18⟩
  · have hd : decide (n ≤ 500) = false := by simpa using hn
    go_enter Tryz.func3, Tryz.ntmps3
    go_wp2_with (first
      | (go_at_call 5; refine (awake_any _ hW).mono ?_; rintro e w1 ⟨rfl, hb1⟩)
      | (go_at_call 6; refine (few_any A n c _).mono ?_; rintro e w' ⟨rfl, rfl⟩))
    go_ret
    exact ⟨rfl, hb1⟩
end Go.Proofs.YtmcgnpdfpfgfpaaGreatDoor
