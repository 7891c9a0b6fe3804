/-
  Words for memory and contracts of small functions of the second form. Conditions: those of each lemma.
-/
import Derived.Test.YtmcgnpdfpfgfpaaGreatDoorGHsh
import Derived.Test.YtmcgnpdfpfgfpaaGreatDoorGEnt
import Derived.WalkLawsBesides
import Derived.Deep.RegionHeld3
import Derived.Lib.QuietBelow
import Derived.Deep.RegionLaw
import Derived.StillTailTactics
import Derived.StringKeys
import Derived.Laws.BitsLemmas
/-! KwW -/
namespace Go.Proofs.YtmcgnpdfpfgfpaaGreatDoor
open Go.RowKit
set_option linter.unusedVariables false

theorem slotted_ok (n : Nat) (w : World) (h1 : 1 ≤ n) (h2 : n ≤ 8) :
    Calls Tryz.prog 37 #[.int .i64 n] w fun e w' => e = .returned (.bool true) ∧ w = w' := by
  have e1 : (1 : Int) ≤ (n : Int) := by omega
  have e2 : (n : Int) ≤ 8 := by omega
  go_enter Tryz.func37, Tryz.ntmps37
  go_wp2
  go_ret
  exact ⟨rfl, rfl⟩

theorem kvalid_ok (s : ByteArray) (v : Int) (w : World) (h : okE (s, v)) :
    Calls Tryz.prog 76 #[.agg #[.string s, .int .i64 v]] w fun e w' => e = .returned (.bool true) ∧ Below w.heap.size w w' := by
  obtain ⟨h1, h2, h3, h4⟩ := h
  have h3 : 0 ≤ v := h3
  have h4 : v < 2147483647 := h4
  go_enter Tryz.func76, Tryz.ntmps76
  go_wp2_with (go_at_call 44; refine (proper_ok s _ h1 h2).mono ?_; rintro e w2 ⟨rfl, rfl⟩)
  go_ret
  exact ⟨rfl, bbox _⟩

theorem snan_any (x : ByteArray) (w : World) : Calls Tryz.prog 168 #[.string x] w fun e w' => e = .returned (.bool false) ∧ w = w' := by
  go_enter Tryz.func168, Tryz.ntmps168
  go_wp2
  go_ret
  exact ⟨by simp, rfl⟩
theorem scmp_lt (x y : ByteArray) (w : World) (h : Op.bytesLess x.toList y.toList = true) : Calls Tryz.prog 136 #[.string x, .string y] w fun e w' => e = .returned (.int .i64 (-1)) ∧ w = w' := by
  go_enter Tryz.func136, Tryz.ntmps136
  go_wp2_with (go_at_call 168; refine (snan_any _ _).mono ?_; rintro e w' ⟨rfl, rfl⟩)
  go_ret
  exact ⟨rfl, rfl⟩
theorem okey_any (s : ByteArray) (v : Int) (w : World) : Calls Tryz.prog 111 #[.agg #[.string s, .int .i64 v]] w fun e w' => e = .returned (.string s) ∧ Below w.heap.size w w' := by
  go_enter Tryz.func111, Tryz.ntmps111
  go_wp2
  go_ret
  exact ⟨rfl, bbox _⟩
/-- What by hands back. -/
def ByPost (w : World) (e : Ending) (w' : World) : Prop :=
  ∃ g, e = .returned (.func (.func 135) #[] #[.pointer (some ⟨g, 0, none⟩)]) ∧ w'.cell? ⟨g, 0, none⟩ = some (.func (.func 111) #[] #[]) ∧ w.heap.size ≤ g ∧ g < w'.heap.size ∧ Below w.heap.size w w'
theorem by_any (w : World) : Calls Tryz.prog 110 #[.func (.func 111) #[] #[]] w (ByPost w) := by
  go_enter Tryz.func110, Tryz.ntmps110
  go_wp2
  go_ret
  exact ⟨w.heap.size, rfl, ((Blk.new w _ _).cell 0).trans rfl, Nat.le_refl _, (by rw [World.size_alloc]; omega), bbox _⟩
set_option maxRecDepth 100000 in
set_option maxHeartbeats 4000000 in
theorem by1_lt (s t : ByteArray) (u v : Int) (g : Nat) (w : World) (hg : w.cell? ⟨g, 0, none⟩ = some (.func (.func 111) #[] #[])) (hgl : g < w.heap.size) (h : Op.bytesLess s.toList t.toList = true) :
    Calls Tryz.prog 135 #[.agg #[.string s, .int .i64 u], .agg #[.string t, .int .i64 v], .pointer (some ⟨g, 0, none⟩)] w fun e w' => e = .returned (.int .i64 (-1)) ∧ Below w.heap.size w w' := by
  have HLT := Lib.hid h
  clear h
  have hb1 := ballocs (bbox (w0 := w) (.cells #[.string s, .int .i64 u] 39)) (.cells #[.string t, .int .i64 v] 39)
  have hB1 := (Blk.new w 39 #[.string s, .int .i64 u]).alloc (.cells #[.string t, .int .i64 v] 39)
  have hB2 := Blk.new (w.alloc (.cells #[.string s, .int .i64 u] 39)) 39 #[.string t, .int .i64 v]
  rw [World.size_alloc] at hB2
  go_enter Tryz.func135, Tryz.ntmps135
  go_upto_region 1 with fail
  generalize hw1 : (w.alloc (.cells #[.string s, .int .i64 u] 39)).alloc (.cells #[.string t, .int .i64 v] 39) = w1 at *
  clear hw1
  have hS : ∀ W, Below w1.heap.size w1 W → W.cell? ⟨g, 0, none⟩ = some (.func (.func 111) #[] #[]) ∧ W.cell? ⟨w.heap.size, 0, none⟩ = some (.string s) ∧ W.cell? ⟨w.heap.size, 1, none⟩ = some (.int .i64 u) ∧ W.cell? ⟨w.heap.size + 1, 0, none⟩ = some (.string t) ∧ W.cell? ⟨w.heap.size + 1, 1, none⟩ = some (.int .i64 v) := fun W hW => by
    have a1 := hB1.below hW hB1.lt
    have a2 := hB2.below hW hB2.lt
    exact ⟨(hW.cell (p := ⟨g, 0, none⟩) (Nat.lt_of_lt_of_le hgl hb1.size)).trans ((hb1.cell (p := ⟨g, 0, none⟩) hgl).trans hg), (a1.cell 0).trans rfl, (a1.cell 1).trans rfl, (a2.cell 0).trans rfl, (a2.cell 1).trans rfl⟩
  have HS := Lib.hid hS
  clear hS hg
  have hS1 := HS.out w1.drew (Below.refl _ _).drew
  go_region_held3 (fun W => W.cell? ⟨g, 0, none⟩ = some (.func (.func 111) #[] #[]) ∧ W.cell? ⟨w.heap.size, 0, none⟩ = some (.string s) ∧ W.cell? ⟨w.heap.size, 1, none⟩ = some (.int .i64 u) ∧ W.cell? ⟨w.heap.size + 1, 0, none⟩ = some (.string t) ∧ W.cell? ⟨w.heap.size + 1, 1, none⟩ = some (.int .i64 v))
    (first | exact hS1 | exact hS3 | exact hS2)
    (first
      | (go_at_call 136; refine (scmp_lt s t _ HLT.out).mono ?_; rintro e w4 ⟨rfl, rfl⟩)
      | (go_at_call 111; ((with_reducible refine (okey_any s u _).mono ?_); rintro e w2 ⟨rfl, hb2⟩; have hb2w : Below w1.heap.size w1 w2 := ⟨hb2.os, hb2.tape, hb2.output, hb2.size, hb2.block⟩; have hS2 := HS.out w2 hb2w))
      | (go_at_call 111; ((with_reducible refine (okey_any t v _).mono ?_); rintro e w3 ⟨rfl, hb3⟩; have hb3w := bnext hb2w hb3; have hS3 := HS.out w3 hb3w)))
  go_wp2
  go_ret
  exact ⟨rfl, bnext hb1 hb3w⟩

set_option maxRecDepth 100000 in
set_option maxHeartbeats 4000000 in
theorem order_lt (s t : ByteArray) (u v : Int) (w : World) (h : Op.bytesLess s.toList t.toList = true) :
    Calls Tryz.prog 77 #[.agg #[.string s, .int .i64 u], .agg #[.string t, .int .i64 v]] w fun e w' => e = .returned (.int .i64 (-1)) ∧ Below w.heap.size w w' := by
  have HLT := Lib.hid h
  clear h
  have hb1 := ballocs (bbox (w0 := w) (.cells #[.string s, .int .i64 u] 39)) (.cells #[.string t, .int .i64 v] 39)
  have hB1 := (Blk.new w 39 #[.string s, .int .i64 u]).alloc (.cells #[.string t, .int .i64 v] 39)
  have hB2 := Blk.new (w.alloc (.cells #[.string s, .int .i64 u] 39)) 39 #[.string t, .int .i64 v]
  rw [World.size_alloc] at hB2
  go_enter Tryz.func77, Tryz.ntmps77
  go_upto_region 1 with fail
  generalize hw1 : (w.alloc (.cells #[.string s, .int .i64 u] 39)).alloc (.cells #[.string t, .int .i64 v] 39) = w1 at *
  clear hw1
  have hS : ∀ W, Below w1.heap.size w1 W → W.cell? ⟨w.heap.size, 0, none⟩ = some (.string s) ∧ W.cell? ⟨w.heap.size, 1, none⟩ = some (.int .i64 u) ∧ W.cell? ⟨w.heap.size + 1, 0, none⟩ = some (.string t) ∧ W.cell? ⟨w.heap.size + 1, 1, none⟩ = some (.int .i64 v) := fun W hW => by
    have a1 := hB1.below hW hB1.lt
    have a2 := hB2.below hW hB2.lt
    exact ⟨(a1.cell 0).trans rfl, (a1.cell 1).trans rfl, (a2.cell 0).trans rfl, (a2.cell 1).trans rfl⟩
  have HS := Lib.hid hS
  clear hS
  have hS1 := HS.out w1.drew (Below.refl _ _).drew
  go_region_held3 (fun W => W.cell? ⟨w.heap.size, 0, none⟩ = some (.string s) ∧ W.cell? ⟨w.heap.size, 1, none⟩ = some (.int .i64 u) ∧ W.cell? ⟨w.heap.size + 1, 0, none⟩ = some (.string t) ∧ W.cell? ⟨w.heap.size + 1, 1, none⟩ = some (.int .i64 v))
    (first | exact hS1 | exact hS3 | exact hS2)
    (first
      | (go_at_call 110; ((with_reducible refine (by_any _).mono ?_); rintro e w2 ⟨g, rfl, hg2, hgl, hgw, hb2⟩; have hb2w : Below w1.heap.size w1 w2 := ⟨hb2.os, hb2.tape, hb2.output, hb2.size, hb2.block⟩; have hS2 := HS.out w2 hb2w))
      | (go_at_call 135; ((with_reducible refine (by1_lt s t u v g _ hg2 hgw HLT.out).mono ?_); rintro e w3 ⟨rfl, hb3⟩; have hb3w := bnext hb2w hb3; have hS3 := HS.out w3 hb3w)))
  go_wp2
  go_ret
  exact ⟨rfl, bnext hb1 hb3w⟩

set_option maxRecDepth 100000 in
set_option maxHeartbeats 4000000 in
theorem ascends_ok (L : Option Addr) (m lc : Nat) (es : List (ByteArray × Int)) (w : World) {lo : Nat} (hm : m ≤ 100) (hL : Ents w lo w.heap.size L m es) (ha : Asc es) (hes : ∀ x ∈ es, okE x) :
    Calls Tryz.prog 38 #[.slice L m lc] w fun e w' => e = .returned (.bool true) ∧ Below w.heap.size w w' := by
  have HA := Lib.hid ha
  have HES := Lib.hid hes
  have HEL := Lib.hid hL.len
  clear ha hes
  go_enter Tryz.func38, Tryz.ntmps38
  go_wp2
  go_loopw [7] (fun v7 wz => ∃ k : Nat, k ≤ m ∧ v7 = .int .i64 k ∧ Below w.heap.size w wz) (fun v7 _ => m - (intOf v7).toNat)
  case atStart => exact ⟨0, Nat.zero_le _, rfl, Below.refl _ _⟩
  case round =>
  obtain ⟨k, hk, rfl, hbz⟩ := hrel
  by_cases hkm : k < m
  · have hki : (k : Int) < (m : Int) := by omega
    have hk0 : (0 : Int) ≤ (k : Int) := by omega
    obtain ⟨bL, oL, rfl, _, hbL, hcs, hcv⟩ := Ents.at_ (RowV.below hL hbz) hkm
    have HE := Lib.hid (HES.out _ (entAt_mem (l := es) (j := k) (by rw [HEL.out]; exact hkm)))
    obtain ⟨s, hse⟩ : ∃ s, (entAt es k).1 = s := ⟨_, rfl⟩
    obtain ⟨v, hve⟩ : ∃ v, (entAt es k).2 = v := ⟨_, rfl⟩
    rw [hse] at hcs
    rw [hve] at hcv
    have HOE := Lib.hid (show okE (s, v) by rw [← hse, ← hve]; exact HE.out)
    have HSE := Lib.hid hse
    clear hse hve HE
    go_upto_region 4 with fail
    have hN1 := Blk.new wr 39 #[.string s, .int .i64 v]
    have hbz1 := hbz.alloc hbz.size (.cells #[.string s, .int .i64 v] 39)
    have hbo := bbox (w0 := wr) (.cells #[.string s, .int .i64 v] 39)
    obtain ⟨B, hB⟩ : ∃ B, wr.heap.size = B := ⟨_, rfl⟩
    obtain ⟨w1, hw1⟩ : ∃ x : World, wr.alloc (.cells #[.string s, .int .i64 v] 39) = x := ⟨_, rfl⟩
    rw [hw1] at hN1 hbz1 hbo
    rw [hB] at hN1 hbo
    rw [hw1, hB]
    clear hw1 hB
    have hz0 := cell_regrown (show w1.cell? ⟨B, 0, none⟩ = some (.string s) from (hN1.cell 0).trans rfl)
    have hz1 := cell_regrown (show w1.cell? ⟨B, 1, none⟩ = some (.int .i64 v) from (hN1.cell 1).trans rfl)
    have CV := Lib.hid (show ∀ d os, Calls Tryz.prog 76 #[.agg #[.string s, .int .i64 v]] (Go.Sort.grow (redrawn w1 d) os) fun e' w'' => e' = .returned (.bool true) ∧ ∃ p : Regrown, w'' = Go.Sort.grow (redrawn w1 p.d) p.os from fun d os => Calls.regrown_of (kvalid_ok s v _ HOE.out))
    rcases Nat.eq_zero_or_pos k with hk1 | hk1
    · have hd : decide ((0 : Int) < (k : Int)) = false := by rw [hk1]; rfl
      have hd2 : decide (0 < k) = false := by rw [hk1]; rfl
      clear hk1
      refine wp_region_quiet_below (by kernel_rfl) (by kernel_rfl) ?_
      repeat (go_big_quiet_step (first | exact CV.out _ _))
      refine wpQuiet_nil ?_
      intro w14 hw14
      have hb14 : Below w1.heap.size w1 w14 := by obtain ⟨p, rfl⟩ := hw14; exact below_regrown w1 p.d p.os
      have hbz14 := bnext hbz1 hb14
      clear hw14 hb14 CV hz0 hz1
      go_wp2
      go_roundw
      case rel => exact ⟨k + 1, by omega, by go_num, hbz14⟩
      case measure => simp [intOf]; omega
    · have hk1i : (0 : Int) < (k : Int) := by omega
      obtain ⟨k1, hk1e⟩ : ∃ k1 : Nat, (k : Int) - 1 = k1 := ⟨k - 1, by omega⟩
      obtain ⟨bL2, oL2, e2, _, hbL2, hps, hpv⟩ := Ents.at_ (RowV.below hL hbz1) (show k1 < m by omega)
      injection e2 with e2
      injection e2 with e2 e3 _
      subst e2 e3
      have HLT : Hid (Op.bytesLess (entAt es k1).1.toList s.toList = true) := Lib.hid (by rw [← HSE.out]; exact HA.out.lt (by omega) (by rw [HEL.out]; exact hkm))
      obtain ⟨s1, hs1⟩ : ∃ s, (entAt es k1).1 = s := ⟨_, rfl⟩
      obtain ⟨v1, hv1⟩ : ∃ v, (entAt es k1).2 = v := ⟨_, rfl⟩
      rw [hs1] at hps HLT
      rw [hv1] at hpv
      have hk1m : (k1 : Int) < (m : Int) := by omega
      have hk10 : (0 : Int) ≤ (k1 : Int) := by omega
      have hz2 := cell_regrown hps
      have hz3 := cell_regrown hpv
      have CO := Lib.hid (show ∀ d os, Calls Tryz.prog 77 #[.agg #[.string s1, .int .i64 v1], .agg #[.string s, .int .i64 v]] (Go.Sort.grow (redrawn w1 d) os) fun e' w'' => e' = .returned (.int .i64 (-1)) ∧ ∃ p : Regrown, w'' = Go.Sort.grow (redrawn w1 p.d) p.os from fun d os => Calls.regrown_of (order_lt s1 s v1 v _ HLT.out))
      clear hs1 hv1
      refine wp_region_quiet_below (by kernel_rfl) (by kernel_rfl) ?_
      repeat (go_big_quiet_step (first | exact CV.out _ _ | exact CO.out _ _))
      refine wpQuiet_nil ?_
      intro w14 hw14
      have hb14 : Below w1.heap.size w1 w14 := by obtain ⟨p, rfl⟩ := hw14; exact below_regrown w1 p.d p.os
      have hbz14 := bnext hbz1 hb14
      clear hw14 hb14 CV CO hz0 hz1 hz2 hz3
      go_wp2
      go_roundw
      case rel => exact ⟨k + 1, by omega, by go_num, hbz14⟩
      case measure => simp [intOf]; omega
  · obtain rfl : m = k := by omega
    go_wp2
    go_ret
    exact ⟨rfl, hbz⟩
end Go.Proofs.YtmcgnpdfpfgfpaaGreatDoor

/-! KEnc -/
namespace Go.Proofs.YtmcgnpdfpfgfpaaGreatDoor
open Go.RowKit
set_option linter.unusedVariables false
theorem made_bytes (n : Nat) : (madeCells (Value.int .u8 0).cells (n * 1)).toList = byC (List.replicate n 0) := by
  simp only [madeCells, byC, Value.cells]
  simp [Nat.mod_one]
  rw [List.map_const', List.length_range]
set_option maxRecDepth 100000 in
set_option maxHeartbeats 4000000 in
theorem kenc_ok (slots : Nat) (A : Option Addr) (n c : Nat) (l : List (ByteArray × Int)) (w : World) {lo : Nat} (h1 : 1 ≤ slots) (h2 : slots ≤ 8) (hn : n ≤ slots) (hE : Ents w lo w.heap.size A n l) (ha : Asc l) (hv : ∀ e ∈ l, okE e) :
    Calls Tryz.prog 10 #[.int .i64 slots, .slice A n c] w fun e w' => e = .returned (.tuple #[.string ⟨(encB slots l).toArray⟩, .int .i64 0]) ∧ Below w.heap.size w w' := by
  obtain ⟨ib, hib, hb0', hb1', hb2'⟩ := info_parts info_byte
  have HV := Lib.hid hv
  have HA := Lib.hid ha
  have HLEN := Lib.hid hE.len
  clear hv ha
  have hni : ¬ (slots : Int) < (n : Int) := by omega
  have hns : n ≤ 100 := by omega
  obtain ⟨N, hNn⟩ : ∃ N : Nat, slots * 37 = N := ⟨_, rfl⟩
  have HN := Lib.hid hNn
  have hNw : IntKind.i64.wrap ((slots : Int) * 37) = (N : Int) := by rw [IntWalk.i64_in _ (by omega)]; omega
  have hNl : N ≤ 296 := by omega
  clear hNn
  go_enter Tryz.func10, Tryz.ntmps10
  go_upto_region 9 with (first
    | (go_at_call 37; refine (slotted_ok slots _ h1 h2).mono ?_; rintro e w2 ⟨rfl, rfl⟩)
    | (go_at_call 38
       refine (ascends_ok A n c l _ hns hE HA.out HV.out).mono ?_
       rintro e w3 ⟨rfl, hb3⟩)
    | (at_make
       refine wpList_make_full _ rfl _ _ 103 rfl w3.heap.size 5 ib (.int .u8 0) 1 Tryz.underlying103 hib hb0' hb1' .i64 .i64 N N N rfl rfl rfl rfl (by rw [hb2']; omega) (by unfold maxLen; omega) (Nat.le_refl _) ?_
       intro w4 hown4 hgr4
       have hB4 : BlkY w4 w3.heap.size (List.replicate N 0) := BlkY.of_make hown4 (made_bytes N)
       have hb4 := (Below.refl w3.heap.size w3).grown hgr4 (Nat.le_refl _) (fun k hk => by cases hk)
       clear hown4 hgr4))
  have hbw4 := bnext hb3 hb4
  have hE4 : Ents w4 lo w4.heap.size A n l := hE.upto hbw4
  go_wp2_with fail
  go_loopw [31] (fun v31 wx => ∃ i : Nat, i ≤ n ∧ v31 = .int .i64 i ∧ BlkY wx w3.heap.size (((l.take i).map slotB).flatten ++ List.replicate ((slots - i) * 37) 0) ∧ Below w3.heap.size w3 wx) (fun v31 _ => n - (intOf v31).toNat)
  case atStart => exact ⟨0, Nat.zero_le _, rfl, by rw [List.take_zero]; show BlkY w4 w3.heap.size (List.replicate ((slots - 0) * 37) 0); rw [Nat.sub_zero, HN.out]; exact hB4, hb4⟩
  case round =>
  obtain ⟨i, hi, rfl, hBx, hbx⟩ := hrel
  obtain ⟨wo, hwo⟩ : ∃ x : World, x = wr := ⟨_, rfl⟩
  subst hwo
  by_cases hin : i < n
  · have hii : (i : Int) < (n : Int) := by omega
    have hi0 : (0 : Int) ≤ (i : Int) := by omega
    have hbwx := bnext hb3 hbx
    obtain ⟨bA, oA, rfl, _, hbA, hcs0, hcv0⟩ := Ents.at_ hE hin
    have hcs := (hbwx.cell (p := ⟨bA, oA + i * 2, none⟩) hbA).trans hcs0
    have hcv := (hbwx.cell (p := ⟨bA, oA + i * 2 + 1, none⟩) hbA).trans hcv0
    obtain ⟨p, hp⟩ : ∃ p : Nat, i * 37 = p := ⟨i * 37, by omega⟩
    have hpw : IntKind.i64.wrap ((i : Int) * 37) = (p : Int) := by rw [IntWalk.i64_in _ (by omega)]; omega
    have hqw : IntKind.i64.wrap (((i : Int) + 1) * 37) = (p : Int) + 37 := by rw [IntWalk.i64_in _ (by omega)]; omega
    have HP := Lib.hid hp
    have hpN : p + 37 ≤ N := by have := HN.out; omega
    have hpN' : (p : Int) + 37 ≤ (N : Int) := by omega
    have hp0 : (0 : Int) ≤ (p : Int) := by omega
    clear hp
    have HEM := Lib.hid (HV.out (entAt l i) (entAt_mem (by rw [HLEN.out]; exact hin)))
    have HTK := Lib.hid (show ((l.take (i + 1)).map slotB).flatten = ((l.take i).map slotB).flatten ++ slotB (entAt l i) by
      rw [List.take_succ_eq_append_getElem (by rw [HLEN.out]; exact hin), List.map_append, List.flatten_append, entAt_eq (by rw [HLEN.out]; exact hin)]; simp)
    obtain ⟨s, hse⟩ : ∃ s, (entAt l i).1 = s := ⟨_, rfl⟩
    obtain ⟨v, hve⟩ : ∃ v, (entAt l i).2 = v := ⟨_, rfl⟩
    have HSE := Lib.hid hse
    have HVE := Lib.hid hve
    rw [hse] at hcs
    rw [hve] at hcv
    have hsz : s.size ≤ 32 := by rw [← hse]; exact HEM.out.2.1
    have hv0 : 0 ≤ v := by rw [← hve]; exact HEM.out.2.2.1
    have hv1 : v < 2147483647 := by rw [← hve]; exact HEM.out.2.2.2
    clear hse hve
    obtain ⟨pre, hpre⟩ : ∃ x, ((l.take i).map slotB).flatten = x := ⟨_, rfl⟩
    rw [hpre] at hBx
    have HPRE := Lib.hid hpre
    have HPL : Hid (pre.length = p) := Lib.hid (by
      rw [← hpre, slots_len (fun x hx => (HV.out x (List.take_subset _ _ hx)).2.1), List.length_take, HLEN.out, Nat.min_eq_left hi]
      exact HP.out)
    clear hpre
    obtain ⟨post, hpost⟩ : ∃ x : List UInt8, List.replicate ((slots - (i + 1)) * 37) 0 = x := ⟨_, rfl⟩
    have HPOST := Lib.hid hpost
    have hR : List.replicate ((slots - i) * 37) (0 : UInt8) = 0 :: (List.replicate s.size 0 ++ (List.replicate (36 - s.size) 0 ++ post)) := by
      rw [← hpost, List.replicate_append_replicate, List.replicate_append_replicate, ← List.replicate_succ]
      congr 1
      omega
    rw [hR] at hBx
    clear hpost hR
    obtain ⟨z, hz⟩ : ∃ z, UInt8.ofNat s.size = z := ⟨_, rfl⟩
    have HZ := Lib.hid hz
    have hzw : IntKind.u8.wrap (s.size : Int) = (z.toNat : Int) := by
      rw [← hz, IntWalk.u8_in _ (by omega)]; have h8 : (UInt8.ofNat s.size).toNat = s.size % 256 := rfl; omega
    clear hz
    have hBX := bbox (w0 := wo) (.cells #[.string s, .int .i64 v] 39)
    have hN5 := Blk.new wo 39 #[.string s, .int .i64 v]
    have hB5 : BlkY (wo.alloc (.cells #[.string s, .int .i64 v] 39)) w3.heap.size _ := BlkY.below hBx hBX
    have hfz := hB5.frozen p
    have hcx := hBx.at_ HPL.out
    have hfx := BlkY.frozen hBx p
    have hxs : (wo.alloc (.cells #[.string s, .int .i64 v] 39)).cell? ⟨wo.heap.size, 0, none⟩ = some (.string s) := (hN5.cell 0).trans rfl
    have hgb : w3.heap.size < wo.heap.size := BlkY.lt hBx
    have hse6 : (wo.setCell ⟨w3.heap.size, p, none⟩ (.int .u8 (z.toNat : Int))).heap.size = wo.heap.size := by simp [World.setCell]
    have hbx5' := hbx.setCell (p := ⟨w3.heap.size, p, none⟩) (Nat.le_refl _) (.int .u8 (z.toNat : Int))
    have hbx5 := hbx5'.alloc hbx5'.size (.cells #[.string s, .int .i64 v] 39)
    have hB6 : BlkY ((wo.setCell ⟨w3.heap.size, p, none⟩ (.int .u8 (z.toNat : Int))).alloc (.cells #[.string s, .int .i64 v] 39)).drew w3.heap.size ((pre ++ [z]) ++ (List.replicate s.size 0 ++ (List.replicate (36 - s.size) 0 ++ post))) := by
      have h := (BlkY.set_ hBx (y := z) HPL.out).below (bbox (.cells #[.string s, .int .i64 v] 39))
      rw [List.append_assoc]; exact h
    have hN6 : Blk ((wo.setCell ⟨w3.heap.size, p, none⟩ (.int .u8 (z.toNat : Int))).alloc (.cells #[.string s, .int .i64 v] 39)).drew wo.heap.size 39 #[.string s, .int .i64 v] := by
      have h := Blk.new (wo.setCell ⟨w3.heap.size, p, none⟩ (.int .u8 (z.toNat : Int))) 39 #[.string s, .int .i64 v]
      rw [hse6] at h; exact h
    have hys : ((wo.setCell ⟨w3.heap.size, p, none⟩ (.int .u8 (z.toNat : Int))).alloc (.cells #[.string s, .int .i64 v] 39)).cell? ⟨wo.heap.size, 0, none⟩ = some (.string s) := (Blk.cell hN6 0).trans rfl
    clear hse6 hbx5'
    have HPL1 : Hid ((pre ++ [z]).length = p + 1) := Lib.hid (by rw [List.length_append, HPL.out]; rfl)
    have HYS := Lib.hid hys
    clear hys
    go_upto_region 14 with fail
    obtain ⟨w6, hw6⟩ : ∃ x : World, ((wo.setCell ⟨w3.heap.size, p, none⟩ (.int .u8 (z.toNat : Int))).alloc (.cells #[.string s, .int .i64 v] 39)) = x := ⟨_, rfl⟩
    rw [hw6] at hB6 hN6 hbx5 HYS
    rw [hw6]
    have hys := HYS.out
    clear hw6 HYS
    have HB6 := Lib.hid hB6
    have HN6 := Lib.hid hN6
    have HBX5 := Lib.hid hbx5
    clear hB6 hN6 hbx5
    go_still_tail 4, (by kernel_rfl)
    go_upto_region 15 with (refine wpList_copy_text rfl (.tmp 52) (.tmp 54) 103 9 rfl Tryz.underlying103 (p + 1) 36 (N - p - 1) s (pre ++ [z]) (List.replicate s.size 0) (List.replicate (36 - s.size) 0 ++ post) HB6.out HPL1.out (List.length_replicate ..) (by show Value.slice (if N - p = 1 then _ else _) _ _ = _; rw [if_neg (by omega)]) rfl (by omega) (Nat.le_refl _) ?_; intro w7 r7 hB7 hS7 hb7)
    have hN7 : Blk w7 wo.heap.size 39 #[.string s, .int .i64 v] := Step.block hS7 HN6.out (by omega)
    have hbx7 : Below w3.heap.size w3 w7 := (below_drewN HBX5.out 1 : Below w3.heap.size w3 w6.drew).trans hb7
    have hlt7 : wo.heap.size < w7.heap.size := hN7.lt
    have hB7' : BlkY w7 w3.heap.size ((pre ++ z :: s.data.toList) ++ (List.replicate (32 - s.size) 0 ++ (List.replicate 4 0 ++ post))) := by
      have e1 : List.replicate (36 - s.size) (0 : UInt8) = List.replicate (32 - s.size) 0 ++ List.replicate 4 0 := by rw [List.replicate_append_replicate]; congr 1; omega
      rw [e1] at hB7
      simpa [List.append_assoc] using hB7
    clear hB7
    obtain ⟨pre4, hpre4⟩ : ∃ x, (pre ++ z :: s.data.toList) ++ List.replicate (32 - s.size) 0 = x := ⟨_, rfl⟩
    have hB8 : BlkY w7 w3.heap.size (pre4 ++ (List.replicate 4 0 ++ post)) := by rw [← hpre4, List.append_assoc]; exact hB7'
    have HPRE4 := Lib.hid hpre4
    have HPL4 : Hid (pre4.length = p + 33) := Lib.hid (by
      have h1 := HPL.out
      have h2 : s.data.toList.length = s.size := by rw [Array.length_toList]; rfl
      rw [← hpre4]; simp [h1]; omega)
    clear hpre4 hB7' hcx hfx hfz hxs hB5 hN5 hys
    go_wp2_with fail
    go_loopw [56] (fun v56 wx => ∃ k : Nat, k ≤ 4 ∧ v56 = .int .i64 k ∧ BlkY wx w3.heap.size (pre4 ++ ((valB v).take k ++ (List.replicate (4 - k) 0 ++ post))) ∧ Blk wx wo.heap.size 39 #[.string s, .int .i64 v] ∧ Below w3.heap.size w3 wx) (fun v56 _ => 4 - (intOf v56).toNat)
    case atStart => exact ⟨0, by omega, rfl, hB8, hN7, hbx7⟩
    case round =>
    obtain ⟨k, hk, rfl, hBk, hNk, hbk⟩ := hrel
    have hcv8 : wr.cell? ⟨wo.heap.size, 1, none⟩ = some (.int .i64 v) := (hNk.cell 1).trans rfl
    by_cases hk4 : k < 4
    · have hkl : ((valB v).take k).length = k := by rw [List.length_take]; exact Nat.min_eq_left hk
      have hke : List.replicate (4 - k) (0 : UInt8) = 0 :: List.replicate (4 - (k + 1)) 0 := by rw [← List.replicate_succ]; congr 1; omega
      have hBk' : BlkY wr w3.heap.size ((pre4 ++ (valB v).take k) ++ 0 :: (List.replicate (4 - (k + 1)) 0 ++ post)) := by
        rw [hke] at hBk
        simpa [List.append_assoc] using hBk
      have hPLk : (pre4 ++ (valB v).take k).length = p + 33 + k := by rw [List.length_append, HPL4.out, hkl]
      have hck := hBk'.at_ hPLk
      have hfk := hBk'.frozen (p + 33 + k)
      have HB := Lib.hid hBk'
      have HPLK := Lib.hid hPLk
      clear hBk hBk' hPLk hkl hke
      obtain rfl | rfl | rfl | rfl : k = 0 ∨ k = 1 ∨ k = 2 ∨ k = 3 := by omega
      · have hy : ((UInt8.ofNat (v.toNat % 256)).toNat : Int) = v % 256 := by
          have h8 : (UInt8.ofNat (v.toNat % 256)).toNat = (v.toNat % 256) % 256 := rfl
          omega
        have hS : BlkY (wr.setCell ⟨w3.heap.size, p + 33, none⟩ (.int .u8 (v % 256))) w3.heap.size (pre4 ++ ((valB v).take 1 ++ (List.replicate (4 - 1) 0 ++ post))) := by
          have h := HB.out.set_ (y := UInt8.ofNat (v.toNat % 256)) HPLK.out
          rw [hy] at h
          simpa [valB, List.append_assoc] using h
        have hNS : Blk (wr.setCell ⟨w3.heap.size, p + 33, none⟩ (.int .u8 (v % 256))) wo.heap.size 39 #[.string s, .int .i64 v] := hNk.far (by show wo.heap.size ≠ w3.heap.size; omega) _
        have HS := Lib.hid hS
        have HNS := Lib.hid hNS
        have hbS := hbk.setCell (p := ⟨w3.heap.size, p + 33, none⟩) (Nat.le_refl _) (.int .u8 (v % 256))
        clear hS hNS hy
        go_wp2
        go_roundw
        case rel => exact ⟨1, by omega, by first | rfl | go_num, HS.out, HNS.out, hbS⟩
        case measure => simp [intOf]
      · have hy : ((UInt8.ofNat (v.toNat / 256 % 256)).toNat : Int) = v / 256 % 256 := by
          have h8 : (UInt8.ofNat (v.toNat / 256 % 256)).toNat = (v.toNat / 256 % 256) % 256 := rfl
          omega
        have hS : BlkY (wr.setCell ⟨w3.heap.size, p + 34, none⟩ (.int .u8 (v / 256 % 256))) w3.heap.size (pre4 ++ ((valB v).take 2 ++ (List.replicate (4 - 2) 0 ++ post))) := by
          have h := HB.out.set_ (y := UInt8.ofNat (v.toNat / 256 % 256)) HPLK.out
          rw [hy] at h
          simpa [valB, List.append_assoc] using h
        have hNS : Blk (wr.setCell ⟨w3.heap.size, p + 34, none⟩ (.int .u8 (v / 256 % 256))) wo.heap.size 39 #[.string s, .int .i64 v] := hNk.far (by show wo.heap.size ≠ w3.heap.size; omega) _
        have HS := Lib.hid hS
        have HNS := Lib.hid hNS
        have hbS := hbk.setCell (p := ⟨w3.heap.size, p + 34, none⟩) (Nat.le_refl _) (.int .u8 (v / 256 % 256))
        clear hS hNS hy
        go_wp2
        go_roundw
        case rel => exact ⟨2, by omega, by first | rfl | go_num, HS.out, HNS.out, hbS⟩
        case measure => simp [intOf]
      · have hy : ((UInt8.ofNat (v.toNat / 65536 % 256)).toNat : Int) = v / 65536 % 256 := by
          have h8 : (UInt8.ofNat (v.toNat / 65536 % 256)).toNat = (v.toNat / 65536 % 256) % 256 := rfl
          omega
        have hS : BlkY (wr.setCell ⟨w3.heap.size, p + 35, none⟩ (.int .u8 (v / 65536 % 256))) w3.heap.size (pre4 ++ ((valB v).take 3 ++ (List.replicate (4 - 3) 0 ++ post))) := by
          have h := HB.out.set_ (y := UInt8.ofNat (v.toNat / 65536 % 256)) HPLK.out
          rw [hy] at h
          simpa [valB, List.append_assoc] using h
        have hNS : Blk (wr.setCell ⟨w3.heap.size, p + 35, none⟩ (.int .u8 (v / 65536 % 256))) wo.heap.size 39 #[.string s, .int .i64 v] := hNk.far (by show wo.heap.size ≠ w3.heap.size; omega) _
        have HS := Lib.hid hS
        have HNS := Lib.hid hNS
        have hbS := hbk.setCell (p := ⟨w3.heap.size, p + 35, none⟩) (Nat.le_refl _) (.int .u8 (v / 65536 % 256))
        clear hS hNS hy
        go_wp2
        go_roundw
        case rel => exact ⟨3, by omega, by first | rfl | go_num, HS.out, HNS.out, hbS⟩
        case measure => simp [intOf]
      · have hy : ((UInt8.ofNat (v.toNat / 16777216 % 256)).toNat : Int) = v / 16777216 := by
          have h8 : (UInt8.ofNat (v.toNat / 16777216 % 256)).toNat = (v.toNat / 16777216 % 256) % 256 := rfl
          omega
        have hS : BlkY (wr.setCell ⟨w3.heap.size, p + 36, none⟩ (.int .u8 (v / 16777216))) w3.heap.size (pre4 ++ ((valB v).take 4 ++ (List.replicate (4 - 4) 0 ++ post))) := by
          have h := HB.out.set_ (y := UInt8.ofNat (v.toNat / 16777216 % 256)) HPLK.out
          rw [hy] at h
          simpa [valB, List.append_assoc] using h
        have hNS : Blk (wr.setCell ⟨w3.heap.size, p + 36, none⟩ (.int .u8 (v / 16777216))) wo.heap.size 39 #[.string s, .int .i64 v] := hNk.far (by show wo.heap.size ≠ w3.heap.size; omega) _
        have HS := Lib.hid hS
        have HNS := Lib.hid hNS
        have hbS := hbk.setCell (p := ⟨w3.heap.size, p + 36, none⟩) (Nat.le_refl _) (.int .u8 (v / 16777216))
        clear hS hNS hy
        go_wp2
        go_roundw
        case rel => exact ⟨4, by omega, by first | rfl | go_num, HS.out, HNS.out, hbS⟩
        case measure => simp [intOf]
    · obtain rfl : k = 4 := by omega
      have hfin : BlkY wr w3.heap.size (((l.take (i + 1)).map slotB).flatten ++ List.replicate ((slots - (i + 1)) * 37) 0) := by
        rw [HTK.out, HPRE.out, HPOST.out]
        have e : slotB (entAt l i) = z :: (s.data.toList ++ (List.replicate (32 - s.size) 0 ++ valB v)) := by
          unfold slotB
          rw [HSE.out, HVE.out, HZ.out]
        rw [e]
        have h := hBk
        rw [← HPRE4.out] at h
        simpa [valB, List.append_assoc] using h
      have HF := Lib.hid hfin
      clear hfin hBk
      go_wp2
      go_roundw
      case rel => exact ⟨i + 1, by omega, by go_num, HF.out, hbk⟩
      case measure => simp [intOf]; omega
  · obtain rfl : n = i := by omega
    have hT : l.take n = l := List.take_of_length_le (by rw [HLEN.out]; exact Nat.le_refl _)
    have hBF : BlkY wo w3.heap.size (encB slots l) := by
      unfold encB
      rw [hT] at hBx
      rw [HLEN.out]; exact hBx
    have hEL : (encB slots l).length = N := by rw [encB_len (fun e he => (HV.out e he).2.1) (by rw [HLEN.out]; exact hn), HN.out]
    have hst := hBF.text 103 9 Tryz.underlying103 Tryz.underlying5 Tryz.underlying9 (c := N) hEL
    clear hEL hBF hT hBx
    go_wp2
    go_ret2
    exact ⟨rfl, bnext hb3 hbx⟩
end Go.Proofs.YtmcgnpdfpfgfpaaGreatDoor

/-! KDec -/
namespace Go.Proofs.YtmcgnpdfpfgfpaaGreatDoor
open Go.RowKit
set_option linter.unusedVariables false
/-- Byte k of a text, as a number; 0 behind its end. -/
def bt (s : ByteArray) (k : Nat) : Int := if h : k < s.size then ((s[k]'h).toNat : Int) else 0
theorem get_bt (s : ByteArray) : ∀ (n : Nat) (h : n < s.size), ((s[n]'h).toNat : Int) = bt s n := fun n h => by unfold bt; rw [dif_pos h]
theorem bt_list (L : List UInt8) (k : Nat) : bt (⟨L.toArray⟩ : ByteArray) k = ((L.getD k 0).toNat : Int) := by
  unfold bt
  by_cases h : k < L.length
  · rw [dif_pos (show k < (⟨L.toArray⟩ : ByteArray).size from by show k < L.toArray.size; rw [List.size_toArray]; exact h)]
    rw [List.getD_eq_getElem?_getD, List.getElem?_eq_getElem h]
    rfl
  · rw [dif_neg (show ¬ k < (⟨L.toArray⟩ : ByteArray).size from by show ¬ k < L.toArray.size; rw [List.size_toArray]; exact h)]
    rw [List.getD_eq_getElem?_getD, List.getElem?_eq_none (by omega)]
    rfl
theorem ba_cut (L : List UInt8) (a b : Nat) : (⟨L.toArray⟩ : ByteArray).extract a b = ⟨((L.take b).drop a).toArray⟩ := by
  apply ByteArray.ext
  rw [ByteArray.data_extract]
  simp [List.drop_take]
theorem slotB_cut {l : List (ByteArray × Int)} (hv : ∀ e ∈ l, e.1.size ≤ 32) (slots : Nat) {i : Nat} (hi : i < l.length) : ((encB slots l).take (i * 37 + 37)).drop (i * 37) = slotB (entAt l i) := by
  have h1 : encB slots l = ((l.take i).map slotB).flatten ++ (slotB (entAt l i) ++ (((l.drop (i + 1)).map slotB).flatten ++ List.replicate ((slots - l.length) * 37) 0)) := by
    have h0 : l = l.take i ++ entAt l i :: l.drop (i + 1) := by rw [entAt_eq hi, ← List.drop_eq_getElem_cons hi, List.take_append_drop]
    have h4 : (l.map slotB).flatten = ((l.take i ++ entAt l i :: l.drop (i + 1)).map slotB).flatten := by rw [← h0]
    unfold encB
    rw [h4, List.map_append, List.flatten_append, List.map_cons, List.flatten_cons]
    simp only [List.append_assoc]
  have h2 : (((l.take i).map slotB).flatten).length = i * 37 := by
    rw [slots_len fun e he => hv e (List.take_subset _ _ he), List.length_take, Nat.min_eq_left (by omega)]
  have h3 : (slotB (entAt l i)).length = 37 := slotB_len (hv _ (entAt_mem hi))
  rw [h1, ← List.append_assoc, List.take_append_of_le_length (by rw [List.length_append]; omega), List.take_of_length_le (by rw [List.length_append]; omega), List.drop_left' h2]
theorem encB_end {l : List (ByteArray × Int)} (hv : ∀ e ∈ l, e.1.size ≤ 32) (slots : Nat) (hl : l.length < slots) : ((encB slots l).take (l.length * 37 + 37)).drop (l.length * 37) = List.replicate 37 0 := by
  have h1 : encB slots l = (l.map slotB).flatten ++ (List.replicate 37 0 ++ List.replicate ((slots - l.length) * 37 - 37) 0) := by
    unfold encB
    rw [List.replicate_append_replicate]
    congr 2; omega
  have h2 : ((l.map slotB).flatten).length = l.length * 37 := slots_len hv
  rw [h1, ← List.append_assoc, List.take_append_of_le_length (by rw [List.length_append, List.length_replicate]; omega), List.take_of_length_le (by rw [List.length_append, List.length_replicate]; omega), List.drop_left' h2]
theorem slotB_key {e : ByteArray × Int} : ((slotB e).take (1 + e.1.size)).drop 1 = e.1.data.toList := by
  have h2 : e.1.data.toList.length = e.1.size := by rw [Array.length_toList]; rfl
  unfold slotB
  rw [Nat.add_comm, List.take_succ_cons, List.drop_succ_cons, List.drop_zero, List.take_left' h2]
theorem slotB_val {e : ByteArray × Int} (h : e.1.size ≤ 32) (k : Nat) : (slotB e).getD (33 + k) 0 = (valB e.2).getD k 0 := by
  have h2 : e.1.data.toList.length = e.1.size := by rw [Array.length_toList]; rfl
  unfold slotB
  rw [show 33 + k = (32 + k) + 1 by omega, List.getD_cons_succ, ← List.append_assoc, List.getD_eq_getElem?_getD, List.getD_eq_getElem?_getD, List.getElem?_append_right (by simp [h2]; omega)]
  congr 2
  simp [h2]; omega

theorem slot_facts (kk : ByteArray) (v : Int) (t : ByteArray) (hk1 : 1 ≤ kk.size) (hk2 : kk.size ≤ 32) (hv0 : 0 ≤ v) (hv1 : v < 2147483647) (ht : t = ⟨(slotB (kk, v)).toArray⟩) :
    t.size = 37 ∧ bt t 0 = (kk.size : Int) ∧ t.extract 1 (1 + kk.size) = kk ∧ bt t 33 = v % 256 ∧ bt t 34 = v / 256 % 256 ∧ bt t 35 = v / 65536 % 256 ∧ bt t 36 = v / 16777216 := by
  have hbv : ∀ k, bt t (33 + k) = (((valB v).getD k 0).toNat : Int) := fun k => by
    rw [ht, bt_list, slotB_val hk2]
  refine ⟨?_, ?_, ?_, ?_, ?_, ?_, ?_⟩
  · rw [ht]
    show (slotB (kk, v)).toArray.size = 37
    rw [List.size_toArray, slotB_len hk2]
  · rw [ht, bt_list]
    have h8 : ((slotB (kk, v)).getD 0 0).toNat = kk.size % 256 := rfl
    rw [h8]; omega
  · rw [ht, ba_cut]
    have h := slotB_key (e := (kk, v))
    rw [show 1 + kk.size = 1 + (kk, v).1.size from rfl, h]
  · have h := hbv 0
    have h8 : ((valB v).getD 0 0).toNat = (v.toNat % 256) % 256 := rfl
    rw [h8] at h
    rw [h]; omega
  · have h := hbv 1
    have h8 : ((valB v).getD 1 0).toNat = (v.toNat / 256 % 256) % 256 := rfl
    rw [h8] at h
    rw [h]; omega
  · have h := hbv 2
    have h8 : ((valB v).getD 2 0).toNat = (v.toNat / 65536 % 256) % 256 := rfl
    rw [h8] at h
    rw [h]; omega
  · have h := hbv 3
    have h8 : ((valB v).getD 3 0).toNat = (v.toNat / 16777216 % 256) % 256 := rfl
    rw [h8] at h
    rw [h]; omega

/-- What the four bytes build up, the last first. -/
theorem slot_steps (kk : ByteArray) (v : Int) (t : ByteArray) (hk1 : 1 ≤ kk.size) (hk2 : kk.size ≤ 32) (hv0 : 0 ≤ v) (hv1 : v < 2147483647) (ht : t = ⟨(slotB (kk, v)).toArray⟩) :
    ∃ f : Nat → Int, f 4 = 0 ∧ f 0 = v ∧ ∀ k, k < 4 → f k = f (k + 1) * 256 + bt t (33 + k) ∧ 0 ≤ f (k + 1) ∧ f (k + 1) < 8388608 ∧ 0 ≤ bt t (33 + k) ∧ bt t (33 + k) < 256 := by
  obtain ⟨_, _, _, h0, h1, h2, h3⟩ := slot_facts kk v t hk1 hk2 hv0 hv1 ht
  refine ⟨fun k => match k with | 0 => v | 1 => v / 256 | 2 => v / 65536 | 3 => v / 16777216 | _ => 0, rfl, rfl, fun k hk => ?_⟩
  obtain rfl | rfl | rfl | rfl : k = 0 ∨ k = 1 ∨ k = 2 ∨ k = 3 := by omega
  · show v = v / 256 * 256 + bt t 33 ∧ 0 ≤ v / 256 ∧ v / 256 < 8388608 ∧ 0 ≤ bt t 33 ∧ bt t 33 < 256
    rw [h0]
    clear h0 h1 h2 h3
    omega
  · show v / 256 = v / 65536 * 256 + bt t 34 ∧ 0 ≤ v / 65536 ∧ v / 65536 < 8388608 ∧ 0 ≤ bt t 34 ∧ bt t 34 < 256
    rw [h1]
    clear h0 h1 h2 h3
    omega
  · show v / 65536 = v / 16777216 * 256 + bt t 35 ∧ 0 ≤ v / 16777216 ∧ v / 16777216 < 8388608 ∧ 0 ≤ bt t 35 ∧ bt t 35 < 256
    rw [h2]
    clear h0 h1 h2 h3
    omega
  · show v / 16777216 = 0 * 256 + bt t 36 ∧ (0 : Int) ≤ 0 ∧ (0 : Int) < 8388608 ∧ 0 ≤ bt t 36 ∧ bt t 36 < 256
    rw [h3]
    clear h0 h1 h2 h3
    omega

theorem or8 (x y : Int) (h1 : 0 ≤ x) (h2 : x < 8388608) (h3 : 0 ≤ y) (h4 : y < 256) : bits BinOp.or IntKind.i64 (x * 256) y = x * 256 + y :=
  bits_join .i64 63 (by decide) (fun n g1 g2 => IntWalk.i64_in n (by omega)) 8 (x * 256) y (by omega) (by omega) (by omega) h3 (by omega) (by omega)

set_option maxRecDepth 100000 in
set_option maxHeartbeats 4000000 in
theorem kdec_ok (slots : Nat) (n : Nat) (l : List (ByteArray × Int)) (s : ByteArray) (w : World) (h1 : 1 ≤ slots) (h2 : slots ≤ 8) (hl : l.length = n) (hn : n ≤ slots) (ha : Asc l) (hv : ∀ e ∈ l, okE e) (hs : s = ⟨(encB slots l).toArray⟩) :
    Calls Tryz.prog 17 #[.int .i64 slots, .string s] w fun e w' => ∃ A c, e = .returned (.tuple #[.slice A n c, .int .i64 0]) ∧ OwnE w' w.heap.size A n c l ∧ Below w.heap.size w w' := by
  have HV := Lib.hid hv
  have HA := Lib.hid ha
  have HLEN := Lib.hid hl
  have HS := Lib.hid hs
  obtain ⟨N, hNn⟩ : ∃ N : Nat, slots * 37 = N := ⟨_, rfl⟩
  have HN := Lib.hid hNn
  have hNw : IntKind.i64.wrap ((slots : Int) * 37) = (N : Int) := by rw [IntWalk.i64_in _ (by omega)]; omega
  have hsz : s.size = N := by
    rw [hs]
    show (encB slots l).toArray.size = N
    rw [List.size_toArray, encB_len (fun e he => (hv e he).2.1) (by omega), hNn]
  have hNl : N ≤ 296 := by omega
  have hml : s.size ≤ maxLen := by unfold maxLen; omega
  clear hNn hv ha hl hs
  go_enter Tryz.func17, Tryz.ntmps17
  go_upto_region 8 with ((go_at_call 37; refine (slotted_ok slots _ h1 h2).mono ?_; rintro e w2 ⟨rfl, rfl⟩))
  go_wp2_with fail
  go_loopw [7, 25] (fun v7 v25 wx => ∃ (i : Nat) (A : Option Addr) (c : Nat), i ≤ n ∧ v7 = .slice A i c ∧ v25 = .int .i64 i ∧ OwnE wx w.heap.size A i c (l.take i) ∧ Below w.heap.size w wx) (fun _ v25 _ => n - (intOf v25).toNat)
  case atStart => exact ⟨0, none, 0, Nat.zero_le _, rfl, rfl, OwnE.nil_, Below.refl _ _⟩
  case round =>
  obtain ⟨i, A, c, hi, rfl, rfl, hE, hbx⟩ := hrel
  obtain ⟨wo, hwo⟩ : ∃ x : World, x = wr := ⟨_, rfl⟩
  subst hwo
  by_cases hin : i < n
  · have hii : (i : Int) < (slots : Int) := by omega
    have hi0 : (0 : Int) ≤ (i : Int) := by omega
    obtain ⟨p, hp⟩ : ∃ p : Nat, i * 37 = p := ⟨i * 37, by omega⟩
    have hpw : IntKind.i64.wrap ((i : Int) * 37) = (p : Int) := by rw [IntWalk.i64_in _ (by omega)]; omega
    have hqw : IntKind.i64.wrap (((i : Int) + 1) * 37) = (p : Int) + 37 := by rw [IntWalk.i64_in _ (by omega)]; omega
    have HP := Lib.hid hp
    have hpN : p + 37 ≤ N := by have := HN.out; omega
    have hpN' : (p : Int) + 37 ≤ (N : Int) := by omega
    have hp0 : (0 : Int) ≤ (p : Int) := by omega
    clear hp
    go_upto_region 11 with fail
    have HEM := Lib.hid (HV.out (entAt l i) (entAt_mem (by rw [HLEN.out]; exact hin)))
    have HTK := Lib.hid (show l.take (i + 1) = l.take i ++ [entAt l i] by rw [List.take_succ_eq_append_getElem (by rw [HLEN.out]; exact hin), entAt_eq (by rw [HLEN.out]; exact hin)])
    obtain ⟨t, ht⟩ : ∃ t, s.extract p (p + 37) = t := ⟨_, rfl⟩
    rw [ht]
    have htl : t = ⟨(slotB (entAt l i)).toArray⟩ := by
      rw [← ht, HS.out, ba_cut, ← HP.out, slotB_cut (fun e he => (HV.out e he).2.1) slots (by rw [HLEN.out]; exact hin)]
    obtain ⟨kk, hkk⟩ : ∃ s, (entAt l i).1 = s := ⟨_, rfl⟩
    obtain ⟨v, hve⟩ : ∃ v, (entAt l i).2 = v := ⟨_, rfl⟩
    have hk1 : 1 ≤ kk.size := by rw [← hkk]; exact HEM.out.1
    have hk2 : kk.size ≤ 32 := by rw [← hkk]; exact HEM.out.2.1
    have hv0 : 0 ≤ v := by rw [← hve]; exact HEM.out.2.2.1
    have hv1 : v < 2147483647 := by rw [← hve]; exact HEM.out.2.2.2
    have HENT := Lib.hid (show entAt l i = (kk, v) by rw [← hkk, ← hve])
    have hb := get_bt t
    obtain ⟨htz, hb0, hkey, -⟩ := slot_facts kk v t hk1 hk2 hv0 hv1 (by rw [htl, HENT.out])
    obtain ⟨f, hf4, hf0, hfs⟩ := slot_steps kk v t hk1 hk2 hv0 hv1 (by rw [htl, HENT.out])
    have HF4 := Lib.hid hf4
    have HF0 := Lib.hid hf0
    have HFS := Lib.hid hfs
    clear ht htl hkk hve hf4 hf0 hfs
    have hk0i : (kk.size : Int) ≠ 0 := by omega
    have hkn0 : ((kk.size : Int) == 0) = false := beq_eq_false_iff_ne.2 hk0i
    have hk32 : ¬ (32 : Int) < (kk.size : Int) := by omega
    have hBX := bbox (w0 := wo) (.cells #[.string kk, .int .i64 0] 39)
    have hN5 := Blk.new wo 39 #[.string kk, .int .i64 0]
    have hE5 := own_below hE hBX
    have hbx5 := hbx.alloc hbx.size (.cells #[.string kk, .int .i64 0] 39)
    have HAP : Hid ((Value.slice A i c).ownBlock ≠ some wo.heap.size) := Lib.hid fun e => by have := (World.ownsRow.lt hE _ e).2; omega
    have HN5 := Lib.hid hN5
    have HE5 := Lib.hid hE5
    have hwz := hbx.size
    clear hN5 hE5 hBX
    go_upto_region 16 with fail
    go_wp2_with fail
    go_loopw [12] (fun v12 wx => ∃ k : Nat, k ≤ 4 ∧ v12 = .int .i64 ((k : Int) - 1) ∧ Blk wx wo.heap.size 39 #[.string kk, .int .i64 (f k)] ∧ OwnE wx w.heap.size A i c (l.take i) ∧ Below w.heap.size w wx) (fun v12 _ => (intOf v12 + 1).toNat)
    case atStart => exact ⟨4, by omega, rfl, by rw [HF4.out]; exact HN5.out, HE5.out, hbx5⟩
    case round =>
    clear HN5 HE5 hbx5
    obtain ⟨k, hk, rfl, hNk, hEk, hbk⟩ := hrel
    by_cases hk0 : 0 < k
    · have hk1i : (1 : Int) ≤ (k : Int) := by omega
      obtain ⟨q, rfl⟩ : ∃ q, k = q + 1 := ⟨k - 1, by omega⟩
      obtain ⟨hst, ha0, ha1, hy0, hy1⟩ := HFS.out q (by omega)
      obtain ⟨y, hye⟩ : ∃ y, bt t (33 + q) = y := ⟨_, rfl⟩
      obtain ⟨x, hxe⟩ : ∃ x, f (q + 1) = x := ⟨_, rfl⟩
      rw [hye, hxe] at hst
      rw [hye] at hy0 hy1
      rw [hxe] at ha0 ha1 hNk
      have hor : bits BinOp.or IntKind.i64 (x * 256) y = f q := by rw [or8 x y ha0 ha1 hy0 hy1, hst]
      have HAPk := HAP.out
      have HXE := Lib.hid hxe
      clear hst hxe
      have hqi : ((q + 1 : Nat) : Int) - 1 = (q : Int) := by omega
      rw [hqi]
      have hcv1 : wr.cell? ⟨wo.heap.size, 1, none⟩ = some (.int .i64 x) := (hNk.cell 1).trans rfl
      have hfz := hNk.frozen 1
      have hN9 : Blk (wr.setCell ⟨wo.heap.size, 1, none⟩ (.int .i64 (f q))) wo.heap.size 39 #[.string kk, .int .i64 (f q)] := hNk.set_ 1 _
      have hE9 : OwnE (wr.setCell ⟨wo.heap.size, 1, none⟩ (.int .i64 (f q))) w.heap.size A i c (l.take i) := ownsRow_setCell_other hEk (a := ⟨wo.heap.size, 1, none⟩) HAPk _
      have hb9 := hbk.setCell (p := ⟨wo.heap.size, 1, none⟩) hwz (.int .i64 (f q))
      have HN9 := Lib.hid hN9
      have HE9 := Lib.hid hE9
      have HB9 := Lib.hid hb9
      clear hqi hN9 hE9 hb9
      obtain rfl | rfl | rfl | rfl : q = 0 ∨ q = 1 ∨ q = 2 ∨ q = 3 := by omega
      · have hy3 : bt t 33 = y := hye
        clear hye
        go_upto_region 19 with fail
        go_region
        go_wp2
        go_roundw
        case rel => exact ⟨0, by omega, by first | rfl | go_num, HN9.out, HE9.out, below_drewN HB9.out 1⟩
        case measure => simp [intOf]
      · have hy3 : bt t 34 = y := hye
        clear hye
        go_upto_region 19 with fail
        go_region
        go_wp2
        go_roundw
        case rel => exact ⟨1, by omega, by first | rfl | go_num, HN9.out, HE9.out, below_drewN HB9.out 1⟩
        case measure => simp [intOf]
      · have hy3 : bt t 35 = y := hye
        clear hye
        go_upto_region 19 with fail
        go_region
        go_wp2
        go_roundw
        case rel => exact ⟨2, by omega, by first | rfl | go_num, HN9.out, HE9.out, below_drewN HB9.out 1⟩
        case measure => simp [intOf]
      · have hy3 : bt t 36 = y := hye
        clear hye
        go_upto_region 19 with fail
        go_region
        go_wp2
        go_roundw
        case rel => exact ⟨3, by omega, by first | rfl | go_num, HN9.out, HE9.out, below_drewN HB9.out 1⟩
        case measure => simp [intOf]
    · obtain rfl : k = 0 := by omega
      have hc0 : wr.cell? ⟨wo.heap.size, 0, none⟩ = some (.string kk) := (hNk.cell 0).trans rfl
      have hc1 : wr.cell? ⟨wo.heap.size, 1, none⟩ = some (.int .i64 v) := by rw [← HF0.out]; exact (hNk.cell 1).trans rfl
      have hO := own_below hEk (bbox (.cells #[.string kk, .int .i64 v] 39))
      have hNz := Blk.new wr 39 #[.string kk, .int .i64 v]
      have hbo := hbk.alloc hbk.size (.cells #[.string kk, .int .i64 v] 39)
      have hleo := hbo.size
      clear hNk hEk
      go_wp2_with (at_builtin
                   refine wpList_append_ent rfl _ _ 33 rfl Tryz.underlying33 w.heap.size A i c (l.take i) rfl hO wr.heap.size 1 (kk, v) rfl ((hNz.cell 0).trans rfl) ((hNz.cell 1).trans rfl) (by omega) hleo ?_
                   intro P7 c7 w7 hown7 hgr7 hb7 hab7)
      go_roundw
      case rel => exact ⟨i + 1, P7, c7, by omega, rfl, by go_num, by rw [HTK.out, HENT.out]; exact hown7, hbo.trans hb7⟩
      case measure => simp [intOf]; omega
  · obtain rfl : n = i := by omega
    have hT : l.take n = l := List.take_of_length_le (by rw [HLEN.out]; exact Nat.le_refl _)
    rw [hT] at hE
    have HE := Lib.hid hE
    have hEN : Ents wo 0 wo.heap.size A n l := RowV.low (OwnE.ents hE) (Nat.zero_le _)
    clear hE hT
    by_cases hns : n < slots
    · have hii : (n : Int) < (slots : Int) := by omega
      have hi0 : (0 : Int) ≤ (n : Int) := by omega
      obtain ⟨p, hp⟩ : ∃ p : Nat, n * 37 = p := ⟨n * 37, by omega⟩
      have hpw : IntKind.i64.wrap ((n : Int) * 37) = (p : Int) := by rw [IntWalk.i64_in _ (by omega)]; omega
      have hqw : IntKind.i64.wrap (((n : Int) + 1) * 37) = (p : Int) + 37 := by rw [IntWalk.i64_in _ (by omega)]; omega
      have HP := Lib.hid hp
      have hpN : p + 37 ≤ N := by have := HN.out; omega
      have hpN' : (p : Int) + 37 ≤ (N : Int) := by omega
      have hp0 : (0 : Int) ≤ (p : Int) := by omega
      clear hp
      go_upto_region 11 with fail
      obtain ⟨t, ht⟩ : ∃ t, s.extract p (p + 37) = t := ⟨_, rfl⟩
      rw [ht]
      have htl : t = ⟨(List.replicate 37 (0 : UInt8)).toArray⟩ := by
        have h := encB_end (l := l) (fun e he => (HV.out e he).2.1) slots (by rw [HLEN.out]; exact hns)
        rw [HLEN.out, HP.out] at h
        rw [← ht, HS.out, ba_cut, h]
      have htz : t.size = 37 := by
        rw [htl]
        show (List.replicate 37 (0 : UInt8)).toArray.size = 37
        rw [List.size_toArray, List.length_replicate]
      have hb := get_bt t
      have hb0 : bt t 0 = 0 := by rw [htl, bt_list]; rfl
      clear ht htl
      go_wp2_with (go_at_call 10
                   refine (kenc_ok slots A n c l _ h1 h2 hn hEN HA.out HV.out).mono ?_
                   rintro e w9 ⟨rfl, hb9⟩
                   rw [← HS.out])
      go_ret2
      exact ⟨A, c, rfl, own_below HE.out hb9, bnext hbx hb9⟩
    · have hii : ¬ (n : Int) < (slots : Int) := by omega
      go_wp2_with (go_at_call 10
                   refine (kenc_ok slots A n c l _ h1 h2 hn hEN HA.out HV.out).mono ?_
                   rintro e w9 ⟨rfl, hb9⟩
                   rw [← HS.out])
      go_ret2
      exact ⟨A, c, rfl, own_below HE.out hb9, bnext hbx hb9⟩
end Go.Proofs.YtmcgnpdfpfgfpaaGreatDoor
