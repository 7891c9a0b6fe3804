/-
  What unique's Decode hands back for valid arguments. Conditions: the cells read as their values and marks; the variable errWrong holds its failure.
-/
import Derived.Test.YteipcjmkhacdgaaDoorUDec
import Derived.Deep.RegionWith
namespace Go.Proofs.YteipcjmkhacdgaaDoor
open Go.RowKit
set_option linter.unusedVariables false

theorem Ints.setFar {w : World} {B n : Nat} {A : Option Addr} {xs : List Int} (h : Ints w B A n xs) (Q i : Nat) (v : Value) (hQ : ∀ b o s, A = some ⟨b, o, s⟩ → 0 < n → b ≠ Q) : Ints (w.setCell ⟨Q, i, none⟩ v) B A n xs := ⟨h.1, fun h0 => by
  obtain ⟨b, o, e, hb, hc⟩ := h.2 h0
  have hne := hQ b o none e h0
  exact ⟨b, o, e, hb, fun j hj => (World.cell?_setCell_other _ _ _ _ (fun e => hne (by injection e with e; exact e.symm))).trans (hc j hj)⟩⟩

set_option maxRecDepth 100000 in
set_option maxHeartbeats 1600000 in
theorem uDecode_few (p : Int) (A : Option Addr) (m c k : Nat) (vs : List Int) (bs : List Bool) (w : World) (hok : okP p = true) (h : Cel w w.heap.size A m vs bs) (hm : m ≤ 32) (hmp : (m : Int) < p) (hkn : knOk p vs bs) (hk : 1 ≤ k) (hkm : k ≤ m) (hkl : (knL vs bs).length < k) (hW : ErrW w) :
    Calls Tryd.prog 18 #[.agg #[.int .i64 p], .slice A m c, .int .i64 k] w fun e w' => e = .returned (.tuple #[.agg #[.slice none 0 0, .slice none 0 0], .int .i64 11]) ∧ Below w.heap.size w w' := by
  have hb0 : Below w.heap.size w ((w.alloc (.cells #[.int .i64 p] 24)).alloc (.cells #[.slice none 0 0, .slice none 0 0] 27)) := ballocs (bbox _) _
  have hR0 := Blk.new1 w (.cells #[.int .i64 p] 24) 27 #[.slice none 0 0, .slice none 0 0]
  have hS0 := (h.below hb0).more hb0.size
  have hE0 := hW.below hb0
  clear h hW
  go_enter Tryd.func18, Tryd.ntmps18
  go_upto_region 4 with (first
    | (go_at_call 38; (refine (udecode_few p A m c k vs bs _ hok hS0 hm hmp hkn hk hkm hkl).mono ?_); rintro e w1 ⟨rfl, hb1⟩
       have hbb1 := ballocs (bnext hb0 hb1) (.cells #[.slice none 0 0, .slice none 0 0] 27)
       have hR1 := (hR0.below hb1 hR0.lt).alloc (.cells #[.slice none 0 0, .slice none 0 0] 27)
       have hE1 := (hE0.below hb1).below (bbox (.cells #[.slice none 0 0, .slice none 0 0] 27))
       have hN1 := Blk.new w1 27 #[.slice none 0 0, .slice none 0 0]
       have hQl1 := (hR0.below hb1 hR0.lt).lt
       have hgl := hE1.1)
    | (go_at_call 39; refine (is_few _).mono ?_; rintro e w' ⟨rfl, rfl⟩))
  obtain ⟨W, hW⟩ : ∃ W, w1.alloc (.cells #[.slice none 0 0, .slice none 0 0] 27) = W := ⟨_, rfl⟩
  rw [hW] at hbb1 hR1 hE1 hN1 ⊢
  have hS1 : W.cell? ⟨w1.heap.size, 0, none⟩ = some (.slice none 0 0) ∧ W.cell? ⟨w1.heap.size, 1, none⟩ = some (.slice none 0 0) := ⟨(hN1.cell 0).trans rfl, (hN1.cell 1).trans rfl⟩
  have hQl : w.heap.size + 1 < w1.heap.size := hQl1
  have hN2 : Blk W w1.heap.size 27 #[.slice none 0 0, .slice none 0 0] := hN1
  have hk0 := hS1.1
  have hk1 := hS1.2
  have hz0 : W.cell? ⟨w.heap.size + 1, 0, none⟩ = some (.slice none 0 0) := (hR1.cell 0).trans rfl
  have hf0 := hR1.frozen 0
  have hz1 : W.cell? ⟨w.heap.size + 1, 1, none⟩ = some (.slice none 0 0) := (hR1.cell 1).trans rfl
  have hf1 := hR1.frozen 1
  clear hS1 hW
  go_region_held3 (fun w' => w'.cell? ⟨w1.heap.size, 0, none⟩ = some (.slice none 0 0) ∧ w'.cell? ⟨w1.heap.size, 1, none⟩ = some (.slice none 0 0)) (first | exact ⟨hk0, hk1⟩ | exact ⟨hm0, hm1⟩ | exact ⟨hp0, hp1⟩)
    (first
      | (go_at_call 40; refine (number_few _).mono ?_; rintro e w5 ⟨rfl, hb5⟩
         have hm0 : w5.cell? ⟨w1.heap.size, 0, none⟩ = some (.slice none 0 0) := ((hN2.drew.below hb5 hN2.lt).cell 0).trans rfl
         have hm1 : w5.cell? ⟨w1.heap.size, 1, none⟩ = some (.slice none 0 0) := ((hN2.drew.below hb5 hN2.lt).cell 1).trans rfl
         have hR5 := hR1.drew.below hb5 hR1.lt
         have hy0 : w5.cell? ⟨w.heap.size + 1, 0, none⟩ = some (.slice none 0 0) := (hR5.cell 0).trans rfl
         have hg0 := hR5.frozen 0
         have hy1 : w5.cell? ⟨w.heap.size + 1, 1, none⟩ = some (.slice none 0 0) := (hR5.cell 1).trans rfl
         have hg1 := hR5.frozen 1
         have hbb5 : Below w.heap.size w w5 := hbb1.drew.trans (hb5.mono hbb1.size)
         have hNf := ((hN2.drew.below hb5 hN2.lt).far (p := ⟨w.heap.size + 1, 0, none⟩) (by show w1.heap.size ≠ w.heap.size + 1; omega) (.slice none 0 0)).far (p := ⟨w.heap.size + 1, 1, none⟩) (by show w1.heap.size ≠ w.heap.size + 1; omega) (.slice none 0 0)
         have hp0 : ((w5.setCell ⟨w.heap.size + 1, 0, none⟩ (.slice none 0 0)).setCell ⟨w.heap.size + 1, 1, none⟩ (.slice none 0 0)).cell? ⟨w1.heap.size, 0, none⟩ = some (.slice none 0 0) := (hNf.cell 0).trans rfl
         have hp1 : ((w5.setCell ⟨w.heap.size + 1, 0, none⟩ (.slice none 0 0)).setCell ⟨w.heap.size + 1, 1, none⟩ (.slice none 0 0)).cell? ⟨w1.heap.size, 1, none⟩ = some (.slice none 0 0) := (hNf.cell 1).trans rfl))
  go_wp2
  have hFB := (hR5.set_ 0 (.slice none 0 0)).set_ 1 (.slice none 0 0)
  have hfin0 : ((w5.setCell ⟨w.heap.size + 1, 0, none⟩ (.slice none 0 0)).setCell ⟨w.heap.size + 1, 1, none⟩ (.slice none 0 0)).cell? ⟨w.heap.size + 1, 0, none⟩ = some (.slice none 0 0) := (hFB.cell 0).trans rfl
  have hfin1 : ((w5.setCell ⟨w.heap.size + 1, 0, none⟩ (.slice none 0 0)).setCell ⟨w.heap.size + 1, 1, none⟩ (.slice none 0 0)).cell? ⟨w.heap.size + 1, 1, none⟩ = some (.slice none 0 0) := (hFB.cell 1).trans rfl
  refine bodyPost_ret (v := .tuple #[.agg #[.slice none 0 0, .slice none 0 0], .int .i64 11]) (by simp [results, Tryd.results18, go_sem, hfin0, hfin1]) rfl ⟨rfl, (hbb5.setCell (p := ⟨w.heap.size + 1, 0, none⟩) (by show w.heap.size ≤ w.heap.size + 1; omega) _).setCell (p := ⟨w.heap.size + 1, 1, none⟩) (by show w.heap.size ≤ w.heap.size + 1; omega) _⟩

set_option maxRecDepth 100000 in
set_option maxHeartbeats 1600000 in
theorem uDecode_ok (p : Int) (A : Option Addr) (m c k : Nat) (vs : List Int) (bs : List Bool) (w : World) (hok : okP p = true) (h : Cel w w.heap.size A m vs bs) (hm : m ≤ 32) (hmp : (m : Int) < p) (hkn : knOk p vs bs) (hk : 1 ≤ k) (hkm : k ≤ m) (hkl : k ≤ (knL vs bs).length) (hW : ErrW w) :
    Calls Tryd.prog 18 #[.agg #[.int .i64 p], .slice A m c, .int .i64 k] w (UDPost (.int .i64 0) (.int .i64 12) p k (((knL vs bs).length - k) / 2) (knL vs bs) w) := by
  have hb0 : Below w.heap.size w ((w.alloc (.cells #[.int .i64 p] 24)).alloc (.cells #[.slice none 0 0, .slice none 0 0] 27)) := ballocs (bbox _) _
  have hR0 := Blk.new1 w (.cells #[.int .i64 p] 24) 27 #[.slice none 0 0, .slice none 0 0]
  have hS0 := (h.below hb0).more hb0.size
  have hE0 := hW.below hb0
  have HK := Lib.hid hkl
  have HOK := Lib.hid hok
  have HKN := Lib.hid hkn
  obtain ⟨l, hl⟩ : ∃ l, knL vs bs = l := ⟨_, rfl⟩
  obtain ⟨v, hv⟩ : ∃ v, ((knL vs bs).length - k) / 2 = v := ⟨_, rfl⟩
  have HL := Lib.hid hl
  have HV := Lib.hid hv
  rw [hv, hl]
  clear h hW hok hkn hkl hl hv
  go_enter Tryd.func18, Tryd.ntmps18
  go_wp2_with fail
  go_at_call 38
  refine (udecode_ok p A m c k vs bs _ HOK.out hS0 hm hmp HKN.out hk hkm HK.out hE0).mono ?_
  rw [HV.out, HL.out]
  rintro e w1 ⟨⟨hD, rfl⟩ | ⟨P, A1, c1, A2, c2, hD, rfl, hI1, hI2, hc1, hc2, hn1, hn2⟩, hb1⟩
  · have HD := Lib.hid hD
    have hbb1 := ballocs (bnext hb0 hb1) (.cells #[.slice none 0 0, .slice none 0 0] 27)
    have hR1 := (hR0.below hb1 hR0.lt).alloc (.cells #[.slice none 0 0, .slice none 0 0] 27)
    have hE1 := (hE0.below hb1).below (bbox (.cells #[.slice none 0 0, .slice none 0 0] 27))
    have hz0 : (w1.alloc (.cells #[.slice none 0 0, .slice none 0 0] 27)).cell? ⟨w.heap.size + 1, 0, none⟩ = some (.slice none 0 0) := (hR1.cell 0).trans rfl
    have hf0 := hR1.frozen 0
    have hz1 : (w1.alloc (.cells #[.slice none 0 0, .slice none 0 0] 27)).cell? ⟨w.heap.size + 1, 1, none⟩ = some (.slice none 0 0) := (hR1.cell 1).trans rfl
    have hf1 := hR1.frozen 1
    have hgl := hE1.1
    have hFB := (hR1.set_ 0 (.slice none 0 0)).set_ 1 (.slice none 0 0)
    have hfin0 : (((w1.alloc (.cells #[.slice none 0 0, .slice none 0 0] 27)).setCell ⟨w.heap.size + 1, 0, none⟩ (.slice none 0 0)).setCell ⟨w.heap.size + 1, 1, none⟩ (.slice none 0 0)).cell? ⟨w.heap.size + 1, 0, none⟩ = some (.slice none 0 0) := (hFB.cell 0).trans rfl
    have hfin1 : (((w1.alloc (.cells #[.slice none 0 0, .slice none 0 0] 27)).setCell ⟨w.heap.size + 1, 0, none⟩ (.slice none 0 0)).setCell ⟨w.heap.size + 1, 1, none⟩ (.slice none 0 0)).cell? ⟨w.heap.size + 1, 1, none⟩ = some (.slice none 0 0) := (hFB.cell 1).trans rfl
    clear hD hFB
    go_wp2_with (go_at_call 39; refine (is_same _).mono ?_; rintro e w' ⟨rfl, rfl⟩)
    refine bodyPost_ret (v := .tuple #[.agg #[.slice none 0 0, .slice none 0 0], .int .i64 12]) (by simp [results, Tryd.results18, go_sem, hfin0, hfin1]) rfl ⟨.inl ⟨HD.out, rfl⟩, (hbb1.setCell (p := ⟨w.heap.size + 1, 0, none⟩) (by show w.heap.size ≤ w.heap.size + 1; omega) _).setCell (p := ⟨w.heap.size + 1, 1, none⟩) (by show w.heap.size ≤ w.heap.size + 1; omega) _⟩
  · have HD := Lib.hid hD
    have hbb1 := ballocs (bnext hb0 hb1) (.cells #[.slice A1 P.length c1, .slice A2 (wrL p P l).length c2] 27)
    have hR1 := (hR0.below hb1 hR0.lt).alloc (.cells #[.slice A1 P.length c1, .slice A2 (wrL p P l).length c2] 27)
    have hE1 := (hE0.below hb1).below (bbox (.cells #[.slice A1 P.length c1, .slice A2 (wrL p P l).length c2] 27))
    have hN1 := Blk.new w1 27 #[.slice A1 P.length c1, .slice A2 (wrL p P l).length c2]
    have hgl := hE1.1
    have hJ1 := hI1.upto (bbox (.cells #[.slice A1 P.length c1, .slice A2 (wrL p P l).length c2] 27))
    have hJ2 := hI2.upto (bbox (.cells #[.slice A1 P.length c1, .slice A2 (wrL p P l).length c2] 27))
    obtain ⟨pn, hpn⟩ : ∃ pn, P.length = pn := ⟨_, rfl⟩
    obtain ⟨wn, hwn⟩ : ∃ wn, (wrL p P l).length = wn := ⟨_, rfl⟩
    rw [hpn, hwn] at hbb1 hR1 hE1 hN1 hgl hJ1 hJ2
    have HN1 : Hid (∀ b o s, A1 = some ⟨b, o, s⟩ → 0 < pn → w.heap.size + 2 ≤ b) := Lib.hid fun b o s e h0 => by
      have := hn1 b o s e (by rw [hpn]; exact h0)
      simpa using this
    have HN2 : Hid (∀ b o s, A2 = some ⟨b, o, s⟩ → 0 < wn → w.heap.size + 2 ≤ b) := Lib.hid fun b o s e h0 => by
      have := hn2 b o s e (by rw [hwn]; exact h0)
      simpa using this
    have HC1 := Lib.hid hc1
    have HC2 := Lib.hid hc2
    rw [hpn, hwn]
    have HPN := Lib.hid hpn
    have HWN := Lib.hid hwn
    have hQl := (hR0.below hb1 hR0.lt).lt
    clear hpn hwn hD hI1 hI2 hb1 hR0 hE0 hn1 hn2 hc1 hc2
    go_upto_region 4 with (go_at_call 39; refine (is_none _).mono ?_; rintro e w' ⟨rfl, rfl⟩)
    obtain ⟨W, hW⟩ : ∃ W, w1.alloc (.cells #[.slice A1 pn c1, .slice A2 wn c2] 27) = W := ⟨_, rfl⟩
    rw [hW] at hbb1 hR1 hE1 hN1 hJ1 hJ2 ⊢
    clear hW hgl
    have hk0 : W.cell? ⟨w1.heap.size, 0, none⟩ = some (.slice A1 pn c1) := (hN1.cell 0).trans rfl
    have hk1 : W.cell? ⟨w1.heap.size, 1, none⟩ = some (.slice A2 wn c2) := (hN1.cell 1).trans rfl
    have hz0 : W.cell? ⟨w.heap.size + 1, 0, none⟩ = some (.slice none 0 0) := (hR1.cell 0).trans rfl
    have hf0 := hR1.frozen 0
    have hz1 : W.cell? ⟨w.heap.size + 1, 1, none⟩ = some (.slice none 0 0) := (hR1.cell 1).trans rfl
    have hf1 := hR1.frozen 1
    have hFB := (hR1.set_ 0 (.slice A1 pn c1)).set_ 1 (.slice A2 wn c2)
    have hfin0 : ((W.setCell ⟨w.heap.size + 1, 0, none⟩ (.slice A1 pn c1)).setCell ⟨w.heap.size + 1, 1, none⟩ (.slice A2 wn c2)).cell? ⟨w.heap.size + 1, 0, none⟩ = some (.slice A1 pn c1) := (hFB.cell 0).trans rfl
    have hfin1 : ((W.setCell ⟨w.heap.size + 1, 0, none⟩ (.slice A1 pn c1)).setCell ⟨w.heap.size + 1, 1, none⟩ (.slice A2 wn c2)).cell? ⟨w.heap.size + 1, 1, none⟩ = some (.slice A2 wn c2) := (hFB.cell 1).trans rfl
    have HPO : UDPost (.int .i64 0) (.int .i64 12) p k v l w (.returned (.tuple #[.agg #[.slice A1 pn c1, .slice A2 wn c2], .int .i64 0])) ((W.setCell ⟨w.heap.size + 1, 0, none⟩ (.slice A1 pn c1)).setCell ⟨w.heap.size + 1, 1, none⟩ (.slice A2 wn c2)).drew := by
      have h2 : Below w.heap.size w ((W.setCell ⟨w.heap.size + 1, 0, none⟩ (.slice A1 pn c1)).setCell ⟨w.heap.size + 1, 1, none⟩ (.slice A2 wn c2)).drew := ((hbb1.setCell (p := ⟨w.heap.size + 1, 0, none⟩) (by show w.heap.size ≤ w.heap.size + 1; omega) _).setCell (p := ⟨w.heap.size + 1, 1, none⟩) (by show w.heap.size ≤ w.heap.size + 1; omega) _).drew
      have hz : ((W.setCell ⟨w.heap.size + 1, 0, none⟩ (.slice A1 pn c1)).setCell ⟨w.heap.size + 1, 1, none⟩ (.slice A2 wn c2)).drew.heap.size = W.heap.size := by simp [World.setCell]
      refine ⟨.inr ⟨P, A1, c1, A2, c2, HD.out, by rw [HPN.out, HWN.out], ?_, ?_, HC1.out, HC2.out, by rw [HPN.out]; exact fun b o s e h0 => (by have := HN1.out b o s e h0; omega), by rw [HWN.out]; exact fun b o s e h0 => (by have := HN2.out b o s e h0; omega)⟩, h2⟩
      · rw [HPN.out, hz]; exact (hJ1.setFar _ 0 _ (fun b o s e h0 => (by have := HN1.out b o s e h0; omega))).setFar _ 1 _ (fun b o s e h0 => (by have := HN1.out b o s e h0; omega))
      · rw [HWN.out, hz]; exact (hJ2.setFar _ 0 _ (fun b o s e h0 => (by have := HN2.out b o s e h0; omega))).setFar _ 1 _ (fun b o s e h0 => (by have := HN2.out b o s e h0; omega))
    clear hFB hJ1 hJ2 hR1 hN1
    go_region_law (first
      | (go_simp; go_at_call 40; refine (number_none _).mono ?_; rintro e w' ⟨rfl, rfl⟩))
    all_goals go_wp2
    all_goals refine bodyPost_ret (v := .tuple #[.agg #[.slice A1 pn c1, .slice A2 wn c2], .int .i64 0]) (by simp [results, Tryd.results18, go_sem, hfin0, hfin1]) rfl HPO
end Go.Proofs.YteipcjmkhacdgaaDoor
