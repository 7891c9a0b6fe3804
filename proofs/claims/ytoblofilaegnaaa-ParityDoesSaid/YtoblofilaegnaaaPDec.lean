/-
  What parity's Decode hands back. Conditions: the answers read as their marks and rows; the known rows are elements, of the width.
-/
import Derived.Test.YtoblofilaegnaaaSum
import Derived.Test.YtoblofilaegnaaaAns
import Derived.Test.YtoblofilaegnaaaPar1
namespace Go.Proofs.Ytoblofilaegnaaa
open Go.RowKit
set_option linter.unusedVariables false

theorem info_rowD : (Try.prog.info? 22).map (fun i => (i.zero, i.size, i.bytes)) = some (some (.slice none 0 0), 1, 24) := by kernel_rfl

/-- Two cells written into a new block of two. -/
theorem blk_two2 {w1 : World} {g : Nat} {t : TypeId} {u0 u1 v0 v1 : Value} (h : Blk w1 g t #[u0, u1]) : Blk ((w1.setCell ⟨g, 0, none⟩ v0).setCell ⟨g, 1, none⟩ v1) g t #[v0, v1] := (h.set_ 0 v0).set_ 1 v1
theorem below_two2 {w0 w1 : World} {B g : Nat} (h : Below B w0 w1) (hg : B ≤ g) (v0 v1 : Value) : Below B w0 ((w1.setCell ⟨g, 0, none⟩ v0).setCell ⟨g, 1, none⟩ v1) := (h.setCell hg v0).setCell hg v1

/-- What Decode leaves. -/
def DecPost (p : Int) (s wd : Nat) (ks : List Bool) (rows : List (List Int)) (w : World) (e : Ending) (w' : World) : Prop :=
  ((∀ j, j < s → ks.getD j false = true) → ∃ A' c', e = .returned (.tuple #[.agg #[.slice A' wd c', .slice none 0 0], .int .i64 0]) ∧ OwnI w' w.heap.size 3 A' wd c' (plusL p wd rows)) ∧
  ((∃ j, j < s ∧ ks.getD j false = false) → e = .returned (.tuple #[.agg #[.slice none 0 0, .slice none 0 0], .int .i64 11])) ∧ Below w.heap.size w w'

set_option maxRecDepth 100000 in
set_option maxHeartbeats 4000000 in
theorem decode_any (p : Int) (L : Option Addr) (s c wd : Nat) (ks : List Bool) (rows : List (List Int)) (w : World) (hok : okP p = true) (hA : Ans w w.heap.size L s ks rows) (hr : ∀ j, j < s → ks.getD j false = true → allP p (rows.getD j []) = true ∧ (rows.getD j []).length = wd)
    (hs : 2 ≤ s ∧ s ≤ 10) (hw : wd ≤ 64) :
    Calls Try.prog 89 #[.agg #[.int .i64 p], .int .i64 wd, .slice L s c] w (DecPost p s wd ks rows w) := by
  obtain ⟨i0, hi0, hz0, hz1, hz2⟩ := info_parts info_rowD
  have hp := okP_pos hok
  have HO := Lib.hid hok
  have HR := Lib.hid hr
  have HL := Lib.hid hA.2.1
  have h1 : ¬ (wd : Int) < 0 := by omega
  have h2 : ¬ (64 : Int) < (wd : Int) := by omega
  have h3 : ¬ (s : Int) < 2 := by omega
  have h4 : ¬ (10 : Int) < (s : Int) := by omega
  have hb0 : Below w.heap.size w ((w.alloc (.cells #[.int .i64 p] 24)).alloc (.cells #[.slice none 0 0, .slice none 0 0] 99)) := ballocs (bbox _) _
  have hR0 := Blk.new1 w (.cells #[.int .i64 p] 24) 99 #[.slice none 0 0, .slice none 0 0]
  clear hok hr
  go_enter Try.func89, Try.ntmps89
  go_wp2_with (go_at_call 118; refine (of_yes p _ HO.out).mono ?_; rintro e w1 ⟨rfl, hb1⟩; have hbb1 := bnext hb0 hb1; have hR1 := hR0.below hb1 hR0.lt; clear hb1 hR0 hb0)
  have hA1 := hA.upto hbb1
  go_loopw [10, 42] (fun v i wr => ∃ (k : Nat) (A' : Option Addr) (c' : Nat), k ≤ s ∧ i = .int .i64 k ∧ v = .slice A' k c' ∧ OwnM wr w1.heap.size 0 22 A' k c' (rows.take k) ∧ Hid (∀ j, j < k → ks.getD j false = true) ∧ Below w1.heap.size w1 wr) (fun _ i _ => s - (intOf i).toNat)
  case atStart => exact ⟨0, none, 0, Nat.zero_le _, rfl, rfl, OwnM.nil_, Lib.hid (fun j hj => absurd hj (by omega)), Below.refl _ _⟩
  case round =>
    obtain ⟨k, A', c', hk, rfl, rfl, hown, HK, hbr⟩ := hrel
    have hRr := hR1.below hbr hR1.lt
    by_cases hlt : k < s
    · obtain ⟨b, off, A1, n1, c1, rfl, hbl, hck, hcr, hn1, hI⟩ := hA1.at_ hlt
      have hck' := (hbr.cell (p := ⟨b, off + k * 2, none⟩) hbl).trans hck
      have hcr' := (hbr.cell (p := ⟨b, off + k * 2 + 1, none⟩) hbl).trans hcr
      have hI' := (hI.below hbr).more hbr.size
      by_cases hkk : ks.getD k false = true
      · have hrow := HR.out k hlt hkk
        have HK1 : Hid (∀ j, j < k + 1 → ks.getD j false = true) := Lib.hid fun j hj => by
          rcases Nat.lt_or_ge j k with h | h
          · exact HK.out j h
          · obtain rfl : j = k := by omega
            exact hkk
        rw [hkk] at hck'
        have HT := Lib.hid (take_snoc_row rows k (by rw [HL.out]; exact hlt))
        generalize rows.getD k [] = row at *
        obtain rfl : n1 = wd := by rw [← hrow.2, hI.len]
        have HAL := Lib.hid hrow.1
        have hI0 := Lib.hid hI
        have hBk := Blk.new wr 89 #[.bool true, .slice A1 n1 c1]
        have hk0 : (wr.alloc (.cells #[.bool true, .slice A1 n1 c1] 89)).cell? ⟨wr.heap.size, 0, none⟩ = some (.bool true) := (hBk.cell 0).trans rfl
        have hk1 : (wr.alloc (.cells #[.bool true, .slice A1 n1 c1] 89)).cell? ⟨wr.heap.size, 1, none⟩ = some (.slice A1 n1 c1) := (hBk.cell 1).trans rfl
        have hIa := hI'.upto (bbox (.cells #[.bool true, .slice A1 n1 c1] 89))
        have hbra := ballocs hbr (.cells #[.bool true, .slice A1 n1 c1] 89)
        have howna := hown.belowAll (bbox (.cells #[.bool true, .slice A1 n1 c1] 89))
        clear hrow hkk hck hcr hI
        go_wp2_with (first
          | (go_at_call 119; (refine (all_any p A1 n1 c1 row _ hIa (by omega)).mono ?_); rintro e w3 ⟨rfl, hb3⟩; rw [HAL.out]
             have hk3 := (hb3.cell (p := ⟨wr.heap.size, 1, none⟩) (by simp)).trans hk1
             have hI3 := (hIa.upto hb3).upto (bbox (.cells #[.slice A1 n1 c1] 22))
             have hown3 := (howna.belowAll hb3).belowAll (bbox (.cells #[.slice A1 n1 c1] 22))
             have hb3r := ballocs (hbra.trans (hb3.mono hbra.size)) (.cells #[.slice A1 n1 c1] 22)
             have hcl : (w3.alloc (.cells #[.slice A1 n1 c1] 22)).cell? ⟨w3.heap.size, 0, none⟩ = some (.slice A1 n1 c1) := by rw [World.cell?_alloc_at _ _ _ _ rfl]; rfl
             have HAP : Hid (0 < n1 → ∀ b off s, A1 = some ⟨b, off, s⟩ → (Value.slice A' k c').ownBlock ≠ some b) := Lib.hid fun h0 b off s e e2 => by
               subst e
               have h1 := (hI0.out).lt h0
               have h2 := (hown.row b e2).1
               omega
             clear hb3)
          | (at_builtin
             refine wpList_append_row rfl _ _ 25 rfl w1.heap.size 0 22 i0 _ Try.underlying25 hi0 hz0 hz1 hz2 rfl A' k c' (rows.take k) rfl hown3 w3.heap.size 1 A1 n1 c1 row rfl hcl (by simp) (by omega) hI3 (fun _ _ _ _ _ => Nat.zero_le _) HAP.out (k + 1) rfl (by omega) hb3r.size ?_
             intro A2 c2 w2 hown2 hgr hbw2
             have hb2r := hb3r.trans hbw2))
        go_roundw
        case rel => exact ⟨k + 1, A2, c2, by omega, by go_num, rfl, by rw [HT.out]; exact hown2, HK1, hb2r⟩
        case measure => simp [intOf]; omega
      · have hkf : ks.getD k false = false := by simpa using hkk
        have HNO : Hid (∃ j, j < s ∧ ks.getD j false = false) := Lib.hid ⟨k, hlt, hkf⟩
        rw [hkf] at hck'
        have hBk := Blk.new wr 89 #[.bool false, .slice A1 n1 c1]
        have hk0 : (wr.alloc (.cells #[.bool false, .slice A1 n1 c1] 89)).cell? ⟨wr.heap.size, 0, none⟩ = some (.bool false) := (hBk.cell 0).trans rfl
        have hRa := hRr.alloc (.cells #[.bool false, .slice A1 n1 c1] 89)
        have hbra := ballocs hbr (.cells #[.bool false, .slice A1 n1 c1] 89)
        have hx0 := (hRa.cell 0).trans rfl
        have hx1 := (hRa.cell 1).trans rfl
        have hz0' := hRa.frozen 0
        have hz1' := hRa.frozen 1
        clear hkk hck hcr hI hkf
        go_wp2
        have hB' := blk_two2 (v0 := .slice none 0 0) (v1 := .slice none 0 0) hRa
        have hy0 := (hB'.cell 0).trans rfl
        have hy1 := (hB'.cell 1).trans rfl
        exact bodyPost_ret (v := .tuple #[.agg #[.slice none 0 0, .slice none 0 0], .int .i64 11]) (by simp [results, Try.results89, go_sem, hy0, hy1]) rfl
          ⟨fun h => by (obtain ⟨j, hj, e⟩ := HNO.out; rw [h j hj] at e; cases e), fun _ => rfl, (below_two2 (bnext hbb1 hbra) (by omega) _ _)⟩
    · obtain rfl : k = s := by omega
      have hrt : rows.take k = rows := List.take_of_length_le (by rw [HL.out]; omega)
      rw [hrt] at hown
      have hM := hown.mat (Nat.zero_le _)
      have HRR : Hid (∀ r ∈ rows, allP p r = true ∧ r.length = wd) := Lib.hid fun r hr => by
        obtain ⟨j, hj, rfl⟩ := List.getElem_of_mem hr
        have hj' : j < k := by rw [← HL.out]; exact hj
        have := HR.out j hj' (HK.out j hj')
        rwa [List.getD_eq_getElem?_getD, List.getElem?_eq_getElem hj, Option.getD_some] at this
      have hMa := hM.upto (bbox (.cells #[.slice A' k c'] 25))
      have hcm : (wr.alloc (.cells #[.slice A' k c'] 25)).cell? ⟨wr.heap.size, 0, none⟩ = some (.slice A' k c') := by rw [World.cell?_alloc_at _ _ _ _ rfl]; rfl
      have hbra := ballocs hbr (.cells #[.slice A' k c'] 25)
      have hRa := hRr.alloc (.cells #[.slice A' k c'] 25)
      clear hrt
      go_wp2_with (first
        | (go_at_call 153; refine (each_any A' k c' _).mono ?_; rintro e w3 ⟨rfl, rfl⟩)
        | (go_at_call 152; refine (sum_ok p wd wr.heap.size k c' 0 A' rows _ hp (by omega) (by omega) hcm hMa HRR.out).mono ?_; rintro e w4 ⟨⟨A4, c4, rfl, hown4⟩, hb4⟩
           have hR4 := hRa.below hb4 hRa.lt
           have hbr4 := hbra.trans (hb4.mono hbra.size)
           have hx0 := (hR4.cell 0).trans rfl
           have hx1 := (hR4.cell 1).trans rfl
           have hz0' := hR4.frozen 0
           have hz1' := hR4.frozen 1))
      have hB' := blk_two2 (v0 := .slice A4 wd c4) (v1 := .slice none 0 0) hR4
      have hS5 := ((Step.refl (w.heap.size + 1) w4).set 0 (.slice A4 wd c4)).set 1 (.slice none 0 0)
      have hr1 := hR1.lt
      have hbrs := hbr.size
      have hI5 := (hown4.step hS5 (by simp; omega)).base (base' := w.heap.size) (by simp; omega)
      have hy0 := (hB'.cell 0).trans rfl
      have hy1 := (hB'.cell 1).trans rfl
      exact bodyPost_ret (v := .tuple #[.agg #[.slice A4 wd c4, .slice none 0 0], .int .i64 0]) (by simp [results, Try.results89, go_sem, hy0, hy1]) rfl
        ⟨fun _ => ⟨A4, c4, rfl, hI5⟩, fun ⟨j, hj, e⟩ => by (rw [HK.out j hj] at e; cases e), (below_two2 (bnext hbb1 hbr4) (by omega) _ _)⟩
end Go.Proofs.Ytoblofilaegnaaa
