/-
  What parity's Decode hands back for any arguments. Conditions: the answers read as their marks and rows.
-/
import Derived.Test.YtoblofilaegnaaaPDec
import Derived.Test.YtoblofilaegnaaaParB
import Derived.Test.YtoblofilaegnaaaVAll
namespace Go.Proofs.Ytoblofilaegnaaa
open Go.RowKit
set_option linter.unusedVariables false

/-- A fetched row that was made, or the error. -/
def FetPost (r : List Int × Int) (w : World) (e : Ending) (w' : World) : Prop :=
  (∃ A' n' c', e = .returned (.tuple #[.agg #[.slice A' n' c', .slice none 0 0], .int .i64 r.2]) ∧ OwnI w' w.heap.size 3 A' n' c' r.1) ∧ Below w.heap.size w w'
theorem bad_len {s : Nat} {wd : Int} (h : wd < 0 ∨ 64 < wd ∨ s < 2 ∨ 10 < s) : wd < 0 ∨ (¬ wd < 0 ∧ 64 < wd) ∨ (¬ wd < 0 ∧ ¬ 64 < wd ∧ (s : Int) < 2) ∨ (¬ wd < 0 ∧ ¬ 64 < wd ∧ ¬ (s : Int) < 2 ∧ (10 : Int) < (s : Int)) := by omega
set_option maxRecDepth 100000 in
theorem pdec_field (p : Int) (L : Option Addr) (s c : Nat) (wd : Int) (w : World) (hp64 : -9223372036854775808 ≤ p ∧ p ≤ 9223372036854775807) (hok : okP p = false) :
    Calls Try.prog 89 #[.agg #[.int .i64 p], .int .i64 wd, .slice L s c] w (FetPost ([], 9) w) := by
  have HO := Lib.hid hok
  have hb0 : Below w.heap.size w ((w.alloc (.cells #[.int .i64 p] 24)).alloc (.cells #[.slice none 0 0, .slice none 0 0] 99)) := ballocs (bbox _) _
  have hR0 := Blk.new1 w (.cells #[.int .i64 p] 24) 99 #[.slice none 0 0, .slice none 0 0]
  clear hok
  go_enter Try.func89, Try.ntmps89
  go_wp2_with (go_at_call 118; refine (of_no p _ hp64 HO.out).mono ?_; rintro e w1 ⟨rfl, hb1⟩
               have hbb1 := bnext hb0 hb1
               have hR1 := hR0.below hb1 hR0.lt
               have hx0 := (hR1.cell 0).trans rfl
               have hx1 := (hR1.cell 1).trans rfl
               have hz0' := hR1.frozen 0
               have hz1' := hR1.frozen 1
               clear hb1 hR0 hb0)
  have hB' := blk_two2 (v0 := .slice none 0 0) (v1 := .slice none 0 0) hR1
  have hy0 := (hB'.cell 0).trans rfl
  have hy1 := (hB'.cell 1).trans rfl
  exact bodyPost_ret (v := .tuple #[.agg #[.slice none 0 0, .slice none 0 0], .int .i64 9]) (by simp [results, Try.results89, go_sem, hy0, hy1]) rfl ⟨⟨none, 0, 0, rfl, OwnI.nil_⟩, below_two2 hbb1 (by omega) _ _⟩
set_option maxRecDepth 100000 in
theorem pdec_size (p : Int) (L : Option Addr) (s c : Nat) (wd : Int) (w : World) (hok : okP p = true) (hsz : wd < 0 ∨ 64 < wd ∨ s < 2 ∨ 10 < s) :
    Calls Try.prog 89 #[.agg #[.int .i64 p], .int .i64 wd, .slice L s c] w (FetPost ([], 4) w) := by
  have HO := Lib.hid hok
  have HBD := Lib.hid (bad_len hsz)
  have hb0 : Below w.heap.size w ((w.alloc (.cells #[.int .i64 p] 24)).alloc (.cells #[.slice none 0 0, .slice none 0 0] 99)) := ballocs (bbox _) _
  have hR0 := Blk.new1 w (.cells #[.int .i64 p] 24) 99 #[.slice none 0 0, .slice none 0 0]
  clear hok hsz
  rcases HBD.out with h1 | ⟨h1, h2⟩ | ⟨h1, h2, h3⟩ | ⟨h1, h2, h3, h4⟩
  all_goals
    go_enter Try.func89, Try.ntmps89
    go_wp2_with (go_at_call 118; refine (of_yes p _ HO.out).mono ?_; rintro e w1 ⟨rfl, hb1⟩
                 have hbb1 := bnext hb0 hb1
                 have hR1 := hR0.below hb1 hR0.lt
                 have hx0 := (hR1.cell 0).trans rfl
                 have hx1 := (hR1.cell 1).trans rfl
                 have hz0' := hR1.frozen 0
                 have hz1' := hR1.frozen 1
                 clear hb1 hR0 hb0)
    have hB' := blk_two2 (v0 := .slice none 0 0) (v1 := .slice none 0 0) hR1
    have hy0 := (hB'.cell 0).trans rfl
    have hy1 := (hB'.cell 1).trans rfl
    exact bodyPost_ret (v := .tuple #[.agg #[.slice none 0 0, .slice none 0 0], .int .i64 4]) (by simp [results, Try.results89, go_sem, hy0, hy1]) rfl ⟨⟨none, 0, 0, rfl, OwnI.nil_⟩, below_two2 hbb1 (by omega) _ _⟩
set_option maxRecDepth 100000 in
set_option maxHeartbeats 8000000 in
theorem pdec_yes (p : Int) (L : Option Addr) (s c wd : Nat) (ks : List Bool) (rows : List (List Int)) (w : World) (hok : okP p = true) (hA : Ans w w.heap.size L s ks rows) (hs : 2 ≤ s ∧ s ≤ 10) (hw : wd ≤ 64) :
    Calls Try.prog 89 #[.agg #[.int .i64 p], .int .i64 wd, .slice L s c] w (FetPost (if firstE (ansE p wd ks rows) s = 0 then (plusL p wd rows, 0) else ([], firstE (ansE p wd ks rows) s)) w) := by
  obtain ⟨i0, hi0, hz0, hz1, hz2⟩ := info_parts info_rowD
  have hp := okP_pos hok
  have HO := Lib.hid hok
  have HL := Lib.hid hA.2.1
  have h1 : ¬ (wd : Int) < 0 := by omega
  have h2 : ¬ (64 : Int) < (wd : Int) := by omega
  have h3 : ¬ (s : Int) < 2 := by omega
  have h4 : ¬ (10 : Int) < (s : Int) := by omega
  have hb0 : Below w.heap.size w ((w.alloc (.cells #[.int .i64 p] 24)).alloc (.cells #[.slice none 0 0, .slice none 0 0] 99)) := ballocs (bbox _) _
  have hR0 := Blk.new1 w (.cells #[.int .i64 p] 24) 99 #[.slice none 0 0, .slice none 0 0]
  clear hok
  generalize hRS : (if firstE (ansE p wd ks rows) s = 0 then (plusL p wd rows, 0) else ([], firstE (ansE p wd ks rows) s)) = RS
  have HF : Hid (∀ k, k < s → firstE (ansE p wd ks rows) k = 0 → ansE p wd ks rows k ≠ 0 → RS = ([], ansE p wd ks rows k)) := Lib.hid fun k hk h0 h1 => by
    have := firstE_at h0 h1 s hk
    rw [← hRS, this, if_neg h1]
  have HG : Hid (firstE (ansE p wd ks rows) s = 0 → RS = (plusL p wd rows, 0)) := Lib.hid fun h => by rw [← hRS, if_pos h]
  clear hRS
  go_enter Try.func89, Try.ntmps89
  go_wp2_with (go_at_call 118; refine (of_yes p _ HO.out).mono ?_; rintro e w1 ⟨rfl, hb1⟩; have hbb1 := bnext hb0 hb1; have hR1 := hR0.below hb1 hR0.lt; clear hb1 hR0 hb0)
  have hA1 := hA.upto hbb1
  go_loopw [10, 42] (fun v i wr => ∃ (k : Nat) (A' : Option Addr) (c' : Nat), k ≤ s ∧ i = .int .i64 k ∧ v = .slice A' k c' ∧ OwnM wr w1.heap.size 0 22 A' k c' (rows.take k) ∧ Hid (firstE (ansE p wd ks rows) k = 0) ∧ Below w1.heap.size w1 wr) (fun _ i _ => s - (intOf i).toNat)
  case atStart => exact ⟨0, none, 0, Nat.zero_le _, rfl, rfl, OwnM.nil_, Lib.hid rfl, Below.refl _ _⟩
  case round =>
    obtain ⟨k, A', c', hk, rfl, rfl, hown, HK, hbr⟩ := hrel
    have hRr := hR1.below hbr hR1.lt
    by_cases hlt : k < s
    · obtain ⟨b, off, A1, n1, c1, rfl, hbl, hck, hcr, hn1, hI⟩ := hA1.at_ hlt
      have hck' := (hbr.cell (p := ⟨b, off + k * 2, none⟩) hbl).trans hck
      have hcr' := (hbr.cell (p := ⟨b, off + k * 2 + 1, none⟩) hbl).trans hcr
      have hI' := (hI.below hbr).more hbr.size
      rcases ansE_cases p wd ks rows k with ⟨z1, z2, z3, hz⟩ | ⟨z1, hz⟩ | ⟨z1, z2, hz⟩ | ⟨z1, z2, z3, hz⟩
      · have HK1 : Hid (firstE (ansE p wd ks rows) (k + 1) = 0) := Lib.hid (firstE_step HK.out hz)
        rw [z1] at hck'
        have HT := Lib.hid (take_snoc_row rows k (by rw [HL.out]; exact hlt))
        generalize rows.getD k [] = row at *
        obtain rfl : n1 = wd := by rw [hI.len] at z2; omega
        have HAL := Lib.hid z3
        have hI0 := Lib.hid hI
        have hBk := Blk.new wr 89 #[.bool true, .slice A1 n1 c1]
        have hk0 : (wr.alloc (.cells #[.bool true, .slice A1 n1 c1] 89)).cell? ⟨wr.heap.size, 0, none⟩ = some (.bool true) := (hBk.cell 0).trans rfl
        have hk1 : (wr.alloc (.cells #[.bool true, .slice A1 n1 c1] 89)).cell? ⟨wr.heap.size, 1, none⟩ = some (.slice A1 n1 c1) := (hBk.cell 1).trans rfl
        have hRa := hRr.alloc (.cells #[.bool true, .slice A1 n1 c1] 89)
        have hbra := ballocs hbr (.cells #[.bool true, .slice A1 n1 c1] 89)
        have hIa := hI'.upto (bbox (.cells #[.bool true, .slice A1 n1 c1] 89))
        have howna := hown.belowAll (bbox (.cells #[.bool true, .slice A1 n1 c1] 89))
        clear z1 z2 z3 hz hck hcr hI
        go_wp2_with (first
          | (go_at_call 119; (refine (all_any p A1 n1 c1 row _ hIa (by omega)).mono ?_); rintro e w3 ⟨rfl, hb3⟩; rw [HAL.out]
             have hk3 := (hb3.cell (p := ⟨wr.heap.size, 1, none⟩) (by simp)).trans hk1
             have hI3 := (hIa.upto hb3).upto (bbox (.cells #[.slice A1 n1 c1] 22))
             have hown3 := (howna.belowAll hb3).belowAll (bbox (.cells #[.slice A1 n1 c1] 22))
             have hb3r := ballocs (hbra.trans (hb3.mono hbra.size)) (.cells #[.slice A1 n1 c1] 22)
             have hcl : (w3.alloc (.cells #[.slice A1 n1 c1] 22)).cell? ⟨w3.heap.size, 0, none⟩ = some (.slice A1 n1 c1) := by rw [World.cell?_alloc_at _ _ _ _ rfl]; rfl
             have HAP : Hid (0 < n1 → ∀ b off s, A1 = some ⟨b, off, s⟩ → (Value.slice A' k c').ownBlock ≠ some b) := Lib.hid fun h0 b off s e e2 => by
               subst e
               have h1 := (hI0.out).lt h0
               have h2 := (hown.row b e2).1
               omega
             clear hb3)
          | (at_builtin
             refine wpList_append_row rfl _ _ 25 rfl w1.heap.size 0 22 i0 _ Try.underlying25 hi0 hz0 hz1 hz2 rfl A' k c' (rows.take k) rfl hown3 w3.heap.size 1 A1 n1 c1 row rfl hcl (by simp) (by omega) hI3 (fun _ _ _ _ _ => Nat.zero_le _) HAP.out (k + 1) rfl (by omega) hb3r.size ?_
             intro A2 c2 w2 hown2 hgr hbw2
             have hb2r := hb3r.trans hbw2))
        go_roundw
        case rel => exact ⟨k + 1, A2, c2, by omega, by go_num, rfl, by rw [HT.out]; exact hown2, HK1, hb2r⟩
        case measure => simp [intOf]; omega
      · obtain rfl : RS = ([], 11) := by rw [HF.out k hlt HK.out (by rw [hz]; decide), hz]
        rw [z1] at hck'
        have hBk := Blk.new wr 89 #[.bool false, .slice A1 n1 c1]
        have hk0 : (wr.alloc (.cells #[.bool false, .slice A1 n1 c1] 89)).cell? ⟨wr.heap.size, 0, none⟩ = some (.bool false) := (hBk.cell 0).trans rfl
        have hk1 : (wr.alloc (.cells #[.bool false, .slice A1 n1 c1] 89)).cell? ⟨wr.heap.size, 1, none⟩ = some (.slice A1 n1 c1) := (hBk.cell 1).trans rfl
        have hRa := hRr.alloc (.cells #[.bool false, .slice A1 n1 c1] 89)
        have hbra := ballocs hbr (.cells #[.bool false, .slice A1 n1 c1] 89)
        have hx0 := (hRa.cell 0).trans rfl
        have hx1 := (hRa.cell 1).trans rfl
        have hz0' := hRa.frozen 0
        have hz1' := hRa.frozen 1
        clear HF HG HK z1 hz hck hcr hI
        go_wp2
        have hB' := blk_two2 (v0 := .slice none 0 0) (v1 := .slice none 0 0) hRa
        have hy0 := (hB'.cell 0).trans rfl
        have hy1 := (hB'.cell 1).trans rfl
        exact bodyPost_ret (v := .tuple #[.agg #[.slice none 0 0, .slice none 0 0], .int .i64 11]) (by simp [results, Try.results89, go_sem, hy0, hy1]) rfl ⟨⟨none, 0, 0, rfl, OwnI.nil_⟩, below_two2 (bnext hbb1 hbra) (by omega) _ _⟩
      · obtain rfl : RS = ([], 2) := by rw [HF.out k hlt HK.out (by rw [hz]; decide), hz]
        rw [z1] at hck'
        have hne : ((n1 : Int) != (wd : Int)) = true := by simp; rw [hI.len] at z2; omega
        have hne2 : ¬ (n1 : Int) = (wd : Int) := by rw [hI.len] at z2; omega
        have hBk := Blk.new wr 89 #[.bool true, .slice A1 n1 c1]
        have hk0 : (wr.alloc (.cells #[.bool true, .slice A1 n1 c1] 89)).cell? ⟨wr.heap.size, 0, none⟩ = some (.bool true) := (hBk.cell 0).trans rfl
        have hk1 : (wr.alloc (.cells #[.bool true, .slice A1 n1 c1] 89)).cell? ⟨wr.heap.size, 1, none⟩ = some (.slice A1 n1 c1) := (hBk.cell 1).trans rfl
        have hRa := hRr.alloc (.cells #[.bool true, .slice A1 n1 c1] 89)
        have hbra := ballocs hbr (.cells #[.bool true, .slice A1 n1 c1] 89)
        have hx0 := (hRa.cell 0).trans rfl
        have hx1 := (hRa.cell 1).trans rfl
        have hz0' := hRa.frozen 0
        have hz1' := hRa.frozen 1
        clear HF HG HK z1 z2 hz hck hcr hI
        go_wp2
        have hB' := blk_two2 (v0 := .slice none 0 0) (v1 := .slice none 0 0) hRa
        have hy0 := (hB'.cell 0).trans rfl
        have hy1 := (hB'.cell 1).trans rfl
        exact bodyPost_ret (v := .tuple #[.agg #[.slice none 0 0, .slice none 0 0], .int .i64 2]) (by simp [results, Try.results89, go_sem, hy0, hy1]) rfl ⟨⟨none, 0, 0, rfl, OwnI.nil_⟩, below_two2 (bnext hbb1 hbra) (by omega) _ _⟩
      · obtain rfl : RS = ([], 9) := by rw [HF.out k hlt HK.out (by rw [hz]; decide), hz]
        rw [z1] at hck'
        generalize rows.getD k [] = row at *
        obtain rfl : n1 = wd := by rw [hI.len] at z2; omega
        have HAL := Lib.hid z3
        have hBk := Blk.new wr 89 #[.bool true, .slice A1 n1 c1]
        have hk0 : (wr.alloc (.cells #[.bool true, .slice A1 n1 c1] 89)).cell? ⟨wr.heap.size, 0, none⟩ = some (.bool true) := (hBk.cell 0).trans rfl
        have hk1 : (wr.alloc (.cells #[.bool true, .slice A1 n1 c1] 89)).cell? ⟨wr.heap.size, 1, none⟩ = some (.slice A1 n1 c1) := (hBk.cell 1).trans rfl
        have hRa := hRr.alloc (.cells #[.bool true, .slice A1 n1 c1] 89)
        have hbra := ballocs hbr (.cells #[.bool true, .slice A1 n1 c1] 89)
        have hIa := hI'.upto (bbox (.cells #[.bool true, .slice A1 n1 c1] 89))
        clear HF HG HK z1 z2 z3 hz hck hcr hI
        go_wp2_with (go_at_call 119; (refine (all_any p A1 n1 c1 row _ hIa (by omega)).mono ?_); rintro e w3 ⟨rfl, hb3⟩; rw [HAL.out]
                     have hbr3 := hbra.trans (hb3.mono hbra.size)
                     have hR3 := hRa.below hb3 hRa.lt
                     have hx0 := (hR3.cell 0).trans rfl
                     have hx1 := (hR3.cell 1).trans rfl
                     have hz0' := hR3.frozen 0
                     have hz1' := hR3.frozen 1
                     clear hb3)
        have hB' := blk_two2 (v0 := .slice none 0 0) (v1 := .slice none 0 0) hR3
        have hy0 := (hB'.cell 0).trans rfl
        have hy1 := (hB'.cell 1).trans rfl
        exact bodyPost_ret (v := .tuple #[.agg #[.slice none 0 0, .slice none 0 0], .int .i64 9]) (by simp [results, Try.results89, go_sem, hy0, hy1]) rfl ⟨⟨none, 0, 0, rfl, OwnI.nil_⟩, below_two2 (bnext hbb1 hbr3) (by omega) _ _⟩
    · obtain rfl : k = s := by omega
      obtain rfl := HG.out HK.out
      have hrt : rows.take k = rows := List.take_of_length_le (by rw [HL.out]; omega)
      rw [hrt] at hown
      have hM := hown.mat (Nat.zero_le _)
      have HRR : Hid (∀ r ∈ rows, allP p r = true ∧ r.length = wd) := Lib.hid fun r hr => by
        obtain ⟨j, hj, rfl⟩ := List.getElem_of_mem hr
        have hj' : j < k := by rw [← HL.out]; exact hj
        have := ansE_zero.1 (firstE_all _ HK.out j hj')
        rw [List.getD_eq_getElem?_getD (l := rows), List.getElem?_eq_getElem hj, Option.getD_some] at this
        exact ⟨this.2.2, by omega⟩
      have hMa := hM.upto (bbox (.cells #[.slice A' k c'] 25))
      have hcm : (wr.alloc (.cells #[.slice A' k c'] 25)).cell? ⟨wr.heap.size, 0, none⟩ = some (.slice A' k c') := by rw [World.cell?_alloc_at _ _ _ _ rfl]; rfl
      have hbra := ballocs hbr (.cells #[.slice A' k c'] 25)
      have hRa := hRr.alloc (.cells #[.slice A' k c'] 25)
      clear hrt HF HG HK
      go_wp2_with (first
        | (go_at_call 153; refine (each_any A' k c' _).mono ?_; rintro e w3 ⟨rfl, rfl⟩)
        | (go_at_call 152; refine (sum_ok p wd wr.heap.size k c' 0 A' rows _ hp (by omega) (by omega) hcm hMa HRR.out).mono ?_; rintro e w4 ⟨⟨A4, c4, rfl, hown4⟩, hb4⟩
           have hR4 := hRa.below hb4 hRa.lt
           have hbr4 := hbra.trans (hb4.mono hbra.size)
           have hx0 := (hR4.cell 0).trans rfl
           have hx1 := (hR4.cell 1).trans rfl
           have hz0' := hR4.frozen 0
           have hz1' := hR4.frozen 1))
      have hB' := blk_two2 (v0 := .slice A4 wd c4) (v1 := .slice none 0 0) hR4
      have hS5 := ((Step.refl (w.heap.size + 1) w4).set 0 (.slice A4 wd c4)).set 1 (.slice none 0 0)
      have hr1 := hR1.lt
      have hbrs := hbr.size
      have hI5 := (hown4.step hS5 (by simp; omega)).base (base' := w.heap.size) (by simp; omega)
      have hy0 := (hB'.cell 0).trans rfl
      have hy1 := (hB'.cell 1).trans rfl
      exact bodyPost_ret (v := .tuple #[.agg #[.slice A4 wd c4, .slice none 0 0], .int .i64 0]) (by simp [results, Try.results89, go_sem, hy0, hy1]) rfl
        ⟨⟨A4, wd, c4, rfl, hI5⟩, (below_two2 (bnext hbb1 hbr4) (by omega) _ _)⟩

theorem pdecode_all (p : Int) (L : Option Addr) (s c : Nat) (wd : Int) (ks : List Bool) (rows : List (List Int)) (w : World) (hp64 : -9223372036854775808 ≤ p ∧ p ≤ 9223372036854775807) (hA : Ans w w.heap.size L s ks rows) :
    Calls Try.prog 89 #[.agg #[.int .i64 p], .int .i64 wd, .slice L s c] w (FetPost (decR p wd s ks rows) w) := by
  by_cases hok : okP p = true
  · by_cases hsz : wd < 0 ∨ 64 < wd ∨ s < 2 ∨ 10 < s
    · have e : decR p wd s ks rows = ([], 4) := by unfold decR; rw [if_neg (by simp [hok]), if_pos hsz]
      rw [e]
      exact pdec_size p L s c wd w hok hsz
    · obtain ⟨wn, rfl⟩ : ∃ k : Nat, wd = k := ⟨wd.toNat, by omega⟩
      have e : decR p wn s ks rows = (if firstE (ansE p wn ks rows) s = 0 then (plusL p wn rows, 0) else ([], firstE (ansE p wn ks rows) s)) := by unfold decR; rw [if_neg (by simp [hok]), if_neg hsz, Int.toNat_natCast]
      rw [e]
      exact pdec_yes p L s c wn ks rows w hok hA (by omega) (by omega)
  · have hokf : okP p = false := by simpa using hok
    have e : decR p wd s ks rows = ([], 9) := by unfold decR; rw [if_pos hokf]
    rw [e]
    exact pdec_field p L s c wd w hp64 hokf
end Go.Proofs.Ytoblofilaegnaaa
