/-
  VectorColumns returns true: the walk of the law. Conditions: none beyond the reading of its arguments.
-/
import Derived.Test.YtiledcpefaoeiaaUnit
import Derived.Test.YtiledcpefaoeiaaComb
import Derived.Test.YtiledcpefaoeiaaMkRows
import Derived.Test.YtiledcpefaoeiaaColsA
namespace Go.Proofs.Ytiledcpefaoeiaa
open Go.RowKit
set_option linter.unusedVariables false

set_option maxHeartbeats 1600000 in
set_option maxRecDepth 100000 in
theorem vectorColumns_walk (A : Option Addr) (n c : Nat) (zs : List Int) (w : World) (w0 : IsRow .i64 w A n c zs) :
    Calls Try.prog 9 #[.slice A n c] w fun e w' => e = .returned (.bool true) ∧ Below w.heap.size w w' := by
  obtain ⟨h, hw⟩ := w0.ints
  generalize zs.take n = xs at h hw
  clear w0
  obtain ⟨i0, hi0, hz0, hz1, hz2⟩ := info_parts info_int
  by_cases hn : n ≤ 500
  · have hd : decide (n ≤ 500) = true := by simpa using hn
    go_enter Try.func9, Try.ntmps9
    go_wp2_with (first
      | (go_at_call 38; refine (sane04_any _).mono ?_; rintro e w1 ⟨rfl, hb1⟩)
      | (go_at_call 18; refine (few_any A n c _).mono ?_; rintro e w' ⟨rfl, rfl⟩)
      | (go_at_call 19; refine (new_any A n c xs _ (h.upto hb1) hn).mono ?_; rintro e w2 ⟨⟨g, rfl, hge, hD2⟩, hb2⟩
         have hbb2 := bnext hb1 hb2
         have hg : w.heap.size ≤ g := by rw [hge]; exact hb1.size
         clear hge)
      | (go_at_call 20; refine (field_any g A n c xs _ _ hD2).mono ?_; rintro e w3 ⟨p, q3, rfl, hkn, hD3, hS3⟩
         have hbb3 := ballocs (Step.below hbb2 hS3 hbb2.size hg) (.cells #[.int .i64 p] 35)
         have hF3 := Blk.new w3 35 #[.int .i64 p]
         have hD3' := hD3.alloc (.cells #[.int .i64 p] 35)
         have hgf : w3.heap.size ≠ g := by have := hD3.1.lt; omega
         have HO := Lib.hid (okP_known hkn)
         have hp := okP_pos (okP_known hkn)
         clear hkn)
      | (go_at_call 21; (with_reducible refine (next_any g A n c xs q4 6 w4 hD4 (by omega)).mono ?_); rintro e w5 ⟨s', q5, rfl, hs, hs0, hD5, hS5, hz5⟩
         obtain ⟨wd, rfl⟩ : ∃ r : Nat, s' = r := ⟨s'.toNat, by have := hs (by omega); omega⟩
         have hwd : wd < 6 := by have := hs (by omega); omega
         have hF5 := Step.block hS5 hF4 hgf
         have hbb5 := Step.below hbb4 hS5 hbb4.size hg
         have hc5 : w5.cell? ⟨w3.heap.size, 0, none⟩ = some (.int .i64 p) := (hF5.cell 0).trans rfl
         clear hs hs0 hz5)
      | (go_at_call 21; refine (next_any g A n c xs q3 6 _ hD3' (by omega)).mono ?_; rintro e w4 ⟨r', q4, rfl, hr, hr0, hD4, hS4, hz4⟩
         obtain ⟨r, rfl⟩ : ∃ r : Nat, r' = r := ⟨r'.toNat, by have := hr (by omega); omega⟩
         have hr6 : r < 6 := by have := hr (by omega); omega
         have hF4 := Step.block hS4 hF3 hgf
         have hbb4 := Step.below hbb3 hS4 hbb3.size hg
         clear hr hr0 hz4))
    clear hF3 hF4 hD3 hD3' hD4 hD2 hS3 hS4 hS5 hbb2 hbb3 hbb4 hb1 hb2
    go_region_held3 (fun w' => w'.cell? ⟨w3.heap.size, 0, none⟩ = some (.int .i64 p)) (first | go_keep | exact hc5 | exact hc6 | exact hc7)
      (first
        | (go_at_call 26; (refine (rows_any g A n c xs q5 p r wd _ hD5.drew hp (by omega) (by omega)).mono ?_); rintro e w6 ⟨B1, d1, rows, q6, rfl, hown6, hR, hD6, hS6⟩
           have hF6 := Step.block hS6 hF5.drew hgf
           have hc6 : w6.cell? ⟨w3.heap.size, 0, none⟩ = some (.int .i64 p) := (hF6.cell 0).trans rfl)
        | (go_at_call 22; (refine (elements_any g A n c xs q6 p r w6 hD6 hp (by omega)).mono ?_); rintro e w7 ⟨B2, d2, cs, q7, rfl, hown7, hY, hD7, hS7⟩
           have hF7 := Step.block hS7 hF6 hgf
           have hc7 : w7.cell? ⟨w3.heap.size, 0, none⟩ = some (.int .i64 p) := (hF7.cell 0).trans rfl))
    have hg5 : g < w5.drew.heap.size := hD5.1.lt
    have hbb6 := Step.below hbb5.drew hS6 hbb5.size hg
    have hbb7 := Step.below hbb6 hS7 hbb6.size hg
    have hM7 := (hown6.step hS7 hg5 hg5).mat (Nat.le_refl _)
    have hC7 := hown7.ints
    have HR := Lib.hid hR
    have HY := Lib.hid hY
    clear hc5 hc6 hD5 hD6 hD7 hS6 hS7 hown6 hown7 hF5 hF6 hbb5 hbb6 hR hY
    go_wp2_with (go_at_call 41; refine (combine_ok p B2 B1 r wd d2 d1 cs rows _ HO.out hC7 hM7 HY.out HR.out (by omega) (by omega)).mono ?_; rintro e w8 ⟨⟨C1, e1, rfl, hown8⟩, hb8⟩
                 have hbb8 := bnext hbb7 hb8
                 have hF8 := hF7.below hb8 hF7.lt
                 have hM8 := hM7.upto hb8
                 have hC8 := hC7.upto hb8
                 have hP8 := hown8.ints
                 clear hb8)
    have HPL := Lib.hid (combP_len p cs rows wd (fun r hr => (HR.out r hr).2))
    have HML := Lib.hid hM8.len
    clear hF7 hM7 hC7 hbb7 hown8
    go_loopw [57] (fun i wr => ∃ k : Nat, k ≤ wd ∧ i = .int .i64 k ∧ Below w8.heap.size w8 wr) (fun i _ => wd - (intOf i).toNat)
    case atStart => exact ⟨0, Nat.zero_le _, rfl, Below.refl _ _⟩
    case round =>
      obtain ⟨k, hk, rfl, hbr⟩ := hrel
      obtain ⟨wo, hwo⟩ : ∃ wo : World, wo = wr := ⟨_, rfl⟩
      by_cases hlt : k < wd
      · subst hwo
        have hMr := hM8.upto hbr
        have hCr := hC8.upto hbr
        have hFr := hF8.below hbr hF8.lt
        have hfr : wo.cell? ⟨w3.heap.size, 0, none⟩ = some (.int .i64 p) := (hFr.cell 0).trans rfl
        obtain ⟨bp, op, hCp, hbp, hcp⟩ := hP8.2 (by omega)
        subst hCp
        have HV := Lib.hid (comb_col p cs rows wd k (fun r hr => (HR.out r hr).2) hlt)
        have hck := hcp k hlt
        rw [HV.out] at hck
        clear hcp
        have hk0 : (0 : Int) ≤ (k : Int) := by omega
        have hkw : (k : Int) < (wd : Int) := by omega
        go_wp2
        go_loopw [12, 62] (fun v i wx => ∃ (j : Nat) (A' : Option Addr) (c' : Nat), j ≤ r ∧ i = .int .i64 j ∧ v = .slice A' j c' ∧ OwnI wx wo.heap.size 3 A' j c' (colP (rows.take j) k) ∧ Below wo.heap.size wo wx) (fun _ i _ => r - (intOf i).toNat)
        case atStart => exact ⟨0, none, 0, Nat.zero_le _, rfl, rfl, OwnI.nil_, Below.refl _ _⟩
        case round =>
          obtain ⟨j, A', c', hj, rfl, rfl, hown, hbx⟩ := hrel
          by_cases hlt2 : j < r
          · obtain ⟨b, off, B3, m, d3, rfl, _, hb3, hcell, hm, hI, _⟩ := (hMr.upto hbx).at_ hlt2
            have hrow := HR.out _ (getD_mem2 (d := []) (k := j) (by rw [HML.out]; exact hlt2))
            have HT := Lib.hid (colP_take_succ rows k j (by rw [HML.out]; exact hlt2))
            generalize rows.getD j [] = row at *
            obtain rfl : m = wd := by rw [← hrow.2, hI.len]
            clear hrow
            obtain ⟨b4, o4, rfl, hb4, hc4⟩ := hI.2 (by omega)
            have hx := hc4 k hlt
            clear hc4
            go_wp2_with (
              at_builtin
              refine wpList_append_ints rfl _ _ _ rfl wo.heap.size 3 i0 _ Try.underlying22 hi0 hz0 hz1 hz2 rfl A' j c' _ rfl (hown.alloc _) _ _ 1 1 [row.getD k 0] rfl (Ints.one _ _ _) (j + 1) rfl _ rfl (by omega) (le_alloc hbx.size _) ?_
              intro A2 c2 w9 hown9 _ hbw9 _
              rw [← HT.out] at hown9
              have hbx9 := (ballocs hbx (.cells #[.int .i64 (row.getD k 0)] 3)).trans hbw9)
            go_roundw
            case rel => exact ⟨j + 1, A2, c2, by omega, by go_num, rfl, hown9, hbx9⟩
            case measure => simp [intOf]; omega
          · have hjr : j = r := by omega
            subst hjr
            rw [List.take_of_length_le (by rw [HML.out]; omega)] at hown
            have hCx := hCr.upto hbx
            have hFx := hFr.below hbx hFr.lt
            have hfx : wr.cell? ⟨w3.heap.size, 0, none⟩ = some (.int .i64 p) := (hFx.cell 0).trans rfl
            have HCA := Lib.hid (colP_all rows k wd HR.out hlt)
            have hbrx := hbr.trans (hbx.mono hbr.size)
            go_wp2_with (go_at_call 40; refine (dot_ok p B2 A' j d2 c' cs (colP rows k) _ HO.out hCx hown.ints HY.out HCA.out (by omega)).mono ?_; rintro e w10 ⟨rfl, hb10⟩
                         have hbr10 := hbrx.trans (hb10.mono hbrx.size)
                         have hc10 := (hbr10.cell (p := ⟨bp, op + k, none⟩) hbp).trans hck
                         clear hb10)
            go_roundw
            case rel => exact ⟨k + 1, by omega, by go_num, hbr10⟩
            case measure => simp [intOf]; omega
      · subst hwo
        go_wp2
        go_ret
        exact ⟨rfl, bnext hbb8 hbr⟩
  · have hd : decide (n ≤ 500) = false := by simpa using hn
    go_enter Try.func9, Try.ntmps9
    go_wp2_with (first
      | (go_at_call 38; refine (sane04_any _).mono ?_; rintro e w1 ⟨rfl, hb1⟩)
      | (go_at_call 18; refine (few_any A n c _).mono ?_; rintro e w' ⟨rfl, rfl⟩))
    go_ret
    exact ⟨rfl, hb1⟩
end Go.Proofs.Ytiledcpefaoeiaa
