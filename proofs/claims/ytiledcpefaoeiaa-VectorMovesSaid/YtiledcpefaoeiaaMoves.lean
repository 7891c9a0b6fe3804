/-
  VectorMoves returns true: the walk of the law. Conditions: none beyond the reading of its arguments.
-/
import Derived.Test.YtiledcpefaoeiaaUnit
import Derived.Test.YtiledcpefaoeiaaOrder
import Derived.Test.YtiledcpefaoeiaaMovesA
namespace Go.Proofs.Ytiledcpefaoeiaa
open Go.RowKit
set_option linter.unusedVariables false

set_option maxHeartbeats 1600000 in
set_option maxRecDepth 100000 in
theorem vectorMoves_walk (A : Option Addr) (n c : Nat) (zs : List Int) (w : World) (w0 : IsRow .i64 w A n c zs) :
    Calls Try.prog 8 #[.slice A n c] w fun e w' => e = .returned (.bool true) ∧ Below w.heap.size w w' := by
  obtain ⟨h, hw⟩ := w0.ints
  generalize zs.take n = xs at h hw
  clear w0
  obtain ⟨i0, hi0, hz0, hz1, hz2⟩ := info_parts info_int
  by_cases hn : n ≤ 500
  · have hd : decide (n ≤ 500) = true := by simpa using hn
    go_enter Try.func8, Try.ntmps8
    go_wp2_with (first
      | (go_at_call 38; refine (sane04_any _).mono ?_; rintro e w1 ⟨rfl, hb1⟩)
      | (go_at_call 18; refine (few_any A n c _).mono ?_; rintro e w' ⟨rfl, rfl⟩)
      | (go_at_call 19; refine (new_any A n c xs _ (h.upto hb1) hn).mono ?_; rintro e w2 ⟨⟨g, rfl, hge, hD2⟩, hb2⟩
         have hbb2 := bnext hb1 hb2
         have hg : w.heap.size ≤ g := by rw [hge]; exact hb1.size
         clear hge)
      | (go_at_call 20; refine (field_any g A n c xs _ _ hD2).mono ?_; rintro e w3 ⟨p, q3, rfl, hkn, hD3, hS3⟩
         have hbb3 := ballocs (Step.below hbb2 hS3 hbb2.size hg) (.cells #[.int .i64 p] 35)
         have hF3 := Blk.new w3 35 #[.int .i64 p]
         have hD3' := hD3.alloc (.cells #[.int .i64 p] 35)
         have hgf : w3.heap.size ≠ g := by have := hD3.1.lt; omega
         have HO := Lib.hid (okP_known hkn)
         have hp := okP_pos (okP_known hkn)
         have hgf2 := Step.below hbb2 hS3 hbb2.size hg
         clear hkn)
      | (go_at_call 21; refine (next_any g A n c xs q3 9 _ hD3' (by omega)).mono ?_; rintro e w4 ⟨r', q4, rfl, hr, hr0, hD4, hS4, hz4⟩
         obtain ⟨r, rfl⟩ : ∃ r : Nat, r' = r := ⟨r'.toNat, by have := hr (by omega); omega⟩
         have hr9 : r < 9 := by have := hr (by omega); omega
         have hF4 := Step.block hS4 hF3 hgf
         have hbb4 := Step.below hbb3 hS4 hbb3.size hg
         have hc4 : w4.cell? ⟨w3.heap.size, 0, none⟩ = some (.int .i64 p) := (hF4.cell 0).trans rfl
         clear hr hr0 hz4))
    have hp' := hp
    go_region_held3 (fun w' => w'.cell? ⟨w3.heap.size, 0, none⟩ = some (.int .i64 p)) (first | exact hc4 | exact hc5 | exact hc6)
      (first
        | (go_at_call 22; (with_reducible refine (elements_any g A n c xs q5 p r w5 hD5 hp (by omega)).mono ?_); rintro e w6 ⟨B2, d2, ys, q6, rfl, hown6, hY, hD6, hS6⟩
           have hF6 := Step.block hS6 hF5 hgf
           have hc6 : w6.cell? ⟨w3.heap.size, 0, none⟩ = some (.int .i64 p) := (hF6.cell 0).trans rfl)
        | (go_at_call 22; (with_reducible refine (elements_any g A n c xs q4 p r _ hD4.drew hp (by omega)).mono ?_); rintro e w5 ⟨B1, d1, us, q5, rfl, hown5, hX, hD5, hS5⟩
           have hF5 := Step.block hS5 hF4.drew hgf
           have hc5 : w5.cell? ⟨w3.heap.size, 0, none⟩ = some (.int .i64 p) := (hF5.cell 0).trans rfl))
    have hgl5 : g < w4.heap.size := hD4.1.lt
    have hbb5 := Step.below hbb4.drew hS5 hbb4.size hg
    have hbb6 := Step.below hbb5 hS6 hbb5.size hg
    have hown5' := hown5.step hS6 hgl5
    have hgl6 : g < w5.heap.size := hD5.1.lt
    have hdis : Hid (∀ b, (Value.slice B1 r d1).ownBlock = some b → (Value.slice B2 r d2).ownBlock ≠ some b) := Lib.hid fun b h1 h2 => by
      have h3 := (World.ownsRow.lt hown5 b h1).2
      have h4 := hown6.row b h2
      omega
    have hgf6 : w3.heap.size < w6.heap.size := hF6.lt
    clear hc4 hc5 hF4 hF5 hF3 hD3 hD3' hD4 hD5 hS3 hS4 hS5 hS6 hbb2 hbb3 hbb4 hbb5 hb1 hb2 hD2
    go_wp2_with (go_at_call 39; refine (order_any g A n c xs q6 r _ hD6 (by omega)).mono ?_; rintro e w7 ⟨C1, e1, ks, q7, rfl, hown7, hks, hD7, hS7⟩)
    have hB7 : Below w.heap.size w w7 := Step.below hbb6 hS7 hbb6.size hg
    have hI1 := (hown5'.step hS7 hgl5).ints
    have hI2 := (hown6.step hS7 hgl6).ints
    have hI3 := hown7.ints
    have hF7 := Step.block hS7 hF6 hgf
    have HK := Lib.hid hks
    have HX := Lib.hid hX
    have HY := Lib.hid hY
    clear hX hY hks hS7 hD7 hD6 hF6 hbb6 hown5 hown5' hown6 hown7 hc6 hgf2
    go_loopw [8, 9, 39] (fun x y i wr => ∃ (m : Nat) (A1 A2 : Option Addr) (c1 c2 : Nat), m ≤ r ∧ i = .int .i64 m ∧ x = .slice A1 m c1 ∧ y = .slice A2 m c2 ∧ Hid (Two wr w7.heap.size 3 A1 m c1 (pick us (ks.take m)) A2 m c2 (pick ys (ks.take m))) ∧ Below w7.heap.size w7 wr) (fun _ _ i _ => r - (intOf i).toNat)
    case atStart => exact ⟨0, none, none, 0, 0, Nat.zero_le _, rfl, rfl, rfl, Lib.hid Two.nil_, Below.refl _ _⟩
    case round =>
      obtain ⟨m, A1, A2, c1, c2, hm, rfl, rfl, rfl, HT, hb⟩ := hrel
      by_cases hlt : m < r
      · obtain ⟨b3, o3, rfl, hb3, hc3⟩ := hI3.2 (by omega)
        have hr3 := (hb.cell (p := ⟨b3, o3 + m, none⟩) hb3).trans (hc3 m hlt)
        obtain ⟨κ, hκ, hκr⟩ : ∃ κ : Nat, ks.getD m 0 = κ ∧ κ < r := order_at HK.out hlt
        rw [hκ] at hr3
        have Hκ := Lib.hid hκ
        obtain ⟨b1, o1, rfl, hb1, hc1⟩ := hI1.2 (by omega)
        obtain ⟨b2, o2, rfl, hb2, hc2⟩ := hI2.2 (by omega)
        have hr1 := (hb.cell (p := ⟨b1, o1 + κ, none⟩) hb1).trans (hc1 κ hκr)
        have hr2 := (hb.cell (p := ⟨b2, o2 + κ, none⟩) hb2).trans (hc2 κ hκr)
        have hκ0 : (0 : Int) ≤ (κ : Int) := by omega
        have hκ1 : (κ : Int) < (r : Int) := by omega
        obtain ⟨u, hu⟩ : ∃ u, us.getD κ 0 = u := ⟨_, rfl⟩
        obtain ⟨v, hv⟩ : ∃ v, ys.getD κ 0 = v := ⟨_, rfl⟩
        rw [hu] at hr1
        rw [hv] at hr2
        have HR1 : Hid (∀ wx, Below w7.heap.size w7 wx → wx.cell? ⟨b1, o1 + κ, none⟩ = some (.int .i64 u)) := Lib.hid fun wx hx => (hx.cell (p := ⟨b1, o1 + κ, none⟩) hb1).trans ((hc1 κ hκr).trans (by rw [hu]))
        have HR2 : Hid (∀ wx, Below w7.heap.size w7 wx → wx.cell? ⟨b2, o2 + κ, none⟩ = some (.int .i64 v)) := Lib.hid fun wx hx => (hx.cell (p := ⟨b2, o2 + κ, none⟩) hb2).trans ((hc2 κ hκr).trans (by rw [hv]))
        have HU := Lib.hid hu
        have HV := Lib.hid hv
        have HP1 : Hid (pick us (ks.take (m + 1)) = pick us (ks.take m) ++ [u]) := Lib.hid (by rw [take_snoc_int ks m (by rw [order_len HK.out]; exact hlt), pick_snoc, hκ, Int.toNat_natCast, hu])
        have HP2 : Hid (pick ys (ks.take (m + 1)) = pick ys (ks.take m) ++ [v]) := Lib.hid (by rw [take_snoc_int ks m (by rw [order_len HK.out]; exact hlt), pick_snoc, hκ, Int.toNat_natCast, hv])
        clear hu hv hc1 hc2 hc3 hκ
        go_wp2_with fail
        go_region_held3 (fun w' => w'.cell? ⟨b1, o1 + κ, none⟩ = some (.int .i64 u) ∧ w'.cell? ⟨b2, o2 + κ, none⟩ = some (.int .i64 v)) (first | go_keep | exact ⟨HR1.out _ hbb, HR2.out _ hbb⟩ | exact ⟨HR1.out _ hbb8, HR2.out _ hbb8⟩ | exact ⟨HR1.out _ hbb9, HR2.out _ hbb9⟩)
          (first
            | ((refine step_append_two (w := (wr.drew.alloc (.cells #[.int .i64 u] 3))) rfl (.tmp 43) (.tmp 48) 22 rfl w7.heap.size 3 i0 _ Try.underlying22 hi0 hz0 hz1 hz2 rfl A1 m c1 (pick us (ks.take m)) A2 m c2 (pick ys (ks.take m)) (HT.out.drew.alloc _) (by simp [Act.eval]) wr.heap.size 1 u (by simp [Act.eval]) (Ints.oneAt _ u _ wr.heap.size (by simp)) (by omega) (le_alloc hb.drew.size _) ?_); intro A3 c3 w8 hT8 hb8 hs8; have hbb8 := (hb.drew.alloc hb.drew.size _).trans hb8)
            | ((refine step_append_two (w := ((wr.drew.alloc (.cells #[.int .i64 u] 3)).alloc (.cells #[.int .i64 v] 3))) rfl (.tmp 43) (.tmp 48) 22 rfl w7.heap.size 3 i0 _ Try.underlying22 hi0 hz0 hz1 hz2 rfl A1 m c1 (pick us (ks.take m)) A2 m c2 (pick ys (ks.take m)) ((HT.out.drew.alloc _).alloc _) (by simp [Act.eval]) wr.heap.size 1 u (by simp [Act.eval]) ((Ints.oneAt _ u _ wr.heap.size (by simp)).upto (bbox _)) (by omega) (le_alloc (le_alloc hb.drew.size _) _) ?_); intro A3 c3 w8 hT8 hb8 hs8; have hbb8 := ((hb.drew.alloc hb.drew.size _).alloc (le_alloc hb.drew.size _) _).trans hb8; have hsy := hs8 (wr.heap.size + 1) v (Src.new HT.out.drew (by simp) (Ints.oneAt _ v _ (wr.heap.size + 1) (by simp))))
            | ((refine step_append_two (w := ((wr.drew.alloc (.cells #[.int .i64 v] 3)).alloc (.cells #[.int .i64 u] 3))) rfl (.tmp 43) (.tmp 48) 22 rfl w7.heap.size 3 i0 _ Try.underlying22 hi0 hz0 hz1 hz2 rfl A1 m c1 (pick us (ks.take m)) A2 m c2 (pick ys (ks.take m)) ((HT.out.drew.alloc _).alloc _) (by simp [Act.eval]) (wr.heap.size + 1) 1 u (by simp [Act.eval]) (Ints.oneAt _ u _ (wr.heap.size + 1) (by simp)) (by omega) (le_alloc (le_alloc hb.drew.size _) _) ?_); intro A3 c3 w8 hT8 hb8 hs8; have hbb8 := ((hb.drew.alloc hb.drew.size _).alloc (le_alloc hb.drew.size _) _).trans hb8; have hsy := hs8 wr.heap.size v (Src.new HT.out.drew (by simp) ((Ints.oneAt _ v _ wr.heap.size (by simp)).upto (bbox _))))
            | ((refine step_append_two (w := (wr.drew.alloc (.cells #[.int .i64 v] 3))) rfl (.tmp 50) (.tmp 55) 22 rfl w7.heap.size 3 i0 _ Try.underlying22 hi0 hz0 hz1 hz2 rfl A2 m c2 (pick ys (ks.take m)) A1 m c1 (pick us (ks.take m)) (HT.out.drew.swap.alloc _) (by simp [Act.eval]) wr.heap.size 1 v (by simp [Act.eval]) (Ints.oneAt _ v _ wr.heap.size (by simp)) (by omega) (le_alloc hb.drew.size _) ?_); intro A4 c4 w9 hT9 hb9 hs9; have hbb9 := (hb.drew.alloc hb.drew.size _).trans hb9)
            | ((refine step_append_two (w := ((wr.drew.alloc (.cells #[.int .i64 v] 3)).alloc (.cells #[.int .i64 u] 3))) rfl (.tmp 50) (.tmp 55) 22 rfl w7.heap.size 3 i0 _ Try.underlying22 hi0 hz0 hz1 hz2 rfl A2 m c2 (pick ys (ks.take m)) A1 m c1 (pick us (ks.take m)) ((HT.out.drew.swap.alloc _).alloc _) (by simp [Act.eval]) wr.heap.size 1 v (by simp [Act.eval]) ((Ints.oneAt _ v _ wr.heap.size (by simp)).upto (bbox _)) (by omega) (le_alloc (le_alloc hb.drew.size _) _) ?_); intro A4 c4 w9 hT9 hb9 hs9; have hbb9 := ((hb.drew.alloc hb.drew.size _).alloc (le_alloc hb.drew.size _) _).trans hb9; have hsx := hs9 (wr.heap.size + 1) u (Src.new HT.out.drew.swap (by simp) (Ints.oneAt _ u _ (wr.heap.size + 1) (by simp))))
            | ((refine step_append_two (w := ((wr.drew.alloc (.cells #[.int .i64 u] 3)).alloc (.cells #[.int .i64 v] 3))) rfl (.tmp 50) (.tmp 55) 22 rfl w7.heap.size 3 i0 _ Try.underlying22 hi0 hz0 hz1 hz2 rfl A2 m c2 (pick ys (ks.take m)) A1 m c1 (pick us (ks.take m)) ((HT.out.drew.swap.alloc _).alloc _) (by simp [Act.eval]) (wr.heap.size + 1) 1 v (by simp [Act.eval]) (Ints.oneAt _ v _ (wr.heap.size + 1) (by simp)) (by omega) (le_alloc (le_alloc hb.drew.size _) _) ?_); intro A4 c4 w9 hT9 hb9 hs9; have hbb9 := ((hb.drew.alloc hb.drew.size _).alloc (le_alloc hb.drew.size _) _).trans hb9; have hsx := hs9 wr.heap.size u (Src.new HT.out.drew.swap (by simp) ((Ints.oneAt _ u _ wr.heap.size (by simp)).upto (bbox _))))
            | ((refine step_append_two (w := (w8.alloc (.cells #[.int .i64 v] 3))) rfl (.tmp 50) (.tmp 55) 22 rfl w7.heap.size 3 i0 _ Try.underlying22 hi0 hz0 hz1 hz2 rfl A2 m c2 (pick ys (ks.take m)) A3 (m + 1) c3 (pick us (ks.take m) ++ [u]) (hT8.swap.alloc _) (by simp [Act.eval]) w8.heap.size 1 v (by simp [Act.eval]) (Ints.oneAt _ v _ w8.heap.size (by simp)) (by omega) (le_alloc hbb8.size _) ?_); intro A4 c4 w9 hT hb9 _; have hTT := hT.swap; have hbb := (hbb8.alloc hbb8.size _).trans hb9)
            | ((refine step_append_two (w := w8) rfl (.tmp 50) (.tmp 55) 22 rfl w7.heap.size 3 i0 _ Try.underlying22 hi0 hz0 hz1 hz2 rfl A2 m c2 (pick ys (ks.take m)) A3 (m + 1) c3 (pick us (ks.take m) ++ [u]) hT8.swap (by simp [Act.eval]) wr.heap.size 1 v (by simp [Act.eval]) hsy.1 (by omega) hbb8.size ?_); intro A4 c4 w9 hT hb9 _; have hTT := hT.swap; have hbb := hbb8.trans hb9)
            | ((refine step_append_two (w := w8) rfl (.tmp 50) (.tmp 55) 22 rfl w7.heap.size 3 i0 _ Try.underlying22 hi0 hz0 hz1 hz2 rfl A2 m c2 (pick ys (ks.take m)) A3 (m + 1) c3 (pick us (ks.take m) ++ [u]) hT8.swap (by simp [Act.eval]) (wr.heap.size + 1) 1 v (by simp [Act.eval]) hsy.1 (by omega) hbb8.size ?_); intro A4 c4 w9 hT hb9 _; have hTT := hT.swap; have hbb := hbb8.trans hb9)
            | ((refine step_append_two (w := (w9.alloc (.cells #[.int .i64 u] 3))) rfl (.tmp 43) (.tmp 48) 22 rfl w7.heap.size 3 i0 _ Try.underlying22 hi0 hz0 hz1 hz2 rfl A1 m c1 (pick us (ks.take m)) A4 (m + 1) c4 (pick ys (ks.take m) ++ [v]) (hT9.swap.alloc _) (by simp [Act.eval]) w9.heap.size 1 u (by simp [Act.eval]) (Ints.oneAt _ u _ w9.heap.size (by simp)) (by omega) (le_alloc hbb9.size _) ?_); intro A3 c3 w8 hTT hb8 _; have hbb := (hbb9.alloc hbb9.size _).trans hb8)
            | ((refine step_append_two (w := w9) rfl (.tmp 43) (.tmp 48) 22 rfl w7.heap.size 3 i0 _ Try.underlying22 hi0 hz0 hz1 hz2 rfl A1 m c1 (pick us (ks.take m)) A4 (m + 1) c4 (pick ys (ks.take m) ++ [v]) hT9.swap (by simp [Act.eval]) wr.heap.size 1 u (by simp [Act.eval]) hsx.1 (by omega) hbb9.size ?_); intro A3 c3 w8 hTT hb8 _; have hbb := hbb9.trans hb8)
            | ((refine step_append_two (w := w9) rfl (.tmp 43) (.tmp 48) 22 rfl w7.heap.size 3 i0 _ Try.underlying22 hi0 hz0 hz1 hz2 rfl A1 m c1 (pick us (ks.take m)) A4 (m + 1) c4 (pick ys (ks.take m) ++ [v]) hT9.swap (by simp [Act.eval]) (wr.heap.size + 1) 1 u (by simp [Act.eval]) hsx.1 (by omega) hbb9.size ?_); intro A3 c3 w8 hTT hb8 _; have hbb := hbb9.trans hb8))
        all_goals
          go_wp2
          go_roundw
          case rel => exact ⟨m + 1, A3, A4, c3, c4, by omega, by go_num, rfl, rfl, Lib.hid (by rw [HP1.out, HP2.out]; exact hTT), hbb⟩
          case measure => simp [intOf]; omega
      · have hmr : m = r := by omega
        subst hmr
        have HL := order_len HK.out
        rw [List.take_of_length_le (by omega)] at HT
        have hT := HT.out
        have hbw := hB7.trans (hb.mono hB7.size)
        have hF8 := hF7.below hb hF7.lt
        have hc8 : wr.cell? ⟨w3.heap.size, 0, none⟩ = some (.int .i64 p) := (hF8.cell 0).trans rfl
        have HD := Lib.hid (dot_moves p us ys ks m hI1.len hI2.len HK.out)
        have hx1 := Lib.hid (pick_all HX.out hI1.len (order_mem HK.out))
        have hy1 := Lib.hid (pick_all HY.out hI2.len (order_mem HK.out))
        have hJ1 := hT.1.ints
        have hJ2 := hT.2.1.ints
        have hK1 := hI1.upto hb
        have hK2 := hI2.upto hb
        clear HT hT HL hb hI1 hI2 hI3
        go_wp2_with (first
          | (go_at_call 40; (with_reducible refine (dot_ok p B1 B2 m d1 d2 us ys _ HO.out hK1 hK2 HX.out HY.out (by omega)).mono ?_); rintro e w10 ⟨rfl, hb10⟩
             have hbw10 := bnext hbw hb10
             have hJ11 := hJ1.upto hb10
             have hJ21 := hJ2.upto hb10
             have hF10 := hF8.below hb10 hF8.lt
             have hc10 : w10.cell? ⟨w3.heap.size, 0, none⟩ = some (.int .i64 p) := (hF10.cell 0).trans rfl)
          | (go_at_call 40; (with_reducible refine (dot_ok p A2 A1 m c2 c1 (pick ys ks) (pick us ks) _ HO.out hJ21 hJ11 hy1.out hx1.out (by omega)).mono ?_); rintro e w11 ⟨rfl, hb11⟩
             have hbw11 := bnext hbw10 hb11
             rw [HD.out]))
        go_ret
        exact ⟨rfl, hbw11⟩
  · have hd : decide (n ≤ 500) = false := by simpa using hn
    go_enter Try.func8, Try.ntmps8
    go_wp2_with (first
      | (go_at_call 38; refine (sane04_any _).mono ?_; rintro e w1 ⟨rfl, hb1⟩)
      | (go_at_call 18; refine (few_any A n c _).mono ?_; rintro e w' ⟨rfl, rfl⟩))
    go_ret
    exact ⟨rfl, hb1⟩
end Go.Proofs.Ytiledcpefaoeiaa
