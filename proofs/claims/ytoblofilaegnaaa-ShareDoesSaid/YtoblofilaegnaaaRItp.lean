/-
  What the second form's Interpolate hands back for any points: the polynomial, or the error. Conditions: the points read as their numbers, and are at most a hundred.
-/
import Derived.Test.YtoblofilaegnaaaPItp
import Derived.Test.YtoblofilaegnaaaR5All
import Derived.Test.YtoblofilaegnaaaRInv
import Derived.Test.YtoblofilaegnaaaPlain
namespace Go.Proofs.Ytoblofilaegnaaa
open Go.RowKit Go.Maps
set_option linter.unusedVariables false

set_option maxHeartbeats 1600000 in
set_option maxRecDepth 100000 in
theorem rinterp_err (p : Int) (A : Option Addr) (n c : Nat) (us ys : List Int) (w : World) (h : Sh w w.heap.size A n us ys) (hn : n ≤ 100) (h0 : ¬ errL p [us, ys] = 0) :
    Calls Try.prog 49 #[.agg #[.int .i64 p], .slice A n c] w fun e w' => e = .returned (.tuple #[.slice none 0 0, .int .i64 (errL p [us, ys])]) ∧ Below w.heap.size w w' := by
  have HLA := Lib.hid h.1
  have HLY := Lib.hid h.2.1
  have hI := h.2.2
  obtain ⟨i0, hi0, hz0, hz1, hz2⟩ := info_parts info_int
  obtain ⟨er, HER⟩ : ∃ er, Hid (errL p [us, ys] = er) := ⟨_, Lib.hid rfl⟩
  rw [HER.out] at h0 ⊢
  have hne : (er != 0) = true := by simpa using h0
  clear h h0
  go_enter Try.func49, Try.ntmps49
  go_wp2
  have hbb0 : Below w.heap.size w (w.alloc (.cells #[.int .i64 p] 24)) := bbox _
  go_loopw [6, 7, 27] (fun r1 r2 i wr => ∃ (k : Nat) (A1 A2 : Option Addr) (c1 c2 : Nat), k ≤ n ∧ r1 = .slice A1 k c1 ∧ r2 = .slice A2 k c2 ∧ i = .int .i64 k ∧ Hid (Two wr (w.alloc (.cells #[.int .i64 p] 24)).heap.size 3 A1 k c1 (us.take k) A2 k c2 (ys.take k)) ∧ Below (w.alloc (.cells #[.int .i64 p] 24)).heap.size (w.alloc (.cells #[.int .i64 p] 24)) wr) (fun _ _ i _ => n - (intOf i).toNat)
  case atStart => exact ⟨0, none, none, 0, 0, Nat.zero_le _, rfl, rfl, rfl, Lib.hid Two.nil_, Below.refl _ _⟩
  case round =>
    obtain ⟨k, A1, A2, c1, c2, hk, rfl, rfl, rfl, HT, hbf⟩ := hrel
    have hb := bnext hbb0 hbf
    by_cases hlt : k < n
    · obtain ⟨b, off, rfl, hbl, hcell⟩ := hI (by omega)
      have hcA := (hb.cell (p := ⟨b, off + k * 2, none⟩) hbl).trans (hcell k hlt).1
      have hcY := (hb.cell (p := ⟨b, off + k * 2 + 1, none⟩) hbl).trans (hcell k hlt).2
      clear hcell
      have HU := Lib.hid (take_succ_getD us k (by rw [HLA.out]; exact hlt))
      have HV := Lib.hid (take_succ_getD ys k (by rw [HLY.out]; exact hlt))
      generalize us.getD k 0 = u at *
      generalize ys.getD k 0 = v at *
      have HTQ : Hid (Two (wr.alloc (.cells #[.int .i64 u, .int .i64 v] 52)) (w.alloc (.cells #[.int .i64 p] 24)).heap.size 3 A1 k c1 (us.take k) A2 k c2 (ys.take k)) := Lib.hid (HT.out.alloc _)
      have HSQ : S2 wr.heap.size u v (wr.alloc (.cells #[.int .i64 u, .int .i64 v] 52)) := ⟨((Blk.new wr _ _).cell 0).trans rfl, ((Blk.new wr _ _).cell 1).trans rfl⟩
      have hbq := ballocs hbf (.cells #[.int .i64 u, .int .i64 v] 52)
      have hn1 : (Value.slice A1 k c1).ownBlock ≠ some wr.heap.size := fun e => by have := (World.ownsRow.lt HT.out.1 _ e).2; omega
      have hn2 : (Value.slice A2 k c2).ownBlock ≠ some wr.heap.size := fun e => by have := (World.ownsRow.lt HT.out.2.1 _ e).2; omega
      go_wp2
      --ARMS
      go_region_held3 (fun w' => w'.cell? ⟨wr.heap.size, 0, none⟩ = some (.int .i64 u) ∧ w'.cell? ⟨wr.heap.size, 1, none⟩ = some (.int .i64 v)) (first | exact HSQ.drew | exact HS8 | exact HSQ | exact HSQ.drew.alloc _ | exact (HSQ.drew.alloc _).alloc _ | exact HS8.alloc _ | exact HS9)
        (first
          | ((refine step_append_twoG (w := (wr.alloc (.cells #[.int .i64 u, .int .i64 v] 52)).drew.alloc (.cells #[.int .i64 u] 3)) rfl (.tmp 31) (.tmp 34) 22 rfl (w.alloc (.cells #[.int .i64 p] 24)).heap.size 3 i0 _ Try.underlying22 hi0 hz0 hz1 hz2 rfl A1 k c1 (us.take k) A2 k c2 (ys.take k) (HTQ.out.drew.alloc _) (by simp [Act.eval]) (wr.heap.size + 1) 1 u (by simp [Act.eval]) (Ints.oneAt _ u _ (wr.heap.size + 1) (by simp)) (by omega) (le_alloc hbq.drew.size _) ?_); intro A3 c3 w8 hT8 hb8 hg8 hs8; have HS8 := S2.grown (HSQ.drew.alloc _) hg8 hn1; have hbb8 := (hbq.drew.alloc hbq.drew.size (.cells #[.int .i64 u] 3)).trans hb8)
          | ((refine step_append_twoG (w := ((wr.alloc (.cells #[.int .i64 u, .int .i64 v] 52)).drew.alloc (.cells #[.int .i64 u] 3)).alloc (.cells #[.int .i64 v] 3)) rfl (.tmp 31) (.tmp 34) 22 rfl (w.alloc (.cells #[.int .i64 p] 24)).heap.size 3 i0 _ Try.underlying22 hi0 hz0 hz1 hz2 rfl A1 k c1 (us.take k) A2 k c2 (ys.take k) ((HTQ.out.drew.alloc _).alloc _) (by simp [Act.eval]) (wr.heap.size + 1) 1 u (by simp [Act.eval]) ((Ints.oneAt _ u _ (wr.heap.size + 1) (by simp)).upto (bbox _)) (by omega) (le_alloc (le_alloc hbq.drew.size _) _) ?_); intro A3 c3 w8 hT8 hb8 hg8 hs8; have HS8 := S2.grown ((HSQ.drew.alloc _).alloc _) hg8 hn1; have hbb8 := ((hbq.drew.alloc hbq.drew.size (.cells #[.int .i64 u] 3)).alloc (hbq.drew.alloc hbq.drew.size (.cells #[.int .i64 u] 3)).size (.cells #[.int .i64 v] 3)).trans hb8; have hsy := hs8 (wr.heap.size + 1 + 1) v (Src.new HTQ.out.drew (by first | (simp; done) | (simp; omega)) (Ints.oneAt _ v _ (wr.heap.size + 1 + 1) (by simp))))
          | ((refine step_append_twoG (w := ((wr.alloc (.cells #[.int .i64 u, .int .i64 v] 52)).drew.alloc (.cells #[.int .i64 v] 3)).alloc (.cells #[.int .i64 u] 3)) rfl (.tmp 31) (.tmp 34) 22 rfl (w.alloc (.cells #[.int .i64 p] 24)).heap.size 3 i0 _ Try.underlying22 hi0 hz0 hz1 hz2 rfl A1 k c1 (us.take k) A2 k c2 (ys.take k) ((HTQ.out.drew.alloc _).alloc _) (by simp [Act.eval]) (wr.heap.size + 1 + 1) 1 u (by simp [Act.eval]) (Ints.oneAt _ u _ (wr.heap.size + 1 + 1) (by simp)) (by omega) (le_alloc (le_alloc hbq.drew.size _) _) ?_); intro A3 c3 w8 hT8 hb8 hg8 hs8; have HS8 := S2.grown ((HSQ.drew.alloc _).alloc _) hg8 hn1; have hbb8 := ((hbq.drew.alloc hbq.drew.size (.cells #[.int .i64 v] 3)).alloc (hbq.drew.alloc hbq.drew.size (.cells #[.int .i64 v] 3)).size (.cells #[.int .i64 u] 3)).trans hb8; have hsy := hs8 (wr.heap.size + 1) v (Src.new HTQ.out.drew (by first | (simp; done) | (simp; omega)) ((Ints.oneAt _ v _ (wr.heap.size + 1) (by simp)).upto (bbox _))))
          | ((refine step_append_twoG (w := w8.alloc (.cells #[.int .i64 v] 3)) rfl (.tmp 36) (.tmp 39) 22 rfl (w.alloc (.cells #[.int .i64 p] 24)).heap.size 3 i0 _ Try.underlying22 hi0 hz0 hz1 hz2 rfl A2 k c2 (ys.take k) A3 (k + 1) c3 (us.take k ++ [u]) (hT8.swap.alloc _) (by simp [Act.eval]) w8.heap.size 1 v (by simp [Act.eval]) (Ints.oneAt _ v _ w8.heap.size (by simp)) (by omega) (le_alloc hbb8.size _) ?_); intro A4 c4 w9 hT hb9 hg9 _; have HS9 := S2.grown (HS8.alloc _) hg9 hn2; have hTT := hT.swap; have hbb := (hbb8.alloc hbb8.size _).trans hb9)
          | ((refine step_append_twoG (w := w8) rfl (.tmp 36) (.tmp 39) 22 rfl (w.alloc (.cells #[.int .i64 p] 24)).heap.size 3 i0 _ Try.underlying22 hi0 hz0 hz1 hz2 rfl A2 k c2 (ys.take k) A3 (k + 1) c3 (us.take k ++ [u]) hT8.swap (by simp [Act.eval]) (wr.heap.size + 1) 1 v (by simp [Act.eval]) hsy.1 (by omega) hbb8.size ?_); intro A4 c4 w9 hT hb9 hg9 _; have HS9 := S2.grown HS8 hg9 hn2; have hTT := hT.swap; have hbb := hbb8.trans hb9)
          | ((refine step_append_twoG (w := w8) rfl (.tmp 36) (.tmp 39) 22 rfl (w.alloc (.cells #[.int .i64 p] 24)).heap.size 3 i0 _ Try.underlying22 hi0 hz0 hz1 hz2 rfl A2 k c2 (ys.take k) A3 (k + 1) c3 (us.take k ++ [u]) hT8.swap (by simp [Act.eval]) (wr.heap.size + 1 + 1) 1 v (by simp [Act.eval]) hsy.1 (by omega) hbb8.size ?_); intro A4 c4 w9 hT hb9 hg9 _; have HS9 := S2.grown HS8 hg9 hn2; have hTT := hT.swap; have hbb := hbb8.trans hb9))
      --END
      all_goals
        go_wp2
        go_roundw
        case rel => exact ⟨k + 1, A3, A4, c3, c4, by omega, rfl, rfl, by go_num, Lib.hid (by rw [HU.out, HV.out]; exact hTT), hbb⟩
        case measure => simp [intOf]; omega
    · have hkn : k = n := by omega
      subst hkn
      have hT := HT.out
      rw [List.take_of_length_le (by rw [HLA.out]; omega), List.take_of_length_le (by rw [HLY.out]; omega)] at hT
      have hJ1 := hT.1.ints
      have hJ2 := hT.2.1.ints
      have hF := (Blk.new w 24 #[.int .i64 p]).below hbf (by simp)
      have hc0 : wr.cell? ⟨w.heap.size, 0, none⟩ = some (.int .i64 p) := (hF.cell 0).trans rfl
      clear HT hI hT hbb0
      go_wp2_with (go_at_call 131; refine (rlists_any p _ 2 2 [us, ys] _ (by exact Mat.two _ A1 A2 k k c1 c2 us ys 22 _ (by simp) hJ1 hJ2 (by omega) (by omega)) (by omega)).mono ?_; rw [HER.out]; rintro e w1 ⟨rfl, hb1⟩
                   have hbb1 := bnext (ballocs hb (.cells #[.slice A1 k c1, .slice A2 k c2] 22)) hb1)
      go_ret2
      exact ⟨rfl, hbb1⟩

set_option maxHeartbeats 3200000 in
set_option maxRecDepth 100000 in
theorem rinterp_ok (p : Int) (A : Option Addr) (n c : Nat) (us ys : List Int) (w : World) (h : Sh w w.heap.size A n us ys) (hn : n ≤ 100) (h0 : errL p [us, ys] = 0) :
    Calls Try.prog 49 #[.agg #[.int .i64 p], .slice A n c] w (ItpPost p us ys w) := by
  have HLA := Lib.hid h.1
  have HLY := Lib.hid h.2.1
  have hI := h.2.2
  obtain ⟨i0, hi0, hz0, hz1, hz2⟩ := info_parts info_int
  have H0 := Lib.hid h0
  have HA := Lib.hid (errL_two h0).2.1.1
  have HY := Lib.hid (errL_two h0).2.2.1
  have HO := Lib.hid (errL_two h0).1
  have hp := okP_pos (errL_two h0).1
  clear h h0
  go_enter Try.func49, Try.ntmps49
  go_wp2
  have hbb0 : Below w.heap.size w (w.alloc (.cells #[.int .i64 p] 24)) := bbox _
  go_loopw [6, 7, 27] (fun r1 r2 i wr => ∃ (k : Nat) (A1 A2 : Option Addr) (c1 c2 : Nat), k ≤ n ∧ r1 = .slice A1 k c1 ∧ r2 = .slice A2 k c2 ∧ i = .int .i64 k ∧ Hid (Two wr (w.alloc (.cells #[.int .i64 p] 24)).heap.size 3 A1 k c1 (us.take k) A2 k c2 (ys.take k)) ∧ Below (w.alloc (.cells #[.int .i64 p] 24)).heap.size (w.alloc (.cells #[.int .i64 p] 24)) wr) (fun _ _ i _ => n - (intOf i).toNat)
  case atStart => exact ⟨0, none, none, 0, 0, Nat.zero_le _, rfl, rfl, rfl, Lib.hid Two.nil_, Below.refl _ _⟩
  case round =>
    obtain ⟨k, A1, A2, c1, c2, hk, rfl, rfl, rfl, HT, hbf⟩ := hrel
    have hb := bnext hbb0 hbf
    by_cases hlt : k < n
    · obtain ⟨b, off, rfl, hbl, hcell⟩ := hI (by omega)
      have hcA := (hb.cell (p := ⟨b, off + k * 2, none⟩) hbl).trans (hcell k hlt).1
      have hcY := (hb.cell (p := ⟨b, off + k * 2 + 1, none⟩) hbl).trans (hcell k hlt).2
      clear hcell
      have HU := Lib.hid (take_succ_getD us k (by rw [HLA.out]; exact hlt))
      have HV := Lib.hid (take_succ_getD ys k (by rw [HLY.out]; exact hlt))
      generalize us.getD k 0 = u at *
      generalize ys.getD k 0 = v at *
      have HTQ : Hid (Two (wr.alloc (.cells #[.int .i64 u, .int .i64 v] 52)) (w.alloc (.cells #[.int .i64 p] 24)).heap.size 3 A1 k c1 (us.take k) A2 k c2 (ys.take k)) := Lib.hid (HT.out.alloc _)
      have HSQ : S2 wr.heap.size u v (wr.alloc (.cells #[.int .i64 u, .int .i64 v] 52)) := ⟨((Blk.new wr _ _).cell 0).trans rfl, ((Blk.new wr _ _).cell 1).trans rfl⟩
      have hbq := ballocs hbf (.cells #[.int .i64 u, .int .i64 v] 52)
      have hn1 : (Value.slice A1 k c1).ownBlock ≠ some wr.heap.size := fun e => by have := (World.ownsRow.lt HT.out.1 _ e).2; omega
      have hn2 : (Value.slice A2 k c2).ownBlock ≠ some wr.heap.size := fun e => by have := (World.ownsRow.lt HT.out.2.1 _ e).2; omega
      go_wp2
      --ARMS
      go_region_held3 (fun w' => w'.cell? ⟨wr.heap.size, 0, none⟩ = some (.int .i64 u) ∧ w'.cell? ⟨wr.heap.size, 1, none⟩ = some (.int .i64 v)) (first | exact HSQ.drew | exact HS8 | exact HSQ | exact HSQ.drew.alloc _ | exact (HSQ.drew.alloc _).alloc _ | exact HS8.alloc _ | exact HS9)
        (first
          | ((refine step_append_twoG (w := (wr.alloc (.cells #[.int .i64 u, .int .i64 v] 52)).drew.alloc (.cells #[.int .i64 u] 3)) rfl (.tmp 31) (.tmp 34) 22 rfl (w.alloc (.cells #[.int .i64 p] 24)).heap.size 3 i0 _ Try.underlying22 hi0 hz0 hz1 hz2 rfl A1 k c1 (us.take k) A2 k c2 (ys.take k) (HTQ.out.drew.alloc _) (by simp [Act.eval]) (wr.heap.size + 1) 1 u (by simp [Act.eval]) (Ints.oneAt _ u _ (wr.heap.size + 1) (by simp)) (by omega) (le_alloc hbq.drew.size _) ?_); intro A3 c3 w8 hT8 hb8 hg8 hs8; have HS8 := S2.grown (HSQ.drew.alloc _) hg8 hn1; have hbb8 := (hbq.drew.alloc hbq.drew.size (.cells #[.int .i64 u] 3)).trans hb8)
          | ((refine step_append_twoG (w := ((wr.alloc (.cells #[.int .i64 u, .int .i64 v] 52)).drew.alloc (.cells #[.int .i64 u] 3)).alloc (.cells #[.int .i64 v] 3)) rfl (.tmp 31) (.tmp 34) 22 rfl (w.alloc (.cells #[.int .i64 p] 24)).heap.size 3 i0 _ Try.underlying22 hi0 hz0 hz1 hz2 rfl A1 k c1 (us.take k) A2 k c2 (ys.take k) ((HTQ.out.drew.alloc _).alloc _) (by simp [Act.eval]) (wr.heap.size + 1) 1 u (by simp [Act.eval]) ((Ints.oneAt _ u _ (wr.heap.size + 1) (by simp)).upto (bbox _)) (by omega) (le_alloc (le_alloc hbq.drew.size _) _) ?_); intro A3 c3 w8 hT8 hb8 hg8 hs8; have HS8 := S2.grown ((HSQ.drew.alloc _).alloc _) hg8 hn1; have hbb8 := ((hbq.drew.alloc hbq.drew.size (.cells #[.int .i64 u] 3)).alloc (hbq.drew.alloc hbq.drew.size (.cells #[.int .i64 u] 3)).size (.cells #[.int .i64 v] 3)).trans hb8; have hsy := hs8 (wr.heap.size + 1 + 1) v (Src.new HTQ.out.drew (by first | (simp; done) | (simp; omega)) (Ints.oneAt _ v _ (wr.heap.size + 1 + 1) (by simp))))
          | ((refine step_append_twoG (w := ((wr.alloc (.cells #[.int .i64 u, .int .i64 v] 52)).drew.alloc (.cells #[.int .i64 v] 3)).alloc (.cells #[.int .i64 u] 3)) rfl (.tmp 31) (.tmp 34) 22 rfl (w.alloc (.cells #[.int .i64 p] 24)).heap.size 3 i0 _ Try.underlying22 hi0 hz0 hz1 hz2 rfl A1 k c1 (us.take k) A2 k c2 (ys.take k) ((HTQ.out.drew.alloc _).alloc _) (by simp [Act.eval]) (wr.heap.size + 1 + 1) 1 u (by simp [Act.eval]) (Ints.oneAt _ u _ (wr.heap.size + 1 + 1) (by simp)) (by omega) (le_alloc (le_alloc hbq.drew.size _) _) ?_); intro A3 c3 w8 hT8 hb8 hg8 hs8; have HS8 := S2.grown ((HSQ.drew.alloc _).alloc _) hg8 hn1; have hbb8 := ((hbq.drew.alloc hbq.drew.size (.cells #[.int .i64 v] 3)).alloc (hbq.drew.alloc hbq.drew.size (.cells #[.int .i64 v] 3)).size (.cells #[.int .i64 u] 3)).trans hb8; have hsy := hs8 (wr.heap.size + 1) v (Src.new HTQ.out.drew (by first | (simp; done) | (simp; omega)) ((Ints.oneAt _ v _ (wr.heap.size + 1) (by simp)).upto (bbox _))))
          | ((refine step_append_twoG (w := w8.alloc (.cells #[.int .i64 v] 3)) rfl (.tmp 36) (.tmp 39) 22 rfl (w.alloc (.cells #[.int .i64 p] 24)).heap.size 3 i0 _ Try.underlying22 hi0 hz0 hz1 hz2 rfl A2 k c2 (ys.take k) A3 (k + 1) c3 (us.take k ++ [u]) (hT8.swap.alloc _) (by simp [Act.eval]) w8.heap.size 1 v (by simp [Act.eval]) (Ints.oneAt _ v _ w8.heap.size (by simp)) (by omega) (le_alloc hbb8.size _) ?_); intro A4 c4 w9 hT hb9 hg9 _; have HS9 := S2.grown (HS8.alloc _) hg9 hn2; have hTT := hT.swap; have hbb := (hbb8.alloc hbb8.size _).trans hb9)
          | ((refine step_append_twoG (w := w8) rfl (.tmp 36) (.tmp 39) 22 rfl (w.alloc (.cells #[.int .i64 p] 24)).heap.size 3 i0 _ Try.underlying22 hi0 hz0 hz1 hz2 rfl A2 k c2 (ys.take k) A3 (k + 1) c3 (us.take k ++ [u]) hT8.swap (by simp [Act.eval]) (wr.heap.size + 1) 1 v (by simp [Act.eval]) hsy.1 (by omega) hbb8.size ?_); intro A4 c4 w9 hT hb9 hg9 _; have HS9 := S2.grown HS8 hg9 hn2; have hTT := hT.swap; have hbb := hbb8.trans hb9)
          | ((refine step_append_twoG (w := w8) rfl (.tmp 36) (.tmp 39) 22 rfl (w.alloc (.cells #[.int .i64 p] 24)).heap.size 3 i0 _ Try.underlying22 hi0 hz0 hz1 hz2 rfl A2 k c2 (ys.take k) A3 (k + 1) c3 (us.take k ++ [u]) hT8.swap (by simp [Act.eval]) (wr.heap.size + 1 + 1) 1 v (by simp [Act.eval]) hsy.1 (by omega) hbb8.size ?_); intro A4 c4 w9 hT hb9 hg9 _; have HS9 := S2.grown HS8 hg9 hn2; have hTT := hT.swap; have hbb := hbb8.trans hb9))
      --END
      all_goals
        go_wp2
        go_roundw
        case rel => exact ⟨k + 1, A3, A4, c3, c4, by omega, rfl, rfl, by go_num, Lib.hid (by rw [HU.out, HV.out]; exact hTT), hbb⟩
        case measure => simp [intOf]; omega
    · have hkn : k = n := by omega
      subst hkn
      have hT := HT.out
      rw [List.take_of_length_le (by rw [HLA.out]; omega), List.take_of_length_le (by rw [HLY.out]; omega)] at hT
      have hJ1 := hT.1.ints
      have hJ2 := hT.2.1.ints
      have hF := (Blk.new w 24 #[.int .i64 p]).below hbf (by simp)
      have hc0 : wr.cell? ⟨w.heap.size, 0, none⟩ = some (.int .i64 p) := (hF.cell 0).trans rfl
      have hcap1 := OwnI.cap hT.1
      clear HT hI hT hbb0
      go_wp2_with (go_at_call 131; refine (rlists_any p _ 2 2 [us, ys] _ (by exact Mat.two _ A1 A2 k k c1 c2 us ys 22 _ (by simp) hJ1 hJ2 (by omega) (by omega)) (by omega)).mono ?_; rw [H0.out]; rintro e w1 ⟨rfl, hb1⟩
                   have hbb1 := bnext (ballocs hb (.cells #[.slice A1 k c1, .slice A2 k c2] 22)) hb1
                   have hK1 := (hJ1.upto (bbox (.cells #[.slice A1 k c1, .slice A2 k c2] 22))).upto hb1
                   have hK2 := (hJ2.upto (bbox (.cells #[.slice A1 k c1, .slice A2 k c2] 22))).upto hb1
                   have hF1 := (hF.alloc (.cells #[.slice A1 k c1, .slice A2 k c2] 22)).below hb1 (hF.alloc _).lt
                   clear hb1)
      clear hJ1 hJ2 hb hc0 hF
      go_loopw [52] (fun i wx => ∃ (j q : Nat), j ≤ k ∧ i = .int .i64 j ∧ Hid (Dist (us.take j)) ∧ wx = w1.drewN q) (fun i _ => k - (intOf i).toNat)
      case atStart => exact ⟨0, 0, Nat.zero_le _, rfl, Lib.hid (fun a b _ hb => by simp at hb), rfl⟩
      case round =>
        obtain ⟨j, q, hj, rfl, HDJ, rfl⟩ := hrel
        by_cases hlt2 : j < k
        · obtain ⟨b1, o1, rfl, hb1, hc1⟩ := hK1.2 (by omega)
          have hcx := hc1 j hlt2
          have HC1 := Lib.hid hc1
          clear hc1
          have HDN : Hid (us.getD j 0 ∉ us.take j → Dist (us.take (j + 1))) := Lib.hid (fun hn => Dist.take_succ (by rw [HLA.out]; exact hlt2) HDJ.out hn)
          have HDX : Hid (us.getD j 0 ∈ us.take j → ¬ Dist us) := Lib.hid (fun hm hD => by
            obtain ⟨i, hi, hil, e⟩ := take_mem hm
            exact hD i j hi (by rw [HLA.out]; exact hlt2) e)
          have HMM : Hid (∀ i, i < j → us.getD i 0 = us.getD j 0 → us.getD j 0 ∈ us.take j) := Lib.hid (fun i hi e => by
            rw [← e, List.getD_eq_getElem?_getD, List.getElem?_eq_getElem (by rw [HLA.out]; omega)]
            exact List.mem_take_iff_getElem.2 ⟨i, by rw [HLA.out]; omega, rfl⟩)
          have HMN : Hid ((∀ i, i < j → us.getD i 0 ≠ us.getD j 0) → us.getD j 0 ∉ us.take j) := Lib.hid (fun ha hm => by
            obtain ⟨i, hi, hil, e⟩ := take_mem hm
            exact ha i hi e)
          have hj0 : (0 : Int) ≤ (j : Int) := by omega
          have hjk : (j : Int) < (k : Int) := by omega
          have hjc : (j : Int) ≤ (c1 : Int) := by omega
          go_wp2
          go_loopw [59] (fun i wy => ∃ (i2 q2 : Nat), i2 ≤ j ∧ i = .int .i64 i2 ∧ Hid (∀ i, i < i2 → us.getD i 0 ≠ us.getD j 0) ∧ wy = w1.drewN q2) (fun i _ => j - (intOf i).toNat)
          case atStart => exact ⟨0, q, Nat.zero_le _, rfl, Lib.hid (fun i hi => absurd hi (by omega)), rfl⟩
          case round =>
            obtain ⟨i2, q2, hi2, rfl, HNE, rfl⟩ := hrel
            by_cases hlt3 : i2 < j
            · have hcz := HC1.out i2 (by omega)
              have hi20 : (0 : Int) ≤ (i2 : Int) := by omega
              have hi2k : (i2 : Int) < (k : Int) := by omega
              have HM2 := Lib.hid (HMM.out i2 hlt3)
              have HN2 : Hid (us.getD i2 0 ≠ us.getD j 0 → ∀ i, i < i2 + 1 → us.getD i 0 ≠ us.getD j 0) := Lib.hid (fun hne i hi => by
                rcases Nat.lt_or_ge i i2 with h1 | h1
                · exact HNE.out i h1
                · obtain rfl : i = i2 := by omega
                  exact hne)
              obtain ⟨x, HX⟩ : ∃ x, Hid (us.getD j 0 = x) := ⟨_, Lib.hid rfl⟩
              obtain ⟨z, HZ⟩ : ∃ z, Hid (us.getD i2 0 = z) := ⟨_, Lib.hid rfl⟩
              rw [HX.out] at hcx
              rw [HZ.out] at hcz
              by_cases hxz : z = x
              · have HDD : Hid (¬ Dist us) := Lib.hid (HDX.out (HM2.out (by rw [HX.out, HZ.out]; exact hxz)))
                subst hxz
                clear HX HZ
                go_wp2
                go_quiet (fail)
                go_wp2
                go_ret2
                exact .inr (.inl ⟨H0.out, HDD.out, rfl, below_drewN (below_drewN hbb1 q2) _⟩)
              · have HN3 := Lib.hid (HN2.out (by rw [HX.out, HZ.out]; exact hxz))
                have hxb : (x == z) = false := by simp; exact fun e => hxz e.symm
                clear hxz
                go_wp2
                go_quiet (fail)
                go_wp2
                go_roundw
                case rel => exact ⟨i2 + 1, _, by omega, by go_num, HN3, rfl⟩
                case measure => simp [intOf]; omega
            · obtain rfl : i2 = j := by omega
              have HD2 := Lib.hid (HDN.out (HMN.out HNE.out))
              go_wp2
              go_roundw
              case rel => exact ⟨i2 + 1, q2, by omega, by go_num, HD2, rfl⟩
              case measure => simp [intOf]; omega
        · have hjk : j = k := by omega
          subst hjk
          have HDI : Hid (Dist us) := Lib.hid (by have := HDJ.out; rwa [List.take_of_length_le (by rw [HLA.out]; omega)] at this)
          have hL1 := (hK1.drewN q).upto (bbox (w0 := w1.drewN q) (.cells #[.int .i64 1] 3))
          have hL2 := (hK2.drewN q).upto (bbox (w0 := w1.drewN q) (.cells #[.int .i64 1] 3))
          have hbw3 := ballocs (below_drewN hbb1 q) (.cells #[.int .i64 1] 3)
          have hF3 := (Blk.drewN hF1 q).alloc (.cells #[.int .i64 1] 3)
          have HS := Lib.hid (Itp.start hp.1 us ys)
          have hN0 : Ints ((w1.drewN q).alloc (.cells #[.int .i64 1] 3)) ((w1.drewN q).alloc (.cells #[.int .i64 1] 3)).heap.size (some ⟨w1.heap.size, 0, none⟩) 1 [1] := Ints.oneAt (w1.drewN q) 1 3 _ rfl
          clear hK1 hK2 HDJ hbb1 hF1
          go_wp2_with fail
          obtain ⟨g3, hg3⟩ : ∃ g3, w1.heap.size = g3 := ⟨_, rfl⟩
          obtain ⟨w3, hw3⟩ : ∃ w3, (w1.drewN q).alloc (.cells #[.int .i64 1] 3) = w3 := ⟨_, rfl⟩
          rw [hw3] at hL1 hL2 hbw3 hF3 hN0
          rw [hg3] at hN0
          rw [hw3, hg3]
          clear hw3 hg3
          have hFl3 := hF3.lt
          go_loopw [13, 14, 76] (fun v1 v2 i wz => ∃ (k nn : Nat) (P N : Option Addr) (pc nc : Nat) (poly node : List Int), k ≤ j ∧ nn = k + 1 ∧ k ≤ pc ∧ v1 = .slice P k pc ∧ v2 = .slice N nn nc ∧ i = .int .i64 k ∧ Ints wz wz.heap.size P k poly ∧ Ints wz wz.heap.size N nn node ∧ Hid (Itp p us ys poly node k) ∧ Below w3.heap.size w3 wz) (fun _ _ i _ => j - (intOf i).toNat)
          case atStart => exact ⟨0, 1, none, some ⟨g3, 0, none⟩, 0, 1, [], [1], Nat.zero_le _, rfl, Nat.le_refl _, rfl, rfl, rfl, Ints.nil_, hN0, HS, Below.refl _ _⟩
          case round =>
            obtain ⟨k, nn, P, N, pc, nc, poly, node, hkj, hnn, hkpc, rfl, rfl, rfl, hIP, hIN, HI, hbz⟩ := hrel
            have HNN := Lib.hid hnn
            have hnn2 : 0 < nn ∧ nn ≤ 200 := by omega
            clear hnn
            by_cases hlt3 : k < j
            · obtain ⟨b1, o1, rfl, hb1, hc1⟩ := hL1.2 (by omega)
              obtain ⟨b2, o2, rfl, hb2, hc2⟩ := hL2.2 (by omega)
              have hcx := (hbz.cell (p := ⟨b1, o1 + k, none⟩) hb1).trans (hc1 k hlt3)
              have HCY : Hid (∀ wx, Below w3.heap.size w3 wx → wx.cell? ⟨b2, o2 + k, none⟩ = some (.int .i64 (ys.getD k 0))) := Lib.hid fun wx hx => (hx.cell (p := ⟨b2, o2 + k, none⟩) hb2).trans (hc2 k hlt3)
              have HCF : Hid (∀ wx, Below w3.heap.size w3 wx → wx.cell? ⟨w.heap.size, 0, none⟩ = some (.int .i64 p)) := Lib.hid fun wx hx => ((hF3.below hx hFl3).cell 0).trans rfl
              clear hc1 hc2
              have hxe := allP_getD HA.out (k := k) (by rw [HLA.out]; exact hlt3)
              have hye := allP_getD HY.out (k := k) (by rw [HLY.out]; exact hlt3)
              have hvn := HI.out.new HO.out HA.out (by rw [HLA.out]; exact hlt3) (fun a b h1 h2 => HDI.out a b h1 h2)
              have HSTEP : Hid (∀ inv, Cong p (valueP p (us.getD k 0) node * inv) 1 → Itp p us ys (addTo p (mulP p (subP p (ys.getD k 0) (valueP p (us.getD k 0) poly)) inv) 0 node (poly ++ List.replicate 1 0) (k + 1)) (rawMul p node [subP p 0 (us.getD k 0), 1]) (k + 1)) :=
                Lib.hid fun inv hv => HI.out.step HO.out HA.out HY.out (by rw [HLA.out]; exact hlt3) (by rw [HLY.out]; exact hlt3) hv
              have HAP := Lib.hid HI.out.ap
              have HAN := Lib.hid HI.out.an
              have HNL : Hid (node.length = nn) := Lib.hid (by rw [HNN.out]; exact HI.out.ln)
              have HPL : Hid (poly.length = k) := Lib.hid HI.out.lp
              have hpu := valueP_in hp.1 (us.getD k 0) poly
              obtain ⟨u, HVP⟩ : ∃ u, Hid (valueP p (us.getD k 0) poly = u) := ⟨_, Lib.hid rfl⟩
              obtain ⟨v, HVN⟩ : ∃ v, Hid (valueP p (us.getD k 0) node = v) := ⟨_, Lib.hid rfl⟩
              rw [HVP.out] at hpu
              rw [HVN.out] at hvn
              have HST2 : Hid (∀ inv, Cong p (v * inv) 1 → Itp p us ys (addTo p (mulP p (subP p (ys.getD k 0) u) inv) 0 node (poly ++ List.replicate 1 0) (k + 1)) (rawMul p node [subP p 0 (us.getD k 0), 1]) (k + 1)) := Lib.hid fun inv hv => by
                have := HSTEP.out inv (by rw [HVN.out]; exact hv)
                rwa [HVP.out] at this
              have HWZ : Hid (wideK p (us.getD k 0) node 0 = List.replicate (nn + 1) 0) := Lib.hid (by rw [wideK_zero, HNL.out])
              have HWA : Hid (wideK p (us.getD k 0) node nn = rawMul p node [subP p 0 (us.getD k 0), 1]) := Lib.hid (by rw [← HNL.out]; exact wideK_all (hwp := HAN.out) p _ node (by rw [HNL.out]; exact hnn2.1) hp.1)
              have HWS : Hid (∀ i, i < nn → ((wideK p (us.getD k 0) node i).set (i + 1) ((cf (wideK p (us.getD k 0) node i) (i + 1) + cf node i) % p)).set i ((cf ((wideK p (us.getD k 0) node i).set (i + 1) ((cf (wideK p (us.getD k 0) node i) (i + 1) + cf node i) % p)) i + (p - us.getD k 0) * cf node i) % p) = wideK p (us.getD k 0) node (i + 1)) := Lib.hid fun i hi => wideK_step hp.1 hxe HAN.out (by rw [HNL.out]; exact hi)
              have HWP : Hid (∀ i, allP p (wideK p (us.getD k 0) node i) = true) := Lib.hid fun i => wideK_allP hp.1 _ HAN.out i
              have HWL : Hid (∀ i, (wideK p (us.getD k 0) node i).length = nn + 1) := Lib.hid fun i => by rw [wideK_len, HNL.out]
              clear HSTEP HI
              generalize us.getD k 0 = x at *
              generalize ys.getD k 0 = y at *
              have hsu := subP_in y u hp.1
              have hk0 : (0 : Int) ≤ (k : Int) := by omega
              have hkj1 : (k : Int) < (j : Int) := by omega
              have hcf0 := HCF.out wr hbz
              have hcf1 : wr.drew.cell? ⟨w.heap.size, 0, none⟩ = some (.int .i64 p) := hcf0
              have hIPd : Ints wr.drew wr.drew.heap.size P k poly := hIP.drew
              have hINd : Ints wr.drew wr.drew.heap.size N nn node := hIN.drew
              go_wp2_with fail
              go_region_held3 (fun w' => w'.cell? ⟨w.heap.size, 0, none⟩ = some (.int .i64 p)) (first | exact hcf0 | exact hcf1 | exact hcf4 | exact hcf5)
                (first
                  | (go_at_call 139; (with_reducible refine (rvalue_all p x P k pc poly wr.drew hp hxe hIPd HAP.out (by omega)).mono ?_); rintro e w4 ⟨rfl, hb4⟩
                     rw [HVP.out]
                     have hbz4 := hbz.drew.trans (hb4.mono hbz.size)
                     have hcf4 := HCF.out w4 hbz4
                     have hIN4 := hINd.upto hb4
                     have hIP4 := hIPd.upto hb4)
                  | (go_at_call 139; (with_reducible refine (rvalue_all p x N nn nc node w4 hp hxe hIN4 HAN.out (by omega)).mono ?_); rintro e w5 ⟨rfl, hb5⟩
                     rw [HVN.out]
                     have hbz5 := bnext hbz4 hb5
                     have hcf5 := HCF.out w5 hbz5
                     have hIN5 := hIN4.upto hb5
                     have hIP5 := hIP4.upto hb5))
              rename_i K hk hHeld
              clear hHeld
              refine hk _ _ ?_
              clear hk
              have hcy5 := HCY.out w5 hbz5
              have hcy5d : w5.drew.cell? ⟨b2, o2 + k, none⟩ = some (.int .i64 y) := hcy5
              have hcf5d : w5.drew.cell? ⟨w.heap.size, 0, none⟩ = some (.int .i64 p) := hcf5
              have hq1 : IntKind.i64.wrap (y + p) = y + p := IntWalk.i64_in _ (by omega)
              have hq2 : IntKind.i64.wrap (y + p - u) = y + p - u := IntWalk.i64_in _ (by omega)
              obtain ⟨s, HS2⟩ : ∃ s, Hid (subP p y u = s) := ⟨_, Lib.hid rfl⟩
              rw [HS2.out] at hsu
              have hq3 : (y + p - u).tmod p = s := by rw [Int.tmod_eq_emod_of_nonneg (by omega), sub_as]; exact HS2.out
              have hp0 : ¬ p = 0 := by omega
              have hvi : 0 < v ∧ v < p := hvn
              go_wp2_with fail
              go_region_held3 (fun w' => w'.cell? ⟨b2, o2 + k, none⟩ = some (.int .i64 y) ∧ w'.cell? ⟨w.heap.size, 0, none⟩ = some (.int .i64 p)) (first | exact ⟨hcy5, hcf5⟩ | exact ⟨hcy5d, hcf5d⟩ | exact ⟨hcy6, hcf6⟩)
                ((go_at_call 137; refine (rinv_ok p v _ HO.out hvi).mono ?_; rintro e w6 ⟨⟨inv, rfl, hinv, HINV⟩, hb6⟩
                  have hbz6 := bnext hbz5.drew hb6
                  have hcf6 := HCF.out w6 hbz6
                  have hcy6 := HCY.out w6 hbz6
                  have hIN6 := hIN5.drew.upto hb6
                  have hIP6 := hIP5.drew.upto hb6
                  have hsi : 0 ≤ s * inv ∧ s * inv ≤ 65521 * 65521 := ⟨Int.mul_nonneg hsu.1 hinv.1, by have := Int.mul_le_mul (show s ≤ 65521 by omega) (show inv ≤ 65521 by omega) hinv.1 (by omega); omega⟩
                  have hq4 : IntKind.i64.wrap (s * inv) = s * inv := IntWalk.i64_in _ (by omega)
                  obtain ⟨by_, HBY⟩ : ∃ by_, Hid (s * inv % p = by_) := ⟨_, Lib.hid rfl⟩
                  have hq5 : (s * inv).tmod p = by_ := by rw [Int.tmod_eq_emod_of_nonneg (by omega)]; exact HBY.out))
              rename_i K2 hk2 hHeld2
              clear hHeld2
              refine hk2 _ _ ?_
              clear hk2
              have HITP : Hid (Itp p us ys (addTo p by_ 0 node (poly ++ List.replicate 1 0) (k + 1)) (rawMul p node [subP p 0 x, 1]) (k + 1)) := Lib.hid (by
                have := HST2.out inv HINV.out
                rw [HS2.out] at this
                have e : mulP p s inv = by_ := HBY.out
                rwa [e] at this)
              have hby := emod_in hp.1 (s * inv)
              rw [HBY.out] at hby
              have HDR : Hid ((List.replicate nn (0 : Int)).drop k = List.replicate 1 0) := Lib.hid (by rw [HNN.out]; simp)
              have HAZ : Hid (allP p (poly ++ List.replicate 1 0) = true) := Lib.hid (allP_append.2 ⟨HAP.out, allP_iff.2 (by simp; omega)⟩)
              have HPZ : Hid ((poly ++ List.replicate 1 (0 : Int)).length = nn) := Lib.hid (by rw [List.length_append, HPL.out, List.length_replicate, HNN.out])
              have hkn2 : k ≤ nn := by have := HNN.out; omega
              have hb6w := bnext hbw3 hbz6
              have hF6 := hF3.below hbz6 hFl3
              obtain ⟨b3, o3, rfl, hb3, hc3⟩ := hIN6.2 hnn2.1
              clear hc3 hb4 hcf4 hIN4 hIP4 hbz4 hb5 hbz5 hcf5 hcy5 hIN5 hIP5 hcy5d hcf5d hcx HCY HCF HST2 hIPd hINd HVP HVN hIP hIN hbz hcf0 hcf1 hb6 hcf6 hcy6 hq1 hq2 hq3 hq4 hq5 hsi HBY HS2 HINV hvi hvn hpu hsu hinv
              go_wp2_with (first
                | (at_make
                   refine wpList_make_full _ rfl _ _ 22 rfl w3.heap.size 3 i0 (.int .i64 0) 1 Try.underlying22 hi0 hz0 hz1 .i64 .i64 _ _ nn rfl rfl (by first | rfl | omega) (by first | rfl | omega) (by rw [hz2]; omega) (by unfold maxLen; omega) hbz6.size ?_
                   intro w7 hown hgr
                   have hown7 : OwnI w7 w3.heap.size 3 (some ⟨w6.heap.size, 0, none⟩) nn nn (List.replicate nn 0) := by rw [zeros_made] at hown; exact hown
                   have hb67 : Below w6.heap.size w6 w7 := (Below.refl _ _).grown hgr (Nat.le_refl _) (fun k hk => by cases hk)
                   clear hown hgr)
                | ((with_reducible refine wpList_copy_ints rfl (.tmp 111) (.tmp 112) 22 rfl 3 Try.underlying22 (by rw [hi0]; simp [hz1]) w3.heap.size w6.heap.size w6.heap.size nn _ poly P k pc rfl rfl hown7 (hIP6.below hb67) hkn2 ?_)
                   intro w8 hown8 hS8
                   rw [HDR.out] at hown8
                   have hb68 := Step.below hb67 hS8 hb67.size (Nat.le_refl _)))
              have hIN8 := hIN6.upto hb68
              have hF8 := hF6.below hb68 hF6.lt
              have hbz8 := bnext hbz6 hb68
              have hg6 : w.heap.size < w6.heap.size := hF6.lt
              have hg63 : w3.heap.size ≤ w6.heap.size := hbz6.size
              obtain ⟨gn, hgn⟩ : ∃ gn, w6.heap.size = gn := ⟨_, rfl⟩
              rw [hgn] at hown8 hg6 hg63 hb3
              rw [hgn]
              clear hgn hown7 hb67 hS8 hb68 hbz6 hb6w hF6 hIP6 hIN6
              go_loopw [116] (fun i wz => ∃ j2 : Nat, j2 ≤ nn ∧ i = .int .i64 j2 ∧ OwnI wz w3.heap.size 3 (some ⟨gn, 0, none⟩) nn nn (addTo p by_ 0 node (poly ++ List.replicate 1 0) j2) ∧ Step gn w8 wz) (fun i _ => nn - (intOf i).toNat)
              case atStart => exact ⟨0, Nat.zero_le _, rfl, by rw [addTo_zero]; exact hown8, Step.refl _ _⟩
              case round =>
                obtain ⟨j2, hj2, rfl, hownj, hSj⟩ := hrel
                have hINj := hIN8.grownAt hSj (by simp; omega)
                have hFj := Step.block hSj hF8 (by omega)
                by_cases hlt2 : j2 < nn
                · obtain ⟨b4, o4, e4, hb4, hc4⟩ := hINj.2 (by omega)
                  injection e4 with e4
                  injection e4 with e5 e6 _
                  subst e5 e6
                  have hcy := hc4 j2 hlt2
                  clear hc4
                  have hye := allP_getD HAN.out (k := j2) (by rw [HNL.out]; exact hlt2)
                  have hcf : wr.cell? ⟨w.heap.size, 0, none⟩ = some (.int .i64 p) := (hFj.cell 0).trans rfl
                  have hct := hownj.cellAt (j := 0 + j2) (by omega)
                  rw [addTo_at p by_ 0 node _ j2 (by rw [HPZ.out]; omega)] at hct
                  have hfz := hownj.frozenAt (0 + j2)
                  have hte := allP_getD HAZ.out (k := 0 + j2) (by rw [HPZ.out]; omega)
                  have hst := hownj.stored (0 + j2) (timesP p by_ ((poly ++ List.replicate 1 (0 : Int)).getD (0 + j2) 0) (node.getD j2 0))
                  rw [addTo_set p by_ 0 node _ j2 (by rw [HPZ.out]; omega)] at hst
                  rw [Nat.zero_add] at hct hfz hte hst
                  obtain ⟨y2, HY2⟩ : ∃ y2, Hid (node.getD j2 0 = y2) := ⟨_, Lib.hid rfl⟩
                  obtain ⟨t, HT⟩ : ∃ t, Hid ((poly ++ List.replicate 1 (0 : Int)).getD j2 0 = t) := ⟨_, Lib.hid rfl⟩
                  rw [HY2.out] at hcy hye hst
                  rw [HT.out] at hct hte hst
                  obtain ⟨v2, HV⟩ : ∃ v2, Hid (timesP p by_ t y2 = v2) := ⟨_, Lib.hid rfl⟩
                  rw [HV.out] at hst
                  have hxy : 0 ≤ by_ * y2 ∧ by_ * y2 ≤ 65521 * 65521 := ⟨Int.mul_nonneg (by omega) hye.1, by have := Int.mul_le_mul (show by_ ≤ 65521 by omega) (show y2 ≤ 65521 by omega) hye.1 (by omega); omega⟩
                  have hvt : (t + by_ * y2).tmod p = v2 := by rw [Int.tmod_eq_emod_of_nonneg (by omega), times_raw hp.1]; exact HV.out
                  have hw1 : IntKind.i64.wrap (by_ * y2) = by_ * y2 := IntWalk.i64_in _ (by omega)
                  have hw2 : IntKind.i64.wrap (t + by_ * y2) = t + by_ * y2 := IntWalk.i64_in _ (by omega)
                  have hj0' : (0 : Int) ≤ (j2 : Int) := by omega
                  have hjb : (j2 : Int) < (nn : Int) := by omega
                  have HSX := Lib.hid hst.drew
                  have hSj2 : Step gn w8 (wr.setCell ⟨gn, j2, none⟩ (.int .i64 v2)).drew := (hSj.set j2 _).drew
                  clear hst hxy
                  go_wp2_with fail
                  go_region
                  go_wp2
                  go_roundw
                  case rel => exact ⟨j2 + 1, by omega, by go_num, HSX.out, hSj2⟩
                  case measure => simp [intOf]; omega
                · obtain rfl : j2 = nn := by omega
                  have hbj := Step.below hbz8 hSj hbz8.size (by omega)
                  obtain ⟨nw, hnw⟩ : ∃ nw, j2 + 1 = nw := ⟨_, rfl⟩
                  have hnwi : IntKind.i64.wrap ((j2 : Int) + 1) = (nw : Int) := by rw [IntWalk.i64_in _ (by omega)]; omega
                  have hnw2 : nw ≤ 300 := by omega
                  rw [hnw] at HWZ HWL
                  have HNW := Lib.hid hnw
                  clear hnw HAZ hown8 hIN8 hF8 hSj hbz8
                  go_wp2_with (at_make
                               refine wpList_make_full _ rfl _ _ 22 rfl w3.heap.size 3 i0 (.int .i64 0) 1 Try.underlying22 hi0 hz0 hz1 .i64 .i64 _ _ nw rfl rfl (by first | rfl | omega) (by first | rfl | omega) (by rw [hz2]; omega) (by unfold maxLen; omega) hbj.size ?_
                               intro w9 hown hgr
                               have hown9 : OwnI w9 w3.heap.size 3 (some ⟨wr.heap.size, 0, none⟩) nw nw (List.replicate nw 0) := by rw [zeros_made] at hown; exact hown
                               have hb89 : Below wr.heap.size wr w9 := (Below.refl _ _).grown hgr (Nat.le_refl _) (fun k hk => by cases hk)
                               clear hown hgr)
                  have hN9 := hownj.belowAll hb89
                  have hg8 := hownj.ints.lt (show 0 < j2 by omega)
                  have hb38 : b3 < wr.heap.size := hINj.lt (show 0 < j2 by omega)
                  have hIN9 := hINj.upto hb89
                  have hF9 := hFj.below hb89 hFj.lt
                  have hbz9 := bnext hbj hb89
                  have hg9 : w.heap.size < wr.heap.size := hFj.lt
                  have hg93 : w3.heap.size ≤ wr.heap.size := hbj.size
                  obtain ⟨gw, hgw⟩ : ∃ gw, wr.heap.size = gw := ⟨_, rfl⟩
                  rw [hgw] at hown9 hg9 hg93 hg8 hb38
                  rw [hgw]
                  clear hgw hb89 hownj hINj hFj hbj
                  go_loopw [144] (fun i wz => ∃ k2 : Nat, k2 ≤ j2 ∧ i = .int .i64 k2 ∧ OwnI wz w3.heap.size 3 (some ⟨gw, 0, none⟩) nw nw (wideK p x node k2) ∧ Step gw w9 wz) (fun i _ => j2 - (intOf i).toNat)
                  case atStart => exact ⟨0, Nat.zero_le _, rfl, by rw [HWZ.out]; exact hown9, Step.refl _ _⟩
                  case round =>
                    obtain ⟨k2, hk2, rfl, hownk, hSk⟩ := hrel
                    have hNk := hN9.kept hSk (.inr (by simp [Value.ownBlock]; omega))
                    have hINk := hIN9.grownAt hSk (by simp; omega)
                    have hFk := Step.block hSk hF9 (by omega)
                    by_cases hlt2 : k2 < j2
                    · obtain ⟨b4, o4, e4, hb4, hc4⟩ := hINk.2 (by omega)
                      injection e4 with e4
                      injection e4 with e5 e6 _
                      subst e5 e6
                      have hcy := hc4 k2 hlt2
                      clear hc4
                      have hnw := HNW.out
                      have hye := allP_getD HAN.out (k := k2) (by rw [HNL.out]; exact hlt2)
                      have hcf : wr.cell? ⟨w.heap.size, 0, none⟩ = some (.int .i64 p) := (hFk.cell 0).trans rfl
                      obtain ⟨z, hz⟩ : ∃ z, k2 + 1 = z := ⟨_, rfl⟩
                      have hzi : IntKind.i64.wrap ((k2 : Int) + 1) = (z : Int) := by rw [IntWalk.i64_in _ (by omega)]; omega
                      have hzN : (z : Int) < (nw : Int) := by omega
                      have hz0' : (0 : Int) ≤ (z : Int) := by omega
                      have hcz := hownk.cellAt (j := z) (by omega)
                      have hfzz := hownk.frozenAt z
                      have htw := allP_getD (HWP.out k2) (k := z) (by rw [HWL.out]; omega)
                      have htk := allP_getD (HWP.out k2) (k := k2) (by rw [HWL.out]; omega)
                      obtain ⟨y2, HY2⟩ : ∃ y2, Hid (node.getD k2 0 = y2) := ⟨_, Lib.hid rfl⟩
                      obtain ⟨t, HT⟩ : ∃ t, Hid ((wideK p x node k2).getD z 0 = t) := ⟨_, Lib.hid rfl⟩
                      obtain ⟨v1, HV1⟩ : ∃ v1, Hid ((t + y2) % p = v1) := ⟨_, Lib.hid rfl⟩
                      obtain ⟨l1, HL1⟩ : ∃ l1, Hid ((wideK p x node k2).set z v1 = l1) := ⟨_, Lib.hid rfl⟩
                      obtain ⟨t2, HT2⟩ : ∃ t2, Hid (l1.getD k2 0 = t2) := ⟨_, Lib.hid rfl⟩
                      obtain ⟨v2, HV2⟩ : ∃ v2, Hid ((t2 + (p - x) * y2) % p = v2) := ⟨_, Lib.hid rfl⟩
                      have HW2 : Hid (l1.set k2 v2 = wideK p x node (k2 + 1)) := Lib.hid (by
                        rw [← HV2.out, ← HT2.out, ← HL1.out, ← HV1.out, ← HT.out, ← HY2.out, ← hz]
                        exact HWS.out k2 hlt2)
                      have hte : t2 = (wideK p x node k2).getD k2 0 := by
                        rw [← HT2.out, ← HL1.out]
                        show cf _ _ = cf _ _
                        rw [cf_set, if_neg (by omega)]
                      rw [← hte] at htk
                      rw [HY2.out] at hcy hye
                      rw [HT.out] at hcz htw
                      have hst1 := hownk.stored z v1
                      rw [HL1.out] at hst1
                      have hcz2 := hst1.drew.cellAt (j := k2) (by omega)
                      rw [HT2.out] at hcz2
                      have hfz2 := hst1.drew.frozenAt k2
                      have hS1 : Step gw w9 (wr.setCell ⟨gw, z, none⟩ (.int .i64 v1)).drew := (hSk.set z _).drew
                      have hF1 := Step.block hS1 hF9 (by omega)
                      have hcf2 : (wr.setCell ⟨gw, z, none⟩ (.int .i64 v1)).drew.cell? ⟨w.heap.size, 0, none⟩ = some (.int .i64 p) := (hF1.cell 0).trans rfl
                      have hst2 := hst1.drew.stored k2 v2
                      rw [HW2.out] at hst2
                      have HST3 := Lib.hid hst2.drew
                      have hS2 : Step gw w9 ((wr.setCell ⟨gw, z, none⟩ (.int .i64 v1)).drew.setCell ⟨gw, k2, none⟩ (.int .i64 v2)).drew := (hS1.set k2 _).drew
                      have hw1 : IntKind.i64.wrap (t + y2) = t + y2 := IntWalk.i64_in _ (by omega)
                      have hv1 : (t + y2).tmod p = v1 := by rw [Int.tmod_eq_emod_of_nonneg (by omega)]; exact HV1.out
                      obtain ⟨d, hd⟩ : ∃ d, p - x = d := ⟨_, rfl⟩
                      have hw3 : IntKind.i64.wrap (p - x) = d := by rw [IntWalk.i64_in _ (by omega)]; exact hd
                      have hdin : 0 < d ∧ d ≤ p := by omega
                      rw [hd] at HV2
                      have hxy : 0 ≤ d * y2 ∧ d * y2 ≤ 65521 * 65521 := ⟨Int.mul_nonneg (by omega) hye.1, by have := Int.mul_le_mul (show d ≤ 65521 by omega) (show y2 ≤ 65521 by omega) hye.1 (by omega); omega⟩
                      have hw4 : IntKind.i64.wrap (d * y2) = d * y2 := IntWalk.i64_in _ (by omega)
                      have hw5 : IntKind.i64.wrap (t2 + d * y2) = t2 + d * y2 := IntWalk.i64_in _ (by omega)
                      have hv2 : (t2 + d * y2).tmod p = v2 := by rw [Int.tmod_eq_emod_of_nonneg (by omega)]; exact HV2.out
                      have hk20 : (0 : Int) ≤ (k2 : Int) := by omega
                      have hk2b : (k2 : Int) < (j2 : Int) := by omega
                      have hk2w : (k2 : Int) < (nw : Int) := by omega
                      have HZ := Lib.hid hz
                      clear hd hst1 hst2 hxy hte hF1 hS1 hownk hSk hNk hINk hFk hz
                      go_wp2_with fail
                      go_region
                      go_wp2_with fail
                      go_region
                      go_wp2
                      go_roundw
                      case rel => exact ⟨k2 + 1, by omega, by first | go_num | rw [HZ.out], HST3.out, hS2⟩
                      case measure => have hz := HZ.out; clear HZ; simp [intOf]; omega
                    · obtain rfl : k2 = j2 := by omega
                      have hbk := Step.below hbz9 hSk hbz9.size (by omega)
                      rw [HWA.out] at hownk
                      have hnw := HNW.out
                      have hnn := HNN.out
                      subst hnw
                      subst hnn
                      go_wp2
                      go_roundw
                      case rel => exact ⟨k + 1, k + 1 + 1, some ⟨gn, 0, none⟩, some ⟨gw, 0, none⟩, k + 1, k + 1 + 1, _, _, by omega, rfl, Nat.le_refl _, rfl, rfl, by go_num, hNk.ints, hownk.ints, HITP, hbk⟩
                      case measure => simp [intOf]; omega
            · obtain rfl : k = j := by omega
              have HD := Lib.hid (HI.out.done hp.1 HLA.out HLY.out HY.out)
              have HTL : Hid (tn poly k = (trimL poly).length) := Lib.hid (by rw [trimL_len, hIP.len])
              have hbwz := bnext hbw3 hbz
              clear HI
              go_wp2_with (go_at_call 132; refine (rtrim_any P k pc poly _ hIP hkpc (by omega)).mono ?_; rintro e w4 ⟨⟨A4, c4, rfl, hown4⟩, hb4⟩
                           rw [HTL.out] at hown4
                           rw [HTL.out])
              go_ret2
              exact .inr (.inr ⟨H0.out, HDI.out, trimL poly, A4, c4, rfl, hown4.base hbwz.size, HD.out, bnext hbwz hb4⟩)
theorem rinterp_all (p : Int) (A : Option Addr) (n c : Nat) (us ys : List Int) (w : World) (h : Sh w w.heap.size A n us ys) (hn : n ≤ 100) :
    Calls Try.prog 49 #[.agg #[.int .i64 p], .slice A n c] w (ItpPost p us ys w) := by
  by_cases h0 : errL p [us, ys] = 0
  · exact rinterp_ok p A n c us ys w h hn h0
  · refine (rinterp_err p A n c us ys w h hn h0).mono ?_
    rintro e w' ⟨rfl, hb⟩
    exact .inl ⟨h0, rfl, hb⟩
end Go.Proofs.Ytoblofilaegnaaa
