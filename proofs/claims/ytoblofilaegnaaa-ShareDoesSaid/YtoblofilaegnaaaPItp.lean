/-
  What poly's Interpolate hands back for any points: the polynomial, or the error. Conditions: the points read as their numbers, and are at most a hundred.
-/
import Derived.Test.YtoblofilaegnaaaItp
import Derived.Test.YtoblofilaegnaaaPAll
namespace Go.Proofs.Ytoblofilaegnaaa
open Go.RowKit Go.Maps
set_option linter.unusedVariables false

/-- No number stands twice. -/
def Dist (us : List Int) : Prop := ∀ j k, j < k → k < us.length → us.getD j 0 ≠ us.getD k 0
/-- What Interpolate leaves: the error of the lists, or of a point that is there twice, or the polynomial. -/
def ItpPost (p : Int) (us ys : List Int) (w : World) (e : Ending) (w' : World) : Prop :=
  (¬ errL p [us, ys] = 0 ∧ e = .returned (.tuple #[.slice none 0 0, .int .i64 (errL p [us, ys])]) ∧ Below w.heap.size w w') ∨
  (errL p [us, ys] = 0 ∧ ¬ Dist us ∧ e = .returned (.tuple #[.slice none 0 0, .int .i64 7]) ∧ Below w.heap.size w w') ∨
  (errL p [us, ys] = 0 ∧ Dist us ∧ ∃ (R : List Int) (A' : Option Addr) (c' : Nat), e = .returned (.tuple #[.slice A' R.length c', .int .i64 0]) ∧ OwnI w' w.heap.size 3 A' R.length c' R ∧ Through p us ys R ∧ Below w.heap.size w w')

/-- Just these keys are in the set. -/
def SeenIs (D : DataW Unit) (seen : List Int) : Prop := IsMap D ∧ ∀ x : Int, D.atKey (.int .i64 x) (.lit (.bool false)) = .lit (.bool (decide (x ∈ seen)))
theorem SeenIs.start : SeenIs (.map []) [] := ⟨isMap_empty, fun x => rfl⟩
theorem SeenIs.step {D : DataW Unit} {seen : List Int} (h : SeenIs D seen) (a : Int) : SeenIs (D.put (.int .i64 a) (.lit (.bool true))) (seen ++ [a]) := ⟨h.1.put _ _, fun x => by
  by_cases hx : x = a
  · subst hx
    rw [atKey_put_same (k := .int .i64 x) h.1 trivial]
    simp
  · rw [atKey_put_other (fun e => hx (by injection e)), h.2 x]
    have : decide (x ∈ seen ++ [a]) = decide (x ∈ seen) := by rw [decide_eq_decide]; simp [hx]
    rw [this]⟩
theorem Dist.take_succ {us : List Int} {j : Nat} (hj : j < us.length) (h : Dist (us.take j)) (hn : us.getD j 0 ∉ us.take j) : Dist (us.take (j + 1)) := by
  intro a b hab hb
  rw [List.length_take] at hb
  have ga : ∀ i, i < j + 1 → (us.take (j + 1)).getD i 0 = us.getD i 0 := fun i hi => by rw [List.getD_eq_getElem?_getD, List.getElem?_take, if_pos hi, ← List.getD_eq_getElem?_getD]
  have gb : ∀ i, i < j → (us.take j).getD i 0 = us.getD i 0 := fun i hi => by rw [List.getD_eq_getElem?_getD, List.getElem?_take, if_pos hi, ← List.getD_eq_getElem?_getD]
  rw [ga a (by omega), ga b (by omega)]
  by_cases hbj : b = j
  · subst hbj
    intro e
    apply hn
    rw [← e, ← gb a hab]
    rw [List.getD_eq_getElem?_getD, List.getElem?_eq_getElem (by rw [List.length_take]; omega)]
    exact List.getElem_mem _
  · have := h a b hab (by rw [List.length_take]; omega)
    rwa [gb a (by omega), gb b (by omega)] at this

set_option maxHeartbeats 1600000 in
set_option maxRecDepth 100000 in
theorem interp_err (p : Int) (A : Option Addr) (n c : Nat) (us ys : List Int) (w : World) (hp64 : -9223372036854775808 ≤ p ∧ p ≤ 9223372036854775807) (h : Sh w w.heap.size A n us ys) (hn : n ≤ 100) (h0 : ¬ errL p [us, ys] = 0) :
    Calls Try.prog 48 #[.agg #[.int .i64 p], .slice A n c] w fun e w' => e = .returned (.tuple #[.slice none 0 0, .int .i64 (errL p [us, ys])]) ∧ Below w.heap.size w w' := by
  have HLA := Lib.hid h.1
  have HLY := Lib.hid h.2.1
  have hI := h.2.2
  obtain ⟨i0, hi0, hz0, hz1, hz2⟩ := info_parts info_int
  obtain ⟨er, HER⟩ : ∃ er, Hid (errL p [us, ys] = er) := ⟨_, Lib.hid rfl⟩
  rw [HER.out] at h0 ⊢
  have hne : (er != 0) = true := by simpa using h0
  have H0 := Lib.hid h0
  clear h h0
  go_enter Try.func48, Try.ntmps48
  go_wp2
  have hbb0 : Below w.heap.size w (w.alloc (.cells #[.int .i64 p] 24)) := bbox _
  go_loopw [6, 7, 23] (fun r1 r2 i wr => ∃ (k : Nat) (A1 A2 : Option Addr) (c1 c2 : Nat), k ≤ n ∧ r1 = .slice A1 k c1 ∧ r2 = .slice A2 k c2 ∧ i = .int .i64 k ∧ Hid (Two wr (w.alloc (.cells #[.int .i64 p] 24)).heap.size 3 A1 k c1 (us.take k) A2 k c2 (ys.take k)) ∧ Below (w.alloc (.cells #[.int .i64 p] 24)).heap.size (w.alloc (.cells #[.int .i64 p] 24)) wr) (fun _ _ i _ => n - (intOf i).toNat)
  case atStart => exact ⟨0, none, none, 0, 0, Nat.zero_le _, rfl, rfl, rfl, Lib.hid Two.nil_, Below.refl _ _⟩
  case round =>
    obtain ⟨k, A1, A2, c1, c2, hk, rfl, rfl, rfl, HT, hbf⟩ := hrel
    have hb := bnext hbb0 hbf
    by_cases hlt : k < n
    · obtain ⟨b, off, rfl, hbl, hcell⟩ := hI (by omega)
      have hcA := (hb.cell (p := ⟨b, off + k * 2, none⟩) hbl).trans (hcell k hlt).1
      have hcY := (hb.cell (p := ⟨b, off + k * 2 + 1, none⟩) hbl).trans (hcell k hlt).2
      clear hcell
      have HU := Lib.hid (take_succ_getD us k (by rw [HLA.out]; exact hlt))
      have HV := Lib.hid (take_succ_getD ys k (by rw [HLY.out]; exact hlt))
      generalize us.getD k 0 = u at *
      generalize ys.getD k 0 = v at *
      have HTQ : Hid (Two (wr.alloc (.cells #[.int .i64 u, .int .i64 v] 52)) (w.alloc (.cells #[.int .i64 p] 24)).heap.size 3 A1 k c1 (us.take k) A2 k c2 (ys.take k)) := Lib.hid (HT.out.alloc _)
      have HSQ : S2 wr.heap.size u v (wr.alloc (.cells #[.int .i64 u, .int .i64 v] 52)) := ⟨((Blk.new wr _ _).cell 0).trans rfl, ((Blk.new wr _ _).cell 1).trans rfl⟩
      have hbq := ballocs hbf (.cells #[.int .i64 u, .int .i64 v] 52)
      have hn1 : (Value.slice A1 k c1).ownBlock ≠ some wr.heap.size := fun e => by have := (World.ownsRow.lt HT.out.1 _ e).2; omega
      have hn2 : (Value.slice A2 k c2).ownBlock ≠ some wr.heap.size := fun e => by have := (World.ownsRow.lt HT.out.2.1 _ e).2; omega
      go_wp2
      --ARMS
      go_region_held3 (fun w' => w'.cell? ⟨wr.heap.size, 0, none⟩ = some (.int .i64 u) ∧ w'.cell? ⟨wr.heap.size, 1, none⟩ = some (.int .i64 v)) (first | exact HSQ.drew | exact HS8 | exact HSQ | exact HSQ.drew.alloc _ | exact (HSQ.drew.alloc _).alloc _ | exact HS8.alloc _ | exact HS9)
        (first
          | ((refine step_append_twoG (w := (wr.alloc (.cells #[.int .i64 u, .int .i64 v] 52)).drew.alloc (.cells #[.int .i64 u] 3)) rfl (.tmp 27) (.tmp 30) 22 rfl (w.alloc (.cells #[.int .i64 p] 24)).heap.size 3 i0 _ Try.underlying22 hi0 hz0 hz1 hz2 rfl A1 k c1 (us.take k) A2 k c2 (ys.take k) (HTQ.out.drew.alloc _) (by simp [Act.eval]) (wr.heap.size + 1) 1 u (by simp [Act.eval]) (Ints.oneAt _ u _ (wr.heap.size + 1) (by simp)) (by omega) (le_alloc hbq.drew.size _) ?_); intro A3 c3 w8 hT8 hb8 hg8 hs8; have HS8 := S2.grown (HSQ.drew.alloc _) hg8 hn1; have hbb8 := (hbq.drew.alloc hbq.drew.size (.cells #[.int .i64 u] 3)).trans hb8)
          | ((refine step_append_twoG (w := ((wr.alloc (.cells #[.int .i64 u, .int .i64 v] 52)).drew.alloc (.cells #[.int .i64 u] 3)).alloc (.cells #[.int .i64 v] 3)) rfl (.tmp 27) (.tmp 30) 22 rfl (w.alloc (.cells #[.int .i64 p] 24)).heap.size 3 i0 _ Try.underlying22 hi0 hz0 hz1 hz2 rfl A1 k c1 (us.take k) A2 k c2 (ys.take k) ((HTQ.out.drew.alloc _).alloc _) (by simp [Act.eval]) (wr.heap.size + 1) 1 u (by simp [Act.eval]) ((Ints.oneAt _ u _ (wr.heap.size + 1) (by simp)).upto (bbox _)) (by omega) (le_alloc (le_alloc hbq.drew.size _) _) ?_); intro A3 c3 w8 hT8 hb8 hg8 hs8; have HS8 := S2.grown ((HSQ.drew.alloc _).alloc _) hg8 hn1; have hbb8 := ((hbq.drew.alloc hbq.drew.size (.cells #[.int .i64 u] 3)).alloc (hbq.drew.alloc hbq.drew.size (.cells #[.int .i64 u] 3)).size (.cells #[.int .i64 v] 3)).trans hb8; have hsy := hs8 (wr.heap.size + 1 + 1) v (Src.new HTQ.out.drew (by first | (simp; done) | (simp; omega)) (Ints.oneAt _ v _ (wr.heap.size + 1 + 1) (by simp))))
          | ((refine step_append_twoG (w := ((wr.alloc (.cells #[.int .i64 u, .int .i64 v] 52)).drew.alloc (.cells #[.int .i64 v] 3)).alloc (.cells #[.int .i64 u] 3)) rfl (.tmp 27) (.tmp 30) 22 rfl (w.alloc (.cells #[.int .i64 p] 24)).heap.size 3 i0 _ Try.underlying22 hi0 hz0 hz1 hz2 rfl A1 k c1 (us.take k) A2 k c2 (ys.take k) ((HTQ.out.drew.alloc _).alloc _) (by simp [Act.eval]) (wr.heap.size + 1 + 1) 1 u (by simp [Act.eval]) (Ints.oneAt _ u _ (wr.heap.size + 1 + 1) (by simp)) (by omega) (le_alloc (le_alloc hbq.drew.size _) _) ?_); intro A3 c3 w8 hT8 hb8 hg8 hs8; have HS8 := S2.grown ((HSQ.drew.alloc _).alloc _) hg8 hn1; have hbb8 := ((hbq.drew.alloc hbq.drew.size (.cells #[.int .i64 v] 3)).alloc (hbq.drew.alloc hbq.drew.size (.cells #[.int .i64 v] 3)).size (.cells #[.int .i64 u] 3)).trans hb8; have hsy := hs8 (wr.heap.size + 1) v (Src.new HTQ.out.drew (by first | (simp; done) | (simp; omega)) ((Ints.oneAt _ v _ (wr.heap.size + 1) (by simp)).upto (bbox _))))
          | ((refine step_append_twoG (w := w8.alloc (.cells #[.int .i64 v] 3)) rfl (.tmp 32) (.tmp 35) 22 rfl (w.alloc (.cells #[.int .i64 p] 24)).heap.size 3 i0 _ Try.underlying22 hi0 hz0 hz1 hz2 rfl A2 k c2 (ys.take k) A3 (k + 1) c3 (us.take k ++ [u]) (hT8.swap.alloc _) (by simp [Act.eval]) w8.heap.size 1 v (by simp [Act.eval]) (Ints.oneAt _ v _ w8.heap.size (by simp)) (by omega) (le_alloc hbb8.size _) ?_); intro A4 c4 w9 hT hb9 hg9 _; have HS9 := S2.grown (HS8.alloc _) hg9 hn2; have hTT := hT.swap; have hbb := (hbb8.alloc hbb8.size _).trans hb9)
          | ((refine step_append_twoG (w := w8) rfl (.tmp 32) (.tmp 35) 22 rfl (w.alloc (.cells #[.int .i64 p] 24)).heap.size 3 i0 _ Try.underlying22 hi0 hz0 hz1 hz2 rfl A2 k c2 (ys.take k) A3 (k + 1) c3 (us.take k ++ [u]) hT8.swap (by simp [Act.eval]) (wr.heap.size + 1) 1 v (by simp [Act.eval]) hsy.1 (by omega) hbb8.size ?_); intro A4 c4 w9 hT hb9 hg9 _; have HS9 := S2.grown HS8 hg9 hn2; have hTT := hT.swap; have hbb := hbb8.trans hb9)
          | ((refine step_append_twoG (w := w8) rfl (.tmp 32) (.tmp 35) 22 rfl (w.alloc (.cells #[.int .i64 p] 24)).heap.size 3 i0 _ Try.underlying22 hi0 hz0 hz1 hz2 rfl A2 k c2 (ys.take k) A3 (k + 1) c3 (us.take k ++ [u]) hT8.swap (by simp [Act.eval]) (wr.heap.size + 1 + 1) 1 v (by simp [Act.eval]) hsy.1 (by omega) hbb8.size ?_); intro A4 c4 w9 hT hb9 hg9 _; have HS9 := S2.grown HS8 hg9 hn2; have hTT := hT.swap; have hbb := hbb8.trans hb9))
      --END
      all_goals
        go_wp2
        go_roundw
        case rel => exact ⟨k + 1, A3, A4, c3, c4, by omega, rfl, rfl, by go_num, Lib.hid (by rw [HU.out, HV.out]; exact hTT), hbb⟩
        case measure => simp [intOf]; omega
    · have hkn : k = n := by omega
      subst hkn
      have hT := HT.out
      rw [List.take_of_length_le (by rw [HLA.out]; omega), List.take_of_length_le (by rw [HLY.out]; omega)] at hT
      have hJ1 := hT.1.ints
      have hJ2 := hT.2.1.ints
      have hF := (Blk.new w 24 #[.int .i64 p]).below hbf (by simp)
      have hc0 : wr.cell? ⟨w.heap.size, 0, none⟩ = some (.int .i64 p) := (hF.cell 0).trans rfl
      clear HT hI hT hbb0
      go_wp2_with (go_at_call 129; refine (open_any p _ 2 2 [us, ys] _ hp64 (by exact Mat.two _ A1 A2 k k c1 c2 us ys 22 _ (by simp) hJ1 hJ2 (by omega) (by omega)) (by omega)).mono ?_; rw [HER.out]; intro e w1 ho; obtain ⟨rfl, hb1⟩ := openI H0.out ho
                   clear ho
                   have hbb1 := bnext (ballocs hb (.cells #[.slice A1 k c1, .slice A2 k c2] 22)) hb1)
      go_ret2
      exact ⟨rfl, hbb1⟩

set_option maxHeartbeats 1600000 in
set_option maxRecDepth 100000 in
theorem interp_dup (p : Int) (A : Option Addr) (n c : Nat) (us ys : List Int) (w : World) (hp64 : -9223372036854775808 ≤ p ∧ p ≤ 9223372036854775807) (h : Sh w w.heap.size A n us ys) (hn : n ≤ 100) (h0 : errL p [us, ys] = 0) (hd : ¬ Dist us) :
    Calls Try.prog 48 #[.agg #[.int .i64 p], .slice A n c] w fun e w' => e = .returned (.tuple #[.slice none 0 0, .int .i64 7]) ∧ Below w.heap.size w w' := by
  have HLA := Lib.hid h.1
  have HLY := Lib.hid h.2.1
  have hI := h.2.2
  obtain ⟨i0, hi0, hz0, hz1, hz2⟩ := info_parts info_int
  have law : Keyed Try.prog 3 := int_keyed Try.underlying3
  have zeroE : ∀ w : World, (zeroValue 4).run Try.prog w = .ok (.bool false) w := fun w => by kernel_rfl
  have hmm := @run_makeMap Try.prog
  have H0 := Lib.hid h0
  have HA := Lib.hid (errL_two h0).2.1.1
  have hp := okP_pos (errL_two h0).1
  have HD := Lib.hid hd
  clear h h0 hd
  go_enter Try.func48, Try.ntmps48
  go_wp2
  have hbb0 : Below w.heap.size w (w.alloc (.cells #[.int .i64 p] 24)) := bbox _
  go_loopw [6, 7, 23] (fun r1 r2 i wr => ∃ (k : Nat) (A1 A2 : Option Addr) (c1 c2 : Nat), k ≤ n ∧ r1 = .slice A1 k c1 ∧ r2 = .slice A2 k c2 ∧ i = .int .i64 k ∧ Hid (Two wr (w.alloc (.cells #[.int .i64 p] 24)).heap.size 3 A1 k c1 (us.take k) A2 k c2 (ys.take k)) ∧ Below (w.alloc (.cells #[.int .i64 p] 24)).heap.size (w.alloc (.cells #[.int .i64 p] 24)) wr) (fun _ _ i _ => n - (intOf i).toNat)
  case atStart => exact ⟨0, none, none, 0, 0, Nat.zero_le _, rfl, rfl, rfl, Lib.hid Two.nil_, Below.refl _ _⟩
  case round =>
    obtain ⟨k, A1, A2, c1, c2, hk, rfl, rfl, rfl, HT, hbf⟩ := hrel
    have hb := bnext hbb0 hbf
    by_cases hlt : k < n
    · obtain ⟨b, off, rfl, hbl, hcell⟩ := hI (by omega)
      have hcA := (hb.cell (p := ⟨b, off + k * 2, none⟩) hbl).trans (hcell k hlt).1
      have hcY := (hb.cell (p := ⟨b, off + k * 2 + 1, none⟩) hbl).trans (hcell k hlt).2
      clear hcell
      have HU := Lib.hid (take_succ_getD us k (by rw [HLA.out]; exact hlt))
      have HV := Lib.hid (take_succ_getD ys k (by rw [HLY.out]; exact hlt))
      generalize us.getD k 0 = u at *
      generalize ys.getD k 0 = v at *
      have HTQ : Hid (Two (wr.alloc (.cells #[.int .i64 u, .int .i64 v] 52)) (w.alloc (.cells #[.int .i64 p] 24)).heap.size 3 A1 k c1 (us.take k) A2 k c2 (ys.take k)) := Lib.hid (HT.out.alloc _)
      have HSQ : S2 wr.heap.size u v (wr.alloc (.cells #[.int .i64 u, .int .i64 v] 52)) := ⟨((Blk.new wr _ _).cell 0).trans rfl, ((Blk.new wr _ _).cell 1).trans rfl⟩
      have hbq := ballocs hbf (.cells #[.int .i64 u, .int .i64 v] 52)
      have hn1 : (Value.slice A1 k c1).ownBlock ≠ some wr.heap.size := fun e => by have := (World.ownsRow.lt HT.out.1 _ e).2; omega
      have hn2 : (Value.slice A2 k c2).ownBlock ≠ some wr.heap.size := fun e => by have := (World.ownsRow.lt HT.out.2.1 _ e).2; omega
      go_wp2
      --ARMS
      go_region_held3 (fun w' => w'.cell? ⟨wr.heap.size, 0, none⟩ = some (.int .i64 u) ∧ w'.cell? ⟨wr.heap.size, 1, none⟩ = some (.int .i64 v)) (first | exact HSQ.drew | exact HS8 | exact HSQ | exact HSQ.drew.alloc _ | exact (HSQ.drew.alloc _).alloc _ | exact HS8.alloc _ | exact HS9)
        (first
          | ((refine step_append_twoG (w := (wr.alloc (.cells #[.int .i64 u, .int .i64 v] 52)).drew.alloc (.cells #[.int .i64 u] 3)) rfl (.tmp 27) (.tmp 30) 22 rfl (w.alloc (.cells #[.int .i64 p] 24)).heap.size 3 i0 _ Try.underlying22 hi0 hz0 hz1 hz2 rfl A1 k c1 (us.take k) A2 k c2 (ys.take k) (HTQ.out.drew.alloc _) (by simp [Act.eval]) (wr.heap.size + 1) 1 u (by simp [Act.eval]) (Ints.oneAt _ u _ (wr.heap.size + 1) (by simp)) (by omega) (le_alloc hbq.drew.size _) ?_); intro A3 c3 w8 hT8 hb8 hg8 hs8; have HS8 := S2.grown (HSQ.drew.alloc _) hg8 hn1; have hbb8 := (hbq.drew.alloc hbq.drew.size (.cells #[.int .i64 u] 3)).trans hb8)
          | ((refine step_append_twoG (w := ((wr.alloc (.cells #[.int .i64 u, .int .i64 v] 52)).drew.alloc (.cells #[.int .i64 u] 3)).alloc (.cells #[.int .i64 v] 3)) rfl (.tmp 27) (.tmp 30) 22 rfl (w.alloc (.cells #[.int .i64 p] 24)).heap.size 3 i0 _ Try.underlying22 hi0 hz0 hz1 hz2 rfl A1 k c1 (us.take k) A2 k c2 (ys.take k) ((HTQ.out.drew.alloc _).alloc _) (by simp [Act.eval]) (wr.heap.size + 1) 1 u (by simp [Act.eval]) ((Ints.oneAt _ u _ (wr.heap.size + 1) (by simp)).upto (bbox _)) (by omega) (le_alloc (le_alloc hbq.drew.size _) _) ?_); intro A3 c3 w8 hT8 hb8 hg8 hs8; have HS8 := S2.grown ((HSQ.drew.alloc _).alloc _) hg8 hn1; have hbb8 := ((hbq.drew.alloc hbq.drew.size (.cells #[.int .i64 u] 3)).alloc (hbq.drew.alloc hbq.drew.size (.cells #[.int .i64 u] 3)).size (.cells #[.int .i64 v] 3)).trans hb8; have hsy := hs8 (wr.heap.size + 1 + 1) v (Src.new HTQ.out.drew (by first | (simp; done) | (simp; omega)) (Ints.oneAt _ v _ (wr.heap.size + 1 + 1) (by simp))))
          | ((refine step_append_twoG (w := ((wr.alloc (.cells #[.int .i64 u, .int .i64 v] 52)).drew.alloc (.cells #[.int .i64 v] 3)).alloc (.cells #[.int .i64 u] 3)) rfl (.tmp 27) (.tmp 30) 22 rfl (w.alloc (.cells #[.int .i64 p] 24)).heap.size 3 i0 _ Try.underlying22 hi0 hz0 hz1 hz2 rfl A1 k c1 (us.take k) A2 k c2 (ys.take k) ((HTQ.out.drew.alloc _).alloc _) (by simp [Act.eval]) (wr.heap.size + 1 + 1) 1 u (by simp [Act.eval]) (Ints.oneAt _ u _ (wr.heap.size + 1 + 1) (by simp)) (by omega) (le_alloc (le_alloc hbq.drew.size _) _) ?_); intro A3 c3 w8 hT8 hb8 hg8 hs8; have HS8 := S2.grown ((HSQ.drew.alloc _).alloc _) hg8 hn1; have hbb8 := ((hbq.drew.alloc hbq.drew.size (.cells #[.int .i64 v] 3)).alloc (hbq.drew.alloc hbq.drew.size (.cells #[.int .i64 v] 3)).size (.cells #[.int .i64 u] 3)).trans hb8; have hsy := hs8 (wr.heap.size + 1) v (Src.new HTQ.out.drew (by first | (simp; done) | (simp; omega)) ((Ints.oneAt _ v _ (wr.heap.size + 1) (by simp)).upto (bbox _))))
          | ((refine step_append_twoG (w := w8.alloc (.cells #[.int .i64 v] 3)) rfl (.tmp 32) (.tmp 35) 22 rfl (w.alloc (.cells #[.int .i64 p] 24)).heap.size 3 i0 _ Try.underlying22 hi0 hz0 hz1 hz2 rfl A2 k c2 (ys.take k) A3 (k + 1) c3 (us.take k ++ [u]) (hT8.swap.alloc _) (by simp [Act.eval]) w8.heap.size 1 v (by simp [Act.eval]) (Ints.oneAt _ v _ w8.heap.size (by simp)) (by omega) (le_alloc hbb8.size _) ?_); intro A4 c4 w9 hT hb9 hg9 _; have HS9 := S2.grown (HS8.alloc _) hg9 hn2; have hTT := hT.swap; have hbb := (hbb8.alloc hbb8.size _).trans hb9)
          | ((refine step_append_twoG (w := w8) rfl (.tmp 32) (.tmp 35) 22 rfl (w.alloc (.cells #[.int .i64 p] 24)).heap.size 3 i0 _ Try.underlying22 hi0 hz0 hz1 hz2 rfl A2 k c2 (ys.take k) A3 (k + 1) c3 (us.take k ++ [u]) hT8.swap (by simp [Act.eval]) (wr.heap.size + 1) 1 v (by simp [Act.eval]) hsy.1 (by omega) hbb8.size ?_); intro A4 c4 w9 hT hb9 hg9 _; have HS9 := S2.grown HS8 hg9 hn2; have hTT := hT.swap; have hbb := hbb8.trans hb9)
          | ((refine step_append_twoG (w := w8) rfl (.tmp 32) (.tmp 35) 22 rfl (w.alloc (.cells #[.int .i64 p] 24)).heap.size 3 i0 _ Try.underlying22 hi0 hz0 hz1 hz2 rfl A2 k c2 (ys.take k) A3 (k + 1) c3 (us.take k ++ [u]) hT8.swap (by simp [Act.eval]) (wr.heap.size + 1 + 1) 1 v (by simp [Act.eval]) hsy.1 (by omega) hbb8.size ?_); intro A4 c4 w9 hT hb9 hg9 _; have HS9 := S2.grown HS8 hg9 hn2; have hTT := hT.swap; have hbb := hbb8.trans hb9))
      --END
      all_goals
        go_wp2
        go_roundw
        case rel => exact ⟨k + 1, A3, A4, c3, c4, by omega, rfl, rfl, by go_num, Lib.hid (by rw [HU.out, HV.out]; exact hTT), hbb⟩
        case measure => simp [intOf]; omega
    · have hkn : k = n := by omega
      subst hkn
      have hT := HT.out
      rw [List.take_of_length_le (by rw [HLA.out]; omega), List.take_of_length_le (by rw [HLY.out]; omega)] at hT
      have hJ1 := hT.1.ints
      have hJ2 := hT.2.1.ints
      have hF := (Blk.new w 24 #[.int .i64 p]).below hbf (by simp)
      have hc0 : wr.cell? ⟨w.heap.size, 0, none⟩ = some (.int .i64 p) := (hF.cell 0).trans rfl
      clear HT hI hT hbb0
      go_wp2_with (go_at_call 129; refine (open_any p _ 2 2 [us, ys] _ hp64 (by exact Mat.two _ A1 A2 k k c1 c2 us ys 22 _ (by simp) hJ1 hJ2 (by omega) (by omega)) (by omega)).mono ?_; rw [H0.out]; intro e w1 ho; obtain ⟨rfl, hb1⟩ := openI0 ho
                   clear ho
                   have hbb1 := bnext (ballocs hb (.cells #[.slice A1 k c1, .slice A2 k c2] 22)) hb1
                   have hK1 := (hJ1.upto (bbox (.cells #[.slice A1 k c1, .slice A2 k c2] 22))).upto hb1
                   clear hb1)
      clear hJ1 hJ2 hb hc0
      go_loopw [52] (fun i wx => ∃ (j : Nat) (D : DataW Unit), j ≤ k ∧ i = .int .i64 j ∧ Hid (wx.ownsMap Try.prog 3 (plainElem Try.prog 4) w1.heap.size j D) ∧ Hid (SeenIs D (us.take j)) ∧ Hid (Dist (us.take j)) ∧ Below w1.heap.size w1 wx) (fun i _ => k - (intOf i).toNat)
      case atStart => exact ⟨0, .map [], Nat.zero_le _, rfl, Lib.hid (World.ownsMap_made _ _ _ _), Lib.hid SeenIs.start, Lib.hid (fun a b _ hb => by simp at hb), bbox _⟩
      case round =>
        obtain ⟨j, D, hj, rfl, HM, HU, HDJ, hbx⟩ := hrel
        by_cases hlt2 : j < k
        · obtain ⟨b1, o1, rfl, hb1, hc1⟩ := hK1.2 (by omega)
          have hcx := (hbx.cell (p := ⟨b1, o1 + j, none⟩) hb1).trans (hc1 j hlt2)
          clear hc1
          have hxe := allP_getD HA.out (k := j) (by rw [HLA.out]; exact hlt2)
          have HTS := Lib.hid (take_succ_getD us j (by rw [HLA.out]; exact hlt2))
          have HUN := Lib.hid (HU.out.2 (us.getD j 0))
          have HUS := Lib.hid (HU.out.step (us.getD j 0))
          have HDN : Hid (us.getD j 0 ∉ us.take j → Dist (us.take (j + 1))) := Lib.hid (fun hn => Dist.take_succ (by rw [HLA.out]; exact hlt2) HDJ.out hn)
          have hs1 := hbx.size
          by_cases hin : us.getD j 0 ∈ us.take j
          · have HUN2 : Hid (D.atKey (.int .i64 (us.getD j 0)) (.lit (.bool false)) = .lit (.bool true)) := Lib.hid (by rw [HUN.out]; simp only [hin, decide_true])
            clear hin HDN
            generalize us.getD j 0 = x at *
            have hwf : (Lit.int .i64 x).wf = true := by simp [Lit.wf, IntKind.min, IntKind.max, IntKind.signed, IntKind.bits]; omega
            go_wp2_with (
                at_lookup
                refine wpList_lookup_own_bool _ rfl _ _ 143 rfl 3 4 law Try.underlying143 Try.underlying4 (zeroE _) w1.heap.size j D rfl HM.out _ _ rfl (keyOf_int_mk Try.underlying3 hwf) ?_
                intro c hat
                have hcf : c = true := by have := HUN2.out.symm.trans hat; injection this with this; injection this with this; exact this.symm
                subst hcf)
            go_ret2
            exact ⟨rfl, bnext hbb1 hbx⟩
          · have HUN2 : Hid (D.atKey (.int .i64 (us.getD j 0)) (.lit (.bool false)) = .lit (.bool false)) := Lib.hid (by rw [HUN.out]; simp only [hin, decide_false])
            have HDN2 := Lib.hid (HDN.out hin)
            clear hin HDN
            generalize us.getD j 0 = x at *
            have hwf : (Lit.int .i64 x).wf = true := by simp [Lit.wf, IntKind.min, IntKind.max, IntKind.signed, IntKind.bits]; omega
            go_wp2_with (first
              | (at_lookup
                 refine wpList_lookup_own_bool _ rfl _ _ 143 rfl 3 4 law Try.underlying143 Try.underlying4 (zeroE _) w1.heap.size j D rfl HM.out _ _ rfl (keyOf_int_mk Try.underlying3 hwf) ?_
                 intro c hat
                 have hcf : c = false := by have := HUN2.out.symm.trans hat; injection this with this; injection this with this; exact this.symm
                 subst hcf)
              | (at_mapUpdate
                 refine wpList_mapUpdate_own _ rfl _ _ _ 143 rfl 3 4 law Try.underlying143 _ w1.heap.size j D rfl HM.out (by unfold maxLen; omega) _ _ _ rfl rfl (keyOf_int_mk Try.underlying3 hwf) _ [] (plainElem_bool Try.underlying4 true) ?_
                 intro w2 hown2 hgr2
                 have hbx2 := hbx.grown hgr2 hs1 (fun g e => by cases e; exact Nat.le_refl _)))
            go_roundw
            case rel => exact ⟨j + 1, _, by omega, by go_num, Lib.hid hown2, Lib.hid (by rw [HTS.out]; exact HUS.out), HDN2, hbx2⟩
            case measure => simp [intOf]; omega
        · have hjk : j = k := by omega
          subst hjk
          exact absurd (by have := HDJ.out; rwa [List.take_of_length_le (by rw [HLA.out]; omega)] at this) HD.out

theorem pinterp_all (p : Int) (A : Option Addr) (n c : Nat) (us ys : List Int) (w : World) (hp64 : -9223372036854775808 ≤ p ∧ p ≤ 9223372036854775807) (h : Sh w w.heap.size A n us ys) (hn : n ≤ 100) :
    Calls Try.prog 48 #[.agg #[.int .i64 p], .slice A n c] w (ItpPost p us ys w) := by
  by_cases h0 : errL p [us, ys] = 0
  · by_cases hd : Dist us
    · have h1 := errL_two h0
      refine (interp_ok p A n c us ys w h1.1 h h1.2.1.1 h1.2.2.1 hn (fun j k hjk hk => hd j k hjk (by rw [h.1]; exact hk))).mono ?_
      rintro e w' ⟨⟨R, A', c', rfl, ho, hT⟩, hb⟩
      exact .inr (.inr ⟨h0, hd, R, A', c', rfl, ho, hT, hb⟩)
    · refine (interp_dup p A n c us ys w hp64 h hn h0 hd).mono ?_
      rintro e w' ⟨rfl, hb⟩
      exact .inr (.inl ⟨h0, hd, rfl, hb⟩)
  · refine (interp_err p A n c us ys w hp64 h hn h0).mono ?_
    rintro e w' ⟨rfl, hb⟩
    exact .inl ⟨h0, rfl, hb⟩
end Go.Proofs.Ytoblofilaegnaaa
