/-
  SolveSquare returns true: the walk of the law. Conditions: none beyond the reading of its arguments.
-/
import Derived.Test.YteipcjmkhacdgaaS06
import Derived.Test.YteipcjmkhacdgaaEqu
import Derived.Test.YteipcjmkhacdgaaRef4
import Derived.Test.YteipcjmkhacdgaaEqB
import Derived.Deep.RegionHeld3
import Derived.Deep.RegionLaw
import Derived.Deep.RegionHeldLaw
import Derived.Deep.DeepCutAuto
import Derived.Deep.QuietTactic
import Derived.BigQuiet
namespace Go.Proofs.Yteipcjmkhacdgaa
open Go.RowKit
set_option linter.unusedVariables false

theorem OwnI.cap_ {w : World} {base n c : Nat} {e : TypeId} {A : Option Addr} {xs : List Int} (h : OwnI w base e A n c xs) : n ≤ c := by
  rcases h.2 with ⟨hv, _⟩ | ⟨_, _, _, hv, _, _, hnc, _⟩
  · injection hv with _ h1 h2
    omega
  · injection hv with _ h1 h2
    omega
/-- What came in of an equations' box. -/
theorem eqW_box {wx w' : World} {p : Int} {r c nc cc cd : Nat} {C D : Option Addr} {cells right : List Int} (h : EqW wx p r c nc C cc D cd cells right) (hb : Below wx.heap.size wx w') : EqW w' p r c nc C cc D cd cells right := h.upto hb
theorem OwnI.box {w : World} {base n c B : Nat} {A : Option Addr} {xs : List Int} {cs : Array Value} (h : OwnI w base 3 A n c xs) (hB : Blk w B 30 cs) (j : Nat) (u : Value) : OwnI (w.setCell ⟨B, j, none⟩ u) base 3 A n c xs :=
  OwnI.kept h ((Step.refl B w).set j u) (.inr (own_blk_ne h hB (fun e => eq_int_types e.symm)))
theorem rank_some {p : Int} {c : Nat} {m1 : List (List Int)} {o : Option (List Int)} (h : SolveOf p c m1 o) : ∃ r, RankOf p c m1 r := by
  rcases o with _ | x
  · obtain ⟨m, lead, h1, _⟩ := h
    exact ⟨_, m, lead, h1, rfl⟩
  · obtain ⟨m, lead, h1, _⟩ := h
    exact ⟨_, m, lead, h1, rfl⟩
/-- What Solve leaves for as many independent equations as unknowns. -/
theorem square_post {p : Int} {N : Nat} {cells right right0 : List Int} {w w' : World} {e : Ending} (hok : EqOk p N N cells right) (hr : RankOf p N (augM N N cells right0) N) (h : SolvePost p N (augM N N cells right) w e w') :
    ∃ g x, e = .returned (.tuple #[.slice (some ⟨g, 0, none⟩) N N, .int .i64 0]) ∧ OwnI w' w.heap.size 3 (some ⟨g, 0, none⟩) N N x ∧ (Solv p N (augM N N cells right) x ∧ x.length = N ∧ allP p x = true ∧ ∀ y, Solv p N (augM N N cells right) y → y.length = N → allP p y = true → y = x) ∧ Below w.heap.size w w' := by
  have hp := hok.pos
  have hR : ∀ o, SolveOf p N (augM N N cells right) o → RankOf p N (augM N N cells right) N := fun o ho => by
    obtain ⟨r, h1⟩ := rank_some ho
    have := RankOf.one hp hr h1 (fun z hz => ker_left hok.lc z hz)
    rw [this]; rwa [this] at h1
  obtain ⟨hP, hb⟩ := h
  rcases hP with ⟨h0, _⟩ | ⟨g, x, h0, h1, h2⟩
  · obtain ⟨x, hx, _⟩ := square_solve (augM_len _ _ _ _) (hR _ h0) hp h0
    cases hx
  · obtain ⟨y, hy, h3⟩ := square_solve (augM_len _ _ _ _) (hR _ h0) hp h0
    injection hy with hy
    subst hy
    exact ⟨g, x, h1, h2, h3, hb⟩
theorem zipI_add_all_ {p : Int} (hp : 2 ≤ p) (a b : List Int) : allP p (zipI (addP p) a b) = true := zipI_all (addP p) (fun x y => ⟨Int.emod_nonneg _ (by omega), Int.emod_lt_of_pos _ (by omega)⟩) a b
theorem cell_sum {p : Int} {x y : List Int} {n : Nat} (hx : x.length = n) (hy : y.length = n) {j : Nat} (hj : j < n) : Cong p (cf (zipI (addP p) x y) j) (cf x j + cf y j) := by
  rw [cf_zipI _ _ _ (by omega) (by omega)]; exact Cong.addP p _ _

set_option maxHeartbeats 16000000 in
set_option maxRecDepth 100000 in
theorem solveSquare_walk (A : Option Addr) (n c : Nat) (zs : List Int) (at_ : Int) (w : World) (w0 : IsRow .i64 w A n c zs) (w1 : (Lit.int .u8 at_).wf = true) :
    Calls Try.prog 5 #[.slice A n c, .int .u8 at_] w fun e w' => e = .returned (.bool true) ∧ Below w.heap.size w w' := by
  have hat : 0 ≤ at_ ∧ at_ ≤ 255 := by simpa [Lit.wf, IntKind.min, IntKind.max, IntKind.signed, IntKind.bits] using w1
  obtain ⟨h, hw⟩ := w0.ints
  generalize zs.take n = xs at h hw
  clear w0 w1
  by_cases hn : n ≤ 500
  · have hd : decide (n ≤ 500) = true := by simpa using hn
    obtain ⟨i, hi⟩ : ∃ kk : Nat, at_ % 4 = kk := ⟨(at_ % 4).toNat, by rw [Int.toNat_of_nonneg (Int.emod_nonneg _ (by omega))]⟩
    have hi4 : i < 4 := by omega
    have hit : at_.tmod 4 = (i : Int) := by rw [Int.tmod_eq_emod_of_nonneg hat.1]; exact hi
    have hiw : IntKind.i64.wrap (i : Int) = (i : Int) := IntWalk.i64_in _ (by omega)
    have hiw8 : IntKind.u8.wrap (i : Int) = (i : Int) := by simp [IntKind.wrap, IntKind.bits, IntKind.signed]; omega
    obtain ⟨N, hN⟩ : ∃ N : Nat, 1 + i = N := ⟨_, rfl⟩
    have hN1 : 1 + (i : Int) = (N : Int) := by omega
    have hNw : IntKind.i64.wrap (1 + (i : Int)) = (N : Int) := by rw [hN1]; exact IntWalk.i64_in _ (by omega)
    have hN4 : 1 ≤ N ∧ N ≤ 4 := by omega
    obtain ⟨nn, hnn⟩ : ∃ k : Nat, N * N = k := ⟨_, rfl⟩
    have hnn16 : nn ≤ 16 := by rw [← hnn]; exact Nat.mul_le_mul hN4.2 hN4.2
    have hmul : (N : Int) * (N : Int) = (nn : Int) := by rw [← hnn]; simp
    have hnw : IntKind.i64.wrap (nn : Int) = (nn : Int) := IntWalk.i64_in _ (by omega)
    have HNN := Lib.hid hnn
    clear hnn hi hN
    go_enter Try.func5, Try.ntmps5
    go_upto_region 8 with (first
      | (go_at_call 9; refine (sane06_any _).mono ?_; rintro e w1 ⟨rfl, hb1⟩)
      | (go_at_call 10; refine (few_any A n c _).mono ?_; rintro e w' ⟨rfl, rfl⟩)
      | (go_at_call 11; refine (new_any A n c xs _ (h.upto hb1) hn).mono ?_; rintro e w2 ⟨⟨g, rfl, hge, hD2⟩, hb2⟩
         have hbb2 := bnext hb1 hb2
         have hg : w.heap.size ≤ g := by rw [hge]; exact hb1.size
         clear hge hb1 hb2)
      | (go_at_call 20; refine (field_any g A n c xs _ _ hD2).mono ?_; rintro e w3 ⟨p, q3, rfl, hkn, hD3, hS3⟩
         have hok := okP_known hkn
         have hp := okP_pos hok
         have HO := Lib.hid hok
         have hbb3 := ballocs (Step.below hbb2 hS3 hbb2.size hg) (.cells #[.int .i64 p] 28)
         have hF_3 := Blk.new w3 28 #[.int .i64 p]
         have hD3' := hD3.alloc (.cells #[.int .i64 p] 28)
         have hgf := hD3.1.lt
         clear hok hkn hD2 hD3 hS3 hbb2))
    obtain ⟨B7, hB7⟩ : ∃ b, w3.heap.size = b := ⟨_, rfl⟩
    obtain ⟨W, hW⟩ : ∃ W, w3.alloc (.cells #[.int .i64 p] 28) = W := ⟨_, rfl⟩
    have hsW1 : W.heap.size ≤ B7 + 1 := by rw [← hW, ← hB7]; simp
    have hsW2 : B7 + 1 ≤ W.heap.size := by rw [← hW, ← hB7]; simp
    rw [hW] at hF_3 hD3' hbb3 ⊢
    rw [hB7] at hF_3 hgf ⊢
    clear hW hB7
    have hf0 : W.cell? ⟨B7, 0, none⟩ = some (.int .i64 p) := (hF_3.cell 0).trans rfl
    have hDd := hD3'.drew
    have hf0d : W.drew.cell? ⟨B7, 0, none⟩ = some (.int .i64 p) := hf0
    have hsz := hbb3.size
    go_cut [8] (fun s wx => ∃ (B8 : Nat) (C : Option Addr) (cc : Nat) (D : Option Addr) (cd : Nat) (cells right : List Int) (q' : Nat), s = .pointer (some ⟨B8, 0, none⟩) ∧ B7 < B8 ∧ Blk wx B8 30 (eqC p N N C nn cc D N cd) ∧ Blk wx B7 28 #[.int .i64 p] ∧ Hid (EqOk p N N cells right) ∧ Hid (OwnI wx (B7 + 1) 3 C nn cc cells) ∧ Hid (OwnI wx (B7 + 1) 3 D N cd right) ∧ Deck wx g A n c xs q' ∧ Below w.heap.size w wx)
    case first =>
      have kn : nn ≤ 17592186044416 := by omega
      have kN : N ≤ 17592186044416 := by omega
      have kN32 : N ≤ 32 := by omega
      have ngB7 : B7 ≠ g := by omega
      have hgW : g < W.heap.size := by omega
      have nWg : W.heap.size ≠ g := Nat.ne_of_gt hgW
      have nB7W : B7 ≠ W.heap.size := by omega
      have hgb1 : g < B7 + 1 := by omega
      have hgb2 : g < W.heap.size + 1 := by omega
      have hbW1 : B7 + 1 ≤ W.heap.size + 1 := by omega
      have hB7l : B7 < W.heap.size := hF_3.lt
      have hF0a := (hF_3.alloc (.cells #[.int .i64 0, .int .i64 0, .int .i64 0, .slice none 0 0, .slice none 0 0] 30)).drew
      have hf0a : (W.alloc (.cells #[.int .i64 0, .int .i64 0, .int .i64 0, .slice none 0 0, .slice none 0 0] 30)).drew.cell? ⟨B7, 0, none⟩ = some (.int .i64 p) := (hF0a.cell 0).trans rfl
      have hD0a : Deck (W.alloc (.cells #[.int .i64 0, .int .i64 0, .int .i64 0, .slice none 0 0, .slice none 0 0] 30)).drew g A n c xs q3 := (hD3'.alloc (.cells #[.int .i64 0, .int .i64 0, .int .i64 0, .slice none 0 0, .slice none 0 0] 30)).drew
      have hB0a : Blk (W.alloc (.cells #[.int .i64 0, .int .i64 0, .int .i64 0, .slice none 0 0, .slice none 0 0] 30)).drew W.heap.size 30 #[.int .i64 0, .int .i64 0, .int .i64 0, .slice none 0 0, .slice none 0 0] := (Blk.new W 30 #[.int .i64 0, .int .i64 0, .int .i64 0, .slice none 0 0, .slice none 0 0]).drew
      have hbb0a : Below w.heap.size w (W.alloc (.cells #[.int .i64 0, .int .i64 0, .int .i64 0, .slice none 0 0, .slice none 0 0] 30)).drew := (ballocs hbb3 (.cells #[.int .i64 0, .int .i64 0, .int .i64 0, .slice none 0 0, .slice none 0 0] 30)).drew
      have hsz0a : W.heap.size + 1 ≤ (W.alloc (.cells #[.int .i64 0, .int .i64 0, .int .i64 0, .slice none 0 0, .slice none 0 0] 30)).drew.heap.size := Nat.le_of_eq (World.size_alloc _ _).symm
      clear hit hiw hiw8 hi4 hN1 hNw hat h hw hd hn hsW1 hsW2 hgf hnn16 hN4
      go_region_held_law (fun w' => w'.cell? ⟨B7, 0, none⟩ = some (.int .i64 p)) (first | with_reducible exact hf0d | with_reducible exact hf0a | with_reducible exact hf4 | with_reducible exact hf4a | with_reducible exact hf5 | with_reducible exact hf5a | with_reducible exact hf6 | with_reducible exact hf7) (first
        | (go_at_call 14; (with_reducible refine (elements_any g A n c xs q3 p nn _ hDd hp kn).mono ?_); rintro e w4 ⟨C, cc, cells, q4, rfl, hC4, hA4, hD4, hS4⟩
           have hS4 := Step.undrew hS4
           have hF4 := Step.block hS4 hF_3 ngB7
           have hf4 : w4.cell? ⟨B7, 0, none⟩ = some (.int .i64 p) := (hF4.cell 0).trans rfl
           have HA4 := Lib.hid hA4
           have hs4 : W.heap.size ≤ w4.heap.size := World.grownBy.size hS4
           have hle4 : B7 + 1 ≤ w4.heap.size := Nat.le_trans hB7l hs4
           have hbb4 := Step.below hbb3 hS4 hsz hg
           have hC4c : nn ≤ cc := hC4.cap_
           have hC4 : OwnI w4 (B7 + 1) 3 C nn cc cells := hC4.base hB7l
           have hgw4 : g < w4.heap.size := Nat.lt_of_lt_of_le hgW hs4
           have hww4 : w.heap.size ≤ w4.heap.size := Nat.le_trans hsz hs4
           have hD4a := hD4.alloc (.cells #[.int .i64 0, .int .i64 0, .int .i64 0, .slice none 0 0, .slice none 0 0] 30)
           have hF4a := hF4.alloc (.cells #[.int .i64 0, .int .i64 0, .int .i64 0, .slice none 0 0, .slice none 0 0] 30)
           have hf4a : (w4.alloc (.cells #[.int .i64 0, .int .i64 0, .int .i64 0, .slice none 0 0, .slice none 0 0] 30)).cell? ⟨B7, 0, none⟩ = some (.int .i64 p) := (hF4a.cell 0).trans rfl
           have hbb4a := ballocs hbb4 (.cells #[.int .i64 0, .int .i64 0, .int .i64 0, .slice none 0 0, .slice none 0 0] 30)
           have hB4a : Blk (w4.alloc (.cells #[.int .i64 0, .int .i64 0, .int .i64 0, .slice none 0 0, .slice none 0 0] 30)) w4.heap.size 30 #[.int .i64 0, .int .i64 0, .int .i64 0, .slice none 0 0, .slice none 0 0] := Blk.new _ _ _
           have hsz4a : (w4.alloc (.cells #[.int .i64 0, .int .i64 0, .int .i64 0, .slice none 0 0, .slice none 0 0] 30)).heap.size = w4.heap.size + 1 := World.size_alloc _ _
           have HSZ := Lib.hid hsz4a
           have HX : Hid (∀ b, (Value.slice C nn cc).ownBlock = some b → b < w4.heap.size) := Lib.hid fun b hb => (World.ownsRow.lt hC4 b hb).2
           have hC4a : OwnI (w4.alloc (.cells #[.int .i64 0, .int .i64 0, .int .i64 0, .slice none 0 0, .slice none 0 0] 30)) (B7 + 1) 3 C nn cc cells := hC4.alloc (.cells #[.int .i64 0, .int .i64 0, .int .i64 0, .slice none 0 0, .slice none 0 0] 30)
           clear hA4 hS4 hsz4a)
        | (go_at_call 14; (with_reducible refine (elements_any g A n c xs q3 p nn _ hD0a hp kn).mono ?_); rintro e w4 ⟨C, cc, cells, q4, rfl, hC4, hA4, hD4, hS4⟩
           have hF4 := Step.block hS4 hF0a ngB7
           have hf4 : w4.cell? ⟨B7, 0, none⟩ = some (.int .i64 p) := (hF4.cell 0).trans rfl
           have HA4 := Lib.hid hA4
           have hs4 : W.heap.size < w4.heap.size := Nat.lt_of_lt_of_le (Nat.lt_of_succ_le hsz0a) (World.grownBy.size hS4)
           have hle4 : B7 + 1 ≤ w4.heap.size := Nat.le_of_lt (Nat.lt_of_le_of_lt hB7l hs4)
           have hbb4 := Step.below hbb0a hS4 hbb0a.size hg
           have hC4c : nn ≤ cc := hC4.cap_
           have hC4 : OwnI w4 (W.heap.size + 1) 3 C nn cc cells := hC4.base hsz0a
           have hB4 := Step.block hS4 hB0a nWg
           clear hA4 hS4)
        | (go_at_call 14; (with_reducible refine (elements_any g A n c xs q4 p N _ hD4 hp kN).mono ?_); rintro e w5 ⟨D, cd, right, q5, rfl, hC5, hA5, hD5, hS5⟩
           have hF5 := Step.block hS5 hF4 ngB7
           have hf5 : w5.cell? ⟨B7, 0, none⟩ = some (.int .i64 p) := (hF5.cell 0).trans rfl
           have HA5 := Lib.hid hA5
           have hbb5 := Step.below hbb4 hS5 hbb4.size hg
           have hCC := hC4.step hS5 (by first | exact hgb1 | exact hgb2)
           have HOK : Hid (EqOk p N N cells right) := Lib.hid ⟨HO.out, kN32, kN32, by rw [HNN.out]; exact hCC.len, hC5.len, HA4.out, HA5.out⟩
           have HGO : Hid (∀ B8 w', Step B8 w5 w' → B8 < w4.heap.size → (∀ b, (Value.slice C nn cc).ownBlock = some b → b ≠ B8) → OwnI w' (B7 + 1) 3 C nn cc cells ∧ OwnI w' (B7 + 1) 3 D N cd right) := Lib.hid fun B8 w' hst h1 h2 => ⟨(hCC.kept hst (by rcases hb : (Value.slice C nn cc).ownBlock with _ | b; (exact .inl rfl); (exact .inr (fun e => by injection e with e; exact h2 b hb e)))).base (by first | exact Nat.le_refl _ | exact hbW1), (hC5.step hst h1).base hle4⟩
           have HE5 : Hid (OwnI (w5.alloc (.cells (eqC p N N C nn cc D N cd) 30)) (B7 + 1) 3 C nn cc cells) := Lib.hid ((hCC.base (by first | exact Nat.le_refl _ | exact hbW1)).alloc _)
           have HE5D : Hid (OwnI (w5.alloc (.cells (eqC p N N C nn cc D N cd) 30)) (B7 + 1) 3 D N cd right) := Lib.hid ((hC5.base hle4).alloc _)
           have hf5a : (w5.alloc (.cells #[.int .i64 0, .int .i64 0, .int .i64 0, .slice none 0 0, .slice none 0 0] 30)).cell? ⟨B7, 0, none⟩ = some (.int .i64 p) := ((hF5.alloc _).cell 0).trans rfl
           have hf6 : (w5.alloc (.cells (eqC p N N C nn cc D N cd) 30)).cell? ⟨B7, 0, none⟩ = some (.int .i64 p) := ((hF5.alloc _).cell 0).trans rfl
           clear hA5
           (try (have hB5 := Step.block hS5 hB4 nWg
                 have hz0 : w5.cell? ⟨W.heap.size, 0, none⟩ = some (.int .i64 0) := (hB5.cell 0).trans rfl
                 have hfz0 : w5.frozen? ⟨W.heap.size, 0, none⟩ = false := hB5.frozen 0
                 have hz1 : w5.cell? ⟨W.heap.size, 1, none⟩ = some (.int .i64 0) := (hB5.cell 1).trans rfl
                 have hfz1 : w5.frozen? ⟨W.heap.size, 1, none⟩ = false := hB5.frozen 1
                 have hz2 : w5.cell? ⟨W.heap.size, 2, none⟩ = some (.int .i64 0) := (hB5.cell 2).trans rfl
                 have hfz2 : w5.frozen? ⟨W.heap.size, 2, none⟩ = false := hB5.frozen 2
                 have hz3 : w5.cell? ⟨W.heap.size, 3, none⟩ = some (.slice none 0 0) := (hB5.cell 3).trans rfl
                 have hfz3 : w5.frozen? ⟨W.heap.size, 3, none⟩ = false := hB5.frozen 3
                 have hz4 : w5.cell? ⟨W.heap.size, 4, none⟩ = some (.slice none 0 0) := (hB5.cell 4).trans rfl
                 have hfz4 : w5.frozen? ⟨W.heap.size, 4, none⟩ = false := hB5.frozen 4
                 have hF7 := (((((hF5.far (p := ⟨W.heap.size, 0, none⟩) nB7W (.int .i64 p)).far (p := ⟨W.heap.size, 1, none⟩) nB7W (.int .i64 N)).far (p := ⟨W.heap.size, 2, none⟩) nB7W (.int .i64 N)).far (p := ⟨W.heap.size, 3, none⟩) nB7W (.slice C nn cc)).far (p := ⟨W.heap.size, 4, none⟩) nB7W (.slice D N cd))
                 have hf7 : (((((w5.setCell ⟨W.heap.size, 0, none⟩ (.int .i64 p)).setCell ⟨W.heap.size, 1, none⟩ (.int .i64 N)).setCell ⟨W.heap.size, 2, none⟩ (.int .i64 N)).setCell ⟨W.heap.size, 3, none⟩ (.slice C nn cc)).setCell ⟨W.heap.size, 4, none⟩ (.slice D N cd)).cell? ⟨B7, 0, none⟩ = some (.int .i64 p) := (hF7.cell 0).trans rfl))
           clear hS5)
        | (go_at_call 14; (with_reducible refine (elements_any g A n c xs q4 p N _ hD4a hp kN).mono ?_); rintro e w5 ⟨D, cd, right, q5, rfl, hC5, hA5, hD5, hS5⟩
           have hF5 := Step.block hS5 hF4a ngB7
           have hf5 : w5.cell? ⟨B7, 0, none⟩ = some (.int .i64 p) := (hF5.cell 0).trans rfl
           have HA5 := Lib.hid hA5
           have hbb5 := Step.below hbb4a hS5 hbb4a.size hg
           have hCC := hC4a.step hS5 hgb1
           have HOK : Hid (EqOk p N N cells right) := Lib.hid ⟨HO.out, kN32, kN32, by rw [HNN.out]; exact hCC.len, hC5.len, HA4.out, HA5.out⟩
           have hB5 := Step.block hS5 hB4a (Nat.ne_of_gt hgw4)
           have hz0 : w5.cell? ⟨w4.heap.size, 0, none⟩ = some (.int .i64 0) := (hB5.cell 0).trans rfl
           have hfz0 : w5.frozen? ⟨w4.heap.size, 0, none⟩ = false := hB5.frozen 0
           have hz1 : w5.cell? ⟨w4.heap.size, 1, none⟩ = some (.int .i64 0) := (hB5.cell 1).trans rfl
           have hfz1 : w5.frozen? ⟨w4.heap.size, 1, none⟩ = false := hB5.frozen 1
           have hz2 : w5.cell? ⟨w4.heap.size, 2, none⟩ = some (.int .i64 0) := (hB5.cell 2).trans rfl
           have hfz2 : w5.frozen? ⟨w4.heap.size, 2, none⟩ = false := hB5.frozen 2
           have hz3 : w5.cell? ⟨w4.heap.size, 3, none⟩ = some (.slice none 0 0) := (hB5.cell 3).trans rfl
           have hfz3 : w5.frozen? ⟨w4.heap.size, 3, none⟩ = false := hB5.frozen 3
           have hz4 : w5.cell? ⟨w4.heap.size, 4, none⟩ = some (.slice none 0 0) := (hB5.cell 4).trans rfl
           have hfz4 : w5.frozen? ⟨w4.heap.size, 4, none⟩ = false := hB5.frozen 4
           have HGO : Hid (∀ w', Step w4.heap.size w5 w' → OwnI w' (B7 + 1) 3 C nn cc cells ∧ OwnI w' (B7 + 1) 3 D N cd right) := Lib.hid fun w' hst => ⟨hCC.kept hst (by rcases hb : (Value.slice C nn cc).ownBlock with _ | b; (exact .inl rfl); (exact .inr (fun e => by injection e with e; exact Nat.ne_of_lt (HX.out b hb) e))), (hC5.step hst (by rw [HSZ.out]; exact Nat.lt_succ_self _)).base (Nat.le_trans hle4 (by rw [HSZ.out]; exact Nat.le_succ _))⟩
           have hF7 := (((((hF5.far (p := ⟨w4.heap.size, 0, none⟩) (Nat.ne_of_lt hle4) (.int .i64 p)).far (p := ⟨w4.heap.size, 1, none⟩) (Nat.ne_of_lt hle4) (.int .i64 N)).far (p := ⟨w4.heap.size, 2, none⟩) (Nat.ne_of_lt hle4) (.int .i64 N)).far (p := ⟨w4.heap.size, 3, none⟩) (Nat.ne_of_lt hle4) (.slice C nn cc)).far (p := ⟨w4.heap.size, 4, none⟩) (Nat.ne_of_lt hle4) (.slice D N cd))
           have hf7 : (((((w5.setCell ⟨w4.heap.size, 0, none⟩ (.int .i64 p)).setCell ⟨w4.heap.size, 1, none⟩ (.int .i64 N)).setCell ⟨w4.heap.size, 2, none⟩ (.int .i64 N)).setCell ⟨w4.heap.size, 3, none⟩ (.slice C nn cc)).setCell ⟨w4.heap.size, 4, none⟩ (.slice D N cd)).cell? ⟨B7, 0, none⟩ = some (.int .i64 p) := (hF7.cell 0).trans rfl
           clear hA5 hS5))
      all_goals go_wp2
      all_goals go_meet
      · exact ⟨w5.heap.size, C, cc, D, cd, cells, right, q5, rfl, hF5.lt, Blk.new _ _ _, hF5.alloc _, HOK, HE5, HE5D, hD5.alloc _, ballocs hbb5 _⟩
      · exact ⟨w4.heap.size, C, cc, D, cd, cells, right, q5, rfl, hle4, (((((hB5.set_ 0 (.int .i64 p)).set_ 1 (.int .i64 N)).set_ 2 (.int .i64 N)).set_ 3 (.slice C nn cc)).set_ 4 (.slice D N cd)), hF7, HOK, Lib.hid (HGO.out _ ((((((Step.refl (w4.heap.size) w5).set 0 (.int .i64 p)).set 1 (.int .i64 N)).set 2 (.int .i64 N)).set 3 (.slice C nn cc)).set 4 (.slice D N cd))).1, Lib.hid (HGO.out _ ((((((Step.refl (w4.heap.size) w5).set 0 (.int .i64 p)).set 1 (.int .i64 N)).set 2 (.int .i64 N)).set 3 (.slice C nn cc)).set 4 (.slice D N cd))).2, (((((hD5.setCell (p := ⟨w4.heap.size, 0, none⟩) hgw4 (.int .i64 p)).setCell (p := ⟨w4.heap.size, 1, none⟩) hgw4 (.int .i64 N)).setCell (p := ⟨w4.heap.size, 2, none⟩) hgw4 (.int .i64 N)).setCell (p := ⟨w4.heap.size, 3, none⟩) hgw4 (.slice C nn cc)).setCell (p := ⟨w4.heap.size, 4, none⟩) hgw4 (.slice D N cd)), (((((hbb5.setCell (p := ⟨w4.heap.size, 0, none⟩) hww4 (.int .i64 p)).setCell (p := ⟨w4.heap.size, 1, none⟩) hww4 (.int .i64 N)).setCell (p := ⟨w4.heap.size, 2, none⟩) hww4 (.int .i64 N)).setCell (p := ⟨w4.heap.size, 3, none⟩) hww4 (.slice C nn cc)).setCell (p := ⟨w4.heap.size, 4, none⟩) hww4 (.slice D N cd))⟩
      · exact ⟨W.heap.size, C, cc, D, cd, cells, right, q5, rfl, hB7l, (((((hB5.set_ 0 (.int .i64 p)).set_ 1 (.int .i64 N)).set_ 2 (.int .i64 N)).set_ 3 (.slice C nn cc)).set_ 4 (.slice D N cd)), hF7, HOK, Lib.hid (HGO.out W.heap.size _ ((((((Step.refl (W.heap.size) w5).set 0 (.int .i64 p)).set 1 (.int .i64 N)).set 2 (.int .i64 N)).set 3 (.slice C nn cc)).set 4 (.slice D N cd)) hs4 (fun b hb e => by have := hC4.row b hb; omega)).1, Lib.hid (HGO.out W.heap.size _ ((((((Step.refl (W.heap.size) w5).set 0 (.int .i64 p)).set 1 (.int .i64 N)).set 2 (.int .i64 N)).set 3 (.slice C nn cc)).set 4 (.slice D N cd)) hs4 (fun b hb e => by have := hC4.row b hb; omega)).2, (((((hD5.setCell (p := ⟨W.heap.size, 0, none⟩) hgW (.int .i64 p)).setCell (p := ⟨W.heap.size, 1, none⟩) hgW (.int .i64 N)).setCell (p := ⟨W.heap.size, 2, none⟩) hgW (.int .i64 N)).setCell (p := ⟨W.heap.size, 3, none⟩) hgW (.slice C nn cc)).setCell (p := ⟨W.heap.size, 4, none⟩) hgW (.slice D N cd)), (((((hbb5.setCell (p := ⟨W.heap.size, 0, none⟩) hsz (.int .i64 p)).setCell (p := ⟨W.heap.size, 1, none⟩) hsz (.int .i64 N)).setCell (p := ⟨W.heap.size, 2, none⟩) hsz (.int .i64 N)).setCell (p := ⟨W.heap.size, 3, none⟩) hsz (.slice C nn cc)).setCell (p := ⟨W.heap.size, 4, none⟩) hsz (.slice D N cd))⟩
    case rest =>
    have hgb7 := hgf
    clear hF_3 hD3' hDd hf0 hf0d hbb3 hgf hsW1 hsW2 hsz
    obtain ⟨B8, C, cc, D, cd, cells, right, q4, rfl, hB78, hB, hF, HC, HOC, HOD, hD, hbb⟩ := hcut
    have HE : Hid (EqW wc p N N nn C cc D cd cells right) := Lib.hid ⟨HC.out, HNN.out, HOC.out.ints, HOD.out.ints, HOC.out.cap_⟩
    have hgb : g < B7 + 1 := Nat.lt_succ_of_lt hgb7
    have hB8 := hB.lt
    have hgB := hD.1.lt
    have hb0 : wc.cell? ⟨B8, 0, none⟩ = some (.int .i64 p) := (hB.cell 0).trans rfl
    have hb1 : wc.cell? ⟨B8, 1, none⟩ = some (.int .i64 N) := (hB.cell 1).trans rfl
    have hb2 : wc.cell? ⟨B8, 2, none⟩ = some (.int .i64 N) := (hB.cell 2).trans rfl
    have hb3 : wc.cell? ⟨B8, 3, none⟩ = some (.slice C nn cc) := (hB.cell 3).trans rfl
    have hb4 : wc.cell? ⟨B8, 4, none⟩ = some (.slice D N cd) := (hB.cell 4).trans rfl
    go_upto_region 13 with (first
      | (go_at_call 19; refine (rank_ok HE.out).mono ?_; rintro e w6 ⟨rk, rfl, hR6, hb6⟩
         have HR6 := Lib.hid hR6
         have hB6 := hB.below hb6 hB8
         have hF6 := hF.below hb6 hF.lt
         have HE6 := Lib.hid (HE.out.upto hb6)
         have hD6 := hD.belowAll hb6
         have hbb6 := bnext hbb hb6
         have hrk := hR6.le
         rw [augM_len] at hrk
         have hc0 : w6.cell? ⟨B8, 0, none⟩ = some (.int .i64 p) := (hB6.cell 0).trans rfl
         have hc1 : w6.cell? ⟨B8, 1, none⟩ = some (.int .i64 N) := (hB6.cell 1).trans rfl
         have hc2 : w6.cell? ⟨B8, 2, none⟩ = some (.int .i64 N) := (hB6.cell 2).trans rfl
         have hc3 : w6.cell? ⟨B8, 3, none⟩ = some (.slice C nn cc) := (hB6.cell 3).trans rfl
         have hc4 : w6.cell? ⟨B8, 4, none⟩ = some (.slice D N cd) := (hB6.cell 4).trans rfl
         have HOC6 := Lib.hid (HOC.out.belowAll hb6)
         have HOD6 := Lib.hid (HOD.out.belowAll hb6)
         clear hR6 hb6)
      | (go_at_call 16; refine (count_ok HE6.out).mono ?_; rintro e w7 ⟨⟨v7, hC7, he7⟩, hb7⟩
         obtain ⟨cu, ce, rfl, hcv⟩ : ∃ cu ce, e = .returned (.tuple #[.int .i64 cu, .int .i64 ce]) ∧ ((v7 = some cu ∧ ce = 0) ∨ (v7 = none ∧ cu = 0 ∧ ce = 4)) := by
           rcases v7 with _ | u
           · exact ⟨0, 4, he7, .inr ⟨rfl, rfl, rfl⟩⟩
           · exact ⟨u, 0, he7, .inl ⟨rfl, rfl⟩⟩
         have HC7 := Lib.hid hC7
         have HCV := Lib.hid hcv
         have hB7' := hB6.below hb7 hB6.lt
         have hF7 := hF6.below hb7 hF6.lt
         have HE7 := Lib.hid (HE6.out.upto hb7)
         have hD7 := hD6.belowAll hb7
         have hbb7 := bnext hbb6 hb7
         have HOC7 := Lib.hid (HOC6.out.belowAll hb7)
         have HOD7 := Lib.hid (HOD6.out.belowAll hb7)
         clear hC7 he7 hcv hb7))
    by_cases hlt : rk < N
    · have h1 : (rk : Int) < (N : Int) := by omega
      have hlc := less_count HR6.out hlt hp.1 HC7.out
      rcases HCV.out with ⟨hv, rfl⟩ | ⟨hv, rfl, rfl⟩
      · have hne : ¬ cu = 1 := fun e => hlc (by rw [hv, e])
        have hnb : (cu != 1) = true := by simp [hne]
        have hnb2 : (cu == 1) = false := by simp [hne]
        go_wp2
        go_ret
        exact ⟨rfl, hbb7⟩
      · go_wp2
        go_ret
        exact ⟨rfl, hbb7⟩
    · obtain rfl : N = rk := by omega
      have h1 : ¬ (N : Int) < (N : Int) := by omega
      have hsc := square_count (augM_len N N cells right) HR6.out hp.1 HC7.out
      obtain ⟨rfl, rfl⟩ : cu = 1 ∧ ce = 0 := by
        rcases HCV.out with ⟨hv, h2⟩ | ⟨hv, _, _⟩
        · rw [hsc] at hv; injection hv with hv; exact ⟨hv.symm, h2⟩
        · rw [hsc] at hv; cases hv
      clear HCV hsc HC7 hb0 hb1 hb2 hb3 hb4 hc0 hc1 hc2 hc3 hc4
      have hk0 : w7.cell? ⟨B8, 0, none⟩ = some (.int .i64 p) := (hB7'.cell 0).trans rfl
      have hk1 : w7.cell? ⟨B8, 1, none⟩ = some (.int .i64 N) := (hB7'.cell 1).trans rfl
      have hk2 : w7.cell? ⟨B8, 2, none⟩ = some (.int .i64 N) := (hB7'.cell 2).trans rfl
      have hk3 : w7.cell? ⟨B8, 3, none⟩ = some (.slice C nn cc) := (hB7'.cell 3).trans rfl
      have hk4 : w7.cell? ⟨B8, 4, none⟩ = some (.slice D N cd) := (hB7'.cell 4).trans rfl
      obtain ⟨B13, hB13⟩ : ∃ b, w7.heap.size = b := ⟨_, rfl⟩
      have hl13 := hB7'.lt
      rw [hB13] at hl13
      have hX13 := Blk.new w7 30 (eqC p N N C nn cc D N cd)
      have hX8 := hB7'.alloc (.cells (eqC p N N C nn cc D N cd) 30)
      have hXF := hF7.alloc (.cells (eqC p N N C nn cc D N cd) 30)
      have hXD := hD7.alloc (.cells (eqC p N N C nn cc D N cd) 30)
      have HXC := Lib.hid (HOC7.out.alloc (.cells (eqC p N N C nn cc D N cd) 30))
      have HXD := Lib.hid (HOD7.out.alloc (.cells (eqC p N N C nn cc D N cd) 30))
      have hXb := ballocs hbb7 (.cells (eqC p N N C nn cc D N cd) 30)
      have hsX : (w7.alloc (.cells (eqC p N N C nn cc D N cd) 30)).heap.size = w7.heap.size + 1 := World.size_alloc _ _
      obtain ⟨W8, hW8⟩ : ∃ W, w7.alloc (.cells (eqC p N N C nn cc D N cd) 30) = W := ⟨_, rfl⟩
      have HW8 := Lib.hid hW8
      rw [hB13] at hX13 hsX
      rw [hW8] at hX13 hX8 hXF hXD HXC HXD hXb hsX
      have hs81 : W8.heap.size ≤ B13 + 1 := by omega
      have hs82 : B13 + 1 ≤ W8.heap.size := by omega
      have hbo : Hid (w.heap.size ≤ B13) := Lib.hid (by rw [← hB13]; exact hbb7.size)
      have hF80 : W8.cell? ⟨B7, 0, none⟩ = some (.int .i64 p) := (hXF.cell 0).trans rfl
      have HB13 := Lib.hid hB13
      clear hW8 hsX hB13
      go_upto_region 16 with fail
      rw [HW8.out]
      rw [HB13.out]
      clear hB7' hF7 hD7 hbb7 HE7 HW8 HB13 hk0 hk1 hk2 hk3 hk4
      go_upto_region 17 with (first
        | (go_at_call 14; refine (elements_any g A n c xs _ p N _ hXD hp (by omega)).mono ?_; rintro e w9 ⟨D2, cd2, right2, q9, rfl, hD9, hA9, hDk9, hS9⟩
           have hX139 := Step.block hS9 hX13 (by omega)
           have hX89 := Step.block hS9 hX8 (by omega)
           have hXF9 := Step.block hS9 hXF (by omega)
           have HXC9 := Lib.hid (HXC.out.step hS9 hgb)
           have HXD9 := Lib.hid (HXD.out.step hS9 hgb)
           have hXb9 := Step.below hXb hS9 hXb.size hg
           have HA9 := Lib.hid hA9
           have HO9 : Hid (OwnI w9 (B7 + 1) 3 D2 N cd2 right2) := Lib.hid (hD9.base (by omega))
           have hs9 : W8.heap.size ≤ w9.heap.size := World.grownBy.size hS9
           have hz4 : w9.cell? ⟨B13, 4, none⟩ = some (.slice D N cd) := (hX139.cell 4).trans rfl
           have hfz4 := hX139.frozen 4
           clear hA9 hS9 hD9))
      have hl14 := hX139.lt
      have hQ13 : Blk (w9.setCell ⟨B13, 4, none⟩ (.slice D2 N cd2)) B13 30 (eqC p N N C nn cc D2 N cd2) := hX139.set_ 4 (.slice D2 N cd2)
      have hQ8 := hX89.far (p := ⟨B13, 4, none⟩) (Nat.ne_of_lt hl13) (.slice D2 N cd2)
      have hQF := hXF9.far (p := ⟨B13, 4, none⟩) (show B7 ≠ B13 by omega) (.slice D2 N cd2)
      have HQC := Lib.hid (HXC9.out.box hX139 4 (.slice D2 N cd2))
      have HQD := Lib.hid (HXD9.out.box hX139 4 (.slice D2 N cd2))
      have HQ2 := Lib.hid (HO9.out.box hX139 4 (.slice D2 N cd2))
      have hQb := hXb9.setCell (p := ⟨B13, 4, none⟩) hbo.out (.slice D2 N cd2)
      obtain ⟨W10, hW10⟩ : ∃ W, w9.setCell ⟨B13, 4, none⟩ (.slice D2 N cd2) = W := ⟨_, rfl⟩
      rw [hW10] at hQ13 hQ8 hQF HQC HQD HQ2 hQb ⊢
      clear hW10 hX13 hX8 hXF hXD HXC HXD hXb hX139 hX89 hXF9 HXC9 HXD9 HO9 hXb9 hz4 hfz4 hDk9 hs9 hs81 hs82 hF80
      have hm0 : W10.cell? ⟨B8, 0, none⟩ = some (.int .i64 p) := (hQ8.cell 0).trans rfl
      have hm1 : W10.cell? ⟨B8, 1, none⟩ = some (.int .i64 N) := (hQ8.cell 1).trans rfl
      have hm2 : W10.cell? ⟨B8, 2, none⟩ = some (.int .i64 N) := (hQ8.cell 2).trans rfl
      have hm3 : W10.cell? ⟨B8, 3, none⟩ = some (.slice C nn cc) := (hQ8.cell 3).trans rfl
      have hm4 : W10.cell? ⟨B8, 4, none⟩ = some (.slice D N cd) := (hQ8.cell 4).trans rfl
      have hn0 : W10.cell? ⟨B13, 0, none⟩ = some (.int .i64 p) := (hQ13.cell 0).trans rfl
      have hn1 : W10.cell? ⟨B13, 1, none⟩ = some (.int .i64 N) := (hQ13.cell 1).trans rfl
      have hn2 : W10.cell? ⟨B13, 2, none⟩ = some (.int .i64 N) := (hQ13.cell 2).trans rfl
      have hn3 : W10.cell? ⟨B13, 3, none⟩ = some (.slice C nn cc) := (hQ13.cell 3).trans rfl
      have hn4 : W10.cell? ⟨B13, 4, none⟩ = some (.slice D2 N cd2) := (hQ13.cell 4).trans rfl
      have hl14b := hQ13.lt
      obtain ⟨B14, hB14⟩ : ∃ b, W10.heap.size = b := ⟨_, rfl⟩
      rw [hB14] at hl14b
      have hY14 := Blk.new W10 30 (eqC p N N C nn cc D N cd)
      have hY13 := hQ13.alloc (.cells (eqC p N N C nn cc D N cd) 30)
      have hY8 := hQ8.alloc (.cells (eqC p N N C nn cc D N cd) 30)
      have hYF := hQF.alloc (.cells (eqC p N N C nn cc D N cd) 30)
      have HYC := Lib.hid (HQC.out.alloc (.cells (eqC p N N C nn cc D N cd) 30))
      have HYD := Lib.hid (HQD.out.alloc (.cells (eqC p N N C nn cc D N cd) 30))
      have HY2 := Lib.hid (HQ2.out.alloc (.cells (eqC p N N C nn cc D N cd) 30))
      have hYb := ballocs hQb (.cells (eqC p N N C nn cc D N cd) 30)
      have hbo14 : Hid (w.heap.size ≤ B14) := Lib.hid (by rw [← hB14]; exact hQb.size)
      obtain ⟨W11, hW11⟩ : ∃ W, W10.alloc (.cells (eqC p N N C nn cc D N cd) 30) = W := ⟨_, rfl⟩
      have HW11 := Lib.hid hW11
      have HB14 := Lib.hid hB14
      rw [hB14] at hY14
      rw [hW11] at hY14 hY13 hY8 hYF HYC HYD HY2 hYb
      clear hW11 hB14
      go_upto_region 18 with fail
      rw [HW11.out]
      rw [HB14.out]
      clear hQ13 hQ8 hQF HQC HQD HQ2 hQb HW11 HB14 hm0 hm1 hm2 hm3 hm4 hn0 hn1 hn2 hn3 hn4
      have hu7 : W11.cell? ⟨B7, 0, none⟩ = some (.int .i64 p) := (hYF.cell 0).trans rfl
      have hu8 : W11.cell? ⟨B8, 4, none⟩ = some (.slice D N cd) := (hY8.cell 4).trans rfl
      have hu13 : W11.cell? ⟨B13, 4, none⟩ = some (.slice D2 N cd2) := (hY13.cell 4).trans rfl
      go_upto_region 19 with (first
        | (go_at_call 21; refine (radd_ok p D D2 N cd cd2 right right2 _ HO.out HYD.out.ints HY2.out.ints HC.out.ar HA9.out (by omega)).mono ?_; rintro e w12 ⟨⟨D3, cd3, rfl, hD12⟩, hb12⟩
           have hZ14 := hY14.below hb12 hY14.lt
           have hZ13 := hY13.below hb12 hY13.lt
           have hZ8 := hY8.below hb12 hY8.lt
           have hZF := hYF.below hb12 hYF.lt
           have HZC := Lib.hid (HYC.out.belowAll hb12)
           have HZD := Lib.hid (HYD.out.belowAll hb12)
           have HZ2 := Lib.hid (HY2.out.belowAll hb12)
           have hZb := bnext hYb hb12
           have hl15 := hY14.lt
           have HZ3 : Hid (OwnI w12 (B7 + 1) 3 D3 N cd3 (zipI (addP p) right right2)) := Lib.hid (hD12.base (by omega))
           have hz5 : w12.cell? ⟨B14, 4, none⟩ = some (.slice D N cd) := (hZ14.cell 4).trans rfl
           have hfz5 := hZ14.frozen 4
           clear hb12 hD12))
      have hQ14 : Blk (w12.setCell ⟨B14, 4, none⟩ (.slice D3 N cd3)) B14 30 (eqC p N N C nn cc D3 N cd3) := hZ14.set_ 4 (.slice D3 N cd3)
      have hQ13 := hZ13.far (p := ⟨B14, 4, none⟩) (Nat.ne_of_lt hl14b) (.slice D3 N cd3)
      have hQ8 := hZ8.far (p := ⟨B14, 4, none⟩) (show B8 ≠ B14 by omega) (.slice D3 N cd3)
      have hQF := hZF.far (p := ⟨B14, 4, none⟩) (show B7 ≠ B14 by omega) (.slice D3 N cd3)
      have HQC := Lib.hid (HZC.out.box hZ14 4 (.slice D3 N cd3))
      have HQD := Lib.hid (HZD.out.box hZ14 4 (.slice D3 N cd3))
      have HQ2 := Lib.hid (HZ2.out.box hZ14 4 (.slice D3 N cd3))
      have HQ3 := Lib.hid (HZ3.out.box hZ14 4 (.slice D3 N cd3))
      have hQb := hZb.setCell (p := ⟨B14, 4, none⟩) hbo14.out (.slice D3 N cd3)
      obtain ⟨W13, hW13⟩ : ∃ W, w12.setCell ⟨B14, 4, none⟩ (.slice D3 N cd3) = W := ⟨_, rfl⟩
      rw [hW13] at hQ14 hQ13 hQ8 hQF HQC HQD HQ2 HQ3 hQb ⊢
      have HC2 : Hid (EqOk p N N cells right2) := Lib.hid ⟨HC.out.ok, HC.out.r32, HC.out.c32, HC.out.lc, HQ2.out.len, HC.out.ac, HA9.out⟩
      have HC3 : Hid (EqOk p N N cells (zipI (addP p) right right2)) := Lib.hid ⟨HC.out.ok, HC.out.r32, HC.out.c32, HC.out.lc, HQ3.out.len, HC.out.ac, zipI_add_all_ hp.1 _ _⟩
      have HE1 : Hid (EqW W13 p N N nn C cc D cd cells right) := Lib.hid ⟨HC.out, HNN.out, HQC.out.ints, HQD.out.ints, HQC.out.cap_⟩
      have HE2 : Hid (EqW W13 p N N nn C cc D2 cd2 cells right2) := Lib.hid ⟨HC2.out, HNN.out, HQC.out.ints, HQ2.out.ints, HQC.out.cap_⟩
      have HE3 : Hid (EqW W13 p N N nn C cc D3 cd3 cells (zipI (addP p) right right2)) := Lib.hid ⟨HC3.out, HNN.out, HQC.out.ints, HQ3.out.ints, HQC.out.cap_⟩
      clear hW13 hY14 hY13 hY8 hYF HYC HYD HY2 hYb hZ14 hZ13 hZ8 hZF HZC HZD HZ2 HZ3 hZb hz5 hfz5 hu7 hu8 hu13 HQC HQ2 HQ3 HQD
      have hr0 : W13.cell? ⟨B8, 0, none⟩ = some (.int .i64 p) := (hQ8.cell 0).trans rfl
      have hr1 : W13.cell? ⟨B8, 1, none⟩ = some (.int .i64 N) := (hQ8.cell 1).trans rfl
      have hr2 : W13.cell? ⟨B8, 2, none⟩ = some (.int .i64 N) := (hQ8.cell 2).trans rfl
      have hr3 : W13.cell? ⟨B8, 3, none⟩ = some (.slice C nn cc) := (hQ8.cell 3).trans rfl
      have hr4 : W13.cell? ⟨B8, 4, none⟩ = some (.slice D N cd) := (hQ8.cell 4).trans rfl
      go_upto_region 22 with (first
        | (go_at_call 15; (with_reducible refine (solve_ok HE1.out).mono ?_); rintro e w14 hP
           obtain ⟨g1, x1, rfl, hx1, hq1, hb14⟩ := square_post HC.out HR6.out hP
           have HX1 := Lib.hid hq1
           have HE22 := Lib.hid (HE2.out.upto hb14)
           have HE32 := Lib.hid (HE3.out.upto hb14)
           have hR13 := hQ13.below hb14 hQ13.lt
           have hR14 := hQ14.below hb14 hQ14.lt
           have hRF := hQF.below hb14 hQF.lt
           have hbb14 := bnext hQb hb14
           have hs0 : w14.cell? ⟨B13, 0, none⟩ = some (.int .i64 p) := (hR13.cell 0).trans rfl
           have hs1 : w14.cell? ⟨B13, 1, none⟩ = some (.int .i64 N) := (hR13.cell 1).trans rfl
           have hs2 : w14.cell? ⟨B13, 2, none⟩ = some (.int .i64 N) := (hR13.cell 2).trans rfl
           have hs3 : w14.cell? ⟨B13, 3, none⟩ = some (.slice C nn cc) := (hR13.cell 3).trans rfl
           have hs4 : w14.cell? ⟨B13, 4, none⟩ = some (.slice D2 N cd2) := (hR13.cell 4).trans rfl
           clear hP hb14 hq1)
        | (go_at_call 15; (with_reducible refine (solve_ok HE22.out).mono ?_); rintro e w15 hP
           obtain ⟨g2, x2, rfl, hx2, hq2, hb15⟩ := square_post HC2.out HR6.out hP
           have HX2 := Lib.hid hq2
           have HE33 := Lib.hid (HE32.out.upto hb15)
           have hR142 := hR14.below hb15 hR14.lt
           have hRF2 := hRF.below hb15 hRF.lt
           have hbb15 := bnext hbb14 hb15
           have hx12 := hx1.belowAll hb15
           have ht0 : w15.cell? ⟨B14, 0, none⟩ = some (.int .i64 p) := (hR142.cell 0).trans rfl
           have ht1 : w15.cell? ⟨B14, 1, none⟩ = some (.int .i64 N) := (hR142.cell 1).trans rfl
           have ht2 : w15.cell? ⟨B14, 2, none⟩ = some (.int .i64 N) := (hR142.cell 2).trans rfl
           have ht3 : w15.cell? ⟨B14, 3, none⟩ = some (.slice C nn cc) := (hR142.cell 3).trans rfl
           have ht4 : w15.cell? ⟨B14, 4, none⟩ = some (.slice D3 N cd3) := (hR142.cell 4).trans rfl
           clear hP hb15 hq2)
        | (go_at_call 15; (with_reducible refine (solve_ok HE33.out).mono ?_); rintro e w16 hP
           obtain ⟨g3, x3, rfl, hx3, hq3, hb16⟩ := square_post HC3.out HR6.out hP
           have HX3 := Lib.hid hq3
           have hRF3 := hRF2.below hb16 hRF2.lt
           have hbb16 := bnext hbb15 hb16
           have hx13 := hx12.belowAll hb16
           have hx23 := hx2.belowAll hb16
           have hw7 : w16.cell? ⟨B7, 0, none⟩ = some (.int .i64 p) := (hRF3.cell 0).trans rfl
           clear hP hb16 hq3))
      have HSUM : Hid (sameL (zipI (addP p) x1 x2) x3 = true) := Lib.hid (sameL_iff.2 (HX3.out.2.2.2 _ (solv_sum HC.out.lc HX1.out.1 HX2.out.1 (fun j hj => cell_sum HX1.out.2.1 HX2.out.2.1 hj) (fun i hi => cell_sum HC.out.lr HC2.out.lr hi)) (zipI_len2 _ _ _ HX1.out.2.1 HX2.out.2.1) (zipI_add_all_ hp.1 _ _)))
      go_wp2_with (first
        | (go_at_call 21; refine (radd_ok p (some ⟨g1, 0, none⟩) (some ⟨g2, 0, none⟩) N N N x1 x2 _ HO.out hx13.ints hx23.ints HX1.out.2.2.1 HX2.out.2.2.1 (by omega)).mono ?_; rintro e w17 ⟨⟨D4, cd4, rfl, hD17⟩, hb17⟩
           have hbb17 := bnext hbb16 hb17
           have hx34 := hx3.belowAll hb17
           clear hb17)
        | (go_at_call 17; refine (same_any D4 (some ⟨g3, 0, none⟩) N N cd4 N _ x3 _ hD17.ints hx34.ints (by omega) (by omega)).mono ?_; rintro e w18 ⟨rfl, q18, rfl⟩
           have hsm := HSUM.out))
      go_ret
      exact ⟨rfl, below_drewN hbb17 _⟩
  · have hd : decide (n ≤ 500) = false := by simpa using hn
    go_enter Try.func5, Try.ntmps5
    go_wp2_with (first
      | (go_at_call 9; refine (sane06_any _).mono ?_; rintro e w1 ⟨rfl, hb1⟩)
      | (go_at_call 10; refine (few_any A n c _).mono ?_; rintro e w' ⟨rfl, rfl⟩))
    go_ret
    exact ⟨rfl, hb1⟩
end Go.Proofs.Yteipcjmkhacdgaa
