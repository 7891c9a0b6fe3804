/-
  SolveScales returns true: the walk of the law. Conditions: none beyond the reading of its arguments.
-/
import Derived.Test.YteipcjmkhacdgaaS06
import Derived.Test.YteipcjmkhacdgaaEqBld
import Derived.Deep.RegionHeld3
import Derived.Deep.RegionHeld
import Derived.Deep.RegionLaw
import Derived.Deep.RegionHeldLaw
import Derived.Deep.DeepCutAuto
import Derived.Deep.QuietTactic
import Derived.BigQuiet
namespace Go.Proofs.Yteipcjmkhacdgaa
open Go.RowKit
set_option linter.unusedVariables false

theorem St.farBox {w : World} {g : Nat} {A : Option Addr} {n c : Nat} {xs : List Int} {q B4 B5 : Nat} {p : Int} {r k nc : Nat} {C : Option Addr} {cc : Nat} {D : Option Addr} {cd : Nat} {cells right : List Int}
    {r2 : Nat} {C2 : Option Addr} {n2 c2 : Nat} {cells2 : List Int} {D2 : Option Addr} {m2 d2 : Nat} {right2 : List Int} (h : St w g A n c xs q B4 B5 p r k nc C cc D cd cells right r2 C2 n2 c2 cells2 D2 m2 d2 right2) {B10 : Nat} {cs : Array Value} (hB : Blk w B10 30 cs) (hl : B5 < B10) (j : Nat) (u : Value) :
    St (w.setCell ⟨B10, j, none⟩ u) g A n c xs q B4 B5 p r k nc C cc D cd cells right r2 C2 n2 c2 cells2 D2 m2 d2 right2 := by
  have h1 := h.lt
  have h2 := h.glt
  exact ⟨h.b4.far (p := ⟨B10, j, none⟩) (by show B4 ≠ B10; omega) u, h.b5.far (p := ⟨B10, j, none⟩) (by show B5 ≠ B10; omega) u, h.hC.box hB j u, h.hD.box hB j u, h.hCl, h.hDl, ⟨h.two.1.box hB j u, h.two.2.1.box hB j u, h.two.2.2⟩, h.dk.setCell (p := ⟨B10, j, none⟩) (by show g < B10; omega) u, h1, h2⟩
theorem St.belowAt {w w' : World} {g : Nat} {A : Option Addr} {n c : Nat} {xs : List Int} {q B4 B5 : Nat} {p : Int} {r k nc : Nat} {C : Option Addr} {cc : Nat} {D : Option Addr} {cd : Nat} {cells right : List Int}
    {r2 : Nat} {C2 : Option Addr} {n2 c2 : Nat} {cells2 : List Int} {D2 : Option Addr} {m2 d2 : Nat} {right2 : List Int} (h : St w g A n c xs q B4 B5 p r k nc C cc D cd cells right r2 C2 n2 c2 cells2 D2 m2 d2 right2) {B : Nat} (hb : Below B w w') (hB : B5 < B)
    (hl : (∀ b, (Value.slice C2 n2 c2).ownBlock = some b → b < B) ∧ (∀ b, (Value.slice D2 m2 d2).ownBlock = some b → b < B)) : St w' g A n c xs q B4 B5 p r k nc C cc D cd cells right r2 C2 n2 c2 cells2 D2 m2 d2 right2 := by
  have h1 := h.lt
  have h2 := h.glt
  exact ⟨h.b4.below hb (by omega), h.b5.below hb hB, h.hC.below hb (fun b hk => by have := h.hCl b hk; omega), h.hD.below hb (fun b hk => by have := h.hDl b hk; omega), h.hCl, h.hDl, ⟨h.two.1.below hb hl.1, h.two.2.1.below hb hl.2, h.two.2.2⟩, h.dk.below hb (by omega), h1, h2⟩
theorem St.fin {w w' : World} {g : Nat} {A : Option Addr} {n c : Nat} {xs : List Int} {q B4 B5 : Nat} {p : Int} {r k nc : Nat} {C : Option Addr} {cc : Nat} {D : Option Addr} {cd : Nat} {cells right : List Int}
    {r2 : Nat} {C2 : Option Addr} {n2 c2 : Nat} {cells2 : List Int} {D2 : Option Addr} {m2 d2 : Nat} {right2 : List Int} (h : St w g A n c xs q B4 B5 p r k nc C cc D cd cells right r2 C2 n2 c2 cells2 D2 m2 d2 right2) {B B10 : Nat} {cs : Array Value} (hB10 : Blk w B10 30 cs) (h5 : B5 < B10) (h10 : B10 < B)
    (hl : (∀ b, (Value.slice C2 n2 c2).ownBlock = some b → b < B) ∧ (∀ b, (Value.slice D2 m2 d2).ownBlock = some b → b < B)) {M : Option Addr} {N mc : Nat} {ys : List Int} (hown : OwnI w' B 3 M N mc ys) (hb : Below B w w') (j : Nat) (u : Value) :
    Blk w' B10 30 cs ∧ St (w'.setCell ⟨B10, j, none⟩ u) g A n c xs q B4 B5 p r k nc C cc D cd cells right r2 C2 n2 c2 cells2 D2 m2 d2 right2 ∧ Blk (w'.setCell ⟨B10, j, none⟩ u) B10 30 (cs.setIfInBounds j u) ∧ OwnI (w'.setCell ⟨B10, j, none⟩ u) B 3 M N mc ys := by
  have hB := hB10.below hb h10
  exact ⟨hB, (h.belowAt hb (by omega) hl).farBox hB h5 j u, hB.set_ j u, hown.box hB j u⟩
theorem Below.fromDrew {B : Nat} {a b : World} (h : Below B a.drew b) : Below B a b := ⟨h.os, h.tape, h.output, h.size, h.block⟩

/-- What Solve leaves, in one form. -/
theorem solve_post {p : Int} {c : Nat} {m0 : List (List Int)} {w w' : World} {e : Ending} (h : SolvePost p c m0 w e w') : ∃ (A : Option Addr) (n ca : Nat) (xs : List Int) (er : Int) (o : Option (List Int)), e = .returned (.tuple #[.slice A n ca, .int .i64 er]) ∧ OwnI w' w.heap.size 3 A n ca xs ∧ SolveOf p c m0 o ∧ (er, xs) = (match o with | some x => (0, x) | none => (6, [])) ∧ n ≤ c ∧ Below w.heap.size w w' := by
  obtain ⟨hP, hb⟩ := h
  rcases hP with ⟨h0, h1⟩ | ⟨g, x, h0, h1, h2⟩
  · exact ⟨none, 0, 0, [], 6, none, h1, OwnI.nil_, h0, rfl, Nat.zero_le _, hb⟩
  · exact ⟨_, c, c, x, 0, some x, h1, h2, h0, rfl, Nat.le_refl _, hb⟩
/-- What Count leaves, in one form. -/
theorem count_post {p : Int} {c : Nat} {m0 : List (List Int)} {w w' : World} {e : Ending} (h : CountPost p c m0 w e w') : ∃ (u er : Int) (o : Option Int), e = .returned (.tuple #[.int .i64 u, .int .i64 er]) ∧ CountOf p c m0 o ∧ (er, u) = (match o with | some x => (0, x) | none => (4, 0)) ∧ Below w.heap.size w w' := by
  obtain ⟨⟨o, h1, h2⟩, hb⟩ := h
  rcases o with _ | u
  · exact ⟨0, 4, none, h2, h1, rfl, hb⟩
  · exact ⟨u, 0, some u, h2, h1, rfl, hb⟩
/-- Each number is that of the given list times its row's number. -/
def Scl (p : Int) (k : Nat) (X : Nat → Int) (cells cells2 : List Int) : Prop := ∀ n, n < cells2.length → cf cells2 n = X (n / k) * cf cells n % p
theorem Scl.nil_ (p : Int) (k : Nat) (X : Nat → Int) (cells : List Int) : Scl p k X cells [] := fun n h => absurd h (by simp)
theorem Scl.snoc {p : Int} {k : Nat} {X : Nat → Int} {cells cells2 : List Int} (h : Scl p k X cells cells2) {x : Int} (hx : x = X (cells2.length / k) * cf cells cells2.length % p) : Scl p k X cells (cells2 ++ [x]) := fun n hn => by
  rw [List.length_append] at hn
  rw [cf_append]
  by_cases e : n < cells2.length
  · rw [if_pos e]; exact h n e
  · have : n = cells2.length := by simp at hn; omega
    subst this
    rw [if_neg e, Nat.sub_self, cf_zero, hx]
theorem Scl.other {p : Int} {k : Nat} {X X' : Nat → Int} {cells cells2 : List Int} (h : Scl p k X cells cells2) (hX : ∀ n, n < cells2.length → X' (n / k) = X (n / k)) : Scl p k X' cells cells2 := fun n hn => by rw [h n hn, hX n hn]
theorem scl_ker {p : Int} {r k : Nat} {X : Nat → Int} {cells right cells2 right2 : List Int} (hok : EqOk p r k cells right) (hX : ∀ t, 1 ≤ X t ∧ X t < p) (h1 : Scl p k X cells cells2) (h2 : Scl p 1 X right right2) (hl : cells2.length = r * k) (hr : right2.length = r) (z : Nat → Int) : Ker p (k + 1) (augM r k cells right) z ↔ Ker p (k + 1) (augM r k cells2 right2) z := by
  refine ker_scaled hok.ok hok.lc hl (fun i hi => ⟨X i, hX i, fun j hj => ?_, ?_⟩) z
  · have hlt := idx_lt hi hj
    rw [h1 _ (by rw [hl]; exact hlt)]
    have : (i * k + j) / k = i := by
      rw [Nat.mul_comm, Nat.mul_add_div (by omega), Nat.div_eq_of_lt hj, Nat.add_zero]
    rw [this]
  · rw [h2 i (by rw [hr]; exact hi), Nat.div_one]

set_option maxHeartbeats 16000000 in
set_option maxRecDepth 100000 in
theorem solveScales_walk (A : Option Addr) (n c : Nat) (zs : List Int) (w : World) (w0 : IsRow .i64 w A n c zs) :
    Calls Try.prog 3 #[.slice A n c] w fun e w' => e = .returned (.bool true) ∧ Below w.heap.size w w' := by
  obtain ⟨i0, hi0, hz0, hz1, hz2⟩ := info_parts info_int
  obtain ⟨h, hw⟩ := w0.ints
  generalize zs.take n = xs at h hw
  clear w0
  by_cases hn : n ≤ 500
  · have hd : decide (n ≤ 500) = true := by simpa using hn
    go_enter Try.func3, Try.ntmps3
    go_upto_region 7 with (first
      | (go_at_call 9; refine (sane06_any _).mono ?_; rintro e w1 ⟨rfl, hb1⟩)
      | (go_at_call 10; refine (few_any A n c _).mono ?_; rintro e w' ⟨rfl, rfl⟩)
      | (go_at_call 11; refine (new_any A n c xs _ (h.upto hb1) hn).mono ?_; rintro e w2 ⟨⟨g, rfl, hge, hD2⟩, hb2⟩
         have hbb2 := bnext hb1 hb2
         have hg : w.heap.size ≤ g := by rw [hge]; exact hb1.size
         clear hge hb1 hb2)
      | (go_at_call 12; refine (equ_any g A n c xs _ _ hD2).mono ?_; rintro e w3 ⟨p, r, k, nc, C, cc, D, cd, cells, right, q3, rfl, hkn, hr4, hk5, hok, hnc, hoC, hoD, hD3, hS3⟩
         have hp := okP_pos hok.ok
         have HC := Lib.hid hok
         have HNC := Lib.hid hnc
         have hg2 := hD2.1.lt
         have hBx := Blk.new w3 30 (eqC p r k C nc cc D r cd)
         have hbb3 := ballocs (Step.below hbb2 hS3 hbb2.size hg) (.cells (eqC p r k C nc cc D r cd) 30)
         have hD3' := hD3.alloc (.cells (eqC p r k C nc cc D r cd) 30)
         have HOC := Lib.hid ((hoC.base (Nat.succ_le_of_lt hg2)).alloc (.cells (eqC p r k C nc cc D r cd) 30))
         have HOD := Lib.hid ((hoD.base (Nat.succ_le_of_lt hg2)).alloc (.cells (eqC p r k C nc cc D r cd) 30))
         have HCl : Hid (∀ b, (Value.slice C nc cc).ownBlock = some b → b < w3.heap.size) := Lib.hid fun b hb => (World.ownsRow.lt hoC b hb).2
         have HDl : Hid (∀ b, (Value.slice D r cd).ownBlock = some b → b < w3.heap.size) := Lib.hid fun b hb => (World.ownsRow.lt hoD b hb).2
         have hgB := hD3.1.lt
         clear hok hkn hnc hoC hoD hD2 hD3 hS3 hbb2))
    obtain ⟨B4, hB4⟩ : ∃ b, w3.heap.size = b := ⟨_, rfl⟩
    obtain ⟨W, hW⟩ : ∃ W, w3.alloc (.cells (eqC p r k C nc cc D r cd) 30) = W := ⟨_, rfl⟩
    have hWs : B4 < W.heap.size := by rw [← hW, ← hB4]; simp
    rw [hW] at hBx hbb3 hD3' HOC HOD ⊢
    rw [hB4] at hBx hgB HCl HDl ⊢
    clear hW hB4
    have hx0 : W.cell? ⟨B4, 0, none⟩ = some (.int .i64 p) := (hBx.cell 0).trans rfl
    have hx1 : W.cell? ⟨B4, 1, none⟩ = some (.int .i64 r) := (hBx.cell 1).trans rfl
    have hx2 : W.cell? ⟨B4, 2, none⟩ = some (.int .i64 k) := (hBx.cell 2).trans rfl
    have hx3 : W.cell? ⟨B4, 3, none⟩ = some (.slice C nc cc) := (hBx.cell 3).trans rfl
    have hx4 : W.cell? ⟨B4, 4, none⟩ = some (.slice D r cd) := (hBx.cell 4).trans rfl
    have hX5 := Blk.new W 30 #[.int .i64 p, .int .i64 r, .int .i64 k, .slice none 0 0, .slice none 0 0]
    have HS0 : Hid (St (W.alloc (.cells #[.int .i64 p, .int .i64 r, .int .i64 k, .slice none 0 0, .slice none 0 0] 30)) g A n c xs q3 B4 W.heap.size p r k nc C cc D cd cells right r none 0 0 [] none 0 0 []) := Lib.hid ⟨hBx.alloc (.cells #[.int .i64 p, .int .i64 r, .int .i64 k, .slice none 0 0, .slice none 0 0] 30), hX5, HOC.out.alloc (.cells #[.int .i64 p, .int .i64 r, .int .i64 k, .slice none 0 0, .slice none 0 0] 30), HOD.out.alloc (.cells #[.int .i64 p, .int .i64 r, .int .i64 k, .slice none 0 0, .slice none 0 0] 30), HCl.out, HDl.out, Two.nil_, hD3'.alloc (.cells #[.int .i64 p, .int .i64 r, .int .i64 k, .slice none 0 0, .slice none 0 0] 30), hWs, hgB⟩
    have hbb5 := ballocs hbb3 (.cells #[.int .i64 p, .int .i64 r, .int .i64 k, .slice none 0 0, .slice none 0 0] 30)
    have hsB5 : w.heap.size ≤ W.heap.size := hbb3.size
    clear hX5 hBx HOC HOD hD3' hbb3
    go_upto_region 8 with fail
    obtain ⟨B5, hB5⟩ : ∃ b, W.heap.size = b := ⟨_, rfl⟩
    obtain ⟨W5, hW5⟩ : ∃ V, W.alloc (.cells #[.int .i64 p, .int .i64 r, .int .i64 k, .slice none 0 0, .slice none 0 0] 30) = V := ⟨_, rfl⟩
    rw [hW5] at HS0 hbb5 ⊢
    rw [hB5] at HS0 hsB5 ⊢
    clear hW5 hB5 hx0 hx1 hx2 hx3 hx4
    have hpw : IntKind.i64.wrap (p - 1) = p - 1 := IntWalk.i64_in _ (by omega)
    have hp0 : ¬ p = 0 := by omega
    go_wp2_with fail
    go_loopw [6] (fun v wx => ∃ (i : Nat) (X : Nat → Int) (C2 : Option Addr) (n2 c2 : Nat) (cells2 : List Int) (D2 : Option Addr) (m2 d2 : Nat) (right2 : List Int) (q : Nat), i ≤ r ∧ v = .int .i64 i ∧ Hid (St wx g A n c xs q B4 B5 p r k nc C cc D cd cells right r C2 n2 c2 cells2 D2 m2 d2 right2) ∧ Hid (i * k = n2 ∧ i = m2 ∧ (∀ t, 1 ≤ X t ∧ X t < p) ∧ Scl p k X cells cells2 ∧ Scl p 1 X right right2 ∧ allP p cells2 = true ∧ allP p right2 = true) ∧ Below w.heap.size w wx) (fun v _ => r - (intOf v).toNat)
    case atStart => exact ⟨0, fun _ => 1, none, 0, 0, [], none, 0, 0, [], q3, Nat.zero_le _, rfl, HS0, Lib.hid ⟨by simp, rfl, fun _ => ⟨Int.le_refl _, by show (1 : Int) < p; omega⟩, Scl.nil_ _ _ _ _, Scl.nil_ _ _ _ _, rfl, rfl⟩, hbb5⟩
    case round =>
      obtain ⟨i, X, C2, n2, c2, cells2, D2, m2, d2, right2, q, hi, rfl, HS, HI, hb⟩ := hrel
      have hr1 : wr.cell? ⟨B4, 1, none⟩ = some (.int .i64 r) := (HS.out.b4.cell 1).trans rfl
      by_cases hlt : i < r
      · have h1 : (i : Int) < (r : Int) := by omega
        have hdk := HS.out.dk
        have hgl := HS.out.glt
        have hll := HS.out.lt
        have hl5 := HS.out.b5.lt
        have hr0 : wr.cell? ⟨B4, 0, none⟩ = some (.int .i64 p) := (HS.out.b4.cell 0).trans rfl
        have hcap := HS.out.hC.cap_
        have hrle := row_le (c := k) hlt
        rw [HNC.out] at hrle
        have hnc20 : nc ≤ 4 * 5 := by rw [← HNC.out]; exact Nat.mul_le_mul hr4 hk5
        obtain ⟨l, hl⟩ : ∃ l, i * k = l := ⟨_, rfl⟩
        rw [hl] at hrle
        have HL := Lib.hid hl
        have hw1 : (i : Int) * (k : Int) = (l : Int) := by rw [← hl]; simp
        have hw2 : ((i : Int) + 1) * (k : Int) = ((l + k : Nat) : Int) := by rw [← hl, Int.add_mul]; simp
        obtain ⟨e, he⟩ : ∃ e, l + k = e := ⟨_, rfl⟩
        have hem : e - l = k := by omega
        rw [he] at hw2 hrle
        obtain ⟨A4, hA4, HA4⟩ : ∃ A4 : Option Addr, (if cc = l then C else Option.map (fun x => x.add l) C) = A4 ∧ Hid (0 < k → ∃ gC, C = some ⟨gC, 0, none⟩ ∧ A4 = some ⟨gC, l, none⟩) := by
          refine ⟨_, rfl, Lib.hid fun h0 => ?_⟩
          obtain ⟨gC, h2, _, _⟩ := HS.out.hC.form (by omega)
          refine ⟨gC, h2, ?_⟩
          rw [if_neg (by omega), h2]; simp [Addr.add]; omega
        have s1 : (0 : Int) ≤ (l : Int) := by omega
        have s2 : (l : Int) ≤ (e : Int) := by omega
        have s3 : (e : Int) ≤ (cc : Int) := by omega
        have s4 : IntKind.i64.wrap (l : Int) = (l : Int) := IntWalk.i64_in _ (by omega)
        have s5 : IntKind.i64.wrap (e : Int) = (e : Int) := IntWalk.i64_in _ (by omega)
        have s6 : IntKind.i64.wrap ((i : Int) + 1) = (i : Int) + 1 := IntWalk.i64_in _ (by omega)
        clear hl
        go_upto_region 12 with (first
          | (go_at_call 13; (with_reducible refine (next_any g A n c xs q (p - 1) _ hdk (by omega)).mono ?_); rintro e8 w8 ⟨t8, q8, rfl, ht8, hx8, hD8, hS8, hz8⟩
             have ht := ht8 (by omega)
             obtain ⟨x, hx⟩ : ∃ x, 1 + t8 = x := ⟨_, rfl⟩
             have hx1 : 1 ≤ x ∧ x < p := by omega
             have hxw : IntKind.i64.wrap (1 + t8) = x := by rw [hx]; exact IntWalk.i64_in _ (by omega)
             have HS8 := Lib.hid (HS.out.step hS8 hD8)
             have hb8 := Step.below hb hS8 hb.size hg
             have hu2 : w8.cell? ⟨B4, 2, none⟩ = some (.int .i64 k) := (HS8.out.b4.cell 2).trans rfl
             have hu3 : w8.cell? ⟨B4, 3, none⟩ = some (.slice C nc cc) := (HS8.out.b4.cell 3).trans rfl
             clear hx8 hz8 hS8 hD8 ht8))
        clear hr1 hr0
        obtain ⟨X2, hX2⟩ : ∃ X2 : Nat → Int, (fun t => if t = i then x else X t) = X2 := ⟨_, rfl⟩
        have HX2 : Hid ((∀ t, 1 ≤ X2 t ∧ X2 t < p) ∧ X2 i = x ∧ ∀ t, t < i → X2 t = X t) := Lib.hid (by
          subst hX2
          refine ⟨fun t => ?_, by simp, fun t h => by show (if t = i then x else X t) = X t; rw [if_neg (by omega)]⟩
          show 1 ≤ (if t = i then x else X t) ∧ (if t = i then x else X t) < p
          by_cases e : t = i
          · rw [if_pos e]; exact hx1
          · rw [if_neg e]; exact HI.out.2.2.1 t)
        have HS2 : Hid (Scl p k X2 cells cells2 ∧ Scl p 1 X2 right right2) := Lib.hid ⟨HI.out.2.2.2.1.other fun n hn => HX2.out.2.2 _ (by
            rw [HS8.out.two.1.len, ← HI.out.1] at hn
            exact Nat.div_lt_of_lt_mul (by rw [Nat.mul_comm]; exact hn)), HI.out.2.2.2.2.1.other fun n hn => HX2.out.2.2 _ (by
            rw [HS8.out.two.2.1.len, ← HI.out.2.1] at hn
            rw [Nat.div_one]; exact hn)⟩
        have hn2 : n2 = l := by rw [← HI.out.1, HL.out]
        subst hn2
        clear hX2 hb HS hdk
        go_wp2_with fail
        have hu2c : True := trivial
        go_loopw [63] (fun v wx => ∃ (j : Nat) (C3 : Option Addr) (c3 : Nat) (cells3 : List Int), j ≤ k ∧ v = .int .i64 j ∧ Hid (St wx g A n c xs q8 B4 B5 p r k nc C cc D cd cells right r C3 (n2 + j) c3 cells3 D2 m2 d2 right2) ∧ Hid (Scl p k X2 cells cells3 ∧ allP p cells3 = true) ∧ Below w.heap.size w wx) (fun v _ => k - (intOf v).toNat)
        case atStart => exact ⟨0, C2, c2, cells2, Nat.zero_le _, rfl, HS8, Lib.hid ⟨HS2.out.1, HI.out.2.2.2.2.2.1⟩, hb8⟩
        case round =>
          clear HS8 hb8 hu2 hu3
          obtain ⟨j, C3, c3, cells3, hj, rfl, HS, HJ, hb⟩ := hrel
          by_cases hltj : j < k
          · obtain ⟨gC, hgC, hgA⟩ := HA4.out (by omega)
            subst hgC hgA
            have hr0 : wr.cell? ⟨B4, 0, none⟩ = some (.int .i64 p) := (HS.out.b4.cell 0).trans rfl
            have ht3 : wr.cell? ⟨B5, 3, none⟩ = some (.slice C3 (n2 + j) c3) := (HS.out.b5.cell 3).trans rfl
            have hlj : n2 + j < nc := by omega
            have hcy := HS.out.hC.cellAt hlj
            have hy := allP_getD HC.out.ac (k := n2 + j) (by rw [HC.out.lc, HNC.out]; exact hlj)
            have HLEN := Lib.hid HS.out.two.1.len
            have HCF : Hid (cf cells (n2 + j) = cells.getD (n2 + j) 0) := Lib.hid rfl
            generalize cells.getD (n2 + j) 0 = y at *
            obtain ⟨pr, hpr⟩ : ∃ pr, x * y = pr := ⟨_, rfl⟩
            have hpr0 : 0 ≤ pr := by rw [← hpr]; exact Int.mul_nonneg (by omega) hy.1
            have hpr1 : pr ≤ 65521 * 65521 := by rw [← hpr]; exact Int.mul_le_mul (by omega) (by omega) hy.1 (by omega)
            have hw3 : IntKind.i64.wrap pr = pr := IntWalk.i64_in _ (by omega)
            have htm : pr.tmod p = pr % p := Int.tmod_eq_emod_of_nonneg hpr0
            have hin := emod_in hp.1 pr
            have HSN : Hid (pr % p = X2 (cells3.length / k) * cf cells cells3.length % p) := Lib.hid (by
              rw [HLEN.out, HCF.out, show (n2 + j) / k = i by rw [← HL.out, Nat.mul_comm, Nat.mul_add_div (by omega), Nat.div_eq_of_lt hltj, Nat.add_zero], HX2.out.2.1, hpr])
            obtain ⟨z, hz⟩ : ∃ z, pr % p = z := ⟨_, rfl⟩
            rw [hz] at htm hin HSN
            have h1j : (j : Int) < (k : Int) := by omega
            have h0j : (0 : Int) ≤ (j : Int) := by omega
            have hl5c := HS.out.b5.lt
            clear hz
            go_wp2_with fail
            have hl5d : B5 + 1 ≤ (wr.drew.alloc (.cells #[.int .i64 z] 3)).heap.size := le_alloc (w := wr.drew) hl5c _
            have HSa := Lib.hid (HS.out.drew.alloc (.cells #[.int .i64 z] 3))
            have hTa : OwnI (wr.drew.alloc (.cells #[.int .i64 z] 3)) (B5 + 1) 3 C3 (n2 + j) c3 cells3 := HSa.out.two.1
            have hRa : Ints (wr.drew.alloc (.cells #[.int .i64 z] 3)) (wr.drew.alloc (.cells #[.int .i64 z] 3)).heap.size (some ⟨wr.heap.size, 0, none⟩) 1 [z] := Ints.oneAt wr.drew z 3 _ rfl
            have hba := ballocs hb.drew (.cells #[.int .i64 z] 3)
            go_region_law (first
              | ((refine step_append_ints (w := wr.drew.alloc (.cells #[.int .i64 z] 3)) rfl (.tmp 68) (.tmp 76) 22 rfl (B5 + 1) 3 i0 _ Try.underlying22 hi0 hz0 hz1 hz2 rfl C3 (n2 + j) c3 cells3 (by first | rfl | simp [Act.eval]) hTa (some ⟨wr.heap.size, 0, none⟩) 1 1 [z] (by first | rfl | simp [Act.eval]) hRa (n2 + (j + 1)) rfl (by omega) hl5d ?_); intro C4 c4 w9 hown9 hgr9 hbw9 hab9
                 have hpush := HSa.out.pushC hown9 hgr9 hbw9 hab9
                 have HP := Lib.hid hpush.2
                 have hu39 : w9.cell? ⟨B5, 3, none⟩ = some (.slice C3 (n2 + j) c3) := (hpush.1.cell 3).trans rfl
                 have hf39 := hpush.1.frozen 3
                 have hb9 := (hba.trans (hbw9.mono (by omega))).setCell (p := ⟨B5, 3, none⟩) (show w.heap.size ≤ B5 from hsB5) (.slice C4 (n2 + (j + 1)) c4)
                 clear hpush hown9 hgr9 hbw9 hab9))
            all_goals go_wp2
            all_goals go_roundw
            all_goals first
              | exact ⟨⟨j + 1, C4, c4, cells3 ++ [z], by omega, by go_num, HP, Lib.hid ⟨HJ.out.1.snoc HSN.out, allP_append.2 ⟨HJ.out.2, allP_iff.2 (by simpa using hin)⟩⟩, hb9⟩, by simp [intOf]; omega⟩
              | exact ⟨j + 1, C4, c4, cells3 ++ [z], by omega, by go_num, HP, Lib.hid ⟨HJ.out.1.snoc HSN.out, allP_append.2 ⟨HJ.out.2, allP_iff.2 (by simpa using hin)⟩⟩, hb9⟩
              | (simp [intOf]; omega)
          · obtain rfl : j = k := by omega
            have hr0 : wr.cell? ⟨B4, 0, none⟩ = some (.int .i64 p) := (HS.out.b4.cell 0).trans rfl
            have hr4c : wr.cell? ⟨B4, 4, none⟩ = some (.slice D r cd) := (HS.out.b4.cell 4).trans rfl
            have ht4 : wr.cell? ⟨B5, 4, none⟩ = some (.slice D2 m2 d2) := (HS.out.b5.cell 4).trans rfl
            obtain ⟨gD, hgD, _, _⟩ := HS.out.hD.form (by omega)
            subst hgD
            have hcy := HS.out.hD.cellAt hlt
            have hy := allP_getD HC.out.ar (k := i) (by rw [HC.out.lr]; exact hlt)
            have HLEN := Lib.hid HS.out.two.2.1.len
            have HM2 : Hid (m2 = i) := Lib.hid HI.out.2.1.symm
            have hm2b : m2 ≤ 4 := by have := HM2.out; omega
            have HCF : Hid (cf right i = right.getD i 0) := Lib.hid rfl
            have HDA0 : Hid ((wr.drew).cell? ⟨gD, i, none⟩ = some (.int .i64 (right.getD i 0))) := Lib.hid hcy
            have HY0 : Hid (right.getD i 0 = right.getD i 0) := Lib.hid rfl
            obtain ⟨y, hyy⟩ : ∃ y, right.getD i 0 = y := ⟨_, rfl⟩
            have HY := Lib.hid hyy
            rw [hyy] at hcy hy HCF
            clear hyy HDA0 HY0
            have hll4 := HS.out.lt
            obtain ⟨pr, hpr⟩ : ∃ pr, x * y = pr := ⟨_, rfl⟩
            have hpr0 : 0 ≤ pr := by rw [← hpr]; exact Int.mul_nonneg (by omega) hy.1
            have hpr1 : pr ≤ 65521 * 65521 := by rw [← hpr]; exact Int.mul_le_mul (by omega) (by omega) hy.1 (by omega)
            have hw3 : IntKind.i64.wrap pr = pr := IntWalk.i64_in _ (by omega)
            have htm : pr.tmod p = pr % p := Int.tmod_eq_emod_of_nonneg hpr0
            have hin := emod_in hp.1 pr
            have HSN : Hid (pr % p = X2 (right2.length / 1) * cf right right2.length % p) := Lib.hid (by
              rw [HLEN.out, HM2.out, HCF.out, Nat.div_one, HX2.out.2.1, hpr])
            obtain ⟨z, hz⟩ : ∃ z, pr % p = z := ⟨_, rfl⟩
            rw [hz] at htm hin HSN
            have h1i : (i : Int) < (r : Int) := by omega
            have h0i : (0 : Int) ≤ (i : Int) := by omega
            have hl5c := HS.out.b5.lt
            clear hz
            go_wp2_with fail
            have hl5d : B5 + 1 ≤ (wr.drew.alloc (.cells #[.int .i64 z] 3)).heap.size := le_alloc (w := wr.drew) hl5c _
            have HSa := Lib.hid (HS.out.drew.alloc (.cells #[.int .i64 z] 3))
            have hTa : OwnI (wr.drew.alloc (.cells #[.int .i64 z] 3)) (B5 + 1) 3 D2 m2 d2 right2 := HSa.out.two.2.1
            have hRa : Ints (wr.drew.alloc (.cells #[.int .i64 z] 3)) (wr.drew.alloc (.cells #[.int .i64 z] 3)).heap.size (some ⟨wr.heap.size, 0, none⟩) 1 [z] := Ints.oneAt wr.drew z 3 _ rfl
            have hba := ballocs hb.drew (.cells #[.int .i64 z] 3)
            have hgDl := HS.out.hDl gD rfl
            have hSb := HSa.out.b4
            have HDA : Hid ((wr.drew.alloc (.cells #[.int .i64 z] 3)).cell? ⟨gD, i, none⟩ = some (.int .i64 y)) := Lib.hid (by rw [← HY.out]; exact HSa.out.hD.cellAt hlt)
            go_region_law (first
              | ((refine step_append_ints (w := wr.drew.alloc (.cells #[.int .i64 z] 3)) rfl (.tmp 81) (.tmp 93) 22 rfl (B5 + 1) 3 i0 _ Try.underlying22 hi0 hz0 hz1 hz2 rfl D2 m2 d2 right2 (by first | rfl | simp [Act.eval]) hTa (some ⟨wr.heap.size, 0, none⟩) 1 1 [z] (by first | rfl | simp [Act.eval]) hRa (m2 + 1) rfl (by omega) hl5d ?_); intro D4 d4 w9 hown9 hgr9 hbw9 hab9
                 have hpush := HSa.out.pushD hown9 hgr9 hbw9 hab9
                 have HP := Lib.hid hpush.2
                 have hu49 : w9.cell? ⟨B5, 4, none⟩ = some (.slice D2 m2 d2) := (hpush.1.cell 4).trans rfl
                 have hf49 := hpush.1.frozen 4
                 have hb9 := (hba.trans (hbw9.mono (by omega))).setCell (p := ⟨B5, 4, none⟩) (show w.heap.size ≤ B5 from hsB5) (.slice D4 (m2 + 1) d4)
                 clear hpush hown9 hgr9 hbw9 hab9))
            all_goals go_wp2
            all_goals go_roundw
            all_goals first
              | exact ⟨⟨i + 1, X2, C3, n2 + j, c3, cells3, D4, m2 + 1, d4, right2 ++ [z], q8, by omega, by go_num, HP, Lib.hid ⟨by rw [Nat.succ_mul, HL.out], by have := HM2.out; omega, HX2.out.1, HJ.out.1, HS2.out.2.snoc HSN.out, HJ.out.2, allP_append.2 ⟨HI.out.2.2.2.2.2.2, allP_iff.2 (by simpa using hin)⟩⟩, hb9⟩, by simp [intOf]; omega⟩
              | exact ⟨i + 1, X2, C3, n2 + j, c3, cells3, D4, m2 + 1, d4, right2 ++ [z], q8, by omega, by go_num, HP, Lib.hid ⟨by rw [Nat.succ_mul, HL.out], by have := HM2.out; omega, HX2.out.1, HJ.out.1, HS2.out.2.snoc HSN.out, HJ.out.2, allP_append.2 ⟨HI.out.2.2.2.2.2.2, allP_iff.2 (by simpa using hin)⟩⟩, hb9⟩
              | (simp [intOf]; omega)
      · obtain rfl : i = r := by omega
        have hsB10 := hb.size
        have hbn : n2 ≤ 20 := by rw [← HI.out.1]; exact Nat.mul_le_mul hr4 hk5
        have HLr := Lib.hid HI.out.2.1
        obtain ⟨r1, hr1e⟩ : ∃ r1, i + 1 = r1 := ⟨_, rfl⟩
        have hr1i : (i : Int) + 1 = (r1 : Int) := by omega
        have hr1w : IntKind.i64.wrap (r1 : Int) = (r1 : Int) := IntWalk.i64_in _ (by omega)
        have ht0 : wr.cell? ⟨B5, 0, none⟩ = some (.int .i64 p) := (HS.out.b5.cell 0).trans rfl
        have ht1 : wr.cell? ⟨B5, 1, none⟩ = some (.int .i64 i) := (HS.out.b5.cell 1).trans rfl
        have ht2 : wr.cell? ⟨B5, 2, none⟩ = some (.int .i64 k) := (HS.out.b5.cell 2).trans rfl
        have ht3 : wr.cell? ⟨B5, 3, none⟩ = some (.slice C2 n2 c2) := (HS.out.b5.cell 3).trans rfl
        have ht4 : wr.cell? ⟨B5, 4, none⟩ = some (.slice D2 m2 d2) := (HS.out.b5.cell 4).trans rfl
        have hl5 := HS.out.b5.lt
        obtain ⟨B10, hB10⟩ : ∃ b, wr.heap.size = b := ⟨_, rfl⟩
        rw [hB10] at hl5 hsB10
        have hX10 := Blk.new wr 30 #[.int .i64 p, .int .i64 r1, .int .i64 k, .slice C2 n2 c2, .slice D2 m2 d2]
        have HS10 := Lib.hid (HS.out.alloc (.cells #[.int .i64 p, .int .i64 r1, .int .i64 k, .slice C2 n2 c2, .slice D2 m2 d2] 30))
        have hb10 := ballocs hb (.cells #[.int .i64 p, .int .i64 r1, .int .i64 k, .slice C2 n2 c2, .slice D2 m2 d2] 30)
        have hsz10 : (wr.alloc (.cells #[.int .i64 p, .int .i64 r1, .int .i64 k, .slice C2 n2 c2, .slice D2 m2 d2] 30)).heap.size = wr.heap.size + 1 := World.size_alloc _ _
        rw [hB10] at hX10 hsz10
        obtain ⟨W10, hW10⟩ : ∃ W, wr.alloc (.cells #[.int .i64 p, .int .i64 r1, .int .i64 k, .slice C2 n2 c2, .slice D2 m2 d2] 30) = W := ⟨_, rfl⟩
        have HW10 := Lib.hid hW10
        rw [hW10] at HS10 hX10 hb10 hsz10
        have hs101 : B10 < W10.heap.size := by omega
        have HB10 := Lib.hid hB10
        have HL10 : Hid ((∀ b, (Value.slice C2 n2 c2).ownBlock = some b → b < W10.heap.size) ∧ (∀ b, (Value.slice D2 m2 d2).ownBlock = some b → b < W10.heap.size)) := Lib.hid ⟨fun b hb => (World.ownsRow.lt HS10.out.two.1 b hb).2, fun b hb => (World.ownsRow.lt HS10.out.two.2.1 b hb).2⟩
        have hsW10 := hb10.size
        clear hW10 hB10 hsz10 hb
        go_upto_region 20 with fail
        rw [HW10.out, HB10.out]
        clear ht0 ht1 ht2 ht3 ht4
        go_cut [10] (fun s wx => ∃ (M : Option Addr) (c3 : Nat) (row : List Int) (q' : Nat), s = .pointer (some ⟨B10, 0, none⟩) ∧ Blk wx B10 30 #[.int .i64 p, .int .i64 r1, .int .i64 k, .slice M (n2 + k) c3, .slice D2 m2 d2] ∧ Hid (OwnI wx W10.heap.size 3 M (n2 + k) c3 (cells2 ++ row)) ∧ Hid (row.length = k ∧ allP p row = true) ∧ Hid (St wx g A n c xs q' B4 B5 p i k nc C cc D cd cells right i C2 n2 c2 cells2 D2 m2 d2 right2) ∧ Below w.heap.size w wx)
        case first =>
          have hgl := HS10.out.glt
          have hll := HS10.out.lt
          have hS0 : W10.drew.cell? ⟨B4, 0, none⟩ = some (.int .i64 p) ∧ W10.drew.cell? ⟨B4, 2, none⟩ = some (.int .i64 k) ∧ W10.drew.cell? ⟨B5, 3, none⟩ = some (.slice C2 n2 c2) := ⟨(HS10.out.b4.cell 0).trans rfl, (HS10.out.b4.cell 2).trans rfl, (HS10.out.b5.cell 3).trans rfl⟩
          have hDd := HS10.out.dk.drew
          have hId : Ints W10.drew W10.drew.heap.size C2 n2 cells2 := HS10.out.two.1.ints
          have hled : W10.heap.size ≤ W10.drew.heap.size := Nat.le_refl _
          go_region_held_law (fun w' => w'.cell? ⟨B4, 0, none⟩ = some (.int .i64 p) ∧ w'.cell? ⟨B4, 2, none⟩ = some (.int .i64 k) ∧ w'.cell? ⟨B5, 3, none⟩ = some (.slice C2 n2 c2)) (first | with_reducible exact hS0 | with_reducible exact hS1 | with_reducible exact hS2 | with_reducible exact hS3 | with_reducible exact hS4 | with_reducible exact hS5 | go_keep) (first
            | ((refine step_append_ints (w := W10.drew) rfl (.const (.slice none 0 0)) (.tmp 102) 22 rfl W10.heap.size 3 i0 _ Try.underlying22 hi0 hz0 hz1 hz2 rfl none 0 0 [] rfl OwnI.nil_ C2 n2 c2 cells2 (by first | rfl | simp [Act.eval]) hId n2 (Nat.zero_add _) (by omega) hled ?_); intro M1 mc1 w11 hown11 hgr11 hbw11 hab11
               have hbw11 := Below.fromDrew hbw11
               have HS11 := Lib.hid (HS10.out.belowAll hbw11)
               have hX11 := hX10.below hbw11 hs101
               have hb11 := bnext hb10 hbw11
               have hS1 : w11.cell? ⟨B4, 0, none⟩ = some (.int .i64 p) ∧ w11.cell? ⟨B4, 2, none⟩ = some (.int .i64 k) ∧ w11.cell? ⟨B5, 3, none⟩ = some (.slice C2 n2 c2) := ⟨(HS11.out.b4.cell 0).trans rfl, (HS11.out.b4.cell 2).trans rfl, (HS11.out.b5.cell 3).trans rfl⟩
               have hD11 := HS11.out.dk
               have hs11 := hbw11.size
               clear hgr11 hab11 hbw11)
            | (go_at_call 14; (with_reducible refine (elements_any g A n c xs q p k _ hDd hp (by omega)).mono ?_); rintro e w12 ⟨E1, ec, row, q12, rfl, hE12, hA12, hD12, hS12⟩
               have hS12 := Step.undrew hS12
               have HS12 := Lib.hid (HS10.out.step hS12 hD12)
               have hX12 := Step.block hS12 hX10 (by omega)
               have hb12 := Step.below hb10 hS12 hsW10 hg
               have hs12 : W10.heap.size ≤ w12.heap.size := World.grownBy.size hS12
               have hS2 : w12.cell? ⟨B4, 0, none⟩ = some (.int .i64 p) ∧ w12.cell? ⟨B4, 2, none⟩ = some (.int .i64 k) ∧ w12.cell? ⟨B5, 3, none⟩ = some (.slice C2 n2 c2) := ⟨(HS12.out.b4.cell 0).trans rfl, (HS12.out.b4.cell 2).trans rfl, (HS12.out.b5.cell 3).trans rfl⟩
               have HR12 : Hid (row.length = k ∧ allP p row = true) := Lib.hid ⟨hE12.len, hA12⟩
               have hI12 := HS12.out.two.1.ints
               clear hA12 hS12 hD12)
            | (go_at_call 14; (with_reducible refine (elements_any g A n c xs q p k _ hD11 hp (by omega)).mono ?_); rintro e w13 ⟨E1, ec, row, q13, rfl, hE13, hA13, hD13, hS13⟩
               have HS13 := Lib.hid (HS11.out.step hS13 hD13)
               have hX13 := Step.block hS13 hX11 (by omega)
               have hb13 := Step.below hb11 hS13 hb11.size hg
               have hs13 : w11.heap.size ≤ w13.heap.size := World.grownBy.size hS13
               have hM13 := hown11.step hS13 (by omega)
               have hS3 : w13.cell? ⟨B4, 0, none⟩ = some (.int .i64 p) ∧ w13.cell? ⟨B4, 2, none⟩ = some (.int .i64 k) ∧ w13.cell? ⟨B5, 3, none⟩ = some (.slice C2 n2 c2) := ⟨(HS13.out.b4.cell 0).trans rfl, (HS13.out.b4.cell 2).trans rfl, (HS13.out.b5.cell 3).trans rfl⟩
               have HR13 : Hid (row.length = k ∧ allP p row = true) := Lib.hid ⟨hE13.len, hA13⟩
               have hI13 := hE13.ints
               have hle13 : W10.heap.size ≤ w13.heap.size := by omega
               clear hA13 hS13 hD13)
            | ((refine step_append_ints (w := w12) rfl (.const (.slice none 0 0)) (.tmp 102) 22 rfl w12.heap.size 3 i0 _ Try.underlying22 hi0 hz0 hz1 hz2 rfl none 0 0 [] rfl OwnI.nil_ C2 n2 c2 cells2 (by first | rfl | simp [Act.eval]) hI12 n2 (Nat.zero_add _) (by omega) (Nat.le_refl _) ?_); intro M1 mc1 w13 hown13 hgr13 hbw13 hab13
               have HS13 := Lib.hid (HS12.out.belowAll hbw13)
               have hX13 := hX12.below hbw13 hX12.lt
               have hb13 := bnext hb12 hbw13
               have hS3 : w13.cell? ⟨B4, 0, none⟩ = some (.int .i64 p) ∧ w13.cell? ⟨B4, 2, none⟩ = some (.int .i64 k) ∧ w13.cell? ⟨B5, 3, none⟩ = some (.slice C2 n2 c2) := ⟨(HS13.out.b4.cell 0).trans rfl, (HS13.out.b4.cell 2).trans rfl, (HS13.out.b5.cell 3).trans rfl⟩
               have hM13 : OwnI w13 W10.heap.size 3 M1 n2 mc1 ([] ++ cells2) := hown13.base hs12
               have HR13 := HR12
               have hI13 := hE12.ints.upto hbw13
               have hs13 := hbw13.size
               have hle13 : W10.heap.size ≤ w13.heap.size := by omega
               clear hgr13 hab13 hbw13 hown13)
            | ((refine step_append_ints (w := w13) rfl (.tmp 103) (.tmp 109) 22 rfl W10.heap.size 3 i0 _ Try.underlying22 hi0 hz0 hz1 hz2 rfl M1 n2 mc1 ([] ++ cells2) (by first | rfl | simp [Act.eval]) hM13 E1 k ec row (by first | rfl | simp [Act.eval]) hI13 (n2 + k) rfl (by omega) hle13 ?_); intro M c3 w14 hown14 hgr14 hbw14 hab14
               have hfin := HS13.out.fin hX13 hl5 hs101 HL10.out hown14 hbw14 3 (.slice M (n2 + k) c3)
               have HF := Lib.hid hfin
               have ht14 : w14.cell? ⟨B10, 3, none⟩ = some (.slice C2 n2 c2) := (hfin.1.cell 3).trans rfl
               have hf14 := hfin.1.frozen 3
               have HS14 := HS13.out.belowAt hbw14 (by omega) HL10.out
               have hS4 : w14.cell? ⟨B4, 0, none⟩ = some (.int .i64 p) ∧ w14.cell? ⟨B4, 2, none⟩ = some (.int .i64 k) ∧ w14.cell? ⟨B5, 3, none⟩ = some (.slice C2 n2 c2) := ⟨(HS14.b4.cell 0).trans rfl, (HS14.b4.cell 2).trans rfl, (HS14.b5.cell 3).trans rfl⟩
               have hS5 : (w14.setCell ⟨B10, 3, none⟩ (.slice M (n2 + k) c3)).cell? ⟨B4, 0, none⟩ = some (.int .i64 p) ∧ (w14.setCell ⟨B10, 3, none⟩ (.slice M (n2 + k) c3)).cell? ⟨B4, 2, none⟩ = some (.int .i64 k) ∧ (w14.setCell ⟨B10, 3, none⟩ (.slice M (n2 + k) c3)).cell? ⟨B5, 3, none⟩ = some (.slice C2 n2 c2) := ⟨(hfin.2.1.b4.cell 0).trans rfl, (hfin.2.1.b4.cell 2).trans rfl, (hfin.2.1.b5.cell 3).trans rfl⟩
               have hb14 := (hb13.trans (hbw14.mono hsW10)).setCell (p := ⟨B10, 3, none⟩) hsB10 (.slice M (n2 + k) c3)
               clear hfin hown14 hgr14 hbw14 hab14 HS14))
          all_goals go_wp2
          all_goals go_meet
          all_goals first
            | exact ⟨M, c3, row, _, rfl, HF.out.2.2.1, Lib.hid HF.out.2.2.2, HR13, Lib.hid HF.out.2.1, hb14⟩
        case rest =>
        obtain ⟨M, c3, row, q15, rfl, hX15, HM15, HR15, HS15, hb15⟩ := hcut
        clear HS10 hX10 hb10 HW10 HB10
        have HLy : Hid ((∀ b, (Value.slice C2 n2 c2).ownBlock = some b → b < wc.heap.size) ∧ (∀ b, (Value.slice D2 m2 d2).ownBlock = some b → b < wc.heap.size)) := Lib.hid ⟨fun b hb => (World.ownsRow.lt HS15.out.two.1 b hb).2, fun b hb => (World.ownsRow.lt HS15.out.two.2.1 b hb).2⟩
        have HMl : Hid (∀ b, (Value.slice M (n2 + k) c3).ownBlock = some b → b < wc.heap.size) := Lib.hid fun b hb => (World.ownsRow.lt HM15.out b hb).2
        have hs15 := hX15.lt
        have hsw15 := hb15.size
        have hgW : g < W10.heap.size := by have := HS15.out.glt; have := HS15.out.lt; omega
        have hm2b : m2 ≤ 4 := by have := HLr.out; omega
        go_upto_region 21 with fail
        go_cut [10] (fun s wx => ∃ (N : Option Addr) (d3 q' : Nat) (tt : Int), s = .pointer (some ⟨B10, 0, none⟩) ∧ Blk wx B10 30 #[.int .i64 p, .int .i64 r1, .int .i64 k, .slice M (n2 + k) c3, .slice N (m2 + 1) d3] ∧ Hid (OwnI wx (B10 + 1) 3 M (n2 + k) c3 (cells2 ++ row)) ∧ Hid (OwnI wx (B10 + 1) 3 N (m2 + 1) d3 (right2 ++ [tt])) ∧ Hid (0 ≤ tt ∧ tt < p) ∧ Hid (St wx g A n c xs q' B4 B5 p i k nc C cc D cd cells right i C2 n2 c2 cells2 D2 m2 d2 right2) ∧ Below w.heap.size w wx)
        case first =>
          have hgl := HS15.out.glt
          have hll := HS15.out.lt
          have hS0 : wc.drew.cell? ⟨B4, 0, none⟩ = some (.int .i64 p) ∧ wc.drew.cell? ⟨B5, 4, none⟩ = some (.slice D2 m2 d2) := ⟨(HS15.out.b4.cell 0).trans rfl, (HS15.out.b5.cell 4).trans rfl⟩
          have hId : Ints wc.drew wc.drew.heap.size D2 m2 right2 := HS15.out.two.2.1.ints
          have hled : wc.heap.size ≤ wc.drew.heap.size := Nat.le_refl _
          go_region_held_law (fun w' => w'.cell? ⟨B4, 0, none⟩ = some (.int .i64 p) ∧ w'.cell? ⟨B5, 4, none⟩ = some (.slice D2 m2 d2)) (first | with_reducible exact hS0 | with_reducible exact hS1 | with_reducible exact hS2 | with_reducible exact hS3 | with_reducible exact hS4 | with_reducible exact hS5 | go_keep) (first
            | ((refine step_append_ints (w := wc.drew) rfl (.const (.slice none 0 0)) (.tmp 113) 22 rfl wc.heap.size 3 i0 _ Try.underlying22 hi0 hz0 hz1 hz2 rfl none 0 0 [] rfl OwnI.nil_ D2 m2 d2 right2 (by first | rfl | simp [Act.eval]) hId m2 (Nat.zero_add _) (by omega) hled ?_); intro M1 mc1 w21 hown21 hgr21 hbw21 hab21
               have hbw21 := Below.fromDrew hbw21
               have HS21 := Lib.hid (HS15.out.belowAll hbw21)
               have hX21 := hX15.below hbw21 hs15
               have HM21 := Lib.hid (HM15.out.belowAll hbw21)
               have hb21 := bnext hb15 hbw21
               have hS1 : w21.cell? ⟨B4, 0, none⟩ = some (.int .i64 p) ∧ w21.cell? ⟨B5, 4, none⟩ = some (.slice D2 m2 d2) := ⟨(HS21.out.b4.cell 0).trans rfl, (HS21.out.b5.cell 4).trans rfl⟩
               have hD21 := HS21.out.dk
               have hs21 := hbw21.size
               clear hgr21 hab21 hbw21)
            | (go_at_call 13; (with_reducible refine (next_any g A n c xs q15 p _ hD21 (by omega)).mono ?_); rintro e w22 ⟨tt, q22, rfl, ht22, hx22, hD22, hS22, hz22⟩
               have HT22 := Lib.hid (ht22 (by omega))
               have HS22 := Lib.hid (HS21.out.step hS22 hD22)
               have hX22 := Step.block hS22 hX21 (by omega)
               have HM22 := Lib.hid (HM21.out.step hS22 hgW)
               have hb22 := Step.below hb21 hS22 hb21.size hg
               have hs22 : w21.heap.size ≤ w22.heap.size := World.grownBy.size hS22
               have hM22 := hown21.step hS22 (by omega)
               have hS2 : w22.cell? ⟨B4, 0, none⟩ = some (.int .i64 p) ∧ w22.cell? ⟨B5, 4, none⟩ = some (.slice D2 m2 d2) := ⟨(HS22.out.b4.cell 0).trans rfl, (HS22.out.b5.cell 4).trans rfl⟩
               have HS23 := Lib.hid (HS22.out.alloc (.cells #[.int .i64 tt] 3))
               have hS3 : (w22.alloc (.cells #[.int .i64 tt] 3)).cell? ⟨B4, 0, none⟩ = some (.int .i64 p) ∧ (w22.alloc (.cells #[.int .i64 tt] 3)).cell? ⟨B5, 4, none⟩ = some (.slice D2 m2 d2) := ⟨(HS23.out.b4.cell 0).trans rfl, (HS23.out.b5.cell 4).trans rfl⟩
               have hX23 := hX22.alloc (.cells #[.int .i64 tt] 3)
               have HM23 := Lib.hid (HM22.out.alloc (.cells #[.int .i64 tt] 3))
               have hM23 := hM22.alloc (.cells #[.int .i64 tt] 3)
               have hb23 := ballocs hb22 (.cells #[.int .i64 tt] 3)
               have hI23 : Ints (w22.alloc (.cells #[.int .i64 tt] 3)) (w22.alloc (.cells #[.int .i64 tt] 3)).heap.size (some ⟨w22.heap.size, 0, none⟩) 1 [tt] := Ints.oneAt _ _ _ _ rfl
               have hle23 : wc.heap.size ≤ (w22.alloc (.cells #[.int .i64 tt] 3)).heap.size := le_alloc (by omega) _
               clear ht22 hx22 hD22 hS22 hz22)
            | ((refine step_append_ints (w := w22.alloc (.cells #[.int .i64 tt] 3)) rfl (.tmp 114) (.tmp 120) 22 rfl wc.heap.size 3 i0 _ Try.underlying22 hi0 hz0 hz1 hz2 rfl M1 m2 mc1 ([] ++ right2) (by first | rfl | simp [Act.eval]) hM23 (some ⟨w22.heap.size, 0, none⟩) 1 1 [tt] (by first | rfl | simp [Act.eval]) hI23 (m2 + 1) rfl (by omega) hle23 ?_); intro N d3 w24 hown24 hgr24 hbw24 hab24
               have hfin := HS23.out.fin hX23 hl5 hs15 HLy.out hown24 hbw24 4 (.slice N (m2 + 1) d3)
               have HF := Lib.hid hfin
               have ht24 : w24.cell? ⟨B10, 4, none⟩ = some (.slice D2 m2 d2) := (hfin.1.cell 4).trans rfl
               have hf24 := hfin.1.frozen 4
               have HM24 : Hid (OwnI (w24.setCell ⟨B10, 4, none⟩ (.slice N (m2 + 1) d3)) (B10 + 1) 3 M (n2 + k) c3 (cells2 ++ row)) := Lib.hid (((HM23.out.below hbw24 HMl.out).box hfin.1 4 (.slice N (m2 + 1) d3)).base hs101)
               have HN24 : Hid (OwnI (w24.setCell ⟨B10, 4, none⟩ (.slice N (m2 + 1) d3)) (B10 + 1) 3 N (m2 + 1) d3 (right2 ++ [tt])) := Lib.hid (hfin.2.2.2.base hs15)
               have HS24 := HS23.out.belowAt hbw24 (by omega) HLy.out
               have hS4 : w24.cell? ⟨B4, 0, none⟩ = some (.int .i64 p) ∧ w24.cell? ⟨B5, 4, none⟩ = some (.slice D2 m2 d2) := ⟨(HS24.b4.cell 0).trans rfl, (HS24.b5.cell 4).trans rfl⟩
               have hS5 : (w24.setCell ⟨B10, 4, none⟩ (.slice N (m2 + 1) d3)).cell? ⟨B4, 0, none⟩ = some (.int .i64 p) ∧ (w24.setCell ⟨B10, 4, none⟩ (.slice N (m2 + 1) d3)).cell? ⟨B5, 4, none⟩ = some (.slice D2 m2 d2) := ⟨(hfin.2.1.b4.cell 0).trans rfl, (hfin.2.1.b5.cell 4).trans rfl⟩
               have hb24 := (hb23.trans (hbw24.mono hsw15)).setCell (p := ⟨B10, 4, none⟩) hsB10 (.slice N (m2 + 1) d3)
               clear hfin hown24 hgr24 hbw24 hab24 HS24))
          all_goals go_wp2
          all_goals go_meet
          all_goals exact ⟨N, d3, q22, tt, rfl, HF.out.2.2.1, HM24, HN24, HT22, Lib.hid HF.out.2.1, hb24⟩
        case rest =>
        clear hX15 HM15 HS15 hb15 hs15 hsw15 HLy HMl
        obtain ⟨N, d3, q25, tt, rfl, hX25, HM25, HN25, HT25, HS25, hb25⟩ := hcut
        have hmi : m2 = i := HLr.out.symm
        subst hmi
        rw [hr1e] at hX25 HN25
        have HR1 := Lib.hid hr1e
        clear hr1e hr1i
        have HO2 : Hid (EqOk p m2 k cells2 right2) := Lib.hid ⟨HC.out.ok, HC.out.r32, HC.out.c32, by rw [HS25.out.two.1.len, HI.out.1], HS25.out.two.2.1.len, HI.out.2.2.2.2.2.1, HI.out.2.2.2.2.2.2⟩
        have HO3 : Hid (EqOk p r1 k (cells2 ++ row) (right2 ++ [tt])) := Lib.hid (by rw [← HR1.out]; exact HO2.out.more (by omega) HR15.out.1 HR15.out.2 HT25.out)
        have HKE : Hid (∀ z, Ker p (k + 1) (augM m2 k cells right) z ↔ Ker p (k + 1) (augM m2 k cells2 right2) z) := Lib.hid fun z => scl_ker HC.out HI.out.2.2.1 HI.out.2.2.2.1 HI.out.2.2.2.2.1 HO2.out.lc HO2.out.lr z
        have HKM : Hid (∀ z, Ker p (k + 1) (augM r1 k (cells2 ++ row) (right2 ++ [tt])) z → Ker p (k + 1) (augM m2 k cells right) z) := Lib.hid fun z hz => (HKE.out z).2 (ker_more HO2.out.lc HO2.out.lr HR15.out.1 z (by rw [HR1.out]; exact hz))
        have hmk : m2 * k + k = r1 * k := by rw [← HR1.out]; exact (Nat.succ_mul m2 k).symm
        have HE1 : Hid (EqW wc p m2 k nc C cc D cd cells right) := Lib.hid ⟨HC.out, HNC.out, HS25.out.hC.ints, HS25.out.hD.ints, HS25.out.hC.cap_⟩
        have HE2 : Hid (EqW wc p m2 k n2 C2 c2 D2 d2 cells2 right2) := Lib.hid ⟨HO2.out, HI.out.1, HS25.out.two.1.ints, HS25.out.two.2.1.ints, HS25.out.two.1.cap_⟩
        have HE3 : Hid (EqW wc p r1 k (n2 + k) M c3 N d3 (cells2 ++ row) (right2 ++ [tt])) := Lib.hid ⟨HO3.out, by rw [← HI.out.1]; exact hmk.symm, HM25.out.ints, HN25.out.ints, HM25.out.cap_⟩
        have hB4a := HS25.out.b4
        have hB5a := HS25.out.b5
        have hca0 : wc.cell? ⟨B4, 0, none⟩ = some (.int .i64 p) := (hB4a.cell 0).trans rfl
        have hca1 : wc.cell? ⟨B4, 1, none⟩ = some (.int .i64 m2) := (hB4a.cell 1).trans rfl
        have hca2 : wc.cell? ⟨B4, 2, none⟩ = some (.int .i64 k) := (hB4a.cell 2).trans rfl
        have hca3 : wc.cell? ⟨B4, 3, none⟩ = some (.slice C nc cc) := (hB4a.cell 3).trans rfl
        have hca4 : wc.cell? ⟨B4, 4, none⟩ = some (.slice D m2 cd) := (hB4a.cell 4).trans rfl
        clear hmk HS25 HM25 HN25
        go_upto_region 27 with (first
          | (go_at_call 15; (with_reducible refine (solve_ok HE1.out).mono ?_); rintro e w31 hP
             obtain ⟨A31, n31, c31, x31, er31, o31, rfl, hx31, ho31, hm31, hn31, hb31⟩ := solve_post hP
             have HE21 := Lib.hid (HE2.out.upto hb31)
             have HE11 := Lib.hid (HE1.out.upto hb31)
             have HE31 := Lib.hid (HE3.out.upto hb31)
             have hB4b := hB4a.below hb31 hB4a.lt
             have hB5b := hB5a.below hb31 hB5a.lt
             have hXb := hX25.below hb31 hX25.lt
             have hbb31 := bnext hb25 hb31
             have HO31 := Lib.hid ho31
             have HM31 := Lib.hid hm31
             have hcb0 : w31.cell? ⟨B5, 0, none⟩ = some (.int .i64 p) := (hB5b.cell 0).trans rfl
             have hcb1 : w31.cell? ⟨B5, 1, none⟩ = some (.int .i64 m2) := (hB5b.cell 1).trans rfl
             have hcb2 : w31.cell? ⟨B5, 2, none⟩ = some (.int .i64 k) := (hB5b.cell 2).trans rfl
             have hcb3 : w31.cell? ⟨B5, 3, none⟩ = some (.slice C2 n2 c2) := (hB5b.cell 3).trans rfl
             have hcb4 : w31.cell? ⟨B5, 4, none⟩ = some (.slice D2 m2 d2) := (hB5b.cell 4).trans rfl
             clear hP hb31 ho31 hm31)
          | (go_at_call 15; (with_reducible refine (solve_ok HE21.out).mono ?_); rintro e w32 hP
             obtain ⟨A32, n32, c32, x32, er32, o32, rfl, hx32, ho32, hm32, hn32, hb32⟩ := solve_post hP
             obtain rfl : o31 = o32 := HO31.out.one hp.1 ho32 HKE.out
             obtain ⟨rfl, rfl⟩ : er32 = er31 ∧ x32 = x31 := by
               have := hm32.trans HM31.out.symm
               exact ⟨congrArg Prod.fst this, congrArg Prod.snd this⟩
             have HE12 := Lib.hid (HE11.out.upto hb32)
             have HE22 := Lib.hid (HE21.out.upto hb32)
             have HE32 := Lib.hid (HE31.out.upto hb32)
             have hB4c := hB4b.below hb32 hB4b.lt
             have hB5c := hB5b.below hb32 hB5b.lt
             have hXc := hXb.below hb32 hXb.lt
             have hbb32 := bnext hbb31 hb32
             have hx312 := hx31.belowAll hb32
             have hcc0 : w32.cell? ⟨B4, 0, none⟩ = some (.int .i64 p) := (hB4c.cell 0).trans rfl
             have hcc1 : w32.cell? ⟨B4, 1, none⟩ = some (.int .i64 m2) := (hB4c.cell 1).trans rfl
             have hcc2 : w32.cell? ⟨B4, 2, none⟩ = some (.int .i64 k) := (hB4c.cell 2).trans rfl
             have hcc3 : w32.cell? ⟨B4, 3, none⟩ = some (.slice C nc cc) := (hB4c.cell 3).trans rfl
             have hcc4 : w32.cell? ⟨B4, 4, none⟩ = some (.slice D m2 cd) := (hB4c.cell 4).trans rfl
             clear hP hb32 ho32 hm32)
          | (go_at_call 16; (with_reducible refine (count_ok HE12.out).mono ?_); rintro e w33 hP
             obtain ⟨u33, er33, o33, rfl, ho33, hm33, hb33⟩ := count_post hP
             have HO33 := Lib.hid ho33
             have HM33 := Lib.hid hm33
             have HE23 := Lib.hid (HE22.out.upto hb33)
             have HE33 := Lib.hid (HE32.out.upto hb33)
             have hB5d := hB5c.below hb33 hB5c.lt
             have hXd := hXc.below hb33 hXc.lt
             have hbb33 := bnext hbb32 hb33
             have hx313 := hx312.belowAll hb33
             have hx323 := hx32.belowAll hb33
             have hcd0 : w33.cell? ⟨B5, 0, none⟩ = some (.int .i64 p) := (hB5d.cell 0).trans rfl
             have hcd1 : w33.cell? ⟨B5, 1, none⟩ = some (.int .i64 m2) := (hB5d.cell 1).trans rfl
             have hcd2 : w33.cell? ⟨B5, 2, none⟩ = some (.int .i64 k) := (hB5d.cell 2).trans rfl
             have hcd3 : w33.cell? ⟨B5, 3, none⟩ = some (.slice C2 n2 c2) := (hB5d.cell 3).trans rfl
             have hcd4 : w33.cell? ⟨B5, 4, none⟩ = some (.slice D2 m2 d2) := (hB5d.cell 4).trans rfl
             clear hP hb33 ho33 hm33)
          | (go_at_call 16; (with_reducible refine (count_ok HE23.out).mono ?_); rintro e w34 hP
             obtain ⟨u34, er34, o34, rfl, ho34, hm34, hb34⟩ := count_post hP
             obtain rfl : o33 = o34 := HO33.out.one hp.1 ho34 HKE.out
             obtain ⟨rfl, rfl⟩ : er34 = er33 ∧ u34 = u33 := by
               have := hm34.trans HM33.out.symm
               exact ⟨congrArg Prod.fst this, congrArg Prod.snd this⟩
             have HE34 := Lib.hid (HE33.out.upto hb34)
             have hXe := hXd.below hb34 hXd.lt
             have hbb34 := bnext hbb33 hb34
             have hx314 := hx313.belowAll hb34
             have hx324 := hx323.belowAll hb34
             have hce0 : w34.cell? ⟨B10, 0, none⟩ = some (.int .i64 p) := (hXe.cell 0).trans rfl
             have hce1 : w34.cell? ⟨B10, 1, none⟩ = some (.int .i64 r1) := (hXe.cell 1).trans rfl
             have hce2 : w34.cell? ⟨B10, 2, none⟩ = some (.int .i64 k) := (hXe.cell 2).trans rfl
             have hce3 : w34.cell? ⟨B10, 3, none⟩ = some (.slice M (n2 + k) c3) := (hXe.cell 3).trans rfl
             have hce4 : w34.cell? ⟨B10, 4, none⟩ = some (.slice N r1 d3) := (hXe.cell 4).trans rfl
             clear hP hb34 ho34 hm34)
          | (go_at_call 16; (with_reducible refine (count_ok HE34.out).mono ?_); rintro e w35 hP
             obtain ⟨u35, er35, o35, rfl, ho35, hm35, hb35⟩ := count_post hP
             have HO35 := Lib.hid ho35
             have HM35 := Lib.hid hm35
             have hbb35 := bnext hbb34 hb35
             have hi315 := (hx314.belowAll hb35).ints
             have hi325 := (hx324.belowAll hb35).ints
             clear hP hb35 ho35 hm35))
        have HSM : Hid (sameL x32 x32 = true) := Lib.hid (sameL_iff.2 rfl)
        rcases o33 with _ | u33b
        · obtain ⟨rfl, rfl⟩ : er34 = 4 ∧ u34 = 0 := ⟨congrArg Prod.fst HM33.out, congrArg Prod.snd HM33.out⟩
          go_wp2_with (go_at_call 17; refine (same_any A31 A32 n31 n32 c31 c32 x32 x32 _ hi315 hi325 (by omega) (by omega)).mono ?_; rintro e w36 ⟨rfl, q36, rfl⟩; rw [HSM.out])
          go_ret
          exact ⟨by first | rfl | simp, below_drewN hbb35 _⟩
        · obtain ⟨rfl, rfl⟩ : er34 = 0 ∧ u34 = u33b := ⟨congrArg Prod.fst HM33.out, congrArg Prod.snd HM33.out⟩
          obtain ⟨x9, h9, h10⟩ := CountOf.more hp.1 HO33.out HO35.out HKM.out
          subst h9
          obtain ⟨rfl, rfl⟩ : er35 = 0 ∧ u35 = x9 := ⟨congrArg Prod.fst HM35.out, congrArg Prod.snd HM35.out⟩
          go_wp2_with (go_at_call 17; refine (same_any A31 A32 n31 n32 c31 c32 x32 x32 _ hi315 hi325 (by omega) (by omega)).mono ?_; rintro e w36 ⟨rfl, q36, rfl⟩; rw [HSM.out])
          go_ret
          exact ⟨by first | rfl | simp, below_drewN hbb35 _⟩
  · have hd : decide (n ≤ 500) = false := by simpa using hn
    go_enter Try.func3, Try.ntmps3
    go_wp2_with (first
      | (go_at_call 9; refine (sane06_any _).mono ?_; rintro e w1 ⟨rfl, hb1⟩)
      | (go_at_call 10; refine (few_any A n c _).mono ?_; rintro e w' ⟨rfl, rfl⟩))
    go_ret
    exact ⟨rfl, hb1⟩
end Go.Proofs.Yteipcjmkhacdgaa
