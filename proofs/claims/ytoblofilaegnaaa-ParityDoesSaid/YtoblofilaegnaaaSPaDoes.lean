/-
  ParityDoes returns true: the walk of the law. Conditions: none beyond the reading of its arguments.
-/
import Derived.Test.YtoblofilaegnaaaAnsAll
import Derived.Test.YtoblofilaegnaaaAnsApp
import Derived.Test.YtoblofilaegnaaaPWanAll
import Derived.Test.YtoblofilaegnaaaRWan
import Derived.Test.YtoblofilaegnaaaRQue
import Derived.Test.YtoblofilaegnaaaS16
import Derived.Test.YtoblofilaegnaaaMTape
import Derived.Test.YtoblofilaegnaaaMkRows
import Derived.Test.YtoblofilaegnaaaFld
import Derived.Test.YtoblofilaegnaaaGBO
namespace Go.Proofs.Ytoblofilaegnaaa
open Go.RowKit
set_option linter.unusedVariables false

theorem two_ofP {P : Nat → Prop} (h0 : P 0) (h1 : P 1) : ∀ i, i < 2 → P i := by
  intro i hi
  have : i = 0 ∨ i = 1 := by omega
  rcases this with rfl | rfl
  · exact h0
  · exact h1
theorem three_ofP {P : Nat → Prop} (h0 : P 0) (h1 : P 1) (h2 : P 2) : ∀ i, i < 3 → P i := by
  intro i hi
  have : i = 0 ∨ i = 1 ∨ i = 2 := by omega
  rcases this with rfl | rfl | rfl
  · exact h0
  · exact h1
  · exact h2
theorem four_ofP {P : Nat → Prop} (h0 : P 0) (h1 : P 1) (h2 : P 2) (h3 : P 3) : ∀ i, i < 4 → P i := by
  intro i hi
  have : i = 0 ∨ i = 1 ∨ i = 2 ∨ i = 3 := by omega
  rcases this with rfl | rfl | rfl | rfl
  · exact h0
  · exact h1
  · exact h2
  · exact h3
/-- The own tape in its box and the table; only the deck, and what is new, has turned since w0. -/
def ParCut (g NN N : Nat) (p : Int) (T : Option Addr) (n c : Nat) (xs : List Int) (w0 : World) (s29 s30 : Value) (wx : World) : Prop :=
  ∃ (b : Nat) (T6 : Option Addr) (k6 tc6 : Nat) (ds : List Int) (A : Option Addr) (ca : Nat) (rows : List (List Int)) (q bT bR : Nat), s29 = .pointer (some ⟨b, 0, none⟩) ∧ s30 = .slice A N ca ∧ Blk wx b 62 #[.slice T6 k6 tc6, .int .i64 0] ∧ w0.heap.size ≤ b ∧
    (OwnI wx bT 3 T6 k6 tc6 ds ∧ g < bT) ∧ (OwnM wx bR bR 22 A N ca rows ∧ g < bR) ∧ (NN ≤ k6 ∧ k6 ≤ NN + 2) ∧ (∀ i, i < NN → 0 ≤ ds.getD i 0 ∧ ds.getD i 0 < p) ∧ Deck wx g T n c xs q ∧ Step g w0 wx
theorem ParCut.new {g NN N : Nat} {p : Int} {T : Option Addr} {n c : Nat} {xs : List Int} {w0 w9 : World} {T6 : Option Addr} {k6 tc6 : Nat} {ds : List Int} {A : Option Addr} {ca : Nat} {rows : List (List Int)} {q bT bR : Nat}
    (hT : OwnI w9 bT 3 T6 k6 tc6 ds) (hgT : g < bT) (hM : OwnM w9 bR bR 22 A N ca rows) (hgR : g < bR) (hk : NN ≤ k6 ∧ k6 ≤ NN + 2) (hds : ∀ i, i < NN → 0 ≤ ds.getD i 0 ∧ ds.getD i 0 < p) (hD : Deck w9 g T n c xs q) (hS : Step g w0 w9) :
    ParCut g NN N p T n c xs w0 (.pointer (some ⟨w9.heap.size, 0, none⟩)) (.slice A N ca) (w9.alloc (.cells #[.slice T6 k6 tc6, .int .i64 0] 62)) :=
  ⟨_, T6, k6, tc6, ds, A, ca, rows, q, bT, bR, rfl, rfl, Blk.new _ _ _, hS.size, ⟨hT.alloc _, hgT⟩, ⟨hM.belowAll (bbox _), hgR⟩, hk, hds, hD.alloc _, hS.alloc _⟩
theorem ParCut.box {g NN N : Nat} {p : Int} {T : Option Addr} {n c : Nat} {xs : List Int} {w0 w9 : World} {T6 : Option Addr} {k6 tc6 : Nat} {ds : List Int} {A : Option Addr} {ca : Nat} {rows : List (List Int)} {q bT bR b : Nat} {u v : Value}
    (hT : OwnI w9 bT 3 T6 k6 tc6 ds) (hgT : g < bT) (hM : OwnM w9 bR bR 22 A N ca rows) (hgR : g < bR) (hk : NN ≤ k6 ∧ k6 ≤ NN + 2) (hds : ∀ i, i < NN → 0 ≤ ds.getD i 0 ∧ ds.getD i 0 < p) (hD : Deck w9 g T n c xs q) (hS : Step g w0 w9)
    (hB : Blk w9 b 62 #[u, v]) (hTb : (Value.slice T6 k6 tc6).ownBlock ≠ some b) (hbR : b < bR) (hb : w0.heap.size ≤ b) (hg : g < w0.heap.size) :
    ParCut g NN N p T n c xs w0 (.pointer (some ⟨b, 0, none⟩)) (.slice A N ca) ((w9.setCell ⟨b, 0, none⟩ (.slice T6 k6 tc6)).setCell ⟨b, 1, none⟩ (.int .i64 0)) := by
  have hs : Step b w9 ((w9.setCell ⟨b, 0, none⟩ (.slice T6 k6 tc6)).setCell ⟨b, 1, none⟩ (.int .i64 0)) := ((Step.refl b w9).set 0 _).set 1 _
  exact ⟨b, T6, k6, tc6, ds, A, ca, rows, q, bT, bR, rfl, rfl, (hB.set_ 0 _).set_ 1 _, hb, ⟨hT.kept (row := some b) hs (.inr hTb), hgT⟩, ⟨hM.step hs hbR hbR, hgR⟩, hk, hds, (hD.setCell (p := ⟨b, 0, none⟩) (by show g < b; omega) _).setCell (p := ⟨b, 1, none⟩) (by show g < b; omega) _, (hS.setNew (p := ⟨b, 0, none⟩) hb _).setNew (p := ⟨b, 1, none⟩) hb _⟩
theorem Mat.lo_ {w : World} {lo lo2 B n : Nat} {A : Option Addr} {rows : List (List Int)} (h : Mat w lo B A n rows) (hl : lo2 ≤ lo) : Mat w lo2 B A n rows :=
  ⟨h.1, fun hn => by
    obtain ⟨b, off, e, h1, h2, hc⟩ := h.2 hn
    refine ⟨b, off, e, by omega, h2, fun j hj => ?_⟩
    obtain ⟨A', n', c', k1, k2, k3, k4⟩ := hc j hj
    exact ⟨A', n', c', k1, k2, k3, fun h0 b off s e => by have := k4 h0 b off s e; omega⟩⟩
/-- The queries; only what is new has turned since w0. -/
def QCut (m : Nat) (QL : List (List Int)) (w0 : World) (s : Value) (wx : World) : Prop := ∃ (A : Option Addr) (c2 : Nat), s = .slice A m c2 ∧ Mat wx w0.heap.size wx.heap.size A m QL ∧ m ≤ c2 ∧ Below w0.heap.size w0 wx
theorem QCut.new {m lo : Nat} {QL : List (List Int)} {w0 w9 : World} {A : Option Addr} {c2 : Nat} (hM : Mat w9 lo w9.heap.size A m QL) (hc : m ≤ c2) (hb : Below w0.heap.size w0 w9) (hlo : w0.heap.size ≤ lo) (o : Obj) : QCut m QL w0 (.slice A m c2) (w9.alloc o) := ⟨A, c2, rfl, (hM.upto (bbox o)).lo_ hlo, hc, ballocs hb o⟩
theorem QCut.box {m lo b : Nat} {QL : List (List Int)} {w0 w9 : World} {A : Option Addr} {c2 : Nat} (hM : Mat w9 lo w9.heap.size A m QL) (hc : m ≤ c2) (hb : Below w0.heap.size w0 w9) (hb0 : w0.heap.size ≤ b) (hbl : b < lo) (u v : Value) : QCut m QL w0 (.slice A m c2) ((w9.setCell ⟨b, 0, none⟩ u).setCell ⟨b, 1, none⟩ v) :=
  ⟨A, c2, rfl, (hM.step (((Step.refl b w9).set 0 u).set 1 v) hbl).lo_ (by omega), hc, (hb.setCell (p := ⟨b, 0, none⟩) hb0 u).setCell (p := ⟨b, 1, none⟩) hb0 v⟩
/-- Which of the law's bounds is not kept, the first one. -/
theorem bad_ofP {n lp : Nat} {sm ns : Int} (h : ¬ (n ≤ 500 ∧ sm < 1500 ∧ lp ≤ 500 ∧ ns ≤ 1000)) : ¬ n ≤ 500 ∨ (n ≤ 500 ∧ ¬ sm < 1500) ∨ (n ≤ 500 ∧ sm < 1500 ∧ (500 : Int) < (lp : Int)) ∨ (n ≤ 500 ∧ sm < 1500 ∧ ¬ (500 : Int) < (lp : Int) ∧ 1000 < ns) := by omega

theorem queR_own {p : Int} {N m s1 i k6 NN : Nat} {ds : List Int} (hok : okP p = true) (hp : 2 ≤ p ∧ p ≤ 65521) (hN : 1 ≤ N ∧ N ≤ 5) (hm : 2 ≤ m ∧ m ≤ 4) (hs : s1 + 1 = m) (hNN : N * s1 = NN) (hi : i < N) (hl : ds.length = k6) (hk : NN ≤ k6 ∧ k6 ≤ NN + 2) (hd : ∀ j, j < NN → 0 ≤ ds.getD j 0 ∧ ds.getD j 0 < p) (hb : NN ≤ 15) :
    ∃ (QL : List (List Int)) (av : Int), queR p N m i k6 0 ds = (QL, ds, av, 0) ∧ QL.length = m := by
  have hz := sizeE_yes (p := p) (r := N) (s := m) hok (by omega)
  have he : drawsE ds k6 0 p ((s1 * N : Nat) : Int) = 0 := by
    rw [Nat.mul_comm, hNN]
    exact draws_zero 0 NN hp hl (by omega) (by omega) (fun j _ h2 => hd j (by omega))
  refine ⟨_, _, (queR_yes N s1 i hz rfl (by omega) rfl hi).trans (if_pos he), ?_⟩
  simp [quesL, chunkL_len, hs]

theorem OwnA.cellK {w : World} {base lo n c g : Nat} {ks : List Bool} {rows : List (List Int)} (h : OwnA w base lo (some ⟨g, 0, none⟩) n c ks rows) {j : Nat} (hj : j < n) : w.cell? ⟨g, j * 2, none⟩ = some (.bool (ks.getD j false)) := by
  obtain ⟨hk, _, vs, hv, hown, _⟩ := h
  exact (World.ownsRow.cellAt hown (j * 2) (by omega)).trans (ansV_at ks vs (by omega) j (by omega)).1
theorem Mat.takeP {w : World} {lo B : Nat} {A : Option Addr} {n k : Nat} {rows : List (List Int)} (h : Mat w lo B A n rows) (hk : k ≤ n) : Mat w lo B A k (rows.take k) := by
  refine ⟨by rw [List.length_take, h.1]; omega, fun h0 => ?_⟩
  obtain ⟨b, off, e, hl, hb, hc⟩ := h.2 (by omega)
  refine ⟨b, off, e, hl, hb, fun j hj => ?_⟩
  obtain ⟨A', n', c', h1, h2, h3, h4⟩ := hc j (by omega)
  refine ⟨A', n', c', h1, h2, ?_, h4⟩
  have : (rows.take k).getD j [] = rows.getD j [] := by rw [List.getD_eq_getElem?_getD, List.getElem?_take, if_pos hj, List.getD_eq_getElem?_getD]
  rw [this]; exact h3
theorem queR_tlen (p r s i : Int) (tn : Nat) (ta : Int) (ts : List Int) : (queR p r s i tn ta ts).2.1.length ≤ ts.length := by
  unfold queR
  split
  · exact Nat.le_refl _
  · exact Nat.zero_le _
theorem quadE {α β γ δ : Type} (r : α × β × γ × δ) : ∃ a b c d, Hid (r = (a, b, c, d)) := ⟨r.1, r.2.1, r.2.2.1, r.2.2.2, Lib.hid rfl⟩
theorem triE {α β γ : Type} (r : (α × β) × γ) : ∃ a b c, Hid (r = ((a, b), c)) := ⟨r.1.1, r.1.2, r.2, Lib.hid rfl⟩

set_option maxHeartbeats 200000000 in
set_option maxRecDepth 100000 in
theorem parityDoes_walk (T : Option Addr) (n c : Nat) (xs : List Int) (pr : Int) (P : Option Addr) (lp cp : Nat) (ps : List Int) (pa : Int) (R : Option Addr) (lr cr : Nat) (rows0 : List (List Int)) (ct sv ix wd0 : Int) (L : Option Addr) (ll cl : Nat) (ks0 : List Bool) (as0 : List (List Int)) (w : World)
    (h : Ints w w.heap.size T n xs) (hpr : -9223372036854775808 ≤ pr ∧ pr ≤ 9223372036854775807) (hP : Ints w w.heap.size P lp ps) (hlp : lp ≤ 17592186043904) (hR : Mat w 0 w.heap.size R lr rows0) (hlr : lr ≤ 17592186043904)
    (hct : -9223372036854775808 ≤ ct ∧ ct ≤ 9223372036854775807) (hsv : -9223372036854775808 ≤ sv ∧ sv ≤ 9223372036854775807) (hix : -9223372036854775808 ≤ ix ∧ ix ≤ 9223372036854775807) (hwd : -9223372036854775808 ≤ wd0 ∧ wd0 ≤ 9223372036854775807) (hL : Ans w w.heap.size L ll ks0 as0) (hll : ll ≤ 17592186043904) :
    Calls Try.prog 9 #[.slice T n c, .agg #[.int .i64 pr], .agg #[.slice P lp cp, .int .i64 pa], .slice R lr cr, .int .i64 ct, .int .i64 sv, .int .i64 ix, .int .i64 wd0, .slice L ll cl] w fun e w' => e = .returned (.bool true) ∧ Below w.heap.size w w' := by
  have hb0 : Below w.heap.size w ((w.alloc (.cells #[.int .i64 pr] 24)).alloc (.cells #[.slice P lp cp, .int .i64 pa] 62)) := ballocs (bbox _) _
  have hB0 := (Blk.new w 24 #[.int .i64 pr]).alloc (.cells #[.slice P lp cp, .int .i64 pa] 62)
  have hC0 := Blk.new1 w (.cells #[.int .i64 pr] 24) 62 #[.slice P lp cp, .int .i64 pa]
  obtain ⟨sm, hsm⟩ : ∃ sm, smW rows0 lr = sm := ⟨_, rfl⟩
  obtain ⟨ns, hns⟩ : ∃ ns, smW as0 ll = ns := ⟨_, rfl⟩
  have HSM := Lib.hid hsm
  have HNS := Lib.hid hns
  clear hsm hns
  go_enter Try.func9, Try.ntmps9
  go_upto_region 4 with (go_at_call 77; refine (sane16_any _).mono ?_; rintro e w1 ⟨rfl, hb1⟩
                         have hbb1 := bnext hb0 hb1
                         have hB1 := hB0.below hb1 hB0.lt
                         have hC1 := hC0.below hb1 hC0.lt
                         clear hb0 hB0 hC0 hb1)
  go_cut [78, 79, 80] (fun s78 s79 s80 wx => s78 = .slice L ll cl ∧ s79 = .int .i64 ll ∧ s80 = .int .i64 0 ∧ w1 = wx)
  case first =>
    go_wp2_with fail
    go_meet
    exact ⟨rfl, rfl, rfl, rfl⟩
  rename_i K1 hk1 K2 hk2
  obtain ⟨rfl, rfl, rfl, rfl⟩ := hcut
  refine hk2 _ _ ?_
  clear hk2
  go_cut [19] (fun s19 wx => s19 = .int .i64 ns ∧ Below w1.heap.size w1 wx)
  case first =>
    as_aux_lemma =>
      go_wp2_with fail
      go_loopw [19, 80] (fun v i wr => ∃ k : Nat, k ≤ ll ∧ i = .int .i64 k ∧ v = .int .i64 (smW as0 k) ∧ Below w1.heap.size w1 wr) (fun _ i _ => ll - (intOf i).toNat)
      case atStart => exact ⟨0, Nat.zero_le _, rfl, rfl, Below.refl _ _⟩
      case round =>
        as_aux_lemma =>
          obtain ⟨k, hk, rfl, rfl, hbr⟩ := hrel
          by_cases hlt : k < ll
          · obtain ⟨b, off, A1, n1, c1, rfl, hbl, hck, hcr, hn1, hI⟩ := ((hL.upto hbb1).below hbr).at_ hlt
            have HS : Hid (smW as0 (k + 1) = wrap64 (smW as0 k + (1 + (n1 : Int)))) := Lib.hid (by simp only [smW]; rw [hI.len])
            obtain ⟨v, hv⟩ : ∃ v, smW as0 k = v := ⟨_, rfl⟩
            rw [hv] at HS ⊢
            have hk0 : (0 : Int) ≤ (k : Int) := by omega
            have hk1 : (k : Int) < (ll : Int) := by omega
            have hw1 : IntKind.i64.wrap (1 + (n1 : Int)) = 1 + (n1 : Int) := IntWalk.i64_in _ (by omega)
            have hbra := ballocs hbr (.cells #[.bool (ks0.getD k false), .slice A1 n1 c1] 89)
            have hBk := Blk.new wr 89 #[.bool (ks0.getD k false), .slice A1 n1 c1]
            have hk2 : (wr.alloc (.cells #[.bool (ks0.getD k false), .slice A1 n1 c1] 89)).cell? ⟨wr.heap.size, 1, none⟩ = some (.slice A1 n1 c1) := (hBk.cell 1).trans rfl
            generalize ks0.getD k false = bb at *
            clear hBk hI hv
            go_wp2
            go_roundw
            case rel => exact ⟨k + 1, by omega, by go_num, by (rw [HS.out]; try rfl), hbra⟩
            case measure => simp [intOf]; omega
          · obtain rfl : k = ll := by omega
            go_wp2
            go_meet
            exact ⟨by rw [HNS.out], hbr⟩
  case rest =>
    as_aux_lemma =>
      obtain ⟨rfl, hbr⟩ := hcut
      obtain ⟨w0', hw0'⟩ : ∃ w0', w0' = wc := ⟨_, rfl⟩
      subst hw0'
      refine hk1 _ _ ?_
      clear hk1
      have hbb2 := bnext hbb1 hbr
      have hB2 := hB1.below hbr hB1.lt
      have hC2 := hC1.below hbr hC1.lt
      have hs10 : w0'.cell? ⟨w.heap.size + 1, 0, none⟩ = some (.slice P lp cp) := (hC2.cell 0).trans rfl
      have hs11 : w0'.cell? ⟨w.heap.size + 1, 1, none⟩ = some (.int .i64 pa) := (hC2.cell 1).trans rfl
      clear hbr hbb1 hB1 hC1
      by_cases hgd : n ≤ 500 ∧ sm < 1500 ∧ lp ≤ 500 ∧ ns ≤ 1000
      · obtain ⟨hn, hsml, hl5, hn1⟩ := hgd
        have hd : decide (n ≤ 500) = true := by simpa using hn
        have HSD : Hid (decide (smW rows0 lr < 1500) = true) := Lib.hid (by rw [HSM.out]; simpa using hsml)
        have hab1 : ¬ (500 : Int) < (lp : Int) := by omega
        have hab2 : ¬ 1000 < ns := by omega
        go_upto_region 14 with (first
          | (go_at_call 16; refine (few_any T n c _).mono ?_; rintro e w' ⟨rfl, rfl⟩)
          | (go_at_call 78; refine (small_any R lr cr rows0 _ (hR.upto hbb2) (by omega)).mono ?_; rintro e w' ⟨rfl, rfl⟩; rw [HSD.out])
          | (go_at_call 18; refine (new_any T n c xs _ (h.upto hbb2) hn).mono ?_; rintro e w2 ⟨⟨g, rfl, hge, hD2⟩, hb2⟩
             have hbb3 := bnext hbb2 hb2
             have hB3 := hB2.below hb2 hB2.lt
             have hC3 := hC2.below hb2 hC2.lt
             have hg : w.heap.size + 1 < g := by rw [hge]; exact hC2.lt
             clear hge hbb2 hB2 hC2 hb2)
          | (go_at_call 19; refine (field_any g T n c xs _ _ hD2).mono ?_; rintro e w3 ⟨p, q3, rfl, hkn, hD3, hS3⟩
             have hok := okP_known hkn
             have hp := okP_pos hok
             have HO := Lib.hid hok
             have hbb4 := ballocs (Step.below hbb3 hS3 hbb3.size (by omega)) (.cells #[.int .i64 p] 24)
             have hB4 := (Step.block hS3 hB3 (by omega)).alloc (.cells #[.int .i64 p] 24)
             have hC4 := (Step.block hS3 hC3 (by omega)).alloc (.cells #[.int .i64 p] 24)
             have hF4 := Blk.new w3 24 #[.int .i64 p]
             have hD4 := hD3.alloc (.cells #[.int .i64 p] 24)
             have hgf : w3.heap.size ≠ g := by have := hD3.1.lt; omega
             have hgl : g < w3.heap.size := hD3.1.lt
             clear hok hkn hD2 hD3 hS3 hbb3 hB3 hC3)
          | (go_at_call 20; (with_reducible refine (next_any g T n c xs q3 5 _ hD4 (by omega)).mono ?_); rintro e w5 ⟨r1, q5, rfl, hr1, _, hD5, hS5, hz5⟩
             obtain ⟨N, hN⟩ : ∃ s : Nat, 1 + r1 = s := ⟨(1 + r1).toNat, by have := hr1 (by omega); omega⟩
             have hN8 : 1 ≤ N ∧ N ≤ 5 := by have := hr1 (by omega); omega
             have hNw : IntKind.i64.wrap (1 + r1) = N := by rw [hN]; exact IntWalk.i64_in _ (by omega)
             have hF5 := Step.block hS5 hF4 hgf
             have hB5 := Step.block hS5 hB4 (by omega)
             have hC5 := Step.block hS5 hC4 (by omega)
             have hbb5 := Step.below hbb4 hS5 hbb4.size (by omega)
             clear hr1 hz5 hS5 hbb4 hB4 hC4 hF4 hD4)
          | (go_at_call 20; (with_reducible refine (next_any g T n c xs q5 3 _ hD5 (by omega)).mono ?_); rintro e w6 ⟨r2, q6, rfl, hr2, _, hD6, hS6, hz6⟩
             obtain ⟨m, hm⟩ : ∃ s : Nat, 2 + r2 = s := ⟨(2 + r2).toNat, by have := hr2 (by omega); omega⟩
             have hm6 : 2 ≤ m ∧ m ≤ 4 := by have := hr2 (by omega); omega
             have hmw : IntKind.i64.wrap (2 + r2) = m := by rw [hm]; exact IntWalk.i64_in _ (by omega)
             have hF6 := Step.block hS6 hF5 hgf
             have hB6 := Step.block hS6 hB5 (by omega)
             have hC6 := Step.block hS6 hC5 (by omega)
             have hbb6 := Step.below hbb5 hS6 hbb5.size (by omega)
             clear hr2 hz6 hS6 hbb5 hB5 hC5 hF5 hD5)
          | (go_at_call 20; (with_reducible refine (next_any g T n c xs q6 4 _ hD6 (by omega)).mono ?_); rintro e w7 ⟨r3, q7, rfl, hr3, _, hD7, hS7, hz7⟩
             obtain ⟨wd, rfl⟩ : ∃ s : Nat, r3 = s := ⟨r3.toNat, by have := hr3 (by omega); omega⟩
             have hwd4 : wd ≤ 3 := by have := hr3 (by omega); omega
             have hF7 := Step.block hS7 hF6 hgf
             have hB7 := Step.block hS7 hB6 (by omega)
             have hC7 := Step.block hS7 hC6 (by omega)
             have hbb7 := Step.below hbb6 hS7 hbb6.size (by omega)
             have hg7 := hD7.1.lt
             have hcf7 : w7.cell? ⟨w3.heap.size, 0, none⟩ = some (.int .i64 p) := (hF7.cell 0).trans rfl
             clear hr3 hz7 hS7 hbb6 hB6 hC6 hF6 hD6))
        obtain ⟨s1, hs1⟩ : ∃ s1, s1 + 1 = m := ⟨m - 1, by omega⟩
        obtain ⟨NN, hNN⟩ : ∃ k : Nat, N * s1 = k := ⟨_, rfl⟩
        have hNNb : NN ≤ 15 := by
          have h2 : N * s1 ≤ 5 * 3 := Nat.mul_le_mul (by omega) (by omega)
          omega
        have hmS : (m : Int) - 1 = s1 := by omega
        have HLR : Hid (plimR p N m = (List.replicate NN p, 0)) := Lib.hid (by
          unfold plimR
          rw [if_pos (sizeE_yes HO.out (by omega)), hmS]
          have : ((N : Int) * (s1 : Int)).toNat = NN := by rw [← Int.natCast_mul, Int.toNat_natCast]; exact hNN
          rw [this])
        have HNN := Lib.hid hNN
        have HS1 := Lib.hid hs1
        have HLL : Hid (∀ i, i < NN → 1 ≤ (List.replicate NN p).getD i 0 ∧ (List.replicate NN p).getD i 0 ≤ 4611686018427387904) := Lib.hid fun i hi => by
          have e : (List.replicate NN p).getD i 0 = p := by simp [List.getD_eq_getElem?_getD, hi]
          rw [e]; omega
        clear hNN hs1 hN hm hNw hmw
        go_upto_region 15 with (
          go_at_call 79; refine (rplimits_all p N m _).mono ?_; rw [HLR.out]; rintro e w8 ⟨⟨A8, n8, c8, rfl, ho8⟩, hb8⟩
          have hg7' : g < w7.heap.size := hD7.1.lt
          have hF8 := hF7.below hb8 hF7.lt
          have hB8 := hB7.below hb8 hB7.lt
          have hC8 := hC7.below hb8 hC7.lt
          have hbb8 := bnext hbb7 hb8
          have hD8 := hD7.belowAll hb8
          have h8n : NN = n8 := by
            have h9 : (List.replicate NN p).length = n8 := ho8.len
            rw [List.length_replicate] at h9
            exact h9
          subst h8n
          have HNG : Hid (∀ b off s, A8 = some ⟨b, off, s⟩ → 0 < NN → b ≠ g) := Lib.hid fun b off s e hn e2 => (IntsO.of_own ho8 hg7').2 hn b off s e e2
          have HI8 := Lib.hid ho8
          clear hb8 ho8 hF7 hB7 hC7 hbb7 hcf7 hD7)
        have hgw8 := hD8.1.lt
        have hF8l := hF8.lt
        obtain ⟨gF, hgF⟩ : ∃ b, w3.heap.size = b := ⟨_, rfl⟩
        rw [hgF] at hF8 hgf hgl hF8l ⊢
        clear hgF
        have HFF : Hid (∀ wx, Step g w8 wx → wx.cell? ⟨gF, 0, none⟩ = some (.int .i64 p)) := Lib.hid fun wx hx => ((Step.block hx hF8 hgf).cell 0).trans rfl
        have HDD : Hid (∀ wx, Below w8.heap.size w8 wx → Deck wx g T n c xs q7) := Lib.hid fun wx hx => hD8.belowAll hx
        have HII : Hid (∀ wx, Below w8.heap.size w8 wx → Ints wx wx.heap.size A8 NN (List.replicate NN p)) := Lib.hid fun wx hx => HI8.out.ints.upto hx
        have hQ0 : Below w8.heap.size w8 w8.drew := (Below.refl _ w8).drew
        have hQZ : Below w8.heap.size w8 (w8.alloc (.cells #[.slice none 0 0, .int .i64 0] 62)).drew := (bbox (.cells #[.slice none 0 0, .int .i64 0] 62)).drew
        go_cut [29, 30] (fun s29 s30 wx => ParCut g NN N p T n c xs w8 s29 s30 wx)
        case first =>
          as_aux_lemma =>
            go_region_held3 (fun w' => w'.cell? ⟨gF, 0, none⟩ = some (.int .i64 p)) (first | exact HFF.out _ (Step.of_below (by first | exact hQ0 | exact hQZ)) | exact HFF.out _ hS9 | exact HFF.out _ (hS9.alloc _) | exact HFF.out _ hS10 | exact HFF.out _ (hS10.alloc _) | exact HFF.out _ ((hS10.setNew (p := ⟨_, 0, none⟩) hle _).setNew (p := ⟨_, 1, none⟩) hle _))
              (first
                | (go_at_call 53; refine (mtape_any g T n c xs q7 A8 NN c8 (List.replicate NN p) _ (HDD.out _ (by first | exact hQ0 | exact hQZ)) (HII.out _ (by first | exact hQ0 | exact hQZ)) HLL.out (by omega) HNG.out).mono ?_; rintro e w9 ⟨T6, k6, tc6, ds, q9, rfl, hoT, hk6, hk6', hds, hD9, hS9'⟩
                   have hS9 : Step g w8 w9 := Step.trans (Step.of_below (by first | exact hQ0 | exact hQZ)) hS9'
                   have hle9 := hS9.size
                   have hg9 := hD9.1.lt
                   have HDS : Hid (∀ i, i < NN → 0 ≤ ds.getD i 0 ∧ ds.getD i 0 < p) := Lib.hid fun i hi => by
                     have h9 := hds i hi
                     have e : (List.replicate NN p).getD i 0 = p := by simp [List.getD_eq_getElem?_getD, hi]
                     rw [e] at h9; exact h9
                   have hoT8 : OwnI w9 w8.heap.size 3 T6 k6 tc6 ds := hoT.base (by first | exact Nat.le_refl _ | (simp))
                   first
                     | (have hZ9 : Blk w9 w8.heap.size 62 #[.slice none 0 0, .int .i64 0] := Step.block hS9' (by first | exact Blk.new _ _ _ | exact Blk.drew (Blk.new _ _ _)) (by omega)
                        have hTb : (Value.slice T6 k6 tc6).ownBlock ≠ some w8.heap.size := fun e => by
                          have h9 : (w8.alloc (.cells #[.slice none 0 0, .int .i64 0] 62)).heap.size ≤ w8.heap.size := hoT.row _ e
                          rw [World.size_alloc] at h9
                          omega)
                     | skip
                   clear hds)
                | (go_at_call 21; refine (rows_any g T n c xs q9 p N wd _ (by first | exact hD9 | exact hD9.alloc _) hp (by omega) (by omega)).mono ?_; rintro e w10 ⟨A10, c10, rows, q10, rfl, hoM, hR10, hD10, hS10'⟩
                   have hS910 : Step g w9 w10 := Step.trans (Step.of_below (by first | exact Below.refl _ _ | exact bbox _)) hS10'
                   have hS10 : Step g w8 w10 := hS9.trans hS910
                   have hle10 := hS10.size
                   have hoT10 := hoT8.step hS910 hgw8
                   first
                     | (have hBx : Blk w10 w8.heap.size 62 #[.slice none 0 0, .int .i64 0] := Step.block hS910 hZ9 (by omega)
                        have hle : w8.heap.size ≤ w8.heap.size := Nat.le_refl _
                        have hbR := hZ9.lt
                        have hx0 := (hBx.cell 0).trans rfl
                        have hx1 := (hBx.cell 1).trans rfl
                        have hxf0 := hBx.frozen 0
                        have hxf1 := hBx.frozen 1)
                     | (have hBx : Blk w10 w9.heap.size 62 #[.slice none 0 0, .int .i64 0] := Step.block hS10' (Blk.new w9 62 #[.slice none 0 0, .int .i64 0]) (by omega)
                        have hle : w8.heap.size ≤ w9.heap.size := hle9
                        have hTb : (Value.slice T6 k6 tc6).ownBlock ≠ some w9.heap.size := fun e => by (have h9 := (World.ownsRow.lt hoT _ e).2); omega
                        have hbR : w9.heap.size < w9.heap.size + 1 := Nat.lt_succ_self _
                        have hx0 := (hBx.cell 0).trans rfl
                        have hx1 := (hBx.cell 1).trans rfl
                        have hxf0 := hBx.frozen 0
                        have hxf1 := hBx.frozen 1)
                     | (have hle : w8.heap.size ≤ w10.heap.size := hle10)
                   clear hR10))
            all_goals go_wp2_with fail
            all_goals go_meet
            all_goals first
              | exact ParCut.new hoT10 hgw8 hoM (by first | omega | (simp <;> omega)) ⟨hk6, hk6'⟩ HDS.out hD10 hS10
              | exact ParCut.box hoT10 hgw8 hoM (by first | omega | (simp <;> omega)) ⟨hk6, hk6'⟩ HDS.out hD10 hS10 hBx hTb (by first | exact hbR | omega | (simp <;> omega)) hle hgw8
        case rest =>
          as_aux_lemma =>
            obtain ⟨b, T6, k6, tc6, ds, A10, ca, rows, q10, bT, bR, rfl, rfl, hTb, hb8, ⟨hoT, hgT⟩, ⟨hoM, hgR⟩, hk6, hds, hD10, hS10⟩ := hcut
            obtain ⟨w9, hw9⟩ : ∃ w9, w9 = wc := ⟨_, rfl⟩
            subst hw9
            have hF10 := Step.block hS10 hF8 hgf
            have hB10 := Step.block hS10 hB8 (by omega)
            have hC10 := Step.block hS10 hC8 (by omega)
            have hbb10 := Step.below hbb8 hS10 hbb8.size (by omega)
            have hle10 := hS10.size
            have hg10 := hD10.1.lt
            have hbg : b ≠ g := by omega
            obtain ⟨gT, hgTe⟩ : ∃ gT, b = gT := ⟨_, rfl⟩
            subst hgTe
            obtain ⟨ia, hia⟩ : ∃ k : Nat, ix % (N : Int) = k := ⟨(ix % (N : Int)).toNat, by rw [Int.toNat_of_nonneg (Int.emod_nonneg _ (by omega))]⟩
            have hiN : ia < N := by have := Int.emod_lt_of_pos ix (b := (N : Int)) (by omega); omega
            obtain ⟨QL, av, HQR, hQL⟩ := queR_own (m := m) (s1 := s1) (i := ia) (k6 := k6) (ds := ds) HO.out hp hN8 hm6 HS1.out HNN.out hiN hoT.len hk6 hds hNNb
            have HQR := Lib.hid HQR
            have HQL := Lib.hid hQL
            have HIA := Lib.hid hia
            have hMR0 := hoM.mat (Nat.le_refl _)
            have hMTO : MatO g w9 A10 N rows := MatO.of_mat hMR0 hgR
            have hITO : IntsO g w9 T6 k6 ds := IntsO.of_own hoT hgT
            clear HFF HDD HII hQ0 hQZ hF8 hB8 hC8 hbb8 hD8 hS10 HI8 HNG HLL HLR hQL hia hoT hoM hds
            have HHH : Hid (∀ wx, Below w9.heap.size w9 wx → wx.cell? ⟨gF, 0, none⟩ = some (.int .i64 p) ∧ wx.cell? ⟨b, 0, none⟩ = some (.slice T6 k6 tc6) ∧ wx.cell? ⟨b, 1, none⟩ = some (.int .i64 0)) := Lib.hid fun wx hx => ⟨((hF10.below hx hF10.lt).cell 0).trans rfl, ((hTb.below hx hTb.lt).cell 0).trans rfl, ((hTb.below hx hTb.lt).cell 1).trans rfl⟩
            have HTT : Hid (∀ wx, Below w9.heap.size w9 wx → Ints wx wx.heap.size T6 k6 ds) := Lib.hid fun wx hx => hITO.1.upto hx
            have hQ0 : Below w9.heap.size w9 w9.drew := (Below.refl _ w9).drew
            have hQZ : Below w9.heap.size w9 (w9.alloc (.cells #[.slice none 0 0, .int .i64 0] 62)).drew := (bbox (.cells #[.slice none 0 0, .int .i64 0] 62)).drew
            have hQY : Below w9.heap.size w9 (w9.alloc (.cells #[.slice none 0 0, .int .i64 0] 62)) := bbox (.cells #[.slice none 0 0, .int .i64 0] 62)
            go_upto_region 16 with fail
            go_cut [31] (fun s31 wx => QCut m QL w9 s31 wx)
            case first =>
              as_aux_lemma =>
                go_region_held3 (fun w' => w'.cell? ⟨gF, 0, none⟩ = some (.int .i64 p) ∧ w'.cell? ⟨b, 0, none⟩ = some (.slice T6 k6 tc6) ∧ w'.cell? ⟨b, 1, none⟩ = some (.int .i64 0)) (first | exact HHH.out _ hQ0 | exact HHH.out _ hQZ | exact HHH.out _ hb12 | exact HHH.out _ (ballocs hb12 _) | exact HHH.out _ ((hb12.setCell (p := ⟨_, 0, none⟩) hle _).setCell (p := ⟨_, 1, none⟩) hle _))
                  (first
                    | (go_at_call 32; refine (mod_any ix N _ (by omega) (by omega)).mono ?_; rintro e w' ⟨rfl, rfl⟩; rw [HIA.out])
                    | (go_at_call 80; refine (rpque_all p N m ia T6 k6 tc6 0 ds _ (HTT.out _ (by first | exact hQ0 | exact hQZ | exact hQY))).mono ?_; rw [HQR.out]; rintro e w12 ⟨⟨A12, m12, c12, T12, tk12, tc12, rfl, hM12, _, hmc12, _⟩, hb12'⟩
                       have hb12 : Below w9.heap.size w9 w12 := bnext (by first | exact hQ0 | exact hQZ | exact hQY) hb12'
                       obtain rfl : m = m12 := by rw [← HQL.out]; exact hM12.len
                       first
                         | (have hBx : Blk w12 w9.heap.size 62 #[.slice none 0 0, .int .i64 0] := (Blk.drew (Blk.new w9 62 #[.slice none 0 0, .int .i64 0])).below hb12' (by simp)
                            have hle : w9.heap.size ≤ w9.heap.size := Nat.le_refl _
                            have hx0 := (hBx.cell 0).trans rfl
                            have hx1 := (hBx.cell 1).trans rfl
                            have hxf0 := hBx.frozen 0
                            have hxf1 := hBx.frozen 1)
                         | (have hle : w9.heap.size ≤ w12.heap.size := hb12.size)))
                all_goals go_wp2_with fail
                all_goals go_meet
                all_goals first
                  | exact QCut.new hM12 hmc12 hb12 (by first | exact Nat.le_refl _ | (simp)) _
                  | exact QCut.box hM12 hmc12 hb12 hle (by simp) _ _
            case rest =>
              as_aux_lemma =>
                obtain ⟨Aq, cq, rfl, hMq, hmc, hbq⟩ := hcut
                have hFq := hF10.below hbq hF10.lt
                have hBq := hB10.below hbq hB10.lt
                have hCq := hC10.below hbq hC10.lt
                have hTq := hTb.below hbq hTb.lt
                have hbbq := hbb10.trans (hbq.mono hbb10.size)
                have hDq := hD10.belowAll hbq
                have hMTq := hMTO.below hbq
                have hITq := hITO.below hbq
                have hMQq : MatO g wc Aq m QL := MatO.of_mat hMq hg10
                have hcfq : wc.cell? ⟨gF, 0, none⟩ = some (.int .i64 p) := (hFq.cell 0).trans rfl
                have hgq := hDq.1.lt
                have hMT0 := hMTq.mat
                have hMQ0 := hMQq.mat
                have hqs := hbq.size
                clear HHH HTT hQ0 hQZ hQY hF10 hB10 hC10 hTb hbb10 hD10 hMTO hITO hMq hMR0 HQR
                go_upto_region 18 with (go_at_call 81; refine (answers_any p wd A10 Aq N m ca cq rows QL _ hMT0 hMQ0 (by omega) (by omega)).mono ?_; rintro e w13 ⟨⟨L1, lc1, ks1, rs1, rfl, hoA⟩, hb13⟩)
                obtain ⟨g1, rfl, hg1a, hg1b⟩ := hoA.form (by omega)
                have hF13 := hFq.below hb13 hFq.lt
                have hB13 := hBq.below hb13 hBq.lt
                have hC13 := hCq.below hb13 hCq.lt
                have hT13 := hTq.below hb13 hTq.lt
                have hbb13 := bnext hbbq hb13
                have hD13 := hDq.belowAll hb13
                have hMT13 := hMTq.below hb13
                have hIT13 := hITq.below hb13
                have hMQ13 := hMQq.below hb13
                have hg13 := hD13.1.lt
                clear hFq hBq hCq hTq hbbq hDq hMTq hITq hMQq hcfq hMT0 hMQ0 hb13
                go_upto_region 19 with (
                  at_builtin
                  refine wpList_append_answers rfl _ _ 87 rfl Try.underlying87 rfl wc.heap.size wc.heap.size g1 m lc1 ks1 rs1 rfl hoA (by omega) (by omega) ?_
                  intro g2 c14 w14 hoB hb14
                  have hD14 := hD13.belowAll hb14
                  have hg2a := (hoB.form (by omega))
                  clear hD13)
                have hg2b : w13.heap.size ≤ g2 := by
                  obtain ⟨g9, e9, h9, _⟩ := hg2a
                  injection e9 with e9
                  injection e9 with e9
                  omega
                clear hg2a
                have hm0i : (0 : Int) ≤ (m : Int) := by omega
                go_wp2_with (
                  go_at_call 20; (with_reducible refine (next_any g T n c xs q10 m w14 hD14 (by omega)).mono ?_); rintro e w15 ⟨r15, q15, rfl, hr15, _, hD15, hS15, hzz15⟩
                  clear hzz15
                  obtain ⟨kd, rfl⟩ : ∃ r : Nat, r15 = r := ⟨r15.toNat, by have := hr15 (by omega); omega⟩
                  have hkd : kd < m := by have := hr15 (by omega); omega
                  have hkdl : (kd : Int) < (m : Int) := by omega
                  have hkd0 : (0 : Int) ≤ (kd : Int) := by omega
                  have hoB15 := hoB.step hS15 hgq hg13
                  have hc15 := hoB15.cellK hkd
                  have hz15 := hoB15.frozenAt (kd * 2)
                  have hK15 : KeepG g w13.heap.size w13 w15 := (KeepG.of_below hb14).trans (KeepG.of_step hS15 hb14.size)
                  have hKS := hK15.set (j := kd * 2) hg2b (.bool false)
                  have hBS0 := hKS.blk hB13 hB13.lt (by omega)
                  have hFS0 := hKS.blk hF13 hF13.lt hgf
                  have hr0 : (w15.setCell ⟨g2, kd * 2, none⟩ (.bool false)).cell? ⟨w.heap.size, 0, none⟩ = some (.int .i64 pr) := (hBS0.cell 0).trans rfl
                  have hf0 : (w15.setCell ⟨g2, kd * 2, none⟩ (.bool false)).cell? ⟨gF, 0, none⟩ = some (.int .i64 p) := (hFS0.cell 0).trans rfl
                  clear hr15 hBS0)
                have hoBS := hoB15.setK (b := false) hkd
                have hCS := hKS.blk hC13 hC13.lt (by omega)
                have hTS := hKS.blk hT13 hT13.lt hbg
                have hMTS := (hKS.mat hMT13 (Nat.le_refl _)).mat
                have hMQS := (hKS.mat hMQ13 (Nat.le_refl _)).mat
                have hITS := (hKS.ints hIT13 (Nat.le_refl _)).1
                have hA1S := hKS.ans hoA hgq hgq (Nat.le_refl _)
                have hA2S := hoBS.ans
                have hbS := hbb13.trans (hKS.below (C := w.heap.size) hbb13.size (by omega))
                have hPS := hP.upto hbS
                have hRS := hR.upto hbS
                have hLS := hL.upto hbS
                have hszS : (w15.setCell ⟨g2, kd * 2, none⟩ (.bool false)).heap.size = w15.heap.size := by simp [World.setCell]
                generalize ks1.set kd false = ks2 at *
                obtain ⟨WS, hWS⟩ : ∃ WS, w15.setCell ⟨g2, kd * 2, none⟩ (.bool false) = WS := ⟨_, rfl⟩
                rw [hWS] at hCS hTS hMTS hMQS hITS hA1S hA2S hbS hPS hRS hLS hszS hr0 hf0
                rw [hWS]
                clear hWS hKS hK15 hFS0 hoB15 hoB hoBS hoA hc15 hz15 hS15 hD15 hD14 hb14 hF13 hB13 hC13 hT13 hMT13 hIT13 hMQ13 hbb13 hr0 hf0
                have hb9W : Below WS.heap.size WS (WS.alloc (.cells #[.int .i64 pr, .int .i64 p] 24)) := bbox _
                have hbW := bnext hbS hb9W
                have hN := Blk.new WS 24 #[.int .i64 pr, .int .i64 p]
                have hCW := hCS.below hb9W hCS.lt
                have hTW := hTS.below hb9W hTS.lt
                have hMTW := hMTS.upto hb9W
                have hMQW := hMQS.upto hb9W
                have hITW := hITS.upto hb9W
                have hA1W := hA1S.upto hb9W
                have hA2W := hA2S.upto hb9W
                have hPW := hPS.upto hb9W
                have hRW := hRS.upto hb9W
                have hLW := hLS.upto hb9W
                obtain ⟨gN, hgNe⟩ : ∃ gN, WS.heap.size = gN := ⟨_, rfl⟩
                obtain ⟨gC, hgC⟩ : ∃ gC, w.heap.size + 1 = gC := ⟨_, rfl⟩
                obtain ⟨W, hW⟩ : ∃ W, WS.alloc (.cells #[.int .i64 pr, .int .i64 p] 24) = W := ⟨_, rfl⟩
                rw [hW] at hbW hN hCW hTW hMTW hMQW hITW hA1W hA2W hPW hRW hLW
                rw [hgNe] at hN
                rw [hgC] at hCW
                have hNl := hN.lt
                have PGS := Lib.hid (two_ofP (P := fun j => ∃ pg : Int, W.cell? ⟨gN, j, none⟩ = some (.int .i64 pg) ∧ -9223372036854775808 ≤ pg ∧ pg ≤ 9223372036854775807) ⟨pr, (hN.cell 0).trans rfl, hpr⟩ ⟨p, (hN.cell 1).trans rfl, by omega⟩)
                have hk6b : k6 ≤ 17592186043904 := by omega
                rw [← hszS, hgNe, hgC, hW]
                clear hszS hgNe hgC hW hb9W hN hbS hCS hTS hMTS hMQS hITS hA1S hA2S hPS hRS hLS hpr h hP hR hL
                go_loopw [166] (fun i wr => ∃ j : Nat, j ≤ 2 ∧ i = .int .i64 j ∧ Below W.heap.size W wr) (fun i _ => 2 - (intOf i).toNat)
                case atStart => exact ⟨0, by omega, rfl, Below.refl _ _⟩
                case round =>
                  as_aux_lemma =>
                    obtain ⟨j, hj2, rfl, hS⟩ := hrel
                    by_cases hj : j < 2
                    · obtain ⟨pg, hpg, hpg64⟩ := PGS.out j hj
                      have hjl : (j : Int) < 2 := by omega
                      have hj0 : (0 : Int) ≤ (j : Int) := by omega
                      have hv0 := (hS.cell (p := ⟨gN, j, none⟩) hNl).trans hpg
                      have hS0 := ballocs hS (.cells #[.int .i64 pg] 24)
                      have hG0 := Blk.new wr 24 #[.int .i64 pg]
                      have hs12 : 0 ≤ sv % 12 ∧ sv % 12 < 12 := ⟨Int.emod_nonneg _ (by omega), Int.emod_lt_of_pos _ (by omega)⟩
                      go_upto_region 23 with fail
                      go_cut [180, 181, 182] (fun s180 s181 s182 wx => s180 = .slice (some ⟨wr.heap.size + 1, 0, none⟩) 3 3 ∧ s181 = .int .i64 3 ∧ s182 = .int .i64 0 ∧ (wr.alloc (.cells #[.int .i64 pg] 24)).alloc (.cells #[.int .i64 ct, .int .i64 sv, .int .i64 N, .int .i64 m, .int .i64 N, .int .i64 (sv % 12)] 45) = wx)
                      case first =>
                        as_aux_lemma =>
                          go_wp2_with (go_at_call 32; refine (mod_any sv 12 _ (by omega) (by omega)).mono ?_; rintro e w' ⟨rfl, rfl⟩)
                          go_meet
                          exact ⟨rfl, rfl, rfl, rfl⟩
                      rename_i K1 hk1 K2 hk2
                      obtain ⟨rfl, rfl, rfl, rfl⟩ := hcut
                      refine hk2 _ _ ?_
                      clear hk2
                      have hS1 := ballocs hS0 (.cells #[.int .i64 ct, .int .i64 sv, .int .i64 N, .int .i64 m, .int .i64 N, .int .i64 (sv % 12)] 45)
                      have hG1 := hG0.alloc (.cells #[.int .i64 ct, .int .i64 sv, .int .i64 N, .int .i64 m, .int .i64 N, .int .i64 (sv % 12)] 45)
                      have hY1 := Blk.new (wr.alloc (.cells #[.int .i64 pg] 24)) 45 #[.int .i64 ct, .int .i64 sv, .int .i64 N, .int .i64 m, .int .i64 N, .int .i64 (sv % 12)]
                      rw [World.size_alloc] at hY1
                      obtain ⟨gP, hgP⟩ : ∃ gP, wr.heap.size = gP := ⟨_, rfl⟩
                      obtain ⟨W1, hW1⟩ : ∃ W1, (wr.alloc (.cells #[.int .i64 pg] 24)).alloc (.cells #[.int .i64 ct, .int .i64 sv, .int .i64 N, .int .i64 m, .int .i64 N, .int .i64 (sv % 12)] 45) = W1 := ⟨_, rfl⟩
                      rw [hW1] at hS1 hG1 hY1
                      rw [hgP] at hG1 hY1
                      have hY1l := hY1.lt
                      have hG1l := hG1.lt
                      have YSS := Lib.hid (three_ofP (P := fun i => ∃ y0 y1 : Int, W1.cell? ⟨gP + 1, i * 2, none⟩ = some (.int .i64 y0) ∧ W1.cell? ⟨gP + 1, i * 2 + 1, none⟩ = some (.int .i64 y1) ∧ (-9223372036854775808 ≤ y0 ∧ y0 ≤ 9223372036854775807) ∧ (-9223372036854775808 ≤ y1 ∧ y1 ≤ 9223372036854775807))
                        ⟨ct, sv, (hY1.cell 0).trans rfl, (hY1.cell 1).trans rfl, hct, hsv⟩ ⟨N, m, (hY1.cell 2).trans rfl, (hY1.cell 3).trans rfl, by omega, by omega⟩ ⟨N, sv % 12, (hY1.cell 4).trans rfl, (hY1.cell 5).trans rfl, by omega, by omega⟩)
                      have hC1 := hCW.below hS1 hCW.lt
                      have hT1 := hTW.below hS1 hTW.lt
                      have hP1 := hPW.upto hS1
                      have hI1 := hITW.upto hS1
                      have hM1 := hMTW.upto hS1
                      have hQ1 := hMQW.upto hS1
                      have hR1 := hRW.upto hS1
                      have hL1 := hLW.upto hS1
                      have hA1 := hA1W.upto hS1
                      have hA2 := hA2W.upto hS1
                      have hS0W := hS1
                      rw [hgP, hW1]
                      clear hgP hW1 hS hS0 hS1 hG0 hY1 hv0 hpg
                      go_cut [182] (fun s182 wx => Below W1.heap.size W1 wx)
                      case first =>
                        as_aux_lemma =>
                          go_wp2_with fail
                          go_loopw [182] (fun i wr => ∃ i2 : Nat, i2 ≤ 3 ∧ i = .int .i64 i2 ∧ Below W1.heap.size W1 wr) (fun i _ => 3 - (intOf i).toNat)
                          case atStart => exact ⟨0, by omega, rfl, Below.refl _ _⟩
                          case round =>
                            as_aux_lemma =>
                              obtain ⟨i2, hi2, rfl, hS⟩ := hrel
                              by_cases hi2' : i2 < 3
                              · obtain ⟨y0, y1, hy0, hy1, hb0, hb1⟩ := YSS.out i2 hi2'
                                have hil2 : (i2 : Int) < 3 := by omega
                                have hi02 : (0 : Int) ≤ (i2 : Int) := by omega
                                have hv20 := (hS.cell (p := ⟨gP + 1, i2 * 2, none⟩) hY1l).trans hy0
                                have hv21 := (hS.cell (p := ⟨gP + 1, i2 * 2 + 1, none⟩) hY1l).trans hy1
                                have hG2 := (hG1.below hS hG1l).alloc (.cells #[.int .i64 y0, .int .i64 y1] 45)
                                have hX2 := Blk.new wr 45 #[.int .i64 y0, .int .i64 y1]
                                have hS2 := ballocs hS (.cells #[.int .i64 y0, .int .i64 y1] 45)
                                have hg2 : (wr.alloc (.cells #[.int .i64 y0, .int .i64 y1] 45)).cell? ⟨gP, 0, none⟩ = some (.int .i64 pg) := (hG2.cell 0).trans rfl
                                have hx20 : (wr.alloc (.cells #[.int .i64 y0, .int .i64 y1] 45)).cell? ⟨wr.heap.size, 0, none⟩ = some (.int .i64 y0) := (hX2.cell 0).trans rfl
                                have hx21 : (wr.alloc (.cells #[.int .i64 y0, .int .i64 y1] 45)).cell? ⟨wr.heap.size, 1, none⟩ = some (.int .i64 y1) := (hX2.cell 1).trans rfl
                                obtain ⟨lr, le, HLR⟩ := pairE (plimR pg y0 y1)
                                have HLL := Lib.hid (plimR_len pg y0 y1)
                                have HSL : Hid (sameL lr lr = true) := Lib.hid (sameL_iff.2 rfl)
                                go_wp2_with (first
                                  | (go_at_call 82; refine (vecE HLR HLL (plimits_all pg y0 y1 _ hpg64)).mono ?_; rintro e w4 ⟨U1, un1, uc1, rfl, hU1, hun1, hb4⟩
                                     have hS4 := bnext hS2 hb4
                                     have hG4 := hG2.below hb4 hG2.lt
                                     have hX4 := hX2.below hb4 hX2.lt
                                     have hg4 : w4.cell? ⟨gP, 0, none⟩ = some (.int .i64 pg) := (hG4.cell 0).trans rfl
                                     have hx40 := (hX4.cell 0).trans rfl
                                     have hx41 := (hX4.cell 1).trans rfl
                                     have hUI4 := hU1.ints
                                     clear hb4 hU1)
                                  | (go_at_call 79; refine (vecE HLR HLL (rplimits_all pg y0 y1 _)).mono ?_; rintro e w5 ⟨U2, un2, uc2, rfl, hU2, hun2, hb5⟩
                                     have hS5 := bnext hS4 hb5
                                     have hG5 := hG4.below hb5 hG4.lt
                                     have hX5 := hX4.below hb5 hX4.lt
                                     have hUI5 := hUI4.upto hb5
                                     have hVI5 := hU2.ints
                                     obtain rfl : un1 = un2 := by rw [← hUI5.len, ← hVI5.len]
                                     clear hb5 hU2 hUI4)
                                  | (go_at_call 27; (with_reducible refine (same_any U1 U2 un1 un1 uc1 uc2 lr lr _ hUI5 hVI5 hun1 hun1).mono ?_); rintro e w' ⟨rfl, q6, rfl⟩; rw [HSL.out]
                                     have hS6 := below_drewN hS5 q6
                                     have hG6 := Blk.drewN hG5 q6
                                     have hX6 := Blk.drewN hX5 q6
                                     have hC6 := hC1.below hS6 hC1.lt
                                     have hT6 := hT1.below hS6 hT1.lt
                                     have hc60 := (hC6.cell 0).trans rfl
                                     have hc61 := (hC6.cell 1).trans rfl
                                     have ht60 := (hT6.cell 0).trans rfl
                                     have ht61 := (hT6.cell 1).trans rfl))
                                obtain ⟨w6, hw6⟩ : ∃ w6, w5.drewN q6 = w6 := ⟨_, rfl⟩
                                rw [hw6] at hS6 hG6 hX6 hC6 hT6
                                have hw6s : w6.heap.size = w5.heap.size := by rw [← hw6]; simp
                                rw [hw6]
                                clear hw6 hc60 hc61 ht60 ht61 hS5 hG5 hX5 hUI5 hVI5 hS4 hG4 hX4 hx40 hx41 hg4 hg2 hx20 hx21 hG2 hX2 hS2
                                have hb67 : Below w6.heap.size w6 (w6.alloc (.cells #[.slice P lp cp, .int .i64 pa, .slice T6 k6 tc6, .int .i64 0] 62)) := bbox _
                                have hS7 := bnext hS6 hb67
                                have hM7 := Blk.new w6 62 #[.slice P lp cp, .int .i64 pa, .slice T6 k6 tc6, .int .i64 0]
                                have hG7 := hG6.below hb67 hG6.lt
                                have hX7 := hX6.below hb67 hX6.lt
                                obtain ⟨gM, hgM⟩ : ∃ gM, w6.heap.size = gM := ⟨_, rfl⟩
                                obtain ⟨gX, hgX⟩ : ∃ gX, wr.heap.size = gX := ⟨_, rfl⟩
                                obtain ⟨W3, hW3⟩ : ∃ W3, w6.alloc (.cells #[.slice P lp cp, .int .i64 pa, .slice T6 k6 tc6, .int .i64 0] 62) = W3 := ⟨_, rfl⟩
                                rw [hW3] at hS7 hM7 hG7 hX7
                                rw [hgM] at hM7
                                rw [hgX] at hX7
                                have hM7l := hM7.lt
                                have hG7l := hG7.lt
                                have hX7l := hX7.lt
                                have TSS := Lib.hid (two_ofP (P := fun i => ∃ (Z : Option Addr) (zn zc : Nat) (za : Int) (zs : List Int), W3.cell? ⟨gM, i * 2, none⟩ = some (.slice Z zn zc) ∧ W3.cell? ⟨gM, i * 2 + 1, none⟩ = some (.int .i64 za) ∧ Ints W3 W3.heap.size Z zn zs ∧ zn ≤ 17592186043904)
                                  ⟨P, lp, cp, pa, ps, (hM7.cell 0).trans rfl, (hM7.cell 1).trans rfl, hP1.upto hS7, hlp⟩ ⟨T6, k6, tc6, 0, ds, (hM7.cell 2).trans rfl, (hM7.cell 3).trans rfl, hI1.upto hS7, hk6b⟩)
                                rw [hgX, hW3, ← hw6s, hgM]
                                clear hgM hgX hW3 hM7 hb67 hS6 hG6 hX6 hC6 hT6 hw6s hv20 hv21 hy0 hy1
                                go_loopw [217] (fun i wr => ∃ i4 : Nat, i4 ≤ 2 ∧ i = .int .i64 i4 ∧ Below W3.heap.size W3 wr) (fun i _ => 2 - (intOf i).toNat)
                                case atStart => exact ⟨0, by omega, rfl, Below.refl _ _⟩
                                case round =>
                                  as_aux_lemma =>
                                    obtain ⟨i4, hi4, rfl, hS⟩ := hrel
                                    by_cases hi4' : i4 < 2
                                    · obtain ⟨Z, zn, zc, za, zs, hz0, hz1, hZI, hzn⟩ := TSS.out i4 hi4'
                                      have hil4 : (i4 : Int) < 2 := by omega
                                      have hi04 : (0 : Int) ≤ (i4 : Int) := by omega
                                      have hv40 := (hS.cell (p := ⟨gM, i4 * 2, none⟩) hM7l).trans hz0
                                      have hv41 := (hS.cell (p := ⟨gM, i4 * 2 + 1, none⟩) hM7l).trans hz1
                                      go_wp2_with (go_at_call 32; refine (mod_any ix N _ (by omega) (by omega)).mono ?_; rintro e w' ⟨rfl, rfl⟩; rw [HIA.out])
                                      have hS4 := ballocs (ballocs hS (.cells #[.slice Z zn zc, .int .i64 za] 62)) (.cells #[.int .i64 ix, .int .i64 ia] 3)
                                      have hB4 := (Blk.new wr 62 #[.slice Z zn zc, .int .i64 za]).alloc (.cells #[.int .i64 ix, .int .i64 ia] 3)
                                      have hJ4 := Blk.new (wr.alloc (.cells #[.slice Z zn zc, .int .i64 za] 62)) 3 #[.int .i64 ix, .int .i64 ia]
                                      rw [World.size_alloc] at hJ4
                                      obtain ⟨gZ, hgZ⟩ : ∃ gZ, wr.heap.size = gZ := ⟨_, rfl⟩
                                      obtain ⟨W5, hW5⟩ : ∃ W5, (wr.alloc (.cells #[.slice Z zn zc, .int .i64 za] 62)).alloc (.cells #[.int .i64 ix, .int .i64 ia] 3) = W5 := ⟨_, rfl⟩
                                      rw [hW5] at hS4 hB4 hJ4
                                      rw [hgZ] at hB4 hJ4
                                      have hJ4l := hJ4.lt
                                      have hB4l := hB4.lt
                                      have hG8 := hG7.below hS4 hG7l
                                      have hX8 := hX7.below hS4 hX7l
                                      have hG8l := hG8.lt
                                      have hX8l := hX8.lt
                                      have ISS := Lib.hid (two_ofP (P := fun i => ∃ iv : Int, W5.cell? ⟨gZ + 1, i, none⟩ = some (.int .i64 iv)) ⟨ix, (hJ4.cell 0).trans rfl⟩ ⟨ia, (hJ4.cell 1).trans rfl⟩)
                                      have hZ5 := hZI.upto hS4
                                      rw [hgZ, hW5]
                                      clear hgZ hW5 hS hJ4 hv40 hv41 hz0 hz1
                                      go_loopw [227] (fun i wr => ∃ i5 : Nat, i5 ≤ 2 ∧ i = .int .i64 i5 ∧ Below W5.heap.size W5 wr) (fun i _ => 2 - (intOf i).toNat)
                                      case atStart => exact ⟨0, by omega, rfl, Below.refl _ _⟩
                                      case round =>
                                        as_aux_lemma =>
                                          obtain ⟨i5, hi5, rfl, hS⟩ := hrel
                                          by_cases hi5' : i5 < 2
                                          · obtain ⟨iv, hiv⟩ := ISS.out i5 hi5'
                                            have hil5 : (i5 : Int) < 2 := by omega
                                            have hi05 : (0 : Int) ≤ (i5 : Int) := by omega
                                            have hv5 := (hS.cell (p := ⟨gZ + 1, i5, none⟩) hJ4l).trans hiv
                                            have hG9 := hG8.below hS hG8l
                                            have hX9 := hX8.below hS hX8l
                                            have hB9 := hB4.below hS hB4l
                                            have hg9 : wr.cell? ⟨gP, 0, none⟩ = some (.int .i64 pg) := (hG9.cell 0).trans rfl
                                            have hx90 : wr.cell? ⟨gX, 0, none⟩ = some (.int .i64 y0) := (hX9.cell 0).trans rfl
                                            have hx91 : wr.cell? ⟨gX, 1, none⟩ = some (.int .i64 y1) := (hX9.cell 1).trans rfl
                                            have hb90 : wr.cell? ⟨gZ, 0, none⟩ = some (.slice Z zn zc) := (hB9.cell 0).trans rfl
                                            have hb91 : wr.cell? ⟨gZ, 1, none⟩ = some (.int .i64 za) := (hB9.cell 1).trans rfl
                                            have hZ9 := hZ5.upto hS
                                            have HTL := Lib.hid (queR_tlen pg y0 y1 iv zn za zs)
                                            have HZL := Lib.hid hZ9.len
                                            obtain ⟨qs, xs', av', er, HQR⟩ := quadE (queR pg y0 y1 iv zn za zs)
                                            rw [HQR.out] at HTL
                                            have HTB : Hid (xs'.length ≤ 17592186043904) := Lib.hid (by have h8 := HTL.out; have h9 := HZL.out; dsimp only at h8; omega)
                                            have HQS : Hid ((qs == qs) = true) := Lib.hid (by simp)
                                            have HSA : Hid ((av' == av' && xs' == xs') = true) := Lib.hid (by simp)
                                            go_wp2_with (first
                                              | (go_at_call 83; refine (pque_all pg y0 y1 iv Z zn zc za zs _ hpg64 hZ9).mono ?_; rw [HQR.out]; rintro e w10 ⟨⟨A10', m10, c10, T10, tk10, tc10, rfl, hM10, hm10, _, hI10⟩, hb10⟩
                                                 have hS10 := ballocs (bnext hS hb10) (.cells #[.slice T10 tk10 tc10, .int .i64 av'] 62)
                                                 have hbx10 : Below w10.heap.size w10 (w10.alloc (.cells #[.slice T10 tk10 tc10, .int .i64 av'] 62)) := bbox _
                                                 have hG10 := (hG9.below hb10 hG9.lt).below hbx10 (hG9.below hb10 hG9.lt).lt
                                                 have hX10 := (hX9.below hb10 hX9.lt).below hbx10 (hX9.below hb10 hX9.lt).lt
                                                 have hB10 := (hB9.below hb10 hB9.lt).below hbx10 (hB9.below hb10 hB9.lt).lt
                                                 have hE10 := Blk.new w10 62 #[.slice T10 tk10 tc10, .int .i64 av']
                                                 have hg10 : (w10.alloc (.cells #[.slice T10 tk10 tc10, .int .i64 av'] 62)).cell? ⟨gP, 0, none⟩ = some (.int .i64 pg) := (hG10.cell 0).trans rfl
                                                 have hx100 := (hX10.cell 0).trans rfl
                                                 have hx101 := (hX10.cell 1).trans rfl
                                                 have hb100 := (hB10.cell 0).trans rfl
                                                 have hb101 := (hB10.cell 1).trans rfl
                                                 have hZ10 := (hZ9.upto hb10).upto hbx10
                                                 have hMM10 := hM10.upto hbx10
                                                 have hII10 := hI10.upto hbx10
                                                 clear hb10 hM10 hI10)
                                              | (go_at_call 80; refine (rpque_all pg y0 y1 iv Z zn zc za zs _ hZ10).mono ?_; rw [HQR.out]; rintro e w11 ⟨⟨A11, m11, c11, T11, tk11, tc11, rfl, hM11, hm11, _, hI11⟩, hb11⟩
                                                 have hS11 := ballocs (bnext hS10 hb11) (.cells #[.slice T11 tk11 tc11, .int .i64 av'] 62)
                                                 have hbx11 : Below w11.heap.size w11 (w11.alloc (.cells #[.slice T11 tk11 tc11, .int .i64 av'] 62)) := bbox _
                                                 have hE11 := (hE10.below hb11 hE10.lt).below hbx11 (hE10.below hb11 hE10.lt).lt
                                                 have hF11 := Blk.new w11 62 #[.slice T11 tk11 tc11, .int .i64 av']
                                                 have hMM11 := (hMM10.upto hb11).upto hbx11
                                                 have hII11 := (hII10.upto hb11).upto hbx11
                                                 have hMN11 := hM11.upto hbx11
                                                 have hIJ11 := hI11.upto hbx11
                                                 obtain rfl : m10 = m11 := by rw [← hMM11.len, ← hMN11.len]
                                                 obtain rfl : tk10 = tk11 := by rw [← hII11.len, ← hIJ11.len]
                                                 have hkk : tk10 ≤ 17592186043904 := by rw [← hII11.len]; exact HTB.out
                                                 clear hb11 hM11 hI11)
                                              | (go_at_call 84; (refine (sameRows_any A10' A11 m10 m10 c10 c11 qs qs _ hMM11 hMN11 (by omega)).mono ?_); rintro e w12 ⟨rfl, q12, rfl⟩; rw [HQS.out]
                                                 have hS12 := below_drewN hS11 q12
                                                 have hE12 := Blk.drewN hE11 q12
                                                 have hF12 := Blk.drewN hF11 q12
                                                 have he120 := (hE12.cell 0).trans rfl
                                                 have he121 := (hE12.cell 1).trans rfl
                                                 have hf120 := (hF12.cell 0).trans rfl
                                                 have hf121 := (hF12.cell 1).trans rfl
                                                 have hII12 := hII11.upto (below_drewN (Below.refl _ _) q12)
                                                 have hIJ12 := hIJ11.upto (below_drewN (Below.refl _ _) q12))
                                              | (go_at_call 58; (refine (rsame_any T10 T11 tk10 tk10 tc10 tc11 av' av' xs' xs' _ hII12 hIJ12 (by omega) (by omega)).mono ?_); rintro e w13 ⟨rfl, hb13⟩; rw [HSA.out]
                                                 have hS13 := bnext hS12 hb13))
                                            go_roundw
                                            case rel => exact ⟨i5 + 1, by omega, by go_num, hS13⟩
                                            case measure => simp [intOf]; omega
                                          · have hi5e : ¬ (i5 : Int) < 2 := by omega
                                            have hS10 := hS4.trans (hS.mono hS4.size)
                                            go_wp2
                                            go_roundw
                                            case rel => exact ⟨i4 + 1, by omega, by go_num, hS10⟩
                                            case measure => simp [intOf]; omega
                                    · have hi4e : ¬ (i4 : Int) < 2 := by omega
                                      have hS8 := hS7.trans (hS.mono hS7.size)
                                      go_wp2
                                      go_roundw
                                      case rel => exact ⟨i2 + 1, by omega, by go_num, hS8⟩
                                      case measure => simp [intOf]; omega
                              · have hi2e : ¬ (i2 : Int) < 3 := by omega
                                go_wp2
                                go_meet
                                exact hS
                      obtain ⟨w2', hqw2'⟩ : ∃ v, v = wc := ⟨_, rfl⟩
                      subst hqw2'
                      have hS := hcut
                      refine hk1 _ _ ?_
                      clear hk1 hcut
                      as_aux_lemma =>
                        have hQ9 := hQ1.upto hS
                        obtain ⟨bq, oq, A0, n0, c0, rfl, _, hbq9, hq0c9, hn0, hI09, _⟩ := hQ9.at_ (j := 0) (by omega)
                        rw [Nat.add_zero] at hq0c9
                        generalize QL.getD 0 [] = q0 at *
                        have hR9 := hR1.upto hS
                        have hM9 := hM1.upto hS
                        have hG9 := hG1.below hS hG1l
                        have hL9 := hL1.upto hS
                        have hA19 := hA1.upto hS
                        have hA29 := hA2.upto hS
                        have hS9 := hS0W.trans (hS.mono hS0W.size)
                        have hq1 : (1 : Int) ≤ (cq : Int) := by omega
                        have hcq0 : ¬ cq = 0 := by omega
                        go_upto_region 43 with fail
                        go_cut [277, 278, 279] (fun s277 s278 s279 wx => s277 = .slice (some ⟨w2'.heap.size, 0, none⟩) 4 4 ∧ s278 = .int .i64 4 ∧ s279 = .int .i64 0 ∧ w2'.alloc (.cells #[.slice R lr cr, .slice (some ⟨bq, oq, none⟩) m cq, .slice (some ⟨bq, oq, none⟩) 1 cq, .slice none 0 0] 25) = wx)
                        case first =>
                          as_aux_lemma =>
                            go_wp2_with fail
                            go_meet
                            exact ⟨rfl, rfl, rfl, rfl⟩
                        rename_i K1 hk1 K2 hk2
                        obtain ⟨rfl, rfl, rfl, rfl⟩ := hcut
                        refine hk2 _ _ ?_
                        clear hk2
                        have hb10 : Below w2'.heap.size w2' (w2'.alloc (.cells #[.slice R lr cr, .slice (some ⟨bq, oq, none⟩) m cq, .slice (some ⟨bq, oq, none⟩) 1 cq, .slice none 0 0] 25)) := bbox _
                        have hS6W := hS9.trans (hb10.mono hS9.size)
                        have hK6 := Blk.new w2' 25 #[.slice R lr cr, .slice (some ⟨bq, oq, none⟩) m cq, .slice (some ⟨bq, oq, none⟩) 1 cq, .slice none 0 0]
                        have hQ6 := hQ9.upto hb10
                        have hR6 := hR9.upto hb10
                        have hM6 := hM9.upto hb10
                        have hL6 := hL9.upto hb10
                        have hA16 := hA19.upto hb10
                        have hA26 := hA29.upto hb10
                        have hI06 := hI09.upto hb10
                        have hG6 := hG9.below hb10 hG9.lt
                        have hq0c6 := (hb10.cell (p := ⟨bq, oq, none⟩) hbq9).trans hq0c9
                        obtain ⟨gK, hgK⟩ : ∃ gK, w2'.heap.size = gK := ⟨_, rfl⟩
                        obtain ⟨W6, hW6⟩ : ∃ W6, w2'.alloc (.cells #[.slice R lr cr, .slice (some ⟨bq, oq, none⟩) m cq, .slice (some ⟨bq, oq, none⟩) 1 cq, .slice none 0 0] 25) = W6 := ⟨_, rfl⟩
                        rw [hW6] at hS6W hK6 hQ6 hR6 hM6 hL6 hA16 hA26 hI06 hG6 hq0c6
                        rw [hgK] at hK6
                        have hbq6 : bq < W6.heap.size := by (have h9 := hK6.lt); omega
                        have hK6l := hK6.lt
                        have hG6l := hG6.lt
                        have MSS := Lib.hid (four_ofP (P := fun i => ∃ (Z : Option Addr) (zn zc : Nat) (rr : List (List Int)) (lo : Nat), W6.cell? ⟨gK, i, none⟩ = some (.slice Z zn zc) ∧ Mat W6 lo W6.heap.size Z zn rr ∧ zn ≤ 17592186044416)
                          ⟨R, lr, cr, rows0, 0, (hK6.cell 0).trans rfl, hR6, by omega⟩ ⟨_, m, cq, QL, 0, (hK6.cell 1).trans rfl, hQ6, by omega⟩ ⟨_, 1, cq, QL.take 1, 0, (hK6.cell 2).trans rfl, hQ6.takeP (by omega), by omega⟩ ⟨none, 0, 0, [], 0, (hK6.cell 3).trans rfl, Mat.nilQ, by omega⟩)
                        rw [hgK, hW6]
                        clear hgK hW6 hS hb10 hK6 hS9 hQ9 hR9 hM9 hL9 hA19 hA29 hI09 hG9 hq0c9 hbq9
                        go_cut [279] (fun s279 wx => Below W6.heap.size W6 wx)
                        case first =>
                          as_aux_lemma =>
                            go_wp2_with fail
                            go_loopw [279] (fun i wr => ∃ i6 : Nat, i6 ≤ 4 ∧ i = .int .i64 i6 ∧ Below W6.heap.size W6 wr) (fun i _ => 4 - (intOf i).toNat)
                            case atStart => exact ⟨0, by omega, rfl, Below.refl _ _⟩
                            case round =>
                              as_aux_lemma =>
                                obtain ⟨i6, hi6, rfl, hS⟩ := hrel
                                by_cases hi6' : i6 < 4
                                · obtain ⟨Z, zn, zc, rr, lo, hzv, hZI, hzn⟩ := MSS.out i6 hi6'
                                  have hil6 : (i6 : Int) < 4 := by omega
                                  have hi06 : (0 : Int) ≤ (i6 : Int) := by omega
                                  have hv6 := (hS.cell (p := ⟨gK, i6, none⟩) hK6l).trans hzv
                                  have hG8 := hG6.below hS hG6l
                                  have hg8 : wr.cell? ⟨gP, 0, none⟩ = some (.int .i64 pg) := (hG8.cell 0).trans rfl
                                  have hZ8 := hZI.upto hS
                                  obtain ⟨wa, wb, we, HWR⟩ := triE (wanR pg rr)
                                  go_wp2_with (first
                                    | (go_at_call 85; refine (pwanted_all pg Z zn zc lo rr _ hpg64 hZ8 hzn).mono ?_; rw [HWR.out]; rintro e w10 ⟨rfl, hb10⟩
                                       have hS10 := bnext hS hb10
                                       have hG10 := hG8.below hb10 hG8.lt
                                       have hg10' : w10.cell? ⟨gP, 0, none⟩ = some (.int .i64 pg) := (hG10.cell 0).trans rfl
                                       have hZ10 := hZ8.upto hb10
                                       clear hb10)
                                    | (go_at_call 86; refine (rwanted_all pg Z zn zc lo rr _ hZ10 hzn).mono ?_; rw [HWR.out]; rintro e w11 ⟨rfl, hb11⟩
                                       have hS11 := bnext hS10 hb11))
                                  go_roundw
                                  case rel => exact ⟨i6 + 1, by omega, by go_num, hS11⟩
                                  case measure => simp [intOf]; omega
                                · have hi6e : ¬ (i6 : Int) < 4 := by omega
                                  go_wp2
                                  go_meet
                                  exact hS
                        obtain ⟨w3', hqw3'⟩ : ∃ v, v = wc := ⟨_, rfl⟩
                        subst hqw3'
                        have hS := hcut
                        refine hk1 _ _ ?_
                        clear hk1 hcut
                        as_aux_lemma =>
                          have hS9 := hS6W.trans (hS.mono hS6W.size)
                          have hR9 := hR6.upto hS
                          have hM9 := hM6.upto hS
                          have hL9 := hL6.upto hS
                          have hA19 := hA16.upto hS
                          have hA29 := hA26.upto hS
                          have hI09 := hI06.upto hS
                          have hG9 := hG6.below hS hG6l
                          have hq0c9 := (hS.cell (p := ⟨bq, oq, none⟩) hbq6).trans hq0c6
                          have hbq9 : bq < w3'.heap.size := Nat.lt_of_lt_of_le hbq6 hS.size
                          go_upto_region 51 with fail
                          go_cut [313, 314, 315] (fun s313 s314 s315 wx => s313 = .slice (some ⟨w3'.heap.size, 0, none⟩) 2 2 ∧ s314 = .int .i64 2 ∧ s315 = .int .i64 0 ∧ w3'.alloc (.cells #[.slice R lr cr, .slice A10 N ca] 25) = wx)
                          case first =>
                            as_aux_lemma =>
                              go_wp2_with fail
                              go_meet
                              exact ⟨rfl, rfl, rfl, rfl⟩
                          rename_i K1 hk1 K2 hk2
                          obtain ⟨rfl, rfl, rfl, rfl⟩ := hcut
                          refine hk2 _ _ ?_
                          clear hk2
                          have hb10 : Below w3'.heap.size w3' (w3'.alloc (.cells #[.slice R lr cr, .slice A10 N ca] 25)) := bbox _
                          have hS7W := hS9.trans (hb10.mono hS9.size)
                          have hK7 := Blk.new w3' 25 #[.slice R lr cr, .slice A10 N ca]
                          have hR7 := hR9.upto hb10
                          have hM7 := hM9.upto hb10
                          have hL7 := hL9.upto hb10
                          have hA17 := hA19.upto hb10
                          have hA27 := hA29.upto hb10
                          have hI07 := hI09.upto hb10
                          have hG7 := hG9.below hb10 hG9.lt
                          have hq0c7 := (hb10.cell (p := ⟨bq, oq, none⟩) hbq9).trans hq0c9
                          clear MSS hK6l
                          obtain ⟨gK, hgK⟩ : ∃ gK, w3'.heap.size = gK := ⟨_, rfl⟩
                          obtain ⟨W7, hW7⟩ : ∃ W7, w3'.alloc (.cells #[.slice R lr cr, .slice A10 N ca] 25) = W7 := ⟨_, rfl⟩
                          rw [hW7] at hS7W hK7 hR7 hM7 hL7 hA17 hA27 hI07 hG7 hq0c7
                          rw [hgK] at hK7
                          have hbq7 : bq < W7.heap.size := by (have h9 := hK7.lt); omega
                          have hK7l := hK7.lt
                          have hG7l := hG7.lt
                          have RSS := Lib.hid (two_ofP (P := fun i => ∃ (Z : Option Addr) (zn zc : Nat) (rr : List (List Int)) (lo : Nat), W7.cell? ⟨gK, i, none⟩ = some (.slice Z zn zc) ∧ Mat W7 lo W7.heap.size Z zn rr ∧ zn ≤ 17592186044416)
                            ⟨R, lr, cr, rows0, 0, (hK7.cell 0).trans rfl, hR7, by omega⟩ ⟨A10, N, ca, rows, 0, (hK7.cell 1).trans rfl, hM7, by omega⟩)
                          rw [hgK, hW7]
                          clear hgK hW7 hS hb10 hK7 hS9 hR9 hM9 hL9 hA19 hA29 hI09 hG9 hq0c9 hbq9 hR7 hM7
                          go_cut [315] (fun s315 wx => Below W7.heap.size W7 wx)
                          case first =>
                            as_aux_lemma =>
                              go_wp2_with fail
                              go_loopw [315] (fun i wr => ∃ i6 : Nat, i6 ≤ 2 ∧ i = .int .i64 i6 ∧ Below W7.heap.size W7 wr) (fun i _ => 2 - (intOf i).toNat)
                              case atStart => exact ⟨0, by omega, rfl, Below.refl _ _⟩
                              case round =>
                                as_aux_lemma =>
                                  obtain ⟨i6, hi6, rfl, hS⟩ := hrel
                                  by_cases hi6' : i6 < 2
                                  · obtain ⟨Z, zn, zc, rr, lo, hzv, hZI, hzn⟩ := RSS.out i6 hi6'
                                    have hil6 : (i6 : Int) < 2 := by omega
                                    have hi06 : (0 : Int) ≤ (i6 : Int) := by omega
                                    have hv6 := (hS.cell (p := ⟨gK, i6, none⟩) hK7l).trans hzv
                                    have hG8 := hG7.below hS hG7l
                                    have hZ8 := hZI.upto hS
                                    have hq8 := (hS.cell (p := ⟨bq, oq, none⟩) hbq7).trans hq0c7
                                    have hI8 := hI07.upto hS
                                    obtain ⟨rs, er, HLR⟩ := pairE (combR pg q0 rr wd)
                                    have HLL := Lib.hid (combR_len pg q0 rr wd)
                                    have HSL : Hid (sameL rs rs = true) := Lib.hid (sameL_iff.2 rfl)
                                    have hbql : bq < wr.heap.size := Nat.lt_of_lt_of_le hbq7 hS.size
                                    have hg8c : wr.cell? ⟨gP, 0, none⟩ = some (.int .i64 pg) := (hG8.cell 0).trans rfl
                                    have hQ0 : Below wr.heap.size wr wr.drew := (Below.refl _ wr).drew
                                    have hh0 : wr.drew.cell? ⟨gP, 0, none⟩ = some (.int .i64 pg) ∧ wr.drew.cell? ⟨bq, oq, none⟩ = some (.slice A0 n0 c0) := ⟨hg8c, hq8⟩
                                    have hmk : (0 : Int) < (m : Int) := by omega
                                    have hmk2 : 0 < m := by omega
                                    go_upto_region 54 with fail
                                    go_cut [64, 65] (fun s64 s65 wx => ∃ (A : Option Addr) (n c : Nat), s64 = .slice A n c ∧ s65 = .int .i64 er ∧ Ints wx wx.heap.size A n rs ∧ n ≤ 17592186044416 ∧ Below wr.heap.size wr wx)
                                    case first =>
                                      as_aux_lemma =>
                                        go_region_held3 (fun w' => w'.cell? ⟨gP, 0, none⟩ = some (.int .i64 pg) ∧ w'.cell? ⟨bq, oq, none⟩ = some (.slice A0 n0 c0)) (first | exact hh0 | exact hh1)
                                          (first
                                            | (go_at_call 87; refine (vecE HLR HLL (panswer_all pg wd A0 Z n0 zn c0 zc q0 rr _ hpg64 (hI8.upto hQ0) (hZ8.upto hQ0) hn0 (by omega))).mono ?_; rintro e w10 ⟨A', n', c', rfl, hO', hn', hb'⟩
                                               have hb10 : Below wr.heap.size wr w10 := bnext hQ0 hb'
                                               have hh1 : w10.cell? ⟨gP, 0, none⟩ = some (.int .i64 pg) ∧ w10.cell? ⟨bq, oq, none⟩ = some (.slice A0 n0 c0) := ⟨(hb10.cell (p := ⟨gP, 0, none⟩) hG8.lt).trans hh0.1, (hb10.cell (p := ⟨bq, oq, none⟩) hbql).trans hh0.2⟩))
                                        all_goals go_wp2_with fail
                                        all_goals go_meet
                                        all_goals exact ⟨A', n', c', rfl, rfl, hO'.ints, hn', hb10⟩
                                    case rest =>
                                      as_aux_lemma =>
                                        obtain ⟨B8, n8', b8, rfl, rfl, hB8, hnB8, hb8'⟩ := hcut
                                        obtain ⟨w8', hw8'⟩ : ∃ w8', w8' = wc := ⟨_, rfl⟩
                                        subst hw8'
                                        have hS8 := bnext hS hb8'
                                        have hG9 := hG8.below hb8' hG8.lt
                                        have hZ9 := hZ8.upto hb8'
                                        have hI9 := hI8.upto hb8'
                                        have hbql' : bq < w8'.heap.size := Nat.lt_of_lt_of_le hbql hb8'.size
                                        have hh0' : w8'.drew.cell? ⟨gP, 0, none⟩ = some (.int .i64 pg) ∧ w8'.drew.cell? ⟨bq, oq, none⟩ = some (.slice A0 n0 c0) := ⟨(hG9.cell 0).trans rfl, (hb8'.cell (p := ⟨bq, oq, none⟩) hbql).trans hq8⟩
                                        have hg9c : w8'.cell? ⟨gP, 0, none⟩ = some (.int .i64 pg) := hh0'.1
                                        have hq9c : w8'.cell? ⟨bq, oq, none⟩ = some (.slice A0 n0 c0) := hh0'.2
                                        clear hh0 hQ0 hg8c hq8 hv6 hb8' hZ8 hI8 hG8 hbql
                                        have hQ0 : Below w8'.heap.size w8' w8'.drew := (Below.refl _ w8').drew
                                        have hh0 := hh0'
                                        have hbql := hbql'
                                        go_upto_region 55 with fail
                                        go_cut [66, 67] (fun s66 s67 wx => ∃ (A : Option Addr) (n c : Nat), s66 = .slice A n c ∧ s67 = .int .i64 er ∧ Ints wx wx.heap.size A n rs ∧ n ≤ 17592186044416 ∧ Below w8'.heap.size w8' wx)
                                        case first =>
                                          as_aux_lemma =>
                                            go_region_held3 (fun w' => w'.cell? ⟨gP, 0, none⟩ = some (.int .i64 pg) ∧ w'.cell? ⟨bq, oq, none⟩ = some (.slice A0 n0 c0)) (first | exact hh0 | exact hh1)
                                              (first
                                                | (go_at_call 88; refine (vecE HLR HLL (ranswer_all pg wd A0 Z n0 zn c0 zc q0 rr _ (hI9.upto hQ0) (hZ9.upto hQ0) hn0 (by omega))).mono ?_; rintro e w10 ⟨A', n', c', rfl, hO', hn', hb'⟩
                                                   have hb10 : Below w8'.heap.size w8' w10 := bnext hQ0 hb'
                                                   have hh1 : w10.cell? ⟨gP, 0, none⟩ = some (.int .i64 pg) ∧ w10.cell? ⟨bq, oq, none⟩ = some (.slice A0 n0 c0) := ⟨(hb10.cell (p := ⟨gP, 0, none⟩) hG9.lt).trans hh0.1, (hb10.cell (p := ⟨bq, oq, none⟩) hbql).trans hh0.2⟩))
                                            all_goals go_wp2_with fail
                                            all_goals go_meet
                                            all_goals exact ⟨A', n', c', rfl, rfl, hO'.ints, hn', hb10⟩
                                        case rest =>
                                          as_aux_lemma =>
                                            obtain ⟨C8, n9', b9, rfl, rfl, hC8, hnC8, hb9'⟩ := hcut
                                            have hS9 := bnext hS8 hb9'
                                            have hB9 := hB8.upto hb9'
                                            obtain rfl : n8' = n9' := by rw [← hB9.len, ← hC8.len]
                                            go_wp2_with (go_at_call 27; (with_reducible refine (same_any B8 C8 n8' n8' b8 b9 rs rs _ hB9 hC8 hnB8 hnB8).mono ?_); rintro e w' ⟨rfl, q6, rfl⟩; rw [HSL.out]
                                                         have hS10 := below_drewN hS9 q6)
                                            go_roundw
                                            case rel => exact ⟨i6 + 1, by omega, by go_num, hS10⟩
                                            case measure => simp [intOf]; omega
                                  · have hi6e : ¬ (i6 : Int) < 2 := by omega
                                    go_wp2
                                    go_meet
                                    exact hS
                          obtain ⟨w4', hqw4'⟩ : ∃ v, v = wc := ⟨_, rfl⟩
                          subst hqw4'
                          have hS := hcut
                          refine hk1 _ _ ?_
                          clear hk1 hcut
                          as_aux_lemma =>
                            have hS8W := hS7W.trans (hS.mono hS7W.size)
                            have hG8 := hG7.below hS hG7l
                            have hL8 := hL7.upto hS
                            have hA18 := hA17.upto hS
                            have hA28 := hA27.upto hS
                            go_upto_region 59 with fail
                            go_cut [352, 353, 354] (fun s352 s353 s354 wx => s352 = .slice (some ⟨w4'.heap.size, 0, none⟩) 3 3 ∧ s353 = .int .i64 3 ∧ s354 = .int .i64 0 ∧ w4'.alloc (.cells #[.slice L ll cl, .slice (some ⟨g1, 0, none⟩) m lc1, .slice (some ⟨g2, 0, none⟩) m c14] 87) = wx)
                            case first =>
                              as_aux_lemma =>
                                go_wp2_with fail
                                go_meet
                                exact ⟨rfl, rfl, rfl, rfl⟩
                            rename_i K1 hk1 K2 hk2
                            obtain ⟨rfl, rfl, rfl, rfl⟩ := hcut
                            refine hk2 _ _ ?_
                            clear hk2
                            have hb8 : Below w4'.heap.size w4' (w4'.alloc (.cells #[.slice L ll cl, .slice (some ⟨g1, 0, none⟩) m lc1, .slice (some ⟨g2, 0, none⟩) m c14] 87)) := bbox _
                            have hS8W' := hS8W.trans (hb8.mono hS8W.size)
                            have hA8 := Blk.new w4' 87 #[.slice L ll cl, .slice (some ⟨g1, 0, none⟩) m lc1, .slice (some ⟨g2, 0, none⟩) m c14]
                            have hG8' := hG8.below hb8 hG8.lt
                            obtain ⟨gA, hgA⟩ : ∃ gA, w4'.heap.size = gA := ⟨_, rfl⟩
                            obtain ⟨W8, hW8⟩ : ∃ W8, w4'.alloc (.cells #[.slice L ll cl, .slice (some ⟨g1, 0, none⟩) m lc1, .slice (some ⟨g2, 0, none⟩) m c14] 87) = W8 := ⟨_, rfl⟩
                            have hL8' := hL8.upto hb8
                            have hA18' := hA18.upto hb8
                            have hA28' := hA28.upto hb8
                            rw [hW8] at hS8W' hA8 hG8' hL8' hA18' hA28'
                            rw [hgA] at hA8
                            have hA8l := hA8.lt
                            have ASS := Lib.hid (three_ofP (P := fun i => ∃ (Z : Option Addr) (zn zc : Nat) (kk : List Bool) (aa : List (List Int)), W8.cell? ⟨gA, i, none⟩ = some (.slice Z zn zc) ∧ Ans W8 W8.heap.size Z zn kk aa)
                              ⟨L, ll, cl, ks0, as0, (hA8.cell 0).trans rfl, hL8'⟩ ⟨_, m, lc1, ks1, rs1, (hA8.cell 1).trans rfl, hA18'⟩ ⟨_, m, c14, ks2, rs1, (hA8.cell 2).trans rfl, hA28'⟩)
                            rw [hgA, hW8]
                            clear hgA hW8 hS hb8 hA8 hS8W hG8 hL8 hA18 hA28 hL8' hA18' hA28'
                            have hG8 := hG8'
                            have hG8l := hG8.lt
                            have hS8W := hS8W'
                            clear hG8' hS8W'
                            go_wp2_with fail
                            go_loopw [354] (fun i wr => ∃ i6 : Nat, i6 ≤ 3 ∧ i = .int .i64 i6 ∧ Below W8.heap.size W8 wr) (fun i _ => 3 - (intOf i).toNat)
                            case atStart => exact ⟨0, by omega, rfl, Below.refl _ _⟩
                            case round =>
                              as_aux_lemma =>
                                obtain ⟨i6, hi6, rfl, hS⟩ := hrel
                                by_cases hi6' : i6 < 3
                                · obtain ⟨Z, zn, zc, kk, aa, hzv, hAn⟩ := ASS.out i6 hi6'
                                  have hil6 : (i6 : Int) < 3 := by omega
                                  have hi06 : (0 : Int) ≤ (i6 : Int) := by omega
                                  have hv6 := (hS.cell (p := ⟨gA, i6, none⟩) hA8l).trans hzv
                                  go_wp2_with fail
                                  have hb9 : Below wr.heap.size wr (wr.alloc (.cells #[.int .i64 wd0, .int .i64 wd] 3)) := bbox _
                                  have hS9 := bnext hS hb9
                                  have hD9 := Blk.new wr 3 #[.int .i64 wd0, .int .i64 wd]
                                  have hG9 := (hG8.below hS hG8l).below hb9 (hG8.below hS hG8l).lt
                                  have hAn9 := (hAn.upto hS).upto hb9
                                  obtain ⟨gD, hgD⟩ : ∃ gD, wr.heap.size = gD := ⟨_, rfl⟩
                                  obtain ⟨W9, hW9⟩ : ∃ W9, wr.alloc (.cells #[.int .i64 wd0, .int .i64 wd] 3) = W9 := ⟨_, rfl⟩
                                  rw [hW9] at hS9 hD9 hG9 hAn9
                                  rw [hgD] at hD9
                                  have hD9l := hD9.lt
                                  have hG9l := hG9.lt
                                  have DSS := Lib.hid (two_ofP (P := fun i => ∃ kv : Int, W9.cell? ⟨gD, i, none⟩ = some (.int .i64 kv)) ⟨wd0, (hD9.cell 0).trans rfl⟩ ⟨wd, (hD9.cell 1).trans rfl⟩)
                                  rw [hgD, hW9]
                                  clear hgD hW9 hS hb9 hv6 hzv hD9
                                  go_loopw [362] (fun i wr => ∃ i7 : Nat, i7 ≤ 2 ∧ i = .int .i64 i7 ∧ Below W9.heap.size W9 wr) (fun i _ => 2 - (intOf i).toNat)
                                  case atStart => exact ⟨0, by omega, rfl, Below.refl _ _⟩
                                  case round =>
                                    as_aux_lemma =>
                                      obtain ⟨i7, hi7, rfl, hS⟩ := hrel
                                      by_cases hi7' : i7 < 2
                                      · obtain ⟨kv, hkv⟩ := DSS.out i7 hi7'
                                        have hil7 : (i7 : Int) < 2 := by omega
                                        have hi07 : (0 : Int) ≤ (i7 : Int) := by omega
                                        have hv7 := (hS.cell (p := ⟨gD, i7, none⟩) hD9l).trans hkv
                                        have hG10 := hG9.below hS hG9l
                                        have hg10' : wr.cell? ⟨gP, 0, none⟩ = some (.int .i64 pg) := (hG10.cell 0).trans rfl
                                        have hA10 := hAn9.upto hS
                                        have HDL := Lib.hid (decR_len pg kv zn kk aa hA10.2.1)
                                        obtain ⟨rs, er, HDR⟩ := pairE (decR pg kv zn kk aa)
                                        rw [HDR.out] at HDL
                                        go_wp2_with (first
                                          | (go_at_call 89; refine (pdecode_all pg Z zn zc kv kk aa _ hpg64 hA10).mono ?_; rw [HDR.out]; rintro e w11 ⟨⟨A11, n11, c11, rfl, hO11⟩, hb11⟩
                                             have hS11 := ballocs (bnext hS hb11) (.cells #[.slice A11 n11 c11, .slice none 0 0] 99)
                                             have hbx11 : Below w11.heap.size w11 (w11.alloc (.cells #[.slice A11 n11 c11, .slice none 0 0] 99)) := bbox _
                                             have hG11 := (hG10.below hb11 hG10.lt).below hbx11 (hG10.below hb11 hG10.lt).lt
                                             have hg11 : (w11.alloc (.cells #[.slice A11 n11 c11, .slice none 0 0] 99)).cell? ⟨gP, 0, none⟩ = some (.int .i64 pg) := (hG11.cell 0).trans rfl
                                             have hE11 := Blk.new w11 99 #[.slice A11 n11 c11, .slice none 0 0]
                                             have hA11 := (hA10.upto hb11).upto hbx11
                                             have hI11 := hO11.ints.upto hbx11
                                             clear hb11 hO11)
                                          | (go_at_call 90; refine (rpdecode_all pg Z zn zc kv kk aa _ hA11).mono ?_; rw [HDR.out]; rintro e w12 ⟨⟨A12, n12, c12, rfl, hO12⟩, hb12⟩
                                             have hS12 := ballocs (bnext hS11 hb12) (.cells #[.slice A12 n12 c12, .slice none 0 0] 99)
                                             have hbx12 : Below w12.heap.size w12 (w12.alloc (.cells #[.slice A12 n12 c12, .slice none 0 0] 99)) := bbox _
                                             have hE12 := (hE11.below hb12 hE11.lt).below hbx12 (hE11.below hb12 hE11.lt).lt
                                             have hF12 := Blk.new w12 99 #[.slice A12 n12 c12, .slice none 0 0]
                                             have hI12 := (hI11.upto hb12).upto hbx12
                                             have hJ12 := hO12.ints.upto hbx12
                                             have he0 := (hE12.cell 0).trans rfl
                                             have he1 := (hE12.cell 1).trans rfl
                                             have hf0 := (hF12.cell 0).trans rfl
                                             have hf1 := (hF12.cell 1).trans rfl
                                             obtain rfl : n11 = n12 := by rw [← hI12.len, ← hJ12.len]
                                             have hnn : n11 ≤ 17592186044416 := by rw [← hI12.len]; exact HDL.out
                                             clear hb12 hO12)
                                          | (go_at_call 91; refine (rsameF_yes A11 A12 n11 c11 c12 rs _ hI12 hJ12 hnn).mono ?_; rintro e w13 ⟨rfl, hb13⟩
                                             have hS13 := bnext hS12 hb13))
                                        go_roundw
                                        case rel => exact ⟨i7 + 1, by omega, by go_num, hS13⟩
                                        case measure => simp [intOf]; omega
                                      · have hi7e : ¬ (i7 : Int) < 2 := by omega
                                        have hS14 := hS9.trans (hS.mono hS9.size)
                                        go_wp2
                                        go_roundw
                                        case rel => exact ⟨i6 + 1, by omega, by go_num, hS14⟩
                                        case measure => simp [intOf]; omega
                                · have hi6e : ¬ (i6 : Int) < 3 := by omega
                                  have hS15 := hS8W.trans (hS.mono hS8W.size)
                                  go_wp2
                                  go_roundw
                                  case rel => exact ⟨j + 1, by omega, by go_num, hS15⟩
                                  case measure => simp [intOf]; omega
                    · have hje : ¬ (j : Int) < 2 := by omega
                      go_wp2
                      go_ret
                      exact ⟨rfl, hbW.trans (hS.mono hbW.size)⟩
      · have HBD := Lib.hid (bad_ofP hgd)
        clear hgd
        have hRw := hR.upto hbb2
        rcases HBD.out with h1 | ⟨h1, h2⟩ | ⟨h1, h2, h3⟩ | ⟨h1, h2, h3, h4⟩
        · have hd : decide (n ≤ 500) = false := by simpa using h1
          go_wp2_with (first
            | (go_at_call 16; refine (few_any T n c _).mono ?_; rintro e w' ⟨rfl, rfl⟩))
          go_ret
          exact ⟨rfl, hbb2⟩
        · have hd : decide (n ≤ 500) = true := by simpa using h1
          have HSD : Hid (decide (smW rows0 lr < 1500) = false) := Lib.hid (by rw [HSM.out]; simpa using h2)
          go_wp2_with (first
            | (go_at_call 16; refine (few_any T n c _).mono ?_; rintro e w' ⟨rfl, rfl⟩)
            | (go_at_call 78; refine (small_any R lr cr rows0 _ hRw (by omega)).mono ?_; rintro e w' ⟨rfl, rfl⟩; rw [HSD.out]))
          go_ret
          exact ⟨rfl, hbb2⟩
        all_goals
          have hd : decide (n ≤ 500) = true := by simpa using h1
          have HSD : Hid (decide (smW rows0 lr < 1500) = true) := Lib.hid (by rw [HSM.out]; simpa using h2)
          go_wp2_with (first
            | (go_at_call 16; refine (few_any T n c _).mono ?_; rintro e w' ⟨rfl, rfl⟩)
            | (go_at_call 78; refine (small_any R lr cr rows0 _ hRw (by omega)).mono ?_; rintro e w' ⟨rfl, rfl⟩; rw [HSD.out]))
          go_ret
          exact ⟨rfl, hbb2⟩
end Go.Proofs.Ytoblofilaegnaaa
