/-
  ParityDoes returns true: the walk of the law. Conditions: none beyond the reading of its arguments.
-/
import Derived.Test.YtoblofilaegnaaaAnsAll
import Derived.Test.YtoblofilaegnaaaAnsApp
import Derived.Test.YtoblofilaegnaaaPWanAll
import Derived.Test.YtoblofilaegnaaaRWan
import Derived.Test.YtoblofilaegnaaaRQue
import Derived.Test.YtoblofilaegnaaaS16
import Derived.Test.YtoblofilaegnaaaMTape
import Derived.Test.YtoblofilaegnaaaMkRows
import Derived.Test.YtoblofilaegnaaaFld
import Derived.Test.YtoblofilaegnaaaGBO
import Derived.Test.YtoblofilaegnaaaLoopF
namespace Go.Proofs.Ytoblofilaegnaaa
open Go.RowKit
set_option linter.unusedVariables false

theorem two_ofP {P : Nat → Prop} (h0 : P 0) (h1 : P 1) : ∀ i, i < 2 → P i := by
  intro i hi
  have : i = 0 ∨ i = 1 := by omega
  rcases this with rfl | rfl
  · exact h0
  · exact h1
theorem three_ofP {P : Nat → Prop} (h0 : P 0) (h1 : P 1) (h2 : P 2) : ∀ i, i < 3 → P i := by
  intro i hi
  have : i = 0 ∨ i = 1 ∨ i = 2 := by omega
  rcases this with rfl | rfl | rfl
  · exact h0
  · exact h1
  · exact h2
theorem four_ofP {P : Nat → Prop} (h0 : P 0) (h1 : P 1) (h2 : P 2) (h3 : P 3) : ∀ i, i < 4 → P i := by
  intro i hi
  have : i = 0 ∨ i = 1 ∨ i = 2 ∨ i = 3 := by omega
  rcases this with rfl | rfl | rfl | rfl
  · exact h0
  · exact h1
  · exact h2
  · exact h3
/-- The own tape in its box and the table; only the deck, and what is new, has turned since w0. -/
def ParCut (g NN N : Nat) (p : Int) (T : Option Addr) (n c : Nat) (xs : List Int) (w0 : World) (s29 s30 : Value) (wx : World) : Prop :=
  ∃ (b : Nat) (T6 : Option Addr) (k6 tc6 : Nat) (ds : List Int) (A : Option Addr) (ca : Nat) (rows : List (List Int)) (q bT bR : Nat), s29 = .pointer (some ⟨b, 0, none⟩) ∧ s30 = .slice A N ca ∧ Blk wx b 62 #[.slice T6 k6 tc6, .int .i64 0] ∧ w0.heap.size ≤ b ∧
    (OwnI wx bT 3 T6 k6 tc6 ds ∧ g < bT) ∧ (OwnM wx bR bR 22 A N ca rows ∧ g < bR) ∧ (NN ≤ k6 ∧ k6 ≤ NN + 2) ∧ (∀ i, i < NN → 0 ≤ ds.getD i 0 ∧ ds.getD i 0 < p) ∧ Deck wx g T n c xs q ∧ Step g w0 wx
theorem ParCut.new {g NN N : Nat} {p : Int} {T : Option Addr} {n c : Nat} {xs : List Int} {w0 w9 : World} {T6 : Option Addr} {k6 tc6 : Nat} {ds : List Int} {A : Option Addr} {ca : Nat} {rows : List (List Int)} {q bT bR : Nat}
    (hT : OwnI w9 bT 3 T6 k6 tc6 ds) (hgT : g < bT) (hM : OwnM w9 bR bR 22 A N ca rows) (hgR : g < bR) (hk : NN ≤ k6 ∧ k6 ≤ NN + 2) (hds : ∀ i, i < NN → 0 ≤ ds.getD i 0 ∧ ds.getD i 0 < p) (hD : Deck w9 g T n c xs q) (hS : Step g w0 w9) :
    ParCut g NN N p T n c xs w0 (.pointer (some ⟨w9.heap.size, 0, none⟩)) (.slice A N ca) (w9.alloc (.cells #[.slice T6 k6 tc6, .int .i64 0] 62)) :=
  ⟨_, T6, k6, tc6, ds, A, ca, rows, q, bT, bR, rfl, rfl, Blk.new _ _ _, hS.size, ⟨hT.alloc _, hgT⟩, ⟨hM.belowAll (bbox _), hgR⟩, hk, hds, hD.alloc _, hS.alloc _⟩
theorem ParCut.box {g NN N : Nat} {p : Int} {T : Option Addr} {n c : Nat} {xs : List Int} {w0 w9 : World} {T6 : Option Addr} {k6 tc6 : Nat} {ds : List Int} {A : Option Addr} {ca : Nat} {rows : List (List Int)} {q bT bR b : Nat} {u v : Value}
    (hT : OwnI w9 bT 3 T6 k6 tc6 ds) (hgT : g < bT) (hM : OwnM w9 bR bR 22 A N ca rows) (hgR : g < bR) (hk : NN ≤ k6 ∧ k6 ≤ NN + 2) (hds : ∀ i, i < NN → 0 ≤ ds.getD i 0 ∧ ds.getD i 0 < p) (hD : Deck w9 g T n c xs q) (hS : Step g w0 w9)
    (hB : Blk w9 b 62 #[u, v]) (hTb : (Value.slice T6 k6 tc6).ownBlock ≠ some b) (hbR : b < bR) (hb : w0.heap.size ≤ b) (hg : g < w0.heap.size) :
    ParCut g NN N p T n c xs w0 (.pointer (some ⟨b, 0, none⟩)) (.slice A N ca) ((w9.setCell ⟨b, 0, none⟩ (.slice T6 k6 tc6)).setCell ⟨b, 1, none⟩ (.int .i64 0)) := by
  have hs : Step b w9 ((w9.setCell ⟨b, 0, none⟩ (.slice T6 k6 tc6)).setCell ⟨b, 1, none⟩ (.int .i64 0)) := ((Step.refl b w9).set 0 _).set 1 _
  exact ⟨b, T6, k6, tc6, ds, A, ca, rows, q, bT, bR, rfl, rfl, (hB.set_ 0 _).set_ 1 _, hb, ⟨hT.kept (row := some b) hs (.inr hTb), hgT⟩, ⟨hM.step hs hbR hbR, hgR⟩, hk, hds, (hD.setCell (p := ⟨b, 0, none⟩) (by show g < b; omega) _).setCell (p := ⟨b, 1, none⟩) (by show g < b; omega) _, (hS.setNew (p := ⟨b, 0, none⟩) hb _).setNew (p := ⟨b, 1, none⟩) hb _⟩
theorem Mat.lo_ {w : World} {lo lo2 B n : Nat} {A : Option Addr} {rows : List (List Int)} (h : Mat w lo B A n rows) (hl : lo2 ≤ lo) : Mat w lo2 B A n rows :=
  ⟨h.1, fun hn => by
    obtain ⟨b, off, e, h1, h2, hc⟩ := h.2 hn
    refine ⟨b, off, e, by omega, h2, fun j hj => ?_⟩
    obtain ⟨A', n', c', k1, k2, k3, k4⟩ := hc j hj
    exact ⟨A', n', c', k1, k2, k3, fun h0 b off s e => by have := k4 h0 b off s e; omega⟩⟩
/-- The queries; only what is new has turned since w0. -/
def QCut (m : Nat) (QL : List (List Int)) (w0 : World) (s : Value) (wx : World) : Prop := ∃ (A : Option Addr) (c2 : Nat), s = .slice A m c2 ∧ Mat wx w0.heap.size wx.heap.size A m QL ∧ m ≤ c2 ∧ Below w0.heap.size w0 wx
theorem QCut.new {m lo : Nat} {QL : List (List Int)} {w0 w9 : World} {A : Option Addr} {c2 : Nat} (hM : Mat w9 lo w9.heap.size A m QL) (hc : m ≤ c2) (hb : Below w0.heap.size w0 w9) (hlo : w0.heap.size ≤ lo) (o : Obj) : QCut m QL w0 (.slice A m c2) (w9.alloc o) := ⟨A, c2, rfl, (hM.upto (bbox o)).lo_ hlo, hc, ballocs hb o⟩
theorem QCut.box {m lo b : Nat} {QL : List (List Int)} {w0 w9 : World} {A : Option Addr} {c2 : Nat} (hM : Mat w9 lo w9.heap.size A m QL) (hc : m ≤ c2) (hb : Below w0.heap.size w0 w9) (hb0 : w0.heap.size ≤ b) (hbl : b < lo) (u v : Value) : QCut m QL w0 (.slice A m c2) ((w9.setCell ⟨b, 0, none⟩ u).setCell ⟨b, 1, none⟩ v) :=
  ⟨A, c2, rfl, (hM.step (((Step.refl b w9).set 0 u).set 1 v) hbl).lo_ (by omega), hc, (hb.setCell (p := ⟨b, 0, none⟩) hb0 u).setCell (p := ⟨b, 1, none⟩) hb0 v⟩
/-- Which of the law's bounds is not kept, the first one. -/
theorem bad_ofP {n lp : Nat} {sm ns : Int} (h : ¬ (n ≤ 500 ∧ sm < 1500 ∧ lp ≤ 500 ∧ ns ≤ 1000)) : ¬ n ≤ 500 ∨ (n ≤ 500 ∧ ¬ sm < 1500) ∨ (n ≤ 500 ∧ sm < 1500 ∧ (500 : Int) < (lp : Int)) ∨ (n ≤ 500 ∧ sm < 1500 ∧ ¬ (500 : Int) < (lp : Int) ∧ 1000 < ns) := by omega

theorem queR_own {p : Int} {N m s1 i k6 NN : Nat} {ds : List Int} (hok : okP p = true) (hp : 2 ≤ p ∧ p ≤ 65521) (hN : 1 ≤ N ∧ N ≤ 5) (hm : 2 ≤ m ∧ m ≤ 4) (hs : s1 + 1 = m) (hNN : N * s1 = NN) (hi : i < N) (hl : ds.length = k6) (hk : NN ≤ k6 ∧ k6 ≤ NN + 2) (hd : ∀ j, j < NN → 0 ≤ ds.getD j 0 ∧ ds.getD j 0 < p) (hb : NN ≤ 15) :
    ∃ (QL : List (List Int)) (av : Int), queR p N m i k6 0 ds = (QL, ds, av, 0) ∧ QL.length = m := by
  have hz := sizeE_yes (p := p) (r := N) (s := m) hok (by omega)
  have he : drawsE ds k6 0 p ((s1 * N : Nat) : Int) = 0 := by
    rw [Nat.mul_comm, hNN]
    exact draws_zero 0 NN hp hl (by omega) (by omega) (fun j _ h2 => hd j (by omega))
  refine ⟨_, _, (queR_yes N s1 i hz rfl (by omega) rfl hi).trans (if_pos he), ?_⟩
  simp [quesL, chunkL_len, hs]

theorem OwnA.cellK {w : World} {base lo n c g : Nat} {ks : List Bool} {rows : List (List Int)} (h : OwnA w base lo (some ⟨g, 0, none⟩) n c ks rows) {j : Nat} (hj : j < n) : w.cell? ⟨g, j * 2, none⟩ = some (.bool (ks.getD j false)) := by
  obtain ⟨hk, _, vs, hv, hown, _⟩ := h
  exact (World.ownsRow.cellAt hown (j * 2) (by omega)).trans (ansV_at ks vs (by omega) j (by omega)).1
theorem Mat.takeP {w : World} {lo B : Nat} {A : Option Addr} {n k : Nat} {rows : List (List Int)} (h : Mat w lo B A n rows) (hk : k ≤ n) : Mat w lo B A k (rows.take k) := by
  refine ⟨by rw [List.length_take, h.1]; omega, fun h0 => ?_⟩
  obtain ⟨b, off, e, hl, hb, hc⟩ := h.2 (by omega)
  refine ⟨b, off, e, hl, hb, fun j hj => ?_⟩
  obtain ⟨A', n', c', h1, h2, h3, h4⟩ := hc j (by omega)
  refine ⟨A', n', c', h1, h2, ?_, h4⟩
  have : (rows.take k).getD j [] = rows.getD j [] := by rw [List.getD_eq_getElem?_getD, List.getElem?_take, if_pos hj, List.getD_eq_getElem?_getD]
  rw [this]; exact h3
theorem queR_tlen (p r s i : Int) (tn : Nat) (ta : Int) (ts : List Int) : (queR p r s i tn ta ts).2.1.length ≤ ts.length := by
  unfold queR
  split
  · exact Nat.le_refl _
  · exact Nat.zero_le _
theorem quadE {α β γ δ : Type} (r : α × β × γ × δ) : ∃ a b c d, Hid (r = (a, b, c, d)) := ⟨r.1, r.2.1, r.2.2.1, r.2.2.2, Lib.hid rfl⟩
theorem triE {α β γ : Type} (r : (α × β) × γ) : ∃ a b c, Hid (r = ((a, b), c)) := ⟨r.1.1, r.1.2, r.2, Lib.hid rfl⟩

set_option maxHeartbeats 200000000 in
set_option maxRecDepth 100000 in
noncomputable def parityDoes_walk_0 : {G : Prop × Prop // (Unit → G.1) → (Unit → G.2) → ∀ (T : Option Addr) (n c : Nat) (xs : List Int) (pr : Int) (P : Option Addr) (lp cp : Nat) (ps : List Int) (pa : Int) (R : Option Addr) (lr cr : Nat) (rows0 : List (List Int)) (ct sv ix wd0 : Int) (L : Option Addr) (ll cl : Nat) (ks0 : List Bool) (as0 : List (List Int)) (w : World)
    (h : Ints w w.heap.size T n xs) (hpr : -9223372036854775808 ≤ pr ∧ pr ≤ 9223372036854775807) (hP : Ints w w.heap.size P lp ps) (hlp : lp ≤ 17592186043904) (hR : Mat w 0 w.heap.size R lr rows0) (hlr : lr ≤ 17592186043904)
    (hct : -9223372036854775808 ≤ ct ∧ ct ≤ 9223372036854775807) (hsv : -9223372036854775808 ≤ sv ∧ sv ≤ 9223372036854775807) (hix : -9223372036854775808 ≤ ix ∧ ix ≤ 9223372036854775807) (hwd : -9223372036854775808 ≤ wd0 ∧ wd0 ≤ 9223372036854775807) (hL : Ans w w.heap.size L ll ks0 as0) (hll : ll ≤ 17592186043904), Calls Try.prog 9 #[.slice T n c, .agg #[.int .i64 pr], .agg #[.slice P lp cp, .int .i64 pa], .slice R lr cr, .int .i64 ct, .int .i64 sv, .int .i64 ix, .int .i64 wd0, .slice L ll cl] w fun e w' => e = .returned (.bool true) ∧ Below w.heap.size w w'} := ⟨(_, _), fun hK1 hK2 => by
  intro T n c xs pr P lp cp ps pa R lr cr rows0 ct sv ix wd0 L ll cl ks0 as0 w h hpr hP hlp hR hlr hct hsv hix hwd hL hll
  have hb0 : Below w.heap.size w ((w.alloc (.cells #[.int .i64 pr] 24)).alloc (.cells #[.slice P lp cp, .int .i64 pa] 62)) := ballocs (bbox _) _
  have hB0 := (Blk.new w 24 #[.int .i64 pr]).alloc (.cells #[.slice P lp cp, .int .i64 pa] 62)
  have hC0 := Blk.new1 w (.cells #[.int .i64 pr] 24) 62 #[.slice P lp cp, .int .i64 pa]
  obtain ⟨sm, hsm⟩ : ∃ sm, smW rows0 lr = sm := ⟨_, rfl⟩
  obtain ⟨ns, hns⟩ : ∃ ns, smW as0 ll = ns := ⟨_, rfl⟩
  have HSM := Lib.hid hsm
  have HNS := Lib.hid hns
  clear hsm hns
  go_enter Try.func9, Try.ntmps9
  go_upto_region 4 with (go_at_call 77; refine (sane16_any _).mono ?_; rintro e w1 ⟨rfl, hb1⟩
                         have hbb1 := bnext hb0 hb1
                         have hB1 := hB0.below hb1 hB0.lt
                         have hC1 := hC0.below hb1 hC0.lt
                         clear hb0 hB0 hC0 hb1)
  go_cut [78, 79, 80] (fun s78 s79 s80 wx => s78 = .slice L ll cl ∧ s79 = .int .i64 ll ∧ s80 = .int .i64 0 ∧ w1 = wx)
  case first =>
    go_wp2_with fail
    go_meet
    exact ⟨rfl, rfl, rfl, rfl⟩
  rename_i K1 hk1 K2 hk2
  obtain ⟨rfl, rfl, rfl, rfl⟩ := hcut
  refine hk2 _ _ ?_
  clear hk2
  go_cut [19] (fun s19 wx => s19 = .int .i64 ns ∧ Below w1.heap.size w1 wx)
  case first =>
    (rename_i z0 z1 z2 z3 z4; revert T n c xs pr P lp cp ps pa R lr cr rows0 ct sv ix wd0 L ll cl ks0 as0 w h hpr hP hlp hR hlr hct hsv hix hwd hL hll sm ns HSM HNS z0 w1 hbb1 hB1 hC1 K1 hk1 K2 u32 u76 u77 u81 u82 u83 u84 u85 u86 u87 u88 u89 u90 u91 u92 u93 u94 u95 u96 u97 u98 u99 u100 u101 u102 u103 u104 u105 u106 u107 u108 u109 u110 u111 u112 u113 u114 u115 u116 u117 u118 u119 u120 u121 u122 u123 u124 u125 u126 u127 u128 u129 u130 u131 u132 u133 u134 u135 u136 u137 u138 u139 u140 u141 u142 u143 u144 u145 u146 u147 u148 u149 u150 u151 u152 u153 u154 u155 u156 u157 u158 u159 u160 u161 u162 u163 u167 u168 u169 u170 u171 u172 u173 u174 u175 u176 u177 u178 u179 u183 u184 u185 u186 u187 u188 u189 u190 u191 u192 u193 u194 u195 u196 u197 u198 u199 u200 u201 u202 u203 u204 u205 u206 u207 u208 u209 u210 u211 u212 u213 u214 u218 u219 u220 u221 u222 u223 u224 u228 u229 u230 u231 u232 u233 u234 u235 u236 u237 u238 u239 u240 u241 u242 u243 u244 u245 u246 u247 u248 u249 u250 u251 u252 u253 u254 u255 u256 u257 u258 u259 u260 u261 u262 u263 u264 u265 u266 u267 u268 u269 u270 u271 u272 u273 u274 u275 u276 u280 u281 u282 u283 u284 u285 u286 u287 u288 u289 u290 u291 u292 u293 u294 u295 u296 u297 u298 u299 u300 u301 u302 u303 u304 u305 u306 u307 u308 u309 u310 u311 u312 u316 u317 u318 u319 u320 u321 u322 u323 u324 u325 u326 u327 u328 u329 u330 u331 u332 u333 u334 u335 u336 u337 u338 u339 u340 u341 u342 u343 u344 u345 u346 u347 u348 u349 u350 u351 u355 u356 u357 u358 u359 u363 u364 u365 u366 u367 u368 u369 u370 u371 u372 u373 u374 u375 u376 u377 u378 u379 u380 u381 u382 u383 u384 u385 u386 u387 u388 u389 u390 u391 z1 z2 z3 z4; exact hK1 ())
  case rest =>
    (rename_i z0 z1 z2 z3 z4 z5 z6 z7 z8 z9 z10; clear z1 z2 z3 z4 z5 z6 z7 z8 z9 z10; revert T n c xs pr P lp cp ps pa R lr cr rows0 ct sv ix wd0 L ll cl ks0 as0 w h hpr hP hlp hR hlr hct hsv hix hwd hL hll sm ns HSM HNS z0 w1 hbb1 hB1 hC1 K1 hk1 K2 u32 u76 u77 u91 u92 u93 u94 u95 u96 u97 u98 u99 u100 u101 u102 u103 u104 u105 u106 u107 u108 u109 u110 u111 u112 u113 u114 u115 u116 u117 u118 u119 u120 u121 u122 u123 u124 u125 u126 u127 u128 u129 u130 u131 u132 u133 u134 u135 u136 u137 u138 u139 u140 u141 u142 u143 u144 u145 u146 u147 u148 u149 u150 u151 u152 u153 u154 u155 u156 u157 u158 u159 u160 u161 u162 u163 u167 u168 u169 u170 u171 u172 u173 u174 u175 u176 u177 u178 u179 u183 u184 u185 u186 u187 u188 u189 u190 u191 u192 u193 u194 u195 u196 u197 u198 u199 u200 u201 u202 u203 u204 u205 u206 u207 u208 u209 u210 u211 u212 u213 u214 u218 u219 u220 u221 u222 u223 u224 u228 u229 u230 u231 u232 u233 u234 u235 u236 u237 u238 u239 u240 u241 u242 u243 u244 u245 u246 u247 u248 u249 u250 u251 u252 u253 u254 u255 u256 u257 u258 u259 u260 u261 u262 u263 u264 u265 u266 u267 u268 u269 u270 u271 u272 u273 u274 u275 u276 u280 u281 u282 u283 u284 u285 u286 u287 u288 u289 u290 u291 u292 u293 u294 u295 u296 u297 u298 u299 u300 u301 u302 u303 u304 u305 u306 u307 u308 u309 u310 u311 u312 u316 u317 u318 u319 u320 u321 u322 u323 u324 u325 u326 u327 u328 u329 u330 u331 u332 u333 u334 u335 u336 u337 u338 u339 u340 u341 u342 u343 u344 u345 u346 u347 u348 u349 u350 u351 u355 u356 u357 u358 u359 u363 u364 u365 u366 u367 u368 u369 u370 u371 u372 u373 u374 u375 u376 u377 u378 u379 u380 u381 u382 u383 u384 u385 u386 u387 u388 u389 u390 u391 wc u19 u21 u80 u81 u82 u83 u84 u85 u86 u87 u88 u89 u90 hcut; exact hK2 ())⟩

set_option maxHeartbeats 200000000 in
set_option maxRecDepth 100000 in
noncomputable def parityDoes_walk_0_1 : {G : Prop // (Unit → G) → parityDoes_walk_0.1.1} := ⟨_, fun hK1 => by
  intro T n c xs pr P lp cp ps pa R lr cr rows0 ct sv ix wd0 L ll cl ks0 as0 w h hpr hP hlp hR hlr hct hsv hix hwd hL hll sm ns HSM HNS _ w1 hbb1 hB1 hC1 K1 hk1 K2 u32 u76 u77 u81 u82 u83 u84 u85 u86 u87 u88 u89 u90 u91 u92 u93 u94 u95 u96 u97 u98 u99 u100 u101 u102 u103 u104 u105 u106 u107 u108 u109 u110 u111 u112 u113 u114 u115 u116 u117 u118 u119 u120 u121 u122 u123 u124 u125 u126 u127 u128 u129 u130 u131 u132 u133 u134 u135 u136 u137 u138 u139 u140 u141 u142 u143 u144 u145 u146 u147 u148 u149 u150 u151 u152 u153 u154 u155 u156 u157 u158 u159 u160 u161 u162 u163 u167 u168 u169 u170 u171 u172 u173 u174 u175 u176 u177 u178 u179 u183 u184 u185 u186 u187 u188 u189 u190 u191 u192 u193 u194 u195 u196 u197 u198 u199 u200 u201 u202 u203 u204 u205 u206 u207 u208 u209 u210 u211 u212 u213 u214 u218 u219 u220 u221 u222 u223 u224 u228 u229 u230 u231 u232 u233 u234 u235 u236 u237 u238 u239 u240 u241 u242 u243 u244 u245 u246 u247 u248 u249 u250 u251 u252 u253 u254 u255 u256 u257 u258 u259 u260 u261 u262 u263 u264 u265 u266 u267 u268 u269 u270 u271 u272 u273 u274 u275 u276 u280 u281 u282 u283 u284 u285 u286 u287 u288 u289 u290 u291 u292 u293 u294 u295 u296 u297 u298 u299 u300 u301 u302 u303 u304 u305 u306 u307 u308 u309 u310 u311 u312 u316 u317 u318 u319 u320 u321 u322 u323 u324 u325 u326 u327 u328 u329 u330 u331 u332 u333 u334 u335 u336 u337 u338 u339 u340 u341 u342 u343 u344 u345 u346 u347 u348 u349 u350 u351 u355 u356 u357 u358 u359 u363 u364 u365 u366 u367 u368 u369 u370 u371 u372 u373 u374 u375 u376 u377 u378 u379 u380 u381 u382 u383 u384 u385 u386 u387 u388 u389 u390 u391 _ _ _ _
  go_wp2_with fail
  go_loopw [19, 80] (fun v i wr => ∃ k : Nat, k ≤ ll ∧ i = .int .i64 k ∧ v = .int .i64 (smW as0 k) ∧ Below w1.heap.size w1 wr) (fun _ i _ => ll - (intOf i).toNat)
  case atStart => exact ⟨0, Nat.zero_le _, rfl, rfl, Below.refl _ _⟩
  case round =>
    (rename_i z0 z1 z2 z3 z4 z5 z6 z7 z8 z9 z10 z11 z12 z13 z14; clear z1 z2 z3 z4 z5 z6 z7 z8 z9 z10; revert T n c xs pr P lp cp ps pa R lr cr rows0 ct sv ix wd0 L ll cl ks0 as0 w h hpr hP hlp hR hlr hct hsv hix hwd hL hll sm ns HSM HNS z0 w1 hbb1 hB1 hC1 K1 hk1 K2 u32 u76 u77 u91 u92 u93 u94 u95 u96 u97 u98 u99 u100 u101 u102 u103 u104 u105 u106 u107 u108 u109 u110 u111 u112 u113 u114 u115 u116 u117 u118 u119 u120 u121 u122 u123 u124 u125 u126 u127 u128 u129 u130 u131 u132 u133 u134 u135 u136 u137 u138 u139 u140 u141 u142 u143 u144 u145 u146 u147 u148 u149 u150 u151 u152 u153 u154 u155 u156 u157 u158 u159 u160 u161 u162 u163 u167 u168 u169 u170 u171 u172 u173 u174 u175 u176 u177 u178 u179 u183 u184 u185 u186 u187 u188 u189 u190 u191 u192 u193 u194 u195 u196 u197 u198 u199 u200 u201 u202 u203 u204 u205 u206 u207 u208 u209 u210 u211 u212 u213 u214 u218 u219 u220 u221 u222 u223 u224 u228 u229 u230 u231 u232 u233 u234 u235 u236 u237 u238 u239 u240 u241 u242 u243 u244 u245 u246 u247 u248 u249 u250 u251 u252 u253 u254 u255 u256 u257 u258 u259 u260 u261 u262 u263 u264 u265 u266 u267 u268 u269 u270 u271 u272 u273 u274 u275 u276 u280 u281 u282 u283 u284 u285 u286 u287 u288 u289 u290 u291 u292 u293 u294 u295 u296 u297 u298 u299 u300 u301 u302 u303 u304 u305 u306 u307 u308 u309 u310 u311 u312 u316 u317 u318 u319 u320 u321 u322 u323 u324 u325 u326 u327 u328 u329 u330 u331 u332 u333 u334 u335 u336 u337 u338 u339 u340 u341 u342 u343 u344 u345 u346 u347 u348 u349 u350 u351 u355 u356 u357 u358 u359 u363 u364 u365 u366 u367 u368 u369 u370 u371 u372 u373 u374 u375 u376 u377 u378 u379 u380 u381 u382 u383 u384 u385 u386 u387 u388 u389 u390 u391 z11 z12 z13 z14 wr u19 u21 u80 u81 u82 u83 u84 u85 u86 u87 u88 u89 u90 hrel; exact hK1 ())⟩

set_option maxHeartbeats 200000000 in
set_option maxRecDepth 100000 in
theorem parityDoes_walk_0_1_1 : parityDoes_walk_0_1.1 := by
  intro T n c xs pr P lp cp ps pa R lr cr rows0 ct sv ix wd0 L ll cl ks0 as0 w h hpr hP hlp hR hlr hct hsv hix hwd hL hll sm ns HSM HNS _ w1 hbb1 hB1 hC1 K1 hk1 K2 u32 u76 u77 u91 u92 u93 u94 u95 u96 u97 u98 u99 u100 u101 u102 u103 u104 u105 u106 u107 u108 u109 u110 u111 u112 u113 u114 u115 u116 u117 u118 u119 u120 u121 u122 u123 u124 u125 u126 u127 u128 u129 u130 u131 u132 u133 u134 u135 u136 u137 u138 u139 u140 u141 u142 u143 u144 u145 u146 u147 u148 u149 u150 u151 u152 u153 u154 u155 u156 u157 u158 u159 u160 u161 u162 u163 u167 u168 u169 u170 u171 u172 u173 u174 u175 u176 u177 u178 u179 u183 u184 u185 u186 u187 u188 u189 u190 u191 u192 u193 u194 u195 u196 u197 u198 u199 u200 u201 u202 u203 u204 u205 u206 u207 u208 u209 u210 u211 u212 u213 u214 u218 u219 u220 u221 u222 u223 u224 u228 u229 u230 u231 u232 u233 u234 u235 u236 u237 u238 u239 u240 u241 u242 u243 u244 u245 u246 u247 u248 u249 u250 u251 u252 u253 u254 u255 u256 u257 u258 u259 u260 u261 u262 u263 u264 u265 u266 u267 u268 u269 u270 u271 u272 u273 u274 u275 u276 u280 u281 u282 u283 u284 u285 u286 u287 u288 u289 u290 u291 u292 u293 u294 u295 u296 u297 u298 u299 u300 u301 u302 u303 u304 u305 u306 u307 u308 u309 u310 u311 u312 u316 u317 u318 u319 u320 u321 u322 u323 u324 u325 u326 u327 u328 u329 u330 u331 u332 u333 u334 u335 u336 u337 u338 u339 u340 u341 u342 u343 u344 u345 u346 u347 u348 u349 u350 u351 u355 u356 u357 u358 u359 u363 u364 u365 u366 u367 u368 u369 u370 u371 u372 u373 u374 u375 u376 u377 u378 u379 u380 u381 u382 u383 u384 u385 u386 u387 u388 u389 u390 u391 _ _ _ _ wr u19 u21 u80 u81 u82 u83 u84 u85 u86 u87 u88 u89 u90 hrel
  obtain ⟨k, hk, rfl, rfl, hbr⟩ := hrel
  by_cases hlt : k < ll
  · obtain ⟨b, off, A1, n1, c1, rfl, hbl, hck, hcr, hn1, hI⟩ := ((hL.upto hbb1).below hbr).at_ hlt
    have HS : Hid (smW as0 (k + 1) = wrap64 (smW as0 k + (1 + (n1 : Int)))) := Lib.hid (by simp only [smW]; rw [hI.len])
    obtain ⟨v, hv⟩ : ∃ v, smW as0 k = v := ⟨_, rfl⟩
    rw [hv] at HS ⊢
    have hk0 : (0 : Int) ≤ (k : Int) := by omega
    have hk1 : (k : Int) < (ll : Int) := by omega
    have hw1 : IntKind.i64.wrap (1 + (n1 : Int)) = 1 + (n1 : Int) := IntWalk.i64_in _ (by omega)
    have hbra := ballocs hbr (.cells #[.bool (ks0.getD k false), .slice A1 n1 c1] 89)
    have hBk := Blk.new wr 89 #[.bool (ks0.getD k false), .slice A1 n1 c1]
    have hk2 : (wr.alloc (.cells #[.bool (ks0.getD k false), .slice A1 n1 c1] 89)).cell? ⟨wr.heap.size, 1, none⟩ = some (.slice A1 n1 c1) := (hBk.cell 1).trans rfl
    generalize ks0.getD k false = bb at *
    clear hBk hI hv
    go_wp2
    go_roundw
    case rel => exact ⟨k + 1, by omega, by go_num, by (rw [HS.out]; try rfl), hbra⟩
    case measure => simp [intOf]; omega
  · obtain rfl : k = ll := by omega
    go_wp2
    go_meet
    exact ⟨by rw [HNS.out], hbr⟩

set_option maxHeartbeats 200000000 in
set_option maxRecDepth 100000 in
noncomputable def parityDoes_walk_0_2 : {G : Prop × Prop // (Unit → G.1) → (Unit → G.2) → parityDoes_walk_0.1.2} := ⟨(_, _), fun hK1 hK2 => by
  intro T n c xs pr P lp cp ps pa R lr cr rows0 ct sv ix wd0 L ll cl ks0 as0 w h hpr hP hlp hR hlr hct hsv hix hwd hL hll sm ns HSM HNS _ w1 hbb1 hB1 hC1 K1 hk1 K2 u32 u76 u77 u91 u92 u93 u94 u95 u96 u97 u98 u99 u100 u101 u102 u103 u104 u105 u106 u107 u108 u109 u110 u111 u112 u113 u114 u115 u116 u117 u118 u119 u120 u121 u122 u123 u124 u125 u126 u127 u128 u129 u130 u131 u132 u133 u134 u135 u136 u137 u138 u139 u140 u141 u142 u143 u144 u145 u146 u147 u148 u149 u150 u151 u152 u153 u154 u155 u156 u157 u158 u159 u160 u161 u162 u163 u167 u168 u169 u170 u171 u172 u173 u174 u175 u176 u177 u178 u179 u183 u184 u185 u186 u187 u188 u189 u190 u191 u192 u193 u194 u195 u196 u197 u198 u199 u200 u201 u202 u203 u204 u205 u206 u207 u208 u209 u210 u211 u212 u213 u214 u218 u219 u220 u221 u222 u223 u224 u228 u229 u230 u231 u232 u233 u234 u235 u236 u237 u238 u239 u240 u241 u242 u243 u244 u245 u246 u247 u248 u249 u250 u251 u252 u253 u254 u255 u256 u257 u258 u259 u260 u261 u262 u263 u264 u265 u266 u267 u268 u269 u270 u271 u272 u273 u274 u275 u276 u280 u281 u282 u283 u284 u285 u286 u287 u288 u289 u290 u291 u292 u293 u294 u295 u296 u297 u298 u299 u300 u301 u302 u303 u304 u305 u306 u307 u308 u309 u310 u311 u312 u316 u317 u318 u319 u320 u321 u322 u323 u324 u325 u326 u327 u328 u329 u330 u331 u332 u333 u334 u335 u336 u337 u338 u339 u340 u341 u342 u343 u344 u345 u346 u347 u348 u349 u350 u351 u355 u356 u357 u358 u359 u363 u364 u365 u366 u367 u368 u369 u370 u371 u372 u373 u374 u375 u376 u377 u378 u379 u380 u381 u382 u383 u384 u385 u386 u387 u388 u389 u390 u391 wc u19 u21 u80 u81 u82 u83 u84 u85 u86 u87 u88 u89 u90 hcut
  obtain ⟨rfl, hbr⟩ := hcut
  obtain ⟨w0', hw0'⟩ : ∃ w0', w0' = wc := ⟨_, rfl⟩
  subst hw0'
  refine hk1 _ _ ?_
  clear hk1
  have hbb2 := bnext hbb1 hbr
  have hB2 := hB1.below hbr hB1.lt
  have hC2 := hC1.below hbr hC1.lt
  have hs10 : w0'.cell? ⟨w.heap.size + 1, 0, none⟩ = some (.slice P lp cp) := (hC2.cell 0).trans rfl
  have hs11 : w0'.cell? ⟨w.heap.size + 1, 1, none⟩ = some (.int .i64 pa) := (hC2.cell 1).trans rfl
  clear hbr hbb1 hB1 hC1
  by_cases hgd : n ≤ 500 ∧ sm < 1500 ∧ lp ≤ 500 ∧ ns ≤ 1000
  · obtain ⟨hn, hsml, hl5, hn1⟩ := hgd
    have hd : decide (n ≤ 500) = true := by simpa using hn
    have HSD : Hid (decide (smW rows0 lr < 1500) = true) := Lib.hid (by rw [HSM.out]; simpa using hsml)
    have hab1 : ¬ (500 : Int) < (lp : Int) := by omega
    have hab2 : ¬ 1000 < ns := by omega
    go_upto_region 14 with (first
      | (go_at_call 16; refine (few_any T n c _).mono ?_; rintro e w' ⟨rfl, rfl⟩)
      | (go_at_call 78; refine (small_any R lr cr rows0 _ (hR.upto hbb2) (by omega)).mono ?_; rintro e w' ⟨rfl, rfl⟩; rw [HSD.out])
      | (go_at_call 18; refine (new_any T n c xs _ (h.upto hbb2) hn).mono ?_; rintro e w2 ⟨⟨g, rfl, hge, hD2⟩, hb2⟩
         have hbb3 := bnext hbb2 hb2
         have hB3 := hB2.below hb2 hB2.lt
         have hC3 := hC2.below hb2 hC2.lt
         have hg : w.heap.size + 1 < g := by rw [hge]; exact hC2.lt
         clear hge hbb2 hB2 hC2 hb2)
      | (go_at_call 19; refine (field_any g T n c xs _ _ hD2).mono ?_; rintro e w3 ⟨p, q3, rfl, hkn, hD3, hS3⟩
         have hok := okP_known hkn
         have hp := okP_pos hok
         have HO := Lib.hid hok
         have hbb4 := ballocs (Step.below hbb3 hS3 hbb3.size (by omega)) (.cells #[.int .i64 p] 24)
         have hB4 := (Step.block hS3 hB3 (by omega)).alloc (.cells #[.int .i64 p] 24)
         have hC4 := (Step.block hS3 hC3 (by omega)).alloc (.cells #[.int .i64 p] 24)
         have hF4 := Blk.new w3 24 #[.int .i64 p]
         have hD4 := hD3.alloc (.cells #[.int .i64 p] 24)
         have hgf : w3.heap.size ≠ g := by have := hD3.1.lt; omega
         have hgl : g < w3.heap.size := hD3.1.lt
         clear hok hkn hD2 hD3 hS3 hbb3 hB3 hC3)
      | (go_at_call 20; (with_reducible refine (next_any g T n c xs q3 5 _ hD4 (by omega)).mono ?_); rintro e w5 ⟨r1, q5, rfl, hr1, _, hD5, hS5, hz5⟩
         obtain ⟨N, hN⟩ : ∃ s : Nat, 1 + r1 = s := ⟨(1 + r1).toNat, by have := hr1 (by omega); omega⟩
         have hN8 : 1 ≤ N ∧ N ≤ 5 := by have := hr1 (by omega); omega
         have hNw : IntKind.i64.wrap (1 + r1) = N := by rw [hN]; exact IntWalk.i64_in _ (by omega)
         have hF5 := Step.block hS5 hF4 hgf
         have hB5 := Step.block hS5 hB4 (by omega)
         have hC5 := Step.block hS5 hC4 (by omega)
         have hbb5 := Step.below hbb4 hS5 hbb4.size (by omega)
         clear hr1 hz5 hS5 hbb4 hB4 hC4 hF4 hD4)
      | (go_at_call 20; (with_reducible refine (next_any g T n c xs q5 3 _ hD5 (by omega)).mono ?_); rintro e w6 ⟨r2, q6, rfl, hr2, _, hD6, hS6, hz6⟩
         obtain ⟨m, hm⟩ : ∃ s : Nat, 2 + r2 = s := ⟨(2 + r2).toNat, by have := hr2 (by omega); omega⟩
         have hm6 : 2 ≤ m ∧ m ≤ 4 := by have := hr2 (by omega); omega
         have hmw : IntKind.i64.wrap (2 + r2) = m := by rw [hm]; exact IntWalk.i64_in _ (by omega)
         have hF6 := Step.block hS6 hF5 hgf
         have hB6 := Step.block hS6 hB5 (by omega)
         have hC6 := Step.block hS6 hC5 (by omega)
         have hbb6 := Step.below hbb5 hS6 hbb5.size (by omega)
         clear hr2 hz6 hS6 hbb5 hB5 hC5 hF5 hD5)
      | (go_at_call 20; (with_reducible refine (next_any g T n c xs q6 4 _ hD6 (by omega)).mono ?_); rintro e w7 ⟨r3, q7, rfl, hr3, _, hD7, hS7, hz7⟩
         obtain ⟨wd, rfl⟩ : ∃ s : Nat, r3 = s := ⟨r3.toNat, by have := hr3 (by omega); omega⟩
         have hwd4 : wd ≤ 3 := by have := hr3 (by omega); omega
         have hF7 := Step.block hS7 hF6 hgf
         have hB7 := Step.block hS7 hB6 (by omega)
         have hC7 := Step.block hS7 hC6 (by omega)
         have hbb7 := Step.below hbb6 hS7 hbb6.size (by omega)
         have hg7 := hD7.1.lt
         have hcf7 : w7.cell? ⟨w3.heap.size, 0, none⟩ = some (.int .i64 p) := (hF7.cell 0).trans rfl
         clear hr3 hz7 hS7 hbb6 hB6 hC6 hF6 hD6))
    obtain ⟨s1, hs1⟩ : ∃ s1, s1 + 1 = m := ⟨m - 1, by omega⟩
    obtain ⟨NN, hNN⟩ : ∃ k : Nat, N * s1 = k := ⟨_, rfl⟩
    have hNNb : NN ≤ 15 := by
      have h2 : N * s1 ≤ 5 * 3 := Nat.mul_le_mul (by omega) (by omega)
      omega
    have hmS : (m : Int) - 1 = s1 := by omega
    have HLR : Hid (plimR p N m = (List.replicate NN p, 0)) := Lib.hid (by
      unfold plimR
      rw [if_pos (sizeE_yes HO.out (by omega)), hmS]
      have : ((N : Int) * (s1 : Int)).toNat = NN := by rw [← Int.natCast_mul, Int.toNat_natCast]; exact hNN
      rw [this])
    have HNN := Lib.hid hNN
    have HS1 := Lib.hid hs1
    have HLL : Hid (∀ i, i < NN → 1 ≤ (List.replicate NN p).getD i 0 ∧ (List.replicate NN p).getD i 0 ≤ 4611686018427387904) := Lib.hid fun i hi => by
      have e : (List.replicate NN p).getD i 0 = p := by simp [List.getD_eq_getElem?_getD, hi]
      rw [e]; omega
    clear hNN hs1 hN hm hNw hmw
    go_upto_region 15 with (
      go_at_call 79; refine (rplimits_all p N m _).mono ?_; rw [HLR.out]; rintro e w8 ⟨⟨A8, n8, c8, rfl, ho8⟩, hb8⟩
      have hg7' : g < w7.heap.size := hD7.1.lt
      have hF8 := hF7.below hb8 hF7.lt
      have hB8 := hB7.below hb8 hB7.lt
      have hC8 := hC7.below hb8 hC7.lt
      have hbb8 := bnext hbb7 hb8
      have hD8 := hD7.belowAll hb8
      have h8n : NN = n8 := by
        have h9 : (List.replicate NN p).length = n8 := ho8.len
        rw [List.length_replicate] at h9
        exact h9
      subst h8n
      have HNG : Hid (∀ b off s, A8 = some ⟨b, off, s⟩ → 0 < NN → b ≠ g) := Lib.hid fun b off s e hn e2 => (IntsO.of_own ho8 hg7').2 hn b off s e e2
      have HI8 := Lib.hid ho8
      clear hb8 ho8 hF7 hB7 hC7 hbb7 hcf7 hD7)
    have hgw8 := hD8.1.lt
    have hF8l := hF8.lt
    obtain ⟨gF, hgF⟩ : ∃ b, w3.heap.size = b := ⟨_, rfl⟩
    rw [hgF] at hF8 hgf hgl hF8l ⊢
    clear hgF
    have HFF : Hid (∀ wx, Step g w8 wx → wx.cell? ⟨gF, 0, none⟩ = some (.int .i64 p)) := Lib.hid fun wx hx => ((Step.block hx hF8 hgf).cell 0).trans rfl
    have HDD : Hid (∀ wx, Below w8.heap.size w8 wx → Deck wx g T n c xs q7) := Lib.hid fun wx hx => hD8.belowAll hx
    have HII : Hid (∀ wx, Below w8.heap.size w8 wx → Ints wx wx.heap.size A8 NN (List.replicate NN p)) := Lib.hid fun wx hx => HI8.out.ints.upto hx
    have hQ0 : Below w8.heap.size w8 w8.drew := (Below.refl _ w8).drew
    have hQZ : Below w8.heap.size w8 (w8.alloc (.cells #[.slice none 0 0, .int .i64 0] 62)).drew := (bbox (.cells #[.slice none 0 0, .int .i64 0] 62)).drew
    go_cut [29, 30] (fun s29 s30 wx => ParCut g NN N p T n c xs w8 s29 s30 wx)
    case first =>
      (rename_i z0 z1 z2 z3 z4 z5 z6 z7 z8 z9 z10; revert T n c xs pr P lp cp ps pa R lr cr rows0 ct sv ix wd0 L ll cl ks0 as0 w h hpr hP hlp hR hlr hct hsv hix hwd hL hll sm ns HSM HNS z0 w1 K1 K2 u32 u76 u77 u91 u92 u93 u94 u95 u96 u97 u98 u99 u100 u101 u102 u103 u104 u105 u106 u107 u108 u109 u110 u111 u112 u113 u114 u115 u116 u117 u118 u119 u120 u121 u122 u123 u124 u125 u126 u127 u128 u129 u130 u131 u132 u133 u134 u135 u136 u137 u138 u139 u140 u141 u142 u143 u144 u145 u146 u147 u148 u149 u150 u151 u152 u153 u154 u155 u156 u157 u158 u159 u160 u161 u162 u163 u167 u168 u169 u170 u171 u172 u173 u174 u175 u176 u177 u178 u179 u183 u184 u185 u186 u187 u188 u189 u190 u191 u192 u193 u194 u195 u196 u197 u198 u199 u200 u201 u202 u203 u204 u205 u206 u207 u208 u209 u210 u211 u212 u213 u214 u218 u219 u220 u221 u222 u223 u224 u228 u229 u230 u231 u232 u233 u234 u235 u236 u237 u238 u239 u240 u241 u242 u243 u244 u245 u246 u247 u248 u249 u250 u251 u252 u253 u254 u255 u256 u257 u258 u259 u260 u261 u262 u263 u264 u265 u266 u267 u268 u269 u270 u271 u272 u273 u274 u275 u276 u280 u281 u282 u283 u284 u285 u286 u287 u288 u289 u290 u291 u292 u293 u294 u295 u296 u297 u298 u299 u300 u301 u302 u303 u304 u305 u306 u307 u308 u309 u310 u311 u312 u316 u317 u318 u319 u320 u321 u322 u323 u324 u325 u326 u327 u328 u329 u330 u331 u332 u333 u334 u335 u336 u337 u338 u339 u340 u341 u342 u343 u344 u345 u346 u347 u348 u349 u350 u351 u355 u356 u357 u358 u359 u363 u364 u365 u366 u367 u368 u369 u370 u371 u372 u373 u374 u375 u376 u377 u378 u379 u380 u381 u382 u383 u384 u385 u386 u387 u388 u389 u390 u391 u21 u80 u81 u82 u83 u84 u85 u86 u87 u88 u89 u90 w0' hs10 hs11 hn hsml hl5 hn1 hd HSD hab1 hab2 z1 w2 g hg w3 p q3 hp HO w5 r1 q5 z2 N hN8 w6 r2 q6 z3 m hm6 w7 q7 wd z4 hwd4 hg7 s1 NN hNNb hmS HLR HNN HS1 HLL w8 A8 c8 hg7' hB8 hC8 hbb8 hD8 HNG HI8 z5 z6 hgw8 gF hF8l hgl hgf hF8 HFF HDD HII hQ0 hQZ z7 z8 z9 z10; exact hK1 ())
    case rest =>
      (rename_i z0 z1 z2 z3 z4 z5 z6 z7 z8 z9 z10 z11 z12 z13 z14 z15 z16 z17 z18 z19 z20 z21 z22 z23 z24 z25 z26 z27 z28 z29 z30 z31 z32 z33 z34 z35 z36 z37 z38 z39 z40 z41 z42 z43 z44 z45 z46 z47 z48 z49 z50 z51 z52 z53 z54 z55 z56 z57 z58 z59 z60 z61 z62 z63 z64 z65 z66 z67 z68 z69 z70 z71 z72 z73 z74 z75 z76 z77 z78 z79 z80 z81 z82 z83 z84 z85 z86 z87 z88 z89 z90 z91 z92 z93 z94 z95 z96 z97 z98 z99 z100 z101 z102 z103 z104 z105 z106 z107 z108 z109 z110 z111 z112 z113 z114 z115 z116 z117 z118 z119 z120 z121 z122 z123 z124 z125 z126 z127 z128 z129 z130 z131 z132 z133 z134 z135 z136 z137 z138 z139 z140 z141 z142 z143 z144 z145 z146 z147 z148 z149 z150 z151 z152 z153 z154 z155 z156 z157 z158 z159 z160 z161 z162 z163 z164 z165 z166 z167 z168 z169 z170 z171 z172 z173 z174 z175 z176 z177 z178 z179 z180 z181 z182 z183 z184 z185 z186 z187 z188 z189 z190 z191 z192 z193 z194 z195 z196 z197 z198 z199 z200 z201 z202 z203 z204 z205 z206 z207 z208 z209 z210 z211 z212 z213 z214 z215 z216 z217 z218 z219 z220 z221 z222 z223 z224 z225 z226 z227 z228 z229 z230 z231 z232 z233 z234 z235 z236 z237 z238 z239 z240 z241 z242 z243 z244 z245 z246 z247 z248 z249 z250 z251 z252 z253 z254 z255 z256 z257 z258 z259 z260 z261 z262 z263 z264 z265 z266 z267 z268 z269 z270 z271 z272 z273 z274 z275 z276 z277 z278 z279 z280 z281 z282 z283 z284 z285 z286 z287 z288 z289 z290 z291 z292 z293 z294 z295 z296; clear z1 z2 z3 z4 z5 z6 z7 z8 z9 z10 z11 z12 z13 z14 z15 z16 z17 z18 z19 z20 z21 z22 z23 z24 z25 z26 z27 z28 z29 z30 z31 z32 z33 z34 z35 z36 z37 z38 z39 z40 z41 z42 z43 z44 z45 z46 z47 z48 z49 z50 z51 z52 z53 z54 z55 z56 z57 z58 z59 z60 z61 z62 z63 z64 z65 z66 z67 z68 z69 z70 z71 z72 z73 z74 z75 z76 z77 z78 z79 z80 z81 z82 z83 z84 z85 z86 z87 z88 z89 z90 z91 z92 z93 z94 z95 z96 z97 z98 z99 z100 z101 z102 z103 z104 z105 z106 z107 z108 z109 z110 z111 z112 z113 z114 z115 z116 z117 z118 z119 z120 z121 z122 z123 z124 z125 z126 z127 z128 z129 z130 z131 z132 z133 z134 z135 z136 z137 z138 z139 z140 z141 z142 z143 z144 z145 z146 z147 z148 z149 z150 z151 z152 z153 z154 z155 z156 z157 z158 z159 z160 z161 z162 z163 z164 z165 z166 z167 z168 z169 z170 z171 z172 z173 z174 z175 z176 z177 z178 z179 z180 z181 z182 z183 z184 z185 z186 z187 z188 z189 z190 z191 z192 z193 z194 z195 z196 z197 z198 z199 z200 z201 z202 z203 z204 z205 z206 z207 z208 z209 z210 z211 z212 z213 z214 z215 z216 z217 z218 z219 z220 z221 z222 z223 z224 z225 z226 z227 z228 z229 z230 z231 z232 z233 z234 z235 z236 z237 z238 z239 z240 z241 z242 z243 z244 z245 z246 z247 z248 z249 z250 z251 z252 z253 z254 z255 z256 z257 z258 z259 z260 z261 z262 z263 z264 z265 z266 z267 z268 z269 z270 z271 z272 z273 z274 z275 z276 z277 z278 z279 z280 z281 z282 z283 z284 z285 z286 z287 z288 z289 z290; revert T n c xs pr P lp cp ps pa R lr cr rows0 ct sv ix wd0 L ll cl ks0 as0 w h hpr hP hlp hR hlr hct hsv hix hwd hL hll sm ns HSM HNS z0 w1 K1 K2 u21 u80 w0' hs10 hs11 hn hsml hl5 hn1 hd HSD hab1 hab2 z291 w2 g hg w3 p q3 hp HO w5 r1 q5 z292 N hN8 w6 r2 q6 z293 m hm6 w7 q7 wd z294 hwd4 hg7 s1 NN hNNb hmS HLR HNN HS1 HLL w8 A8 c8 hg7' hB8 hC8 hbb8 hD8 HNG HI8 z295 z296 hgw8 gF hF8l hgl hgf hF8 HFF HDD HII hQ0 hQZ wc u29 u30 u32 u76 u77 u81 u82 u83 u84 u85 u86 u87 u88 u89 u90 u91 u92 u93 u94 u95 u96 u97 u98 u99 u100 u101 u102 u103 u104 u105 u106 u107 u108 u109 u110 u111 u112 u113 u114 u115 u116 u117 u118 u119 u120 u121 u122 u123 u124 u125 u126 u127 u128 u129 u130 u131 u132 u133 u134 u135 u136 u137 u138 u139 u140 u141 u142 u143 u144 u145 u146 u147 u148 u149 u150 u151 u152 u153 u154 u155 u156 u157 u158 u159 u160 u161 u162 u163 u167 u168 u169 u170 u171 u172 u173 u174 u175 u176 u177 u178 u179 u183 u184 u185 u186 u187 u188 u189 u190 u191 u192 u193 u194 u195 u196 u197 u198 u199 u200 u201 u202 u203 u204 u205 u206 u207 u208 u209 u210 u211 u212 u213 u214 u218 u219 u220 u221 u222 u223 u224 u228 u229 u230 u231 u232 u233 u234 u235 u236 u237 u238 u239 u240 u241 u242 u243 u244 u245 u246 u247 u248 u249 u250 u251 u252 u253 u254 u255 u256 u257 u258 u259 u260 u261 u262 u263 u264 u265 u266 u267 u268 u269 u270 u271 u272 u273 u274 u275 u276 u280 u281 u282 u283 u284 u285 u286 u287 u288 u289 u290 u291 u292 u293 u294 u295 u296 u297 u298 u299 u300 u301 u302 u303 u304 u305 u306 u307 u308 u309 u310 u311 u312 u316 u317 u318 u319 u320 u321 u322 u323 u324 u325 u326 u327 u328 u329 u330 u331 u332 u333 u334 u335 u336 u337 u338 u339 u340 u341 u342 u343 u344 u345 u346 u347 u348 u349 u350 u351 u355 u356 u357 u358 u359 u363 u364 u365 u366 u367 u368 u369 u370 u371 u372 u373 u374 u375 u376 u377 u378 u379 u380 u381 u382 u383 u384 u385 u386 u387 u388 u389 u390 u391 hcut; exact hK2 ())
  · have HBD := Lib.hid (bad_ofP hgd)
    clear hgd
    have hRw := hR.upto hbb2
    rcases HBD.out with h1 | ⟨h1, h2⟩ | ⟨h1, h2, h3⟩ | ⟨h1, h2, h3, h4⟩
    · have hd : decide (n ≤ 500) = false := by simpa using h1
      go_wp2_with (first
        | (go_at_call 16; refine (few_any T n c _).mono ?_; rintro e w' ⟨rfl, rfl⟩))
      go_ret
      exact ⟨rfl, hbb2⟩
    · have hd : decide (n ≤ 500) = true := by simpa using h1
      have HSD : Hid (decide (smW rows0 lr < 1500) = false) := Lib.hid (by rw [HSM.out]; simpa using h2)
      go_wp2_with (first
        | (go_at_call 16; refine (few_any T n c _).mono ?_; rintro e w' ⟨rfl, rfl⟩)
        | (go_at_call 78; refine (small_any R lr cr rows0 _ hRw (by omega)).mono ?_; rintro e w' ⟨rfl, rfl⟩; rw [HSD.out]))
      go_ret
      exact ⟨rfl, hbb2⟩
    all_goals
      have hd : decide (n ≤ 500) = true := by simpa using h1
      have HSD : Hid (decide (smW rows0 lr < 1500) = true) := Lib.hid (by rw [HSM.out]; simpa using h2)
      go_wp2_with (first
        | (go_at_call 16; refine (few_any T n c _).mono ?_; rintro e w' ⟨rfl, rfl⟩)
        | (go_at_call 78; refine (small_any R lr cr rows0 _ hRw (by omega)).mono ?_; rintro e w' ⟨rfl, rfl⟩; rw [HSD.out]))
      go_ret
      exact ⟨rfl, hbb2⟩⟩

set_option maxHeartbeats 200000000 in
set_option maxRecDepth 100000 in
theorem parityDoes_walk_0_2_1 : parityDoes_walk_0_2.1.1 := by
  intro T n c xs pr P lp cp ps pa R lr cr rows0 ct sv ix wd0 L ll cl ks0 as0 w h hpr hP hlp hR hlr hct hsv hix hwd hL hll sm ns HSM HNS _ w1 K1 K2 u32 u76 u77 u91 u92 u93 u94 u95 u96 u97 u98 u99 u100 u101 u102 u103 u104 u105 u106 u107 u108 u109 u110 u111 u112 u113 u114 u115 u116 u117 u118 u119 u120 u121 u122 u123 u124 u125 u126 u127 u128 u129 u130 u131 u132 u133 u134 u135 u136 u137 u138 u139 u140 u141 u142 u143 u144 u145 u146 u147 u148 u149 u150 u151 u152 u153 u154 u155 u156 u157 u158 u159 u160 u161 u162 u163 u167 u168 u169 u170 u171 u172 u173 u174 u175 u176 u177 u178 u179 u183 u184 u185 u186 u187 u188 u189 u190 u191 u192 u193 u194 u195 u196 u197 u198 u199 u200 u201 u202 u203 u204 u205 u206 u207 u208 u209 u210 u211 u212 u213 u214 u218 u219 u220 u221 u222 u223 u224 u228 u229 u230 u231 u232 u233 u234 u235 u236 u237 u238 u239 u240 u241 u242 u243 u244 u245 u246 u247 u248 u249 u250 u251 u252 u253 u254 u255 u256 u257 u258 u259 u260 u261 u262 u263 u264 u265 u266 u267 u268 u269 u270 u271 u272 u273 u274 u275 u276 u280 u281 u282 u283 u284 u285 u286 u287 u288 u289 u290 u291 u292 u293 u294 u295 u296 u297 u298 u299 u300 u301 u302 u303 u304 u305 u306 u307 u308 u309 u310 u311 u312 u316 u317 u318 u319 u320 u321 u322 u323 u324 u325 u326 u327 u328 u329 u330 u331 u332 u333 u334 u335 u336 u337 u338 u339 u340 u341 u342 u343 u344 u345 u346 u347 u348 u349 u350 u351 u355 u356 u357 u358 u359 u363 u364 u365 u366 u367 u368 u369 u370 u371 u372 u373 u374 u375 u376 u377 u378 u379 u380 u381 u382 u383 u384 u385 u386 u387 u388 u389 u390 u391 u21 u80 u81 u82 u83 u84 u85 u86 u87 u88 u89 u90 w0' hs10 hs11 hn hsml hl5 hn1 hd HSD hab1 hab2 _ w2 g hg w3 p q3 hp HO w5 r1 q5 _ N hN8 w6 r2 q6 _ m hm6 w7 q7 wd _ hwd4 hg7 s1 NN hNNb hmS HLR HNN HS1 HLL w8 A8 c8 hg7' hB8 hC8 hbb8 hD8 HNG HI8 _ _ hgw8 gF hF8l hgl hgf hF8 HFF HDD HII hQ0 hQZ _ _ _ _
  go_region_held3 (fun w' => w'.cell? ⟨gF, 0, none⟩ = some (.int .i64 p)) (first | exact HFF.out _ (Step.of_below (by first | exact hQ0 | exact hQZ)) | exact HFF.out _ hS9 | exact HFF.out _ (hS9.alloc _) | exact HFF.out _ hS10 | exact HFF.out _ (hS10.alloc _) | exact HFF.out _ ((hS10.setNew (p := ⟨_, 0, none⟩) hle _).setNew (p := ⟨_, 1, none⟩) hle _))
    (first
      | (go_at_call 53; refine (mtape_any g T n c xs q7 A8 NN c8 (List.replicate NN p) _ (HDD.out _ (by first | exact hQ0 | exact hQZ)) (HII.out _ (by first | exact hQ0 | exact hQZ)) HLL.out (by omega) HNG.out).mono ?_; rintro e w9 ⟨T6, k6, tc6, ds, q9, rfl, hoT, hk6, hk6', hds, hD9, hS9'⟩
         have hS9 : Step g w8 w9 := Step.trans (Step.of_below (by first | exact hQ0 | exact hQZ)) hS9'
         have hle9 := hS9.size
         have hg9 := hD9.1.lt
         have HDS : Hid (∀ i, i < NN → 0 ≤ ds.getD i 0 ∧ ds.getD i 0 < p) := Lib.hid fun i hi => by
           have h9 := hds i hi
           have e : (List.replicate NN p).getD i 0 = p := by simp [List.getD_eq_getElem?_getD, hi]
           rw [e] at h9; exact h9
         have hoT8 : OwnI w9 w8.heap.size 3 T6 k6 tc6 ds := hoT.base (by first | exact Nat.le_refl _ | (simp))
         first
           | (have hZ9 : Blk w9 w8.heap.size 62 #[.slice none 0 0, .int .i64 0] := Step.block hS9' (by first | exact Blk.new _ _ _ | exact Blk.drew (Blk.new _ _ _)) (by omega)
              have hTb : (Value.slice T6 k6 tc6).ownBlock ≠ some w8.heap.size := fun e => by
                have h9 : (w8.alloc (.cells #[.slice none 0 0, .int .i64 0] 62)).heap.size ≤ w8.heap.size := hoT.row _ e
                rw [World.size_alloc] at h9
                omega)
           | skip
         clear hds)
      | (go_at_call 21; refine (rows_any g T n c xs q9 p N wd _ (by first | exact hD9 | exact hD9.alloc _) hp (by omega) (by omega)).mono ?_; rintro e w10 ⟨A10, c10, rows, q10, rfl, hoM, hR10, hD10, hS10'⟩
         have hS910 : Step g w9 w10 := Step.trans (Step.of_below (by first | exact Below.refl _ _ | exact bbox _)) hS10'
         have hS10 : Step g w8 w10 := hS9.trans hS910
         have hle10 := hS10.size
         have hoT10 := hoT8.step hS910 hgw8
         first
           | (have hBx : Blk w10 w8.heap.size 62 #[.slice none 0 0, .int .i64 0] := Step.block hS910 hZ9 (by omega)
              have hle : w8.heap.size ≤ w8.heap.size := Nat.le_refl _
              have hbR := hZ9.lt
              have hx0 := (hBx.cell 0).trans rfl
              have hx1 := (hBx.cell 1).trans rfl
              have hxf0 := hBx.frozen 0
              have hxf1 := hBx.frozen 1)
           | (have hBx : Blk w10 w9.heap.size 62 #[.slice none 0 0, .int .i64 0] := Step.block hS10' (Blk.new w9 62 #[.slice none 0 0, .int .i64 0]) (by omega)
              have hle : w8.heap.size ≤ w9.heap.size := hle9
              have hTb : (Value.slice T6 k6 tc6).ownBlock ≠ some w9.heap.size := fun e => by (have h9 := (World.ownsRow.lt hoT _ e).2); omega
              have hbR : w9.heap.size < w9.heap.size + 1 := Nat.lt_succ_self _
              have hx0 := (hBx.cell 0).trans rfl
              have hx1 := (hBx.cell 1).trans rfl
              have hxf0 := hBx.frozen 0
              have hxf1 := hBx.frozen 1)
           | (have hle : w8.heap.size ≤ w10.heap.size := hle10)
         clear hR10))
  all_goals go_wp2_with fail
  all_goals go_meet
  all_goals first
    | exact ParCut.new hoT10 hgw8 hoM (by first | omega | (simp <;> omega)) ⟨hk6, hk6'⟩ HDS.out hD10 hS10
    | exact ParCut.box hoT10 hgw8 hoM (by first | omega | (simp <;> omega)) ⟨hk6, hk6'⟩ HDS.out hD10 hS10 hBx hTb (by first | exact hbR | omega | (simp <;> omega)) hle hgw8

set_option maxHeartbeats 200000000 in
set_option maxRecDepth 100000 in
noncomputable def parityDoes_walk_0_2_2 : {G : Prop × Prop // (Unit → G.1) → (Unit → G.2) → parityDoes_walk_0_2.1.2} := ⟨(_, _), fun hK1 hK2 => by
  intro T n c xs pr P lp cp ps pa R lr cr rows0 ct sv ix wd0 L ll cl ks0 as0 w h hpr hP hlp hR hlr hct hsv hix hwd hL hll sm ns HSM HNS _ w1 K1 K2 u21 u80 w0' hs10 hs11 hn hsml hl5 hn1 hd HSD hab1 hab2 _ w2 g hg w3 p q3 hp HO w5 r1 q5 _ N hN8 w6 r2 q6 _ m hm6 w7 q7 wd _ hwd4 hg7 s1 NN hNNb hmS HLR HNN HS1 HLL w8 A8 c8 hg7' hB8 hC8 hbb8 hD8 HNG HI8 _ _ hgw8 gF hF8l hgl hgf hF8 HFF HDD HII hQ0 hQZ wc u29 u30 u32 u76 u77 u81 u82 u83 u84 u85 u86 u87 u88 u89 u90 u91 u92 u93 u94 u95 u96 u97 u98 u99 u100 u101 u102 u103 u104 u105 u106 u107 u108 u109 u110 u111 u112 u113 u114 u115 u116 u117 u118 u119 u120 u121 u122 u123 u124 u125 u126 u127 u128 u129 u130 u131 u132 u133 u134 u135 u136 u137 u138 u139 u140 u141 u142 u143 u144 u145 u146 u147 u148 u149 u150 u151 u152 u153 u154 u155 u156 u157 u158 u159 u160 u161 u162 u163 u167 u168 u169 u170 u171 u172 u173 u174 u175 u176 u177 u178 u179 u183 u184 u185 u186 u187 u188 u189 u190 u191 u192 u193 u194 u195 u196 u197 u198 u199 u200 u201 u202 u203 u204 u205 u206 u207 u208 u209 u210 u211 u212 u213 u214 u218 u219 u220 u221 u222 u223 u224 u228 u229 u230 u231 u232 u233 u234 u235 u236 u237 u238 u239 u240 u241 u242 u243 u244 u245 u246 u247 u248 u249 u250 u251 u252 u253 u254 u255 u256 u257 u258 u259 u260 u261 u262 u263 u264 u265 u266 u267 u268 u269 u270 u271 u272 u273 u274 u275 u276 u280 u281 u282 u283 u284 u285 u286 u287 u288 u289 u290 u291 u292 u293 u294 u295 u296 u297 u298 u299 u300 u301 u302 u303 u304 u305 u306 u307 u308 u309 u310 u311 u312 u316 u317 u318 u319 u320 u321 u322 u323 u324 u325 u326 u327 u328 u329 u330 u331 u332 u333 u334 u335 u336 u337 u338 u339 u340 u341 u342 u343 u344 u345 u346 u347 u348 u349 u350 u351 u355 u356 u357 u358 u359 u363 u364 u365 u366 u367 u368 u369 u370 u371 u372 u373 u374 u375 u376 u377 u378 u379 u380 u381 u382 u383 u384 u385 u386 u387 u388 u389 u390 u391 hcut
  obtain ⟨b, T6, k6, tc6, ds, A10, ca, rows, q10, bT, bR, rfl, rfl, hTb, hb8, ⟨hoT, hgT⟩, ⟨hoM, hgR⟩, hk6, hds, hD10, hS10⟩ := hcut
  obtain ⟨w9, hw9⟩ : ∃ w9, w9 = wc := ⟨_, rfl⟩
  subst hw9
  have hF10 := Step.block hS10 hF8 hgf
  have hB10 := Step.block hS10 hB8 (by omega)
  have hC10 := Step.block hS10 hC8 (by omega)
  have hbb10 := Step.below hbb8 hS10 hbb8.size (by omega)
  have hle10 := hS10.size
  have hg10 := hD10.1.lt
  have hbg : b ≠ g := by omega
  obtain ⟨gT, hgTe⟩ : ∃ gT, b = gT := ⟨_, rfl⟩
  subst hgTe
  obtain ⟨ia, hia⟩ : ∃ k : Nat, ix % (N : Int) = k := ⟨(ix % (N : Int)).toNat, by rw [Int.toNat_of_nonneg (Int.emod_nonneg _ (by omega))]⟩
  have hiN : ia < N := by have := Int.emod_lt_of_pos ix (b := (N : Int)) (by omega); omega
  obtain ⟨QL, av, HQR, hQL⟩ := queR_own (m := m) (s1 := s1) (i := ia) (k6 := k6) (ds := ds) HO.out hp hN8 hm6 HS1.out HNN.out hiN hoT.len hk6 hds hNNb
  have HQR := Lib.hid HQR
  have HQL := Lib.hid hQL
  have HIA := Lib.hid hia
  have hMR0 := hoM.mat (Nat.le_refl _)
  have hMTO : MatO g w9 A10 N rows := MatO.of_mat hMR0 hgR
  have hITO : IntsO g w9 T6 k6 ds := IntsO.of_own hoT hgT
  clear HFF HDD HII hQ0 hQZ hF8 hB8 hC8 hbb8 hD8 hS10 HI8 HNG HLL HLR hQL hia hoT hoM hds
  have HHH : Hid (∀ wx, Below w9.heap.size w9 wx → wx.cell? ⟨gF, 0, none⟩ = some (.int .i64 p) ∧ wx.cell? ⟨b, 0, none⟩ = some (.slice T6 k6 tc6) ∧ wx.cell? ⟨b, 1, none⟩ = some (.int .i64 0)) := Lib.hid fun wx hx => ⟨((hF10.below hx hF10.lt).cell 0).trans rfl, ((hTb.below hx hTb.lt).cell 0).trans rfl, ((hTb.below hx hTb.lt).cell 1).trans rfl⟩
  have HTT : Hid (∀ wx, Below w9.heap.size w9 wx → Ints wx wx.heap.size T6 k6 ds) := Lib.hid fun wx hx => hITO.1.upto hx
  have hQ0 : Below w9.heap.size w9 w9.drew := (Below.refl _ w9).drew
  have hQZ : Below w9.heap.size w9 (w9.alloc (.cells #[.slice none 0 0, .int .i64 0] 62)).drew := (bbox (.cells #[.slice none 0 0, .int .i64 0] 62)).drew
  have hQY : Below w9.heap.size w9 (w9.alloc (.cells #[.slice none 0 0, .int .i64 0] 62)) := bbox (.cells #[.slice none 0 0, .int .i64 0] 62)
  go_upto_region 16 with fail
  go_cut [31] (fun s31 wx => QCut m QL w9 s31 wx)
  case first =>
    (rename_i z0 z1 z2 z3 z4 z5 z6 z7 z8 z9 z10 z11; revert T n c xs pr P lp cp ps pa R lr cr rows0 ct sv ix wd0 L ll cl ks0 as0 w h hpr hP hlp hR hlr hct hsv hix hwd hL hll sm ns HSM HNS z0 w1 K1 K2 u21 u80 w0' hs10 hs11 hn hsml hl5 hn1 hd HSD hab1 hab2 z1 w2 g hg w3 p q3 hp HO w5 r1 q5 z2 N hN8 w6 r2 q6 z3 m hm6 w7 q7 wd z4 hwd4 hg7 s1 NN hNNb hmS HNN HS1 w8 A8 c8 hg7' hgw8 gF hF8l hgl hgf u32 u76 u77 u81 u82 u83 u84 u85 u86 u87 u88 u89 u90 u91 u92 u93 u94 u95 u96 u97 u98 u99 u100 u101 u102 u103 u104 u105 u106 u107 u108 u109 u110 u111 u112 u113 u114 u115 u116 u117 u118 u119 u120 u121 u122 u123 u124 u125 u126 u127 u128 u129 u130 u131 u132 u133 u134 u135 u136 u137 u138 u139 u140 u141 u142 u143 u144 u145 u146 u147 u148 u149 u150 u151 u152 u153 u154 u155 u156 u157 u158 u159 u160 u161 u162 u163 u167 u168 u169 u170 u171 u172 u173 u174 u175 u176 u177 u178 u179 u183 u184 u185 u186 u187 u188 u189 u190 u191 u192 u193 u194 u195 u196 u197 u198 u199 u200 u201 u202 u203 u204 u205 u206 u207 u208 u209 u210 u211 u212 u213 u214 u218 u219 u220 u221 u222 u223 u224 u228 u229 u230 u231 u232 u233 u234 u235 u236 u237 u238 u239 u240 u241 u242 u243 u244 u245 u246 u247 u248 u249 u250 u251 u252 u253 u254 u255 u256 u257 u258 u259 u260 u261 u262 u263 u264 u265 u266 u267 u268 u269 u270 u271 u272 u273 u274 u275 u276 u280 u281 u282 u283 u284 u285 u286 u287 u288 u289 u290 u291 u292 u293 u294 u295 u296 u297 u298 u299 u300 u301 u302 u303 u304 u305 u306 u307 u308 u309 u310 u311 u312 u316 u317 u318 u319 u320 u321 u322 u323 u324 u325 u326 u327 u328 u329 u330 u331 u332 u333 u334 u335 u336 u337 u338 u339 u340 u341 u342 u343 u344 u345 u346 u347 u348 u349 u350 u351 u355 u356 u357 u358 u359 u363 u364 u365 u366 u367 u368 u369 u370 u371 u372 u373 u374 u375 u376 u377 u378 u379 u380 u381 u382 u383 u384 u385 u386 u387 u388 u389 u390 u391 b T6 k6 tc6 ds A10 ca rows q10 bT bR hb8 hgT hgR hk6 w9 hTb hD10 hF10 hB10 hC10 hbb10 hle10 hg10 hbg ia hiN QL av z5 HQR HQL HIA hMR0 hMTO hITO HHH HTT hQ0 hQZ hQY z6 z7 z8 z9 z10 z11; exact hK1 ())
  case rest =>
    (rename_i z0 z1 z2 z3 z4 z5 z6 z7 z8 z9 z10 z11 z12 z13 z14 z15 z16 z17 z18 z19 z20 z21 z22 z23 z24 z25 z26 z27 z28 z29 z30 z31 z32 z33 z34 z35 z36 z37 z38 z39 z40 z41 z42 z43 z44 z45 z46 z47 z48 z49 z50 z51 z52 z53 z54 z55 z56 z57 z58 z59 z60 z61 z62 z63 z64 z65 z66 z67 z68 z69 z70 z71 z72 z73 z74 z75 z76 z77 z78 z79 z80 z81 z82 z83 z84 z85 z86 z87 z88 z89 z90 z91 z92 z93 z94 z95 z96 z97 z98 z99 z100 z101 z102 z103 z104 z105 z106 z107 z108 z109 z110 z111 z112 z113 z114 z115 z116 z117 z118 z119 z120 z121 z122 z123 z124 z125 z126 z127 z128 z129 z130 z131 z132 z133 z134 z135 z136 z137 z138 z139 z140 z141 z142 z143 z144 z145 z146 z147 z148 z149 z150 z151 z152 z153 z154 z155 z156 z157 z158 z159 z160 z161 z162 z163 z164 z165 z166 z167 z168 z169 z170 z171 z172 z173 z174 z175 z176 z177 z178 z179 z180 z181 z182 z183 z184 z185 z186 z187 z188 z189 z190 z191 z192 z193 z194 z195 z196 z197 z198 z199 z200 z201 z202 z203 z204 z205 z206 z207 z208 z209 z210 z211 z212 z213 z214 z215 z216 z217 z218 z219 z220 z221 z222 z223 z224 z225 z226 z227 z228 z229 z230 z231 z232 z233 z234 z235 z236 z237 z238 z239 z240 z241 z242 z243 z244 z245 z246 z247 z248 z249 z250 z251 z252 z253 z254 z255 z256 z257 z258 z259 z260 z261 z262 z263 z264 z265 z266 z267 z268 z269 z270 z271 z272 z273 z274 z275 z276 z277 z278 z279 z280 z281 z282 z283 z284 z285 z286 z287 z288 z289 z290 z291 z292 z293 z294 z295 z296 z297; clear z5 z6 z7 z8 z9 z10 z11 z12 z13 z14 z15 z16 z17 z18 z19 z20 z21 z22 z23 z24 z25 z26 z27 z28 z29 z30 z31 z32 z33 z34 z35 z36 z37 z38 z39 z40 z41 z42 z43 z44 z45 z46 z47 z48 z49 z50 z51 z52 z53 z54 z55 z56 z57 z58 z59 z60 z61 z62 z63 z64 z65 z66 z67 z68 z69 z70 z71 z72 z73 z74 z75 z76 z77 z78 z79 z80 z81 z82 z83 z84 z85 z86 z87 z88 z89 z90 z91 z92 z93 z94 z95 z96 z97 z98 z99 z100 z101 z102 z103 z104 z105 z106 z107 z108 z109 z110 z111 z112 z113 z114 z115 z116 z117 z118 z119 z120 z121 z122 z123 z124 z125 z126 z127 z128 z129 z130 z131 z132 z133 z134 z135 z136 z137 z138 z139 z140 z141 z142 z143 z144 z145 z146 z147 z148 z149 z150 z151 z152 z153 z154 z155 z156 z157 z158 z159 z160 z161 z162 z163 z164 z165 z166 z167 z168 z169 z170 z171 z172 z173 z174 z175 z176 z177 z178 z179 z180 z181 z182 z183 z184 z185 z186 z187 z188 z189 z190 z191 z192 z193 z194 z195 z196 z197 z198 z199 z200 z201 z202 z203 z204 z205 z206 z207 z208 z209 z210 z211 z212 z213 z214 z215 z216 z217 z218 z219 z220 z221 z222 z223 z224 z225 z226 z227 z228 z229 z230 z231 z232 z233 z234 z235 z236 z237 z238 z239 z240 z241 z242 z243 z244 z245 z246 z247 z248 z249 z250 z251 z252 z253 z254 z255 z256 z257 z258 z259 z260 z261 z262 z263 z264 z265 z266 z267 z268 z269 z270 z271 z272 z273 z274 z275 z276 z277 z278 z279 z280 z281 z282 z283 z284 z285 z286 z287 z288 z289 z290 z291 z292 z293 z294; revert T n c xs pr P lp cp ps pa R lr cr rows0 ct sv ix wd0 L ll cl ks0 as0 w h hpr hP hlp hR hlr hct hsv hix hwd hL hll sm ns HSM HNS z0 w1 K1 K2 u21 u80 w0' hs10 hs11 hn hsml hl5 hn1 hd HSD hab1 hab2 z1 w2 g hg w3 p q3 hp HO w5 r1 q5 z2 N hN8 w6 r2 q6 z3 m hm6 w7 q7 wd z4 hwd4 hg7 s1 NN hNNb hmS HNN HS1 w8 A8 c8 hg7' hgw8 gF hF8l hgl hgf b T6 k6 tc6 ds A10 ca rows q10 bT bR hb8 hgT hgR hk6 w9 hTb hD10 hF10 hB10 hC10 hbb10 hle10 hg10 hbg ia hiN QL av z295 HQR HQL HIA hMR0 hMTO hITO HHH HTT hQ0 hQZ hQY z296 z297 wc u31 u32 u33 u76 u77 u81 u82 u83 u84 u85 u86 u87 u88 u89 u90 u91 u92 u93 u94 u95 u96 u97 u98 u99 u100 u101 u102 u103 u104 u105 u106 u107 u108 u109 u110 u111 u112 u113 u114 u115 u116 u117 u118 u119 u120 u121 u122 u123 u124 u125 u126 u127 u128 u129 u130 u131 u132 u133 u134 u135 u136 u137 u138 u139 u140 u141 u142 u143 u144 u145 u146 u147 u148 u149 u150 u151 u152 u153 u154 u155 u156 u157 u158 u159 u160 u161 u162 u163 u167 u168 u169 u170 u171 u172 u173 u174 u175 u176 u177 u178 u179 u183 u184 u185 u186 u187 u188 u189 u190 u191 u192 u193 u194 u195 u196 u197 u198 u199 u200 u201 u202 u203 u204 u205 u206 u207 u208 u209 u210 u211 u212 u213 u214 u218 u219 u220 u221 u222 u223 u224 u228 u229 u230 u231 u232 u233 u234 u235 u236 u237 u238 u239 u240 u241 u242 u243 u244 u245 u246 u247 u248 u249 u250 u251 u252 u253 u254 u255 u256 u257 u258 u259 u260 u261 u262 u263 u264 u265 u266 u267 u268 u269 u270 u271 u272 u273 u274 u275 u276 u280 u281 u282 u283 u284 u285 u286 u287 u288 u289 u290 u291 u292 u293 u294 u295 u296 u297 u298 u299 u300 u301 u302 u303 u304 u305 u306 u307 u308 u309 u310 u311 u312 u316 u317 u318 u319 u320 u321 u322 u323 u324 u325 u326 u327 u328 u329 u330 u331 u332 u333 u334 u335 u336 u337 u338 u339 u340 u341 u342 u343 u344 u345 u346 u347 u348 u349 u350 u351 u355 u356 u357 u358 u359 u363 u364 u365 u366 u367 u368 u369 u370 u371 u372 u373 u374 u375 u376 u377 u378 u379 u380 u381 u382 u383 u384 u385 u386 u387 u388 u389 u390 u391 hcut; exact hK2 ())⟩

set_option maxHeartbeats 200000000 in
set_option maxRecDepth 100000 in
theorem parityDoes_walk_0_2_2_1 : parityDoes_walk_0_2_2.1.1 := by
  intro T n c xs pr P lp cp ps pa R lr cr rows0 ct sv ix wd0 L ll cl ks0 as0 w h hpr hP hlp hR hlr hct hsv hix hwd hL hll sm ns HSM HNS _ w1 K1 K2 u21 u80 w0' hs10 hs11 hn hsml hl5 hn1 hd HSD hab1 hab2 _ w2 g hg w3 p q3 hp HO w5 r1 q5 _ N hN8 w6 r2 q6 _ m hm6 w7 q7 wd _ hwd4 hg7 s1 NN hNNb hmS HNN HS1 w8 A8 c8 hg7' hgw8 gF hF8l hgl hgf u32 u76 u77 u81 u82 u83 u84 u85 u86 u87 u88 u89 u90 u91 u92 u93 u94 u95 u96 u97 u98 u99 u100 u101 u102 u103 u104 u105 u106 u107 u108 u109 u110 u111 u112 u113 u114 u115 u116 u117 u118 u119 u120 u121 u122 u123 u124 u125 u126 u127 u128 u129 u130 u131 u132 u133 u134 u135 u136 u137 u138 u139 u140 u141 u142 u143 u144 u145 u146 u147 u148 u149 u150 u151 u152 u153 u154 u155 u156 u157 u158 u159 u160 u161 u162 u163 u167 u168 u169 u170 u171 u172 u173 u174 u175 u176 u177 u178 u179 u183 u184 u185 u186 u187 u188 u189 u190 u191 u192 u193 u194 u195 u196 u197 u198 u199 u200 u201 u202 u203 u204 u205 u206 u207 u208 u209 u210 u211 u212 u213 u214 u218 u219 u220 u221 u222 u223 u224 u228 u229 u230 u231 u232 u233 u234 u235 u236 u237 u238 u239 u240 u241 u242 u243 u244 u245 u246 u247 u248 u249 u250 u251 u252 u253 u254 u255 u256 u257 u258 u259 u260 u261 u262 u263 u264 u265 u266 u267 u268 u269 u270 u271 u272 u273 u274 u275 u276 u280 u281 u282 u283 u284 u285 u286 u287 u288 u289 u290 u291 u292 u293 u294 u295 u296 u297 u298 u299 u300 u301 u302 u303 u304 u305 u306 u307 u308 u309 u310 u311 u312 u316 u317 u318 u319 u320 u321 u322 u323 u324 u325 u326 u327 u328 u329 u330 u331 u332 u333 u334 u335 u336 u337 u338 u339 u340 u341 u342 u343 u344 u345 u346 u347 u348 u349 u350 u351 u355 u356 u357 u358 u359 u363 u364 u365 u366 u367 u368 u369 u370 u371 u372 u373 u374 u375 u376 u377 u378 u379 u380 u381 u382 u383 u384 u385 u386 u387 u388 u389 u390 u391 b T6 k6 tc6 ds A10 ca rows q10 bT bR hb8 hgT hgR hk6 w9 hTb hD10 hF10 hB10 hC10 hbb10 hle10 hg10 hbg ia hiN QL av _ HQR HQL HIA hMR0 hMTO hITO HHH HTT hQ0 hQZ hQY _ _ _ _ _ _
  go_region_held3 (fun w' => w'.cell? ⟨gF, 0, none⟩ = some (.int .i64 p) ∧ w'.cell? ⟨b, 0, none⟩ = some (.slice T6 k6 tc6) ∧ w'.cell? ⟨b, 1, none⟩ = some (.int .i64 0)) (first | exact HHH.out _ hQ0 | exact HHH.out _ hQZ | exact HHH.out _ hb12 | exact HHH.out _ (ballocs hb12 _) | exact HHH.out _ ((hb12.setCell (p := ⟨_, 0, none⟩) hle _).setCell (p := ⟨_, 1, none⟩) hle _))
    (first
      | (go_at_call 32; refine (mod_any ix N _ (by omega) (by omega)).mono ?_; rintro e w' ⟨rfl, rfl⟩; rw [HIA.out])
      | (go_at_call 80; refine (rpque_all p N m ia T6 k6 tc6 0 ds _ (HTT.out _ (by first | exact hQ0 | exact hQZ | exact hQY))).mono ?_; rw [HQR.out]; rintro e w12 ⟨⟨A12, m12, c12, T12, tk12, tc12, rfl, hM12, _, hmc12, _⟩, hb12'⟩
         have hb12 : Below w9.heap.size w9 w12 := bnext (by first | exact hQ0 | exact hQZ | exact hQY) hb12'
         obtain rfl : m = m12 := by rw [← HQL.out]; exact hM12.len
         first
           | (have hBx : Blk w12 w9.heap.size 62 #[.slice none 0 0, .int .i64 0] := (Blk.drew (Blk.new w9 62 #[.slice none 0 0, .int .i64 0])).below hb12' (by simp)
              have hle : w9.heap.size ≤ w9.heap.size := Nat.le_refl _
              have hx0 := (hBx.cell 0).trans rfl
              have hx1 := (hBx.cell 1).trans rfl
              have hxf0 := hBx.frozen 0
              have hxf1 := hBx.frozen 1)
           | (have hle : w9.heap.size ≤ w12.heap.size := hb12.size)))
  all_goals go_wp2_with fail
  all_goals go_meet
  all_goals first
    | exact QCut.new hM12 hmc12 hb12 (by first | exact Nat.le_refl _ | (simp)) _
    | exact QCut.box hM12 hmc12 hb12 hle (by simp) _ _

set_option maxHeartbeats 200000000 in
set_option maxRecDepth 100000 in
noncomputable def parityDoes_walk_0_2_2_2 : {G : Prop // (Unit → G) → parityDoes_walk_0_2_2.1.2} := ⟨_, fun hK1 => by
  intro T n c xs pr P lp cp ps pa R lr cr rows0 ct sv ix wd0 L ll cl ks0 as0 w h hpr hP hlp hR hlr hct hsv hix hwd hL hll sm ns HSM HNS _ w1 K1 K2 u21 u80 w0' hs10 hs11 hn hsml hl5 hn1 hd HSD hab1 hab2 _ w2 g hg w3 p q3 hp HO w5 r1 q5 _ N hN8 w6 r2 q6 _ m hm6 w7 q7 wd _ hwd4 hg7 s1 NN hNNb hmS HNN HS1 w8 A8 c8 hg7' hgw8 gF hF8l hgl hgf b T6 k6 tc6 ds A10 ca rows q10 bT bR hb8 hgT hgR hk6 w9 hTb hD10 hF10 hB10 hC10 hbb10 hle10 hg10 hbg ia hiN QL av _ HQR HQL HIA hMR0 hMTO hITO HHH HTT hQ0 hQZ hQY _ _ wc u31 u32 u33 u76 u77 u81 u82 u83 u84 u85 u86 u87 u88 u89 u90 u91 u92 u93 u94 u95 u96 u97 u98 u99 u100 u101 u102 u103 u104 u105 u106 u107 u108 u109 u110 u111 u112 u113 u114 u115 u116 u117 u118 u119 u120 u121 u122 u123 u124 u125 u126 u127 u128 u129 u130 u131 u132 u133 u134 u135 u136 u137 u138 u139 u140 u141 u142 u143 u144 u145 u146 u147 u148 u149 u150 u151 u152 u153 u154 u155 u156 u157 u158 u159 u160 u161 u162 u163 u167 u168 u169 u170 u171 u172 u173 u174 u175 u176 u177 u178 u179 u183 u184 u185 u186 u187 u188 u189 u190 u191 u192 u193 u194 u195 u196 u197 u198 u199 u200 u201 u202 u203 u204 u205 u206 u207 u208 u209 u210 u211 u212 u213 u214 u218 u219 u220 u221 u222 u223 u224 u228 u229 u230 u231 u232 u233 u234 u235 u236 u237 u238 u239 u240 u241 u242 u243 u244 u245 u246 u247 u248 u249 u250 u251 u252 u253 u254 u255 u256 u257 u258 u259 u260 u261 u262 u263 u264 u265 u266 u267 u268 u269 u270 u271 u272 u273 u274 u275 u276 u280 u281 u282 u283 u284 u285 u286 u287 u288 u289 u290 u291 u292 u293 u294 u295 u296 u297 u298 u299 u300 u301 u302 u303 u304 u305 u306 u307 u308 u309 u310 u311 u312 u316 u317 u318 u319 u320 u321 u322 u323 u324 u325 u326 u327 u328 u329 u330 u331 u332 u333 u334 u335 u336 u337 u338 u339 u340 u341 u342 u343 u344 u345 u346 u347 u348 u349 u350 u351 u355 u356 u357 u358 u359 u363 u364 u365 u366 u367 u368 u369 u370 u371 u372 u373 u374 u375 u376 u377 u378 u379 u380 u381 u382 u383 u384 u385 u386 u387 u388 u389 u390 u391 hcut
  obtain ⟨Aq, cq, rfl, hMq, hmc, hbq⟩ := hcut
  have hFq := hF10.below hbq hF10.lt
  have hBq := hB10.below hbq hB10.lt
  have hCq := hC10.below hbq hC10.lt
  have hTq := hTb.below hbq hTb.lt
  have hbbq := hbb10.trans (hbq.mono hbb10.size)
  have hDq := hD10.belowAll hbq
  have hMTq := hMTO.below hbq
  have hITq := hITO.below hbq
  have hMQq : MatO g wc Aq m QL := MatO.of_mat hMq hg10
  have hcfq : wc.cell? ⟨gF, 0, none⟩ = some (.int .i64 p) := (hFq.cell 0).trans rfl
  have hgq := hDq.1.lt
  have hMT0 := hMTq.mat
  have hMQ0 := hMQq.mat
  have hqs := hbq.size
  clear HHH HTT hQ0 hQZ hQY hF10 hB10 hC10 hTb hbb10 hD10 hMTO hITO hMq hMR0 HQR
  go_upto_region 18 with (go_at_call 81; refine (answers_any p wd A10 Aq N m ca cq rows QL _ hMT0 hMQ0 (by omega) (by omega)).mono ?_; rintro e w13 ⟨⟨L1, lc1, ks1, rs1, rfl, hoA⟩, hb13⟩)
  obtain ⟨g1, rfl, hg1a, hg1b⟩ := hoA.form (by omega)
  have hF13 := hFq.below hb13 hFq.lt
  have hB13 := hBq.below hb13 hBq.lt
  have hC13 := hCq.below hb13 hCq.lt
  have hT13 := hTq.below hb13 hTq.lt
  have hbb13 := bnext hbbq hb13
  have hD13 := hDq.belowAll hb13
  have hMT13 := hMTq.below hb13
  have hIT13 := hITq.below hb13
  have hMQ13 := hMQq.below hb13
  have hg13 := hD13.1.lt
  clear hFq hBq hCq hTq hbbq hDq hMTq hITq hMQq hcfq hMT0 hMQ0 hb13
  go_upto_region 19 with (
    at_builtin
    refine wpList_append_answers rfl _ _ 87 rfl Try.underlying87 rfl wc.heap.size wc.heap.size g1 m lc1 ks1 rs1 rfl hoA (by omega) (by omega) ?_
    intro g2 c14 w14 hoB hb14
    have hD14 := hD13.belowAll hb14
    have hg2a := (hoB.form (by omega))
    clear hD13)
  have hg2b : w13.heap.size ≤ g2 := by
    obtain ⟨g9, e9, h9, _⟩ := hg2a
    injection e9 with e9
    injection e9 with e9
    omega
  clear hg2a
  have hm0i : (0 : Int) ≤ (m : Int) := by omega
  go_wp2_with (
    go_at_call 20; (with_reducible refine (next_any g T n c xs q10 m w14 hD14 (by omega)).mono ?_); rintro e w15 ⟨r15, q15, rfl, hr15, _, hD15, hS15, hzz15⟩
    clear hzz15
    obtain ⟨kd, rfl⟩ : ∃ r : Nat, r15 = r := ⟨r15.toNat, by have := hr15 (by omega); omega⟩
    have hkd : kd < m := by have := hr15 (by omega); omega
    have hkdl : (kd : Int) < (m : Int) := by omega
    have hkd0 : (0 : Int) ≤ (kd : Int) := by omega
    have hoB15 := hoB.step hS15 hgq hg13
    have hc15 := hoB15.cellK hkd
    have hz15 := hoB15.frozenAt (kd * 2)
    have hK15 : KeepG g w13.heap.size w13 w15 := (KeepG.of_below hb14).trans (KeepG.of_step hS15 hb14.size)
    have hKS := hK15.set (j := kd * 2) hg2b (.bool false)
    have hBS0 := hKS.blk hB13 hB13.lt (by omega)
    have hFS0 := hKS.blk hF13 hF13.lt hgf
    have hr0 : (w15.setCell ⟨g2, kd * 2, none⟩ (.bool false)).cell? ⟨w.heap.size, 0, none⟩ = some (.int .i64 pr) := (hBS0.cell 0).trans rfl
    have hf0 : (w15.setCell ⟨g2, kd * 2, none⟩ (.bool false)).cell? ⟨gF, 0, none⟩ = some (.int .i64 p) := (hFS0.cell 0).trans rfl
    clear hr15 hBS0)
  have hoBS := hoB15.setK (b := false) hkd
  have hCS := hKS.blk hC13 hC13.lt (by omega)
  have hTS := hKS.blk hT13 hT13.lt hbg
  have hMTS := (hKS.mat hMT13 (Nat.le_refl _)).mat
  have hMQS := (hKS.mat hMQ13 (Nat.le_refl _)).mat
  have hITS := (hKS.ints hIT13 (Nat.le_refl _)).1
  have hA1S := hKS.ans hoA hgq hgq (Nat.le_refl _)
  have hA2S := hoBS.ans
  have hbS := hbb13.trans (hKS.below (C := w.heap.size) hbb13.size (by omega))
  have hPS := hP.upto hbS
  have hRS := hR.upto hbS
  have hLS := hL.upto hbS
  have hszS : (w15.setCell ⟨g2, kd * 2, none⟩ (.bool false)).heap.size = w15.heap.size := by simp [World.setCell]
  generalize ks1.set kd false = ks2 at *
  obtain ⟨WS, hWS⟩ : ∃ WS, w15.setCell ⟨g2, kd * 2, none⟩ (.bool false) = WS := ⟨_, rfl⟩
  rw [hWS] at hCS hTS hMTS hMQS hITS hA1S hA2S hbS hPS hRS hLS hszS hr0 hf0
  rw [hWS]
  clear hWS hKS hK15 hFS0 hoB15 hoB hoBS hoA hc15 hz15 hS15 hD15 hD14 hb14 hF13 hB13 hC13 hT13 hMT13 hIT13 hMQ13 hbb13 hr0 hf0
  have hb9W : Below WS.heap.size WS (WS.alloc (.cells #[.int .i64 pr, .int .i64 p] 24)) := bbox _
  have hbW := bnext hbS hb9W
  have hN := Blk.new WS 24 #[.int .i64 pr, .int .i64 p]
  have hCW := hCS.below hb9W hCS.lt
  have hTW := hTS.below hb9W hTS.lt
  have hMTW := hMTS.upto hb9W
  have hMQW := hMQS.upto hb9W
  have hITW := hITS.upto hb9W
  have hA1W := hA1S.upto hb9W
  have hA2W := hA2S.upto hb9W
  have hPW := hPS.upto hb9W
  have hRW := hRS.upto hb9W
  have hLW := hLS.upto hb9W
  obtain ⟨gN, hgNe⟩ : ∃ gN, WS.heap.size = gN := ⟨_, rfl⟩
  obtain ⟨gC, hgC⟩ : ∃ gC, w.heap.size + 1 = gC := ⟨_, rfl⟩
  obtain ⟨W, hW⟩ : ∃ W, WS.alloc (.cells #[.int .i64 pr, .int .i64 p] 24) = W := ⟨_, rfl⟩
  rw [hW] at hbW hN hCW hTW hMTW hMQW hITW hA1W hA2W hPW hRW hLW
  rw [hgNe] at hN
  rw [hgC] at hCW
  have hNl := hN.lt
  have PGS := Lib.hid (two_ofP (P := fun j => ∃ pg : Int, W.cell? ⟨gN, j, none⟩ = some (.int .i64 pg) ∧ -9223372036854775808 ≤ pg ∧ pg ≤ 9223372036854775807) ⟨pr, (hN.cell 0).trans rfl, hpr⟩ ⟨p, (hN.cell 1).trans rfl, by omega⟩)
  have hk6b : k6 ≤ 17592186043904 := by omega
  rw [← hszS, hgNe, hgC, hW]
  clear hszS hgNe hgC hW hb9W hN hbS hCS hTS hMTS hMQS hITS hA1S hA2S hPS hRS hLS hpr h hP hR hL
  refine wp_loopF [false, false, false, false, false, false, false, false, false, false, false, false, false, false, false, false, false, false, true, false, false, false, false, false, false, false, false, false, false, false, false, false, false, false, false, false, false, true, false, true, true, true, true, true, false, true, false, true, true, true, true, true, true, true, false, true, true, true, true, true, true, true, false, true, true, true, true, true, false, true, false, true, true, true, true, true, false, false, false, false, false, false, false, false, false, false, false, false, false, false, false, false, false, false, false, false, false, false, false, false, false, false, false, false, false, false, false, false, false, false, false, false, false, false, false, false, false, false, false, false, false, false, false, false, false, false, false, false, false, false, false, false, false, false, false, false, false, false, false, false, false, false, false, false, false, false, false, false, false, false, false, false, false, false, false, false, false, false, false, false, false, false, false, false, false, false, true, true, true, true, true, true, true, true, true, true, true, true, true, true, true, true, true, true, true, true, true, true, true, true, true, true, true, true, true, true, true, true, true, true, true, true, true, true, true, true, true, true, true, true, true, true, true, true, true, true, true, true, true, true, true, true, true, true, true, true, true, true, true, true, true, true, true, true, true, true, true, true, true, true, true, true, true, true, true, true, true, true, true, true, true, true, true, true, true, true, true, true, true, true, true, true, true, true, true, true, true, true, true, true, true, true, true, true, true, true, true, true, true, true, true, true, true, true, true, true, true, true, true, true, true, true, true, true, true, true, true, true, true, true, true, true, true, true, true, true, true, true, true, true, true, true, true, true, true, true, true, true, true, true, true, true, true, true, true, true, true, true, true, true, true, true, true, true, true, true, true, true, true, true, true, true, true, true, true, true, true, true, true, true, true, true, true, true, true, true, true, true, true, true, true, true, true, true, true, true, true, true, true, true, true, true, true, true, true, true, true, true, true, true, true, true, true, true, true, true, true, true, true, true, true, true] (fun us wr => ∃ j : Nat, j ≤ 2 ∧ us 166 = .int .i64 j ∧ Below W.heap.size W wr) (fun a _ => 2 - (intOf (a.tmps.getD 166 undef)).toNat) ?_ ?_
  · exact AtHead.end_ ⟨0, by omega, by kernel_rfl, Below.refl _ _⟩ (by kernel_rfl)
  · intro us166 wr hR
    (rename_i z0 z1 z2 z3 z4 z5 z6 z7 z8; revert T n c xs pr P lp cp ps pa R lr cr rows0 ct sv ix wd0 L ll cl ks0 as0 w hlp hlr hct hsv hix hwd hll sm ns HSM HNS z0 w1 K1 K2 u21 u80 w0' hs10 hs11 hn hsml hl5 hn1 hd HSD hab1 hab2 z1 w2 g hg w3 p q3 hp HO w5 r1 q5 z2 N hN8 w6 r2 q6 z3 m hm6 w7 q7 wd z4 hwd4 hg7 s1 NN hNNb hmS HNN HS1 w8 A8 c8 hg7' hgw8 gF hF8l hgl hgf b T6 k6 tc6 ds A10 ca rows q10 bT bR hb8 hgT hgR hk6 w9 hle10 hg10 hbg ia hiN QL av z5 HQL HIA wc u32 u33 u76 u77 u81 u82 u83 u84 u85 u86 u87 u88 u89 u90 u91 u92 u93 u94 u95 u96 u97 u98 u99 u100 u101 u102 u103 u104 u105 u106 u107 u108 u109 u110 u111 u112 u113 u114 u115 u116 u117 u118 u119 u120 u121 u122 u123 u124 u125 u126 u127 u128 u129 u130 u131 u132 u133 u134 u135 u136 u137 u138 u139 u140 u141 u142 u143 u144 u145 u146 u147 u148 u149 u150 u151 u152 u153 u154 u155 u156 u157 u158 u159 u160 u161 u162 u163 u167 u168 u169 u170 u171 u172 u173 u174 u175 u176 u177 u178 u179 u183 u184 u185 u186 u187 u188 u189 u190 u191 u192 u193 u194 u195 u196 u197 u198 u199 u200 u201 u202 u203 u204 u205 u206 u207 u208 u209 u210 u211 u212 u213 u214 u218 u219 u220 u221 u222 u223 u224 u228 u229 u230 u231 u232 u233 u234 u235 u236 u237 u238 u239 u240 u241 u242 u243 u244 u245 u246 u247 u248 u249 u250 u251 u252 u253 u254 u255 u256 u257 u258 u259 u260 u261 u262 u263 u264 u265 u266 u267 u268 u269 u270 u271 u272 u273 u274 u275 u276 u280 u281 u282 u283 u284 u285 u286 u287 u288 u289 u290 u291 u292 u293 u294 u295 u296 u297 u298 u299 u300 u301 u302 u303 u304 u305 u306 u307 u308 u309 u310 u311 u312 u316 u317 u318 u319 u320 u321 u322 u323 u324 u325 u326 u327 u328 u329 u330 u331 u332 u333 u334 u335 u336 u337 u338 u339 u340 u341 u342 u343 u344 u345 u346 u347 u348 u349 u350 u351 u355 u356 u357 u358 u359 u363 u364 u365 u366 u367 u368 u369 u370 u371 u372 u373 u374 u375 u376 u377 u378 u379 u380 u381 u382 u383 u384 u385 u386 u387 u388 u389 u390 u391 Aq cq hmc hbq hgq hqs w13 lc1 ks1 rs1 g1 hg1a hg1b hg13 g2 c14 w14 hg2b hm0i w15 q15 kd z6 hkd hkdl hkd0 z7 z8 ks2 WS gN gC W hLW hRW hPW hA2W hA1W hITW hMQW hMTW hTW hCW hbW hNl PGS hk6b us166 wr hR; exact hK1 ())⟩

end Go.Proofs.Ytoblofilaegnaaa
