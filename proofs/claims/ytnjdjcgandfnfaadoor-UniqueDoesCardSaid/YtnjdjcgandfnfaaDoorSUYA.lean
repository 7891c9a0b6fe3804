/-
  UniqueDoes returns true: the walk of the law. Conditions: none beyond the reading of its arguments and of the variable errWrong.
-/
import Derived.Test.YtnjdjcgandfnfaaDoorGDec
import Derived.Test.YtnjdjcgandfnfaaDoorRDec9
import Derived.Test.YtnjdjcgandfnfaaDoorRSame9
import Derived.Test.YtnjdjcgandfnfaaDoorGMak
import Derived.Test.YtnjdjcgandfnfaaDoorGLaw
namespace Go.Proofs.YtnjdjcgandfnfaaDoor
open Go.RowKit
set_option linter.unusedVariables false

theorem two_ofU {P : Nat → Prop} (h0 : P 0) (h1 : P 1) : ∀ i, i < 2 → P i := by
  intro i hi
  have : i = 0 ∨ i = 1 := by omega
  rcases this with rfl | rfl
  · exact h0
  · exact h1
theorem three_ofU {P : Nat → Prop} (h0 : P 0) (h1 : P 1) (h2 : P 2) : ∀ i, i < 3 → P i := by
  intro i hi
  have : i = 0 ∨ i = 1 ∨ i = 2 := by omega
  rcases this with rfl | rfl | rfl
  · exact h0
  · exact h1
  · exact h2
theorem ErrW.stepU {g : Nat} {w w' : World} (h : ErrW w) (hs : Step g w w') (hg : 0 < g) : ErrW w' :=
  ⟨(World.cell?_of_block (World.grownBy.block hs 0 h.2 (fun e => by injection e with e; omega))).trans h.1, Nat.lt_of_lt_of_le h.2 (World.grownBy.size hs)⟩
theorem Ints.stepU {g : Nat} {w w' : World} {A : Option Addr} {n : Nat} {xs : List Int} (h : Ints w w.heap.size A n xs) (hs : Step g w w') (hne : ∀ b o s, A = some ⟨b, o, s⟩ → 0 < n → b ≠ g) : Ints w' w'.heap.size A n xs := ⟨h.1, fun h0 => by
  obtain ⟨b, o, e, hb, hc⟩ := h.2 h0
  have hbg := hne b o none e h0
  exact ⟨b, o, e, Nat.lt_of_lt_of_le hb (World.grownBy.size hs), fun j hj => (World.cell?_of_block (World.grownBy.block hs b hb (fun e => hbg (by injection e)))).trans (hc j hj)⟩⟩
/-- A box that holds a decoded word. -/
def DcB (w : World) (b : Nat) : Prop := ∃ (A : Option Addr) (n c : Nat) (A2 : Option Addr) (n2 c2 : Nat) (P ws : List Int), Blk w b 27 #[.slice A n c, .slice A2 n2 c2] ∧ Ints w w.heap.size A n P ∧ n ≤ c ∧ n ≤ 17592186043904 ∧ Ints w w.heap.size A2 n2 ws ∧ n2 ≤ 17592186043904
theorem DcB.upto {w w' : World} {b : Nat} (h : DcB w b) (hb : Below w.heap.size w w') : DcB w' b := by
  obtain ⟨A, n, c, A2, n2, c2, P, ws, h1, h2, h3, h4, h5, h6⟩ := h
  exact ⟨A, n, c, A2, n2, c2, P, ws, h1.below hb h1.lt, h2.upto hb, h3, h4, h5.upto hb, h6⟩
theorem KeyAll.no {p k wr : Int} {vs : List Int} {bs : List Bool} {w w' : World} {e : Ending} (h : KeyAll p vs bs k wr w e w') (h0 : keyE p vs bs k wr ≠ 0) : e = .returned (.tuple #[.agg #[.int .i64 0, .int .i64 0, .int .i64 0, .slice none 0 0, .slice none 0 0], .int .i64 (keyE p vs bs k wr)]) ∧ Below w.heap.size w w' := by
  rcases h with ⟨_, h1, h2⟩ | ⟨h1, _⟩
  · exact ⟨h1, h2⟩
  · exact absurd h1 h0
theorem KeyAll.yes {p k wr : Int} {vs : List Int} {bs : List Bool} {w w' : World} {e : Ending} (h : KeyAll p vs bs k wr w e w') (h0 : keyE p vs bs k wr = 0) : KeyPost p k.toNat wr.toNat (knL vs bs) w e w' := by
  rcases h with ⟨h1, _⟩ | ⟨_, h1⟩
  · exact absurd h0 h1
  · exact h1
theorem pairU {α β : Type} (r : α × β) : ∃ a b, Hid (r = (a, b)) := ⟨r.1, r.2, Lib.hid rfl⟩
theorem bad_ofU {n ll pq : Nat} (h : ¬ (n ≤ 500 ∧ ll ≤ 40 ∧ pq ≤ 600)) : ¬ n ≤ 500 ∨ (n ≤ 500 ∧ (40 : Int) < (ll : Int)) ∨ (n ≤ 500 ∧ ¬ (40 : Int) < (ll : Int) ∧ (600 : Int) < (pq : Int)) := by omega

set_option maxHeartbeats 200000000 in
set_option maxRecDepth 100000 in
noncomputable def uniqueDoes_walk_0 : {G : Prop × Prop // (Unit → G.1) → (Unit → G.2) → ∀ (T : Option Addr) (n c : Nat) (xs : List Int) (pr : Int) (L : Option Addr) (ll cl : Nat) (vs0 : List Int) (bs0 : List Bool) (k wd : Int) (PA : Option Addr) (pn pc : Nat) (PB : Option Addr) (qn qc : Nat) (P0 Q0 : List Int) (w : World)
    (h : Ints w w.heap.size T n xs) (hpr : -9223372036854775808 ≤ pr ∧ pr ≤ 9223372036854775807) (hL : Cel w w.heap.size L ll vs0 bs0) (hk64 : -9223372036854775808 ≤ k ∧ k ≤ 9223372036854775807) (hw64 : -9223372036854775808 ≤ wd ∧ wd ≤ 9223372036854775807)
    (h5 : Ints w w.heap.size PA pn P0) (hpn : pn ≤ 17592186043904) (hpc : pn ≤ pc) (h6 : Ints w w.heap.size PB qn Q0) (hqn : qn ≤ 17592186043904) (hqc : qn ≤ qc) (hE : ErrW w), Calls Tryd.prog 3 #[.slice T n c, .agg #[.int .i64 pr], .slice L ll cl, .int .i64 k, .int .i64 wd, .agg #[.slice PA pn pc, .slice PB qn qc]] w fun e w' => e = .returned (.bool true) ∧ Below w.heap.size w w'} := ⟨(_, _), fun hK1 hK2 => by
  intro T n c xs pr L ll cl vs0 bs0 k wd PA pn pc PB qn qc P0 Q0 w h hpr hL hk64 hw64 h5 hpn hpc h6 hqn hqc hE
  obtain ⟨i0, hi0, hz0, hz1, hz2⟩ := info_parts info_int
  have hb0 : Below w.heap.size w ((w.alloc (.cells #[.int .i64 pr] 24)).alloc (.cells #[.slice PA pn pc, .slice PB qn qc] 27)) := ballocs (bbox _) _
  have hB0 := (Blk.new w 24 #[.int .i64 pr]).alloc (.cells #[.slice PA pn pc, .slice PB qn qc] 27)
  have hX0 := Blk.new1 w (.cells #[.int .i64 pr] 24) 27 #[.slice PA pn pc, .slice PB qn qc]
  have hE0 := hE.below hb0
  obtain ⟨pq, hpq⟩ : ∃ pq, pn + qn = pq := ⟨_, rfl⟩
  have hpqi : (pn : Int) + (qn : Int) = (pq : Int) := by omega
  have hpqw : IntKind.i64.wrap (pq : Int) = (pq : Int) := IntWalk.i64_in _ (by omega)
  have HPQ := Lib.hid hpq
  by_cases hgd : n ≤ 500 ∧ ll ≤ 40 ∧ pq ≤ 600
  · have hn := hgd.1
    have hd : decide (n ≤ 500) = true := by simpa using hn
    have hl40 : ll ≤ 40 := hgd.2.1
    have hg40 : ¬ (40 : Int) < (ll : Int) := by omega
    have hg600 : ¬ (600 : Int) < (pq : Int) := by omega
    clear hgd hpq
    go_enter Tryd.func3, Tryd.ntmps3
    go_upto_region 8 with (first
      | (go_at_call 9; refine (sane09_any _ hE0).mono ?_; rintro e w1 ⟨rfl, hb1⟩
         have hbb1 := bnext hb0 hb1
         have hE1 := hE0.below hb1
         have hB1 := hB0.below hb1 hB0.lt
         have hX1 := hX0.below hb1 hX0.lt
         have hx10 : w1.cell? ⟨w.heap.size + 1, 0, none⟩ = some (.slice PA pn pc) := (hX1.cell 0).trans rfl
         have hx11 : w1.cell? ⟨w.heap.size + 1, 1, none⟩ = some (.slice PB qn qc) := (hX1.cell 1).trans rfl
         clear hb1)
      | (go_at_call 10; refine (few_any T n c _).mono ?_; rintro e w' ⟨rfl, rfl⟩)
      | (go_at_call 11; refine (new_any T n c xs _ (h.upto hbb1) hn).mono ?_; rintro e w2 ⟨⟨g, rfl, hge, hD2⟩, hb2⟩
         have hbb2 := bnext hbb1 hb2
         have hE2 := hE1.below hb2
         have hB2 := hB1.below hb2 hB1.lt
         have hX2 := hX1.below hb2 hX1.lt
         have hg : w.heap.size + 1 < g := by rw [hge]; exact hX1.lt
         have hg1 : 0 < g := by omega
         clear hge hb2)
      | (go_at_call 12; refine (big_any g T n c xs 0 9 _ hD2 (by omega)).mono ?_; rintro e w3 ⟨p, q3, rfl, hkn, hlp, hD3, hS3⟩
         have hok := okP_known hkn
         have hp := okP_pos hok
         have HO := Lib.hid hok
         have hF3 := Blk.new w3 24 #[.int .i64 p]
         have hD3' := hD3.alloc (.cells #[.int .i64 p] 24)
         have hbb3 := Step.below hbb2 (hS3.alloc (.cells #[.int .i64 p] 24)) hbb2.size (by omega)
         have hE3 := hE2.stepU (hS3.alloc (.cells #[.int .i64 p] 24)) hg1
         have hB3 := Step.block (hS3.alloc (.cells #[.int .i64 p] 24)) hB2 (by omega)
         have hX3 := Step.block (hS3.alloc (.cells #[.int .i64 p] 24)) hX2 (by omega)
         have hgF : w3.heap.size ≠ g := by have := hD3.1.lt; omega
         clear hkn hD3)
      | (go_at_call 13; (with_reducible refine (next_any g T n c xs q3 4 _ hD3' (by omega)).mono ?_); rintro e w4 ⟨r', q4, rfl, hr, hr0, hD4, hS4, hz4⟩
         obtain ⟨m, hm⟩ : ∃ r : Nat, 1 + r' = (r : Int) := ⟨(1 + r').toNat, by have := hr (by omega); omega⟩
         have hm4 : 1 ≤ m ∧ m ≤ 4 := by have := hr (by omega); omega
         have hwm : IntKind.i64.wrap (m : Int) = (m : Int) := IntWalk.i64_in _ (by omega)
         have hF4 := Step.block hS4 hF3 hgF
         have hbb4 := Step.below hbb3 hS4 hbb3.size (by omega)
         have hE4 := hE3.stepU hS4 hg1
         have hB4 := Step.block hS4 hB3 (by omega)
         have hX4 := Step.block hS4 hX3 (by omega)
         clear hr hr0 hz4))
    obtain ⟨F, hF⟩ : ∃ F, w3.heap.size = F := ⟨_, rfl⟩
    rw [hF] at hF4 hgF
    rw [hF]
    clear hF hE0 hE1 hE2 hE3 hB0 hB1 hB2 hB3 hX0 hX1 hX2 hX3 hx10 hx11 hF3 hD2 hD3' hS3 hS4 hbb2 hbb3 hb0 hm hE
    obtain ⟨tm, htm⟩ : ∃ tm, 10 - m = tm := ⟨_, rfl⟩
    have htmi : (10 : Int) - (m : Int) = (tm : Int) := by omega
    have htmw : IntKind.i64.wrap (tm : Int) = (tm : Int) := IntWalk.i64_in _ (by omega)
    have hFl := hF4.lt
    have hf4 : w4.cell? ⟨F, 0, none⟩ = some (.int .i64 p) := (hF4.cell 0).trans rfl
    have hf4d : w4.drew.cell? ⟨F, 0, none⟩ = some (.int .i64 p) := hf4
    go_cut [16] (fun s16 wx => ∃ (N : Nat) (C : Option Addr) (cc : Nat) (vs : List Int) (bs : List Bool) (q9 : Nat), s16 = .slice C N cc ∧ N ≤ 9 ∧ OwnC wx w4.heap.size C N cc vs bs ∧ Deck wx g T n c xs q9 ∧ Step g w4 wx)
    case first =>
      (rename_i z0 z1 z2 z3 z4 z5 z6 z7; revert T n c xs pr L ll cl vs0 bs0 k wd PA pn pc PB qn qc P0 Q0 w h hpr hL hk64 hw64 h5 hpn hpc h6 hqn hqc i0 hi0 hz0 hz1 hz2 pq hpqi hpqw HPQ hn hd hl40 z0 w1 hbb1 hg40 hg600 z1 w2 g hg hg1 w3 p q3 hlp hok hp HO w4 r' q4 hD4 m hm4 hwm hbb4 hE4 hB4 hX4 z2 z3 F hgF hF4 tm htm htmi htmw hFl hf4 hf4d z4 z5 z6 z7; exact hK1 ())
    case rest =>
    obtain ⟨N, C, cc, vs, bs, q9, rfl, hN9, hOC9, hD9, hS9⟩ := hcut
    obtain ⟨w9, hw9⟩ : ∃ v, v = wc := ⟨_, rfl⟩
    subst hw9
    have hgw4 : g < w4.heap.size := hD4.1.lt
    have hF9 := Step.block hS9 hF4 hgF
    have hB9 := Step.block hS9 hB4 (by omega)
    have hX9 := Step.block hS9 hX4 (by omega)
    have hE9 := hE4.stepU hS9 hg1
    have hbb9 := Step.below hbb4 hS9 hbb4.size (by omega)
    have hf9 : w9.cell? ⟨F, 0, none⟩ = some (.int .i64 p) := (hF9.cell 0).trans rfl
    have hp64 : -9223372036854775808 ≤ p ∧ p ≤ 9223372036854775807 := by omega
    have hgw9 : g < w9.heap.size := hD9.1.lt
    clear hf4 hf4d hF4 hB4 hX4 hE4 hbb4 hS9 hD4
    (rename_i z0 z1 z2 z3; revert T n c xs pr L ll cl vs0 bs0 k wd PA pn pc PB qn qc P0 Q0 w h hpr hL hk64 hw64 h5 hpn hpc h6 hqn hqc i0 hi0 hz0 hz1 hz2 pq hpqi hpqw HPQ hn hd hl40 z0 w1 hbb1 hg40 hg600 z1 w2 g hg hg1 w3 p q3 hlp hok hp HO w4 r' q4 m hm4 hwm z2 z3 F hgF tm htm htmi htmw hFl u46 u47 u48 u49 u50 u51 u52 u53 u54 u55 u56 u57 u58 u59 u60 u61 u62 u63 u64 u65 u66 u67 u68 u69 u70 u71 u72 u73 u74 u75 u76 u77 u78 u79 u80 u81 u82 u83 u84 u85 u86 u87 u88 u89 u90 u91 u92 u93 u94 u95 u96 u97 u98 u99 u100 u101 u102 u103 u104 u105 u106 u107 u108 u109 u110 u111 u112 u113 u114 u115 u116 u117 u118 u119 u123 u124 u125 u126 u127 u128 u129 u133 u134 u135 u136 u137 u141 u142 u143 u144 u145 u146 u147 u148 u149 u150 u151 u152 u153 u154 u155 u156 u157 u158 u159 u160 u161 u162 u163 u164 u165 u166 u167 u168 u169 u173 u174 u175 u176 u177 u178 u179 u180 u181 u182 u183 u184 u185 u186 u187 u188 u189 u190 u194 u195 u196 u197 u198 u199 u200 u201 u202 u203 u204 u205 u206 u207 u208 u209 u210 u211 u212 u213 u214 u215 u216 u217 u218 u219 u220 u221 u222 u223 u224 u225 u226 u227 u228 u229 u230 u231 u232 u233 u234 u235 u236 u237 u238 u239 u240 u241 u242 u243 u244 u245 u246 u247 u248 u249 u250 u251 u252 u253 u254 u255 u256 u257 u258 u259 u260 u261 u262 u263 u264 u265 u266 u267 u268 u269 u270 u271 u272 u273 u274 u275 u276 u277 u278 u279 u280 u281 u282 u283 u284 u285 u286 u287 u288 u289 u290 u291 u292 u293 u294 u295 u296 u297 u298 u299 u300 N C cc vs bs q9 hN9 w9 hOC9 hD9 hgw4 hF9 hB9 hX9 hE9 hbb9 hf9 hp64 hgw9; exact hK2 ())
  · have HBD := Lib.hid (bad_ofU hgd)
    clear hgd hpq
    rcases HBD.out with h1 | ⟨h1, h2⟩ | ⟨h1, h2, h3⟩
    · have hd : decide (n ≤ 500) = false := by simpa using h1
      go_enter Tryd.func3, Tryd.ntmps3
      go_wp2_with (first
        | (go_at_call 9; refine (sane09_any _ hE0).mono ?_; rintro e w1 ⟨rfl, hb1⟩
           have hbb1 := bnext hb0 hb1
           have hX1 := hX0.below hb1 hX0.lt
           have hx10 : w1.cell? ⟨w.heap.size + 1, 0, none⟩ = some (.slice PA pn pc) := (hX1.cell 0).trans rfl
           have hx11 : w1.cell? ⟨w.heap.size + 1, 1, none⟩ = some (.slice PB qn qc) := (hX1.cell 1).trans rfl)
        | (go_at_call 10; refine (few_any T n c _).mono ?_; rintro e w' ⟨rfl, rfl⟩))
      go_ret
      exact ⟨rfl, hbb1⟩
    · have hd : decide (n ≤ 500) = true := by simpa using h1
      go_enter Tryd.func3, Tryd.ntmps3
      go_wp2_with (first
        | (go_at_call 9; refine (sane09_any _ hE0).mono ?_; rintro e w1 ⟨rfl, hb1⟩
           have hbb1 := bnext hb0 hb1
           have hX1 := hX0.below hb1 hX0.lt
           have hx10 : w1.cell? ⟨w.heap.size + 1, 0, none⟩ = some (.slice PA pn pc) := (hX1.cell 0).trans rfl
           have hx11 : w1.cell? ⟨w.heap.size + 1, 1, none⟩ = some (.slice PB qn qc) := (hX1.cell 1).trans rfl)
        | (go_at_call 10; refine (few_any T n c _).mono ?_; rintro e w' ⟨rfl, rfl⟩))
      go_ret
      exact ⟨rfl, hbb1⟩
    · have hd : decide (n ≤ 500) = true := by simpa using h1
      go_enter Tryd.func3, Tryd.ntmps3
      go_wp2_with (first
        | (go_at_call 9; refine (sane09_any _ hE0).mono ?_; rintro e w1 ⟨rfl, hb1⟩
           have hbb1 := bnext hb0 hb1
           have hX1 := hX0.below hb1 hX0.lt
           have hx10 : w1.cell? ⟨w.heap.size + 1, 0, none⟩ = some (.slice PA pn pc) := (hX1.cell 0).trans rfl
           have hx11 : w1.cell? ⟨w.heap.size + 1, 1, none⟩ = some (.slice PB qn qc) := (hX1.cell 1).trans rfl)
        | (go_at_call 10; refine (few_any T n c _).mono ?_; rintro e w' ⟨rfl, rfl⟩))
      go_ret
      exact ⟨rfl, hbb1⟩⟩

set_option maxHeartbeats 200000000 in
set_option maxRecDepth 100000 in
theorem uniqueDoes_walk_0_1 : uniqueDoes_walk_0.1.1 := by
  intro T n c xs pr L ll cl vs0 bs0 k wd PA pn pc PB qn qc P0 Q0 w h hpr hL hk64 hw64 h5 hpn hpc h6 hqn hqc i0 hi0 hz0 hz1 hz2 pq hpqi hpqw HPQ hn hd hl40 _ w1 hbb1 hg40 hg600 _ w2 g hg hg1 w3 p q3 hlp hok hp HO w4 r' q4 hD4 m hm4 hwm hbb4 hE4 hB4 hX4 _ _ F hgF hF4 tm htm htmi htmw hFl hf4 hf4d _ _ _ _
  go_region_held3 (fun w' => w'.cell? ⟨F, 0, none⟩ = some (.int .i64 p)) (first | exact hf4 | exact hf4d | exact hf5 | exact hf6 | exact hf7 | exact hf8 | exact hf9)
    (first
      | (go_at_call 15; (with_reducible refine (elements_any g T n c xs q4 p m _ hD4.drew hp (by omega)).mono ?_); rintro e w5 ⟨E1, d1, el, q5, rfl, hown5, hEl, hD5, hS5⟩
         have hS5' := Step.undrewW hS5
         have hF5 := Step.block hS5' hF4 hgF
         have hf5 : w5.cell? ⟨F, 0, none⟩ = some (.int .i64 p) := (hF5.cell 0).trans rfl
         have hsz5 : w4.heap.size ≤ w5.heap.size := World.grownBy.size hS5'
         have hown5' : OwnI w5 w4.heap.size 3 E1 m d1 el := hown5
         have hDg : g < w4.heap.size := hD4.1.lt)
      | (go_at_call 13; (with_reducible refine (next_any g T n c xs q5 (tm : Int) w5 hD5 (by omega)).mono ?_); rintro e w6 ⟨r2, q6, rfl, hr2, hr20, hD6, hS6, hz6⟩
         obtain ⟨N, hN⟩ : ∃ r : Nat, (m : Int) + r2 = (r : Int) := ⟨((m : Int) + r2).toNat, by have := hr2 (by omega); omega⟩
         have hN9 : N ≤ 9 := by have := hr2 (by omega); omega
         have hNw : IntKind.i64.wrap (N : Int) = (N : Int) := IntWalk.i64_in _ (by omega)
         have hown6 := hown5'.step hS6 hDg
         have hF6 := Step.block hS6 hF5 hgF
         have hf6 : w6.cell? ⟨F, 0, none⟩ = some (.int .i64 p) := (hF6.cell 0).trans rfl
         clear hr2 hr20)
      | (go_at_call 13; (with_reducible refine (next_any g T n c xs q6 4 w6 hD6 (by omega)).mono ?_); rintro e w7 ⟨r3, q7, rfl, hr3, hr30, hD7, hS7, hz7⟩
         obtain ⟨nw, rfl⟩ : ∃ r : Nat, r3 = r := ⟨r3.toNat, by have := hr3 (by omega); omega⟩
         have hnw : nw ≤ 4 := by have := hr3 (by omega); omega
         have hown7 := hown6.step hS7 hDg
         have hF7 := Step.block hS7 hF6 hgF
         have hf7 : w7.cell? ⟨F, 0, none⟩ = some (.int .i64 p) := (hF7.cell 0).trans rfl
         clear hr3 hr30)
      | (go_at_call 13; (with_reducible refine (next_any g T n c xs q7 3 w7 hD7 (by omega)).mono ?_); rintro e w8 ⟨r4, q8, rfl, hr4, hr40, hD8, hS8, hz8⟩
         obtain ⟨si, rfl⟩ : ∃ r : Nat, r4 = r := ⟨r4.toNat, by have := hr4 (by omega); omega⟩
         have hsi : si ≤ 3 := by have := hr4 (by omega); omega
         have hown8 := hown7.step hS8 hDg
         have hF8 := Step.block hS8 hF7 hgF
         have hf8 : w8.cell? ⟨F, 0, none⟩ = some (.int .i64 p) := (hF8.cell 0).trans rfl
         have hI8 := hown8.ints
         have hcap8 := hown8.cap
         clear hr4 hr40)
      | (go_at_call 14; (with_reducible refine (mcellsW_ok g T n c xs q8 p E1 m d1 el N nw si w8 hD8 HO.out hI8 hEl hcap8 (by omega) (by omega) (by omega) (by omega) (by omega)).mono ?_); rintro e w9 ⟨C, cc, vs, bs, q9, rfl, hO9, _, _, _, hD9, hS9⟩
         have hF9 := Step.block hS9 hF8 hgF
         have hf9 : w9.cell? ⟨F, 0, none⟩ = some (.int .i64 p) := (hF9.cell 0).trans rfl
         have hS49 := (((hS5'.trans hS6).trans hS7).trans hS8).trans hS9
         have hsz8 : w4.heap.size ≤ w8.heap.size := World.grownBy.size (((hS5'.trans hS6).trans hS7).trans hS8)
         have hO9' := hO9.lower hsz8))
  all_goals go_wp2
  all_goals go_meet
  all_goals exact ⟨N, C, cc, vs, bs, q9, rfl, hN9, hO9', hD9, hS49⟩

end Go.Proofs.YtnjdjcgandfnfaaDoor
