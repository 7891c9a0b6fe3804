/-
  Words for memory and contracts of small functions of the second form. Conditions: those of each lemma.
-/
import Derived.Test.YtoblofilaegnaaaEqA
import Derived.Test.YtoblofilaegnaaaGSolv
import Derived.Test.YtoblofilaegnaaaSame
/-! EqB -/
namespace Go.Proofs.Ytoblofilaegnaaa
set_option linter.unusedVariables false

section
variable {p : Int} {r c : Nat} {cells right cells2 right2 : List Int}
theorem EqOk.pos (h : EqOk p r c cells right) : 2 ≤ p := (okP_pos h.ok).1
/-- Equations times elements that are not 0. -/
theorem ker_scaled (hok : okP p = true) (hl : cells.length = r * c) (hl2 : cells2.length = r * c) (hs : ∀ i, i < r → ∃ x : Int, (1 ≤ x ∧ x < p) ∧ (∀ j, j < c → cf cells2 (i * c + j) = x * cf cells (i * c + j) % p) ∧ cf right2 i = x * cf right i % p) (z : Nat → Int) :
    Ker p (c + 1) (augM r c cells right) z ↔ Ker p (c + 1) (augM r c cells2 right2) z := by
  rw [ker_augM hl, ker_augM hl2]
  have key : ∀ i, i < r → ∃ x : Int, (1 ≤ x ∧ x < p) ∧ Cong p (Sg (fun j => cf cells2 (i * c + j) * z j) c + cf right2 i * z c) (x * (Sg (fun j => cf cells (i * c + j) * z j) c + cf right i * z c)) := by
    intro i hi
    obtain ⟨x, hx, h1, h2⟩ := hs i hi
    refine ⟨x, hx, ?_⟩
    rw [Int.mul_add, ← Sg_mul]
    refine Cong.add (Sg_cong fun j hj => ?_) ?_
    · rw [h1 j hj, ← Int.mul_assoc]; exact (Cong.mod p _).mul (Cong.refl _ _)
    · rw [h2, ← Int.mul_assoc]; exact (Cong.mod p _).mul (Cong.refl _ _)
  constructor
  · intro h i hi
    obtain ⟨x, _, h1⟩ := key i hi
    have := (Cong.refl p x).mul (h i hi)
    rw [Int.mul_zero] at this
    exact h1.trans this
  · intro h i hi
    obtain ⟨x, hx, h1⟩ := key i hi
    rcases Cong.mul_zero hok (h1.symm.trans (h i hi)) with h2 | h2
    · have := (Cong.elt_zero (p := p) (x := x) (by omega)).1 h2
      omega
    · exact h2
/-- One equation more. -/
theorem ker_more {row : List Int} {b : Int} (hl : cells.length = r * c) (hr : right.length = r) (hrow : row.length = c) (z : Nat → Int) (h : Ker p (c + 1) (augM (r + 1) c (cells ++ row) (right ++ [b])) z) : Ker p (c + 1) (augM r c cells right) z := by
  rw [ker_augM (by rw [List.length_append, hl, hrow, Nat.succ_mul])] at h
  rw [ker_augM hl]
  intro i hi
  have := h i (by omega)
  rw [cf_append, if_pos (by omega)] at this
  rwa [Sg_congr (g := fun j => cf cells (i * c + j) * z j) (fun j hj => by rw [cf_append, if_pos (by rw [hl]; exact idx_lt hi hj)])] at this
theorem EqOk.more {row : List Int} {b : Int} (h : EqOk p r c cells right) (hr32 : r + 1 ≤ 32) (hrow : row.length = c) (hra : allP p row = true) (hb : 0 ≤ b ∧ b < p) : EqOk p (r + 1) c (cells ++ row) (right ++ [b]) :=
  ⟨h.ok, hr32, h.c32, by rw [List.length_append, h.lc, hrow, Nat.succ_mul], by rw [List.length_append, h.lr]; rfl, allP_append.2 ⟨h.ac, hra⟩, allP_append.2 ⟨h.ar, allP_iff.2 fun x hx => by rw [List.mem_singleton.1 hx]; exact hb⟩⟩
/-- Rows that are there in another order, and twice. -/
theorem ker_order {r2 : Nat} (hl : cells.length = r * c) (hl2 : cells2.length = r2 * c) (h1 : ∀ t, t < r2 → ∃ i, i < r ∧ ∀ j, j < c → cf cells2 (t * c + j) = cf cells (i * c + j)) (h2 : ∀ i, i < r → ∃ t, t < r2 ∧ ∀ j, j < c → cf cells2 (t * c + j) = cf cells (i * c + j))
    (z : Nat → Int) (hz : ∀ j, c ≤ j → z j = 0) : Ker p (c + 1) (augM r c cells right) z ↔ Ker p (c + 1) (augM r2 c cells2 right2) z := by
  rw [ker_augM hl, ker_augM hl2, hz c (Nat.le_refl c)]
  constructor
  · intro h t ht
    obtain ⟨i, hi, e⟩ := h1 t ht
    have := h i hi
    rw [Int.mul_zero] at this ⊢
    rwa [Sg_congr (g := fun j => cf cells2 (t * c + j) * z j) (fun j hj => by rw [e j hj])] at this
  · intro h i hi
    obtain ⟨t, ht, e⟩ := h2 i hi
    have := h t ht
    rw [Int.mul_zero] at this ⊢
    rwa [Sg_congr (g := fun j => cf cells (i * c + j) * z j) (fun j hj => by rw [e j hj])] at this
/-- The same left sides. -/
theorem ker_left (hl : cells.length = r * c) (z : Nat → Int) (hz : ∀ j, c ≤ j → z j = 0) : Ker p (c + 1) (augM r c cells right) z ↔ Ker p (c + 1) (augM r c cells right2) z :=
  ker_order hl hl (fun t ht => ⟨t, ht, fun _ _ => rfl⟩) (fun t ht => ⟨t, ht, fun _ _ => rfl⟩) z hz

/-- A solution plus a multiple of a list of the kernel. -/
theorem solv_add {m0 m : List (List Int)} {lead : List Nat} (hp : 2 ≤ p) (h : Red p c m0 m lead) {f : Nat} (hf : f < c) (hfl : f ∉ lead) {x y : List Int} (hx : Solv p c m0 x) (t : Int) (hy : ∀ j, j < c → Cong p (cf y j) (cf x j + t * cf (kerX p c lead m f) j)) : Solv p c m0 y := by
  rw [h.solv] at hx ⊢
  intro i hi
  have h1 : Cong p (Sg (fun j => mx m i j * cf y j) c) (Sg (fun j => mx m i j * cf x j) c + t * Sg (fun j => mx m i j * kerZ p c lead m f j) c) := by
    rw [← Sg_mul, ← Sg_add]
    refine Sg_cong fun j hj => ?_
    have := (Cong.refl p (mx m i j)).mul (hy j hj)
    rw [cf_kerX, if_pos hj, Int.mul_add] at this
    rwa [show ∀ a b d : Int, a * (b * d) = b * (a * d) by intro a b d; rw [← Int.mul_assoc, Int.mul_comm a, Int.mul_assoc]] at this
  have h2 : Cong p (Sg (fun j => mx m i j * kerZ p c lead m f j) c) 0 := by
    have := kerZ_ker h.inv hf hfl i hi
    have hc : kerZ p c lead m f c = 0 := by unfold kerZ; rw [if_neg (by omega), if_pos (Nat.le_refl c)]
    have e : Sg (fun j => mx m i j * kerZ p c lead m f j) (c + 1) = Sg (fun j => mx m i j * kerZ p c lead m f j) c + mx m i c * kerZ p c lead m f c := rfl
    rwa [e, hc, Int.mul_zero, Int.add_zero] at this
  have h3 := (hx i hi).add ((Cong.refl p t).mul h2)
  rw [Int.mul_zero, Int.add_zero] at h3
  exact h1.trans h3
/-- Sums of solutions for sums of right sides. -/
theorem solv_sum {right3 x y s : List Int} (hl : cells.length = r * c) (hx : Solv p c (augM r c cells right) x) (hy : Solv p c (augM r c cells right2) y) (hs : ∀ j, j < c → Cong p (cf s j) (cf x j + cf y j)) (hr : ∀ i, i < r → Cong p (cf right3 i) (cf right i + cf right2 i)) :
    Solv p c (augM r c cells right3) s := by
  rw [solv_augM hl] at hx hy ⊢
  intro i hi
  have h1 : Cong p (Sg (fun j => cf cells (i * c + j) * cf s j) c) (Sg (fun j => cf cells (i * c + j) * cf x j) c + Sg (fun j => cf cells (i * c + j) * cf y j) c) := by
    rw [← Sg_add]
    refine Sg_cong fun j hj => ?_
    rw [← Int.mul_add]; exact (Cong.refl _ _).mul (hs j hj)
  exact h1.trans (((hx i hi).add (hy i hi)).trans (hr i hi).symm)
end

/-- As many leading columns as columns: no column is free. -/
theorem no_free {p : Int} {c : Nat} {lead : List Nat} {m : List (List Int)} (h : RInv p c lead m) (hc : lead.length = c) {j : Nat} (hj : j < c) : j ∈ lead := by
  by_cases hm : j ∈ lead
  · exact hm
  · have h1 := freeL_len h
    have h2 : j ∈ freeL c lead := List.mem_filter.2 ⟨List.mem_range.2 hj, by simpa using hm⟩
    have := List.length_pos_of_mem h2
    omega
/-- As many independent equations as unknowns. -/
theorem square_solve {p : Int} {n : Nat} {m0 : List (List Int)} (hn : m0.length = n) (hr : RankOf p n m0 n) (hp : 2 ≤ p) {o : Option (List Int)} (h : SolveOf p n m0 o) : ∃ x, o = some x ∧ Solv p n m0 x ∧ x.length = n ∧ allP p x = true ∧ ∀ y, Solv p n m0 y → y.length = n → allP p y = true → y = x := by
  obtain ⟨m, lead, h1, h2⟩ := hr
  rcases o with _ | x
  · obtain ⟨m', lead', h3, h4⟩ := h
    exfalso
    have e : lead = lead' := h1.leads hp h3 (fun z _ => Iff.rfl)
    subst e
    exact h4 fun i hi hm => by have := h3.ln; omega
  · obtain ⟨m', lead', h3, h4, h5⟩ := h
    have e : lead = lead' := h1.leads hp h3 (fun z _ => Iff.rfl)
    subst e
    refine ⟨x, rfl, (h3.solv x).2 (h5.solv h3.inv h4), h5.ln, h5.all h3.inv hp h3.el, fun y hy hl ha => ?_⟩
    exact h5.one h3.inv hp h3.el ((h3.solv y).1 hy) hl ha (fun j hj hm => absurd (no_free h3.inv h2.symm hj) hm)
theorem square_count {p : Int} {n : Nat} {m0 : List (List Int)} (hn : m0.length = n) (hr : RankOf p n m0 n) (hp : 2 ≤ p) {v : Option Int} (h : CountOf p n m0 v) : v = some 1 := by
  obtain ⟨m, lead, h1, h2⟩ := hr
  obtain ⟨m', lead', h3, h4⟩ := h
  have e : lead = lead' := h1.leads hp h3 (fun z _ => Iff.rfl)
  subst e
  rcases h4 with ⟨a, _⟩ | ⟨_, b⟩
  · exact absurd (fun i hi hm => by have := h3.ln; omega) a
  · rw [b, ← h2, Nat.sub_self]; rfl
theorem less_count {p : Int} {n r : Nat} {m0 : List (List Int)} (hr : RankOf p n m0 r) (hrn : r < n) (hp : 2 ≤ p) {v : Option Int} (h : CountOf p n m0 v) : v ≠ some 1 := by
  obtain ⟨m, lead, h1, h2⟩ := hr
  obtain ⟨m', lead', h3, h4⟩ := h
  have e : lead = lead' := h1.leads hp h3 (fun z _ => Iff.rfl)
  subst e
  rcases h4 with ⟨_, b⟩ | ⟨_, b⟩
  · rw [b]; simp
  · intro hv
    rw [hv] at b
    obtain ⟨d, hd⟩ : ∃ d, n - lead.length = 1 + d := ⟨n - lead.length - 1, by omega⟩
    rw [hd] at b
    obtain ⟨u, k1, k2⟩ := cntP_le hp 1 d 1 b.symm
    have := (cntP_pow hp _ _ k1).1
    rw [Int.pow_one] at this
    omega
/-- Rank and kernel. -/
theorem rank_kern {p : Int} {c r : Nat} {m0 : List (List Int)} {l : List (List Int)} (hp : 2 ≤ p) (hr : RankOf p c m0 r) (h : KernOf p c m0 l) : r + l.length = c := by
  obtain ⟨m, lead, h1, rfl⟩ := hr
  obtain ⟨m', lead', h3, rfl⟩ := h
  have e : lead = lead' := h1.leads hp h3 (fun z _ => Iff.rfl)
  subst e
  rw [List.length_map]; exact freeL_len h1.inv
/-- What was counted is as many lists as solve the equations. -/
theorem count_found {p : Nat} {c : Nat} {m0 : List (List Int)} {v : Int} {S : List Int → Bool} (hp : 2 ≤ p) (h : CountOf (p : Int) c m0 (some v)) (hS : ∀ x, S x = true ↔ Solv (p : Int) c m0 x) : Sg (fun k => if S (digL p c k) = true then 1 else 0) (p ^ c) = v := by
  obtain ⟨m, lead, h1, h2⟩ := h
  rcases h2 with ⟨a, b⟩ | ⟨a, b⟩
  · injection b with b
    rw [b]
    refine Sg_zero fun k hk => ?_
    rw [if_neg]
    intro e
    exact a ((h1.noClash_iff (by omega)).2 ⟨_, (hS _).1 e⟩)
  · have h3 := (cntP_pow (by omega) _ _ b.symm).1
    have h4 := freeL_len h1.inv
    rw [h3, show c - lead.length = (freeL c lead).length by omega, ← count_all h1.inv hp]
    refine Sg_congr fun k hk => ?_
    have : S (digL p c k) = sufOk p c 0 lead m (fun j => if j < c then cf (digL p c k) j else 0) := by
      rw [Bool.eq_iff_iff, hS, sufOk_solv h1.inv a]; exact h1.solv _
    rw [this]
end Go.Proofs.Ytoblofilaegnaaa

/-! EqS -/
namespace Go.Proofs.Ytoblofilaegnaaa
set_option linter.unusedVariables false

theorem ex_ok : EqOk 5 1 2 [1, 2] [3] := ⟨by decide +kernel, by omega, by omega, rfl, rfl, by decide +kernel, by decide +kernel⟩
theorem ex_red : Red 5 2 (augM 1 2 [1, 2] [3]) [[1, 2, 3]] [0] := by
  have e : augM 1 2 [1, 2] [3] = [[1, 2, 3]] := by decide +kernel
  rw [e]
  refine ⟨⟨by simp, fun i hi => ?_, fun i q hi hq => ?_, fun i j hi hj => ?_, fun i j hi hm => ?_, by decide +kernel⟩, rfl, fun i hi => ?_, fun z => Iff.rfl⟩
  · have : i = 0 := by simpa using hi
    subst this; decide +kernel
  · have h1 : i = 0 := by simpa using hi
    have h2 : q = 0 := by simpa using hq
    subst h1 h2; decide +kernel
  · have : i = 0 := by simpa using hi
    subst this; simp at hj
  · simp at hi hm; omega
  · have : i = 0 := by simpa using hi
    subst this; decide +kernel
theorem ex_clash : NoClash 2 1 [[1, 2, 3]] := fun i hi hm => by simp at hm; omega
theorem ex_solve {o : Option (List Int)} (h : SolveOf 5 2 (augM 1 2 [1, 2] [3]) o) : o = some [3, 0] := by
  refine SolveOf.one (by omega) h (show SolveOf 5 2 (augM 1 2 [1, 2] [3]) (some [3, 0]) from ⟨_, _, ex_red, ex_clash, rfl, fun i hi => ?_, fun j hj hm => ?_⟩) (fun z => Iff.rfl)
  · have : i = 0 := by simpa using hi
    subst this; decide +kernel
  · have h2 : j = 0 ∨ j = 1 := by omega
    rcases h2 with rfl | rfl
    · exact absurd (by simp) hm
    · decide +kernel
theorem ex_kern {l : List (List Int)} (h : KernOf 5 2 (augM 1 2 [1, 2] [3]) l) : l = [[3, 1]] := by
  refine KernOf.one (by omega) h (show KernOf 5 2 (augM 1 2 [1, 2] [3]) [[3, 1]] from ⟨_, _, ex_red, by decide +kernel⟩) (fun z => Iff.rfl)
theorem ex_count {v : Option Int} (h : CountOf 5 2 (augM 1 2 [1, 2] [3]) v) : v = some 5 :=
  CountOf.one (by omega) h (show CountOf 5 2 (augM 1 2 [1, 2] [3]) (some 5) from ⟨_, _, ex_red, .inr ⟨ex_clash, by decide +kernel⟩⟩) (fun z => Iff.rfl)
end Go.Proofs.Ytoblofilaegnaaa

/-! S06 -/
namespace Go.Proofs.Ytoblofilaegnaaa
open Go.RowKit
set_option linter.unusedVariables false

theorem ex_eqW (w : World) : EqW (((w.alloc (.cells #[.int .i64 1, .int .i64 2] 3)).alloc (.cells #[.int .i64 3] 3)).alloc (.cells #[.int .i64 5, .int .i64 1, .int .i64 2, .slice (some ⟨w.heap.size, 0, none⟩) 2 2, .slice (some ⟨w.heap.size + 1, 0, none⟩) 1 1] 106)) 5 1 2 2 (some ⟨w.heap.size, 0, none⟩) 2 (some ⟨w.heap.size + 1, 0, none⟩) 1 [1, 2] [3] := by
  refine ⟨ex_ok, rfl, ?_, ?_, Nat.le_refl _⟩
  · exact ((Ints.lit w _ [1, 2] 3 2 _ rfl rfl rfl).upto (bbox _)).upto (bbox _)
  · exact (Ints.lit (w.alloc (.cells #[.int .i64 1, .int .i64 2] 3)) _ [3] 3 1 _ (by simp) rfl rfl).upto (bbox _)

section
variable {w : World} {C D : Option Addr}
theorem ex_solve_call (h : EqW w 5 1 2 2 C 2 D 1 [1, 2] [3]) : Calls Try.prog 97 #[.agg #[.int .i64 5, .int .i64 1, .int .i64 2, .slice C 2 2, .slice D 1 1]] w fun e w' => (∃ g, e = .returned (.tuple #[.slice (some ⟨g, 0, none⟩) 2 2, .int .i64 0]) ∧ OwnI w' w.heap.size 3 (some ⟨g, 0, none⟩) 2 2 [3, 0]) ∧ Below w.heap.size w w' := by
  refine Calls.mono (solve_ok h) ?_
  rintro e w2 ⟨hP, hb2⟩
  refine ⟨?_, hb2⟩
  rcases hP with ⟨h0, _⟩ | ⟨g, x, h0, h1, h2⟩
  · exact absurd (ex_solve h0) (by simp)
  · have h3 := ex_solve h0
    injection h3 with h3
    subst h3
    exact ⟨g, h1, h2⟩
theorem ex_kern_call (h : EqW w 5 1 2 2 C 2 D 1 [1, 2] [3]) : Calls Try.prog 99 #[.agg #[.int .i64 5, .int .i64 1, .int .i64 2, .slice C 2 2, .slice D 1 1]] w fun e w' => (∃ b o A c d, e = .returned (.tuple #[.slice (some ⟨b, o, none⟩) 1 c, .int .i64 0]) ∧ w'.cell? ⟨b, o, none⟩ = some (.slice A 2 d) ∧ b < w'.heap.size ∧ Ints w' w'.heap.size A 2 [3, 1]) ∧ Below w.heap.size w w' := by
  refine Calls.mono (kern_ok h) ?_
  rintro e w3 ⟨A3, n3, c3, rows3, rfl, hM3, hK3, _, hb3⟩
  refine ⟨?_, hb3⟩
  obtain rfl := ex_kern hK3
  obtain rfl : n3 = 1 := hM3.len.symm
  obtain ⟨b, o, A, n, c, hA, _, hb, hc, hn, hI, _⟩ := (hM3.mat (Nat.le_refl _)).at_ (j := 0) (by omega)
  obtain rfl : n = 2 := hI.len.symm
  subst hA
  exact ⟨b, o, A, c3, c, rfl, hc, hb, hI⟩
theorem ex_count_call (h : EqW w 5 1 2 2 C 2 D 1 [1, 2] [3]) : Calls Try.prog 101 #[.agg #[.int .i64 5, .int .i64 1, .int .i64 2, .slice C 2 2, .slice D 1 1]] w fun e w' => e = .returned (.tuple #[.int .i64 5, .int .i64 0]) ∧ Below w.heap.size w w' := by
  refine Calls.mono (count_ok h) ?_
  rintro e w4 ⟨⟨v4, hC4, rfl⟩, hb4⟩
  obtain rfl := ex_count hC4
  exact ⟨rfl, hb4⟩
end

set_option maxHeartbeats 800000 in
set_option maxRecDepth 100000 in
theorem sane06_any (w : World) : Calls Try.prog 93 #[] w fun e w' => e = .returned (.bool true) ∧ Below w.heap.size w w' := by
  have hb0 : Below w.heap.size w (((w.alloc (.cells #[.int .i64 1, .int .i64 2] 3)).alloc (.cells #[.int .i64 3] 3)).alloc (.cells #[.int .i64 5, .int .i64 1, .int .i64 2, .slice (some ⟨w.heap.size, 0, none⟩) 2 2, .slice (some ⟨w.heap.size + 1, 0, none⟩) 1 1] 106)) := ballocs (ballocs (bbox _) _) _
  have hE0 := ex_eqW w
  have hB0 := Blk.new ((w.alloc (.cells #[.int .i64 1, .int .i64 2] 3)).alloc (.cells #[.int .i64 3] 3)) 106 #[.int .i64 5, .int .i64 1, .int .i64 2, .slice (some ⟨w.heap.size, 0, none⟩) 2 2, .slice (some ⟨w.heap.size + 1, 0, none⟩) 1 1]
  have hsz : ((w.alloc (.cells #[.int .i64 1, .int .i64 2] 3)).alloc (.cells #[.int .i64 3] 3)).heap.size = w.heap.size + 2 := by simp
  rw [hsz] at hB0
  go_enter Try.func93, Try.ntmps93
  go_wp2_with (first
    | (go_at_call 97; refine (ex_solve_call hE0).mono ?_; rintro e w2 ⟨⟨g1, rfl, hown1⟩, hb2⟩
       have hE2 := hE0.upto hb2
       have hB2 := hB0.below hb2 (by simp)
       have hbb2 := bnext hb0 hb2
       have ha0 : w2.cell? ⟨w.heap.size + 2, 0, none⟩ = some (.int .i64 5) := (hB2.cell 0).trans rfl
       have ha1 : w2.cell? ⟨w.heap.size + 2, 1, none⟩ = some (.int .i64 1) := (hB2.cell 1).trans rfl
       have ha2 : w2.cell? ⟨w.heap.size + 2, 2, none⟩ = some (.int .i64 2) := (hB2.cell 2).trans rfl
       have ha3 : w2.cell? ⟨w.heap.size + 2, 3, none⟩ = some (.slice (some ⟨w.heap.size, 0, none⟩) 2 2) := (hB2.cell 3).trans rfl
       have ha4 : w2.cell? ⟨w.heap.size + 2, 4, none⟩ = some (.slice (some ⟨w.heap.size + 1, 0, none⟩) 1 1) := (hB2.cell 4).trans rfl
       clear hb2 hE0 hB0)
    | (go_at_call 99; refine (ex_kern_call hE2).mono ?_; rintro e w3 ⟨⟨bM, oM, AM, c3, cM, rfl, hcM, hbM, hIM⟩, hb3⟩
       have hE3 := hE2.upto hb3
       have hB3 := hB2.below hb3 hB2.lt
       have hbb3 := bnext hbb2 hb3
       have hown3 := hown1.belowAll hb3
       have hc0 : w3.cell? ⟨w.heap.size + 2, 0, none⟩ = some (.int .i64 5) := (hB3.cell 0).trans rfl
       have hc1 : w3.cell? ⟨w.heap.size + 2, 1, none⟩ = some (.int .i64 1) := (hB3.cell 1).trans rfl
       have hc2 : w3.cell? ⟨w.heap.size + 2, 2, none⟩ = some (.int .i64 2) := (hB3.cell 2).trans rfl
       have hc3 : w3.cell? ⟨w.heap.size + 2, 3, none⟩ = some (.slice (some ⟨w.heap.size, 0, none⟩) 2 2) := (hB3.cell 3).trans rfl
       have hc4 : w3.cell? ⟨w.heap.size + 2, 4, none⟩ = some (.slice (some ⟨w.heap.size + 1, 0, none⟩) 1 1) := (hB3.cell 4).trans rfl
       clear hb3 hE2 hB2 ha0 ha1 ha2 ha3 ha4)
    | (go_at_call 101; refine (ex_count_call hE3).mono ?_; rintro e w4 ⟨rfl, hb4⟩
       have hbb4 := bnext hbb3 hb4
       have hown4 := hown3.belowAll hb4
       have hI4 := hown4.ints
       have hIM4 := hIM.upto hb4
       have hcM4 : w4.cell? ⟨bM, oM, none⟩ = some (.slice AM 2 cM) := (hb4.cell (p := ⟨bM, oM, none⟩) hbM).trans hcM
       have hIa : Ints (w4.alloc (.cells #[.int .i64 3, .int .i64 0] 3)) (w4.alloc (.cells #[.int .i64 3, .int .i64 0] 3)).heap.size (some ⟨g1, 0, none⟩) 2 [3, 0] := hI4.upto (bbox _)
       have hIb : Ints (w4.alloc (.cells #[.int .i64 3, .int .i64 0] 3)) (w4.alloc (.cells #[.int .i64 3, .int .i64 0] 3)).heap.size (some ⟨w4.heap.size, 0, none⟩) 2 [3, 0] := Ints.lit w4 _ [3, 0] 3 2 _ rfl rfl rfl
       have hIMa := hIM4.upto (bbox (.cells #[.int .i64 3, .int .i64 0] 3))
       have hcMa : (w4.alloc (.cells #[.int .i64 3, .int .i64 0] 3)).cell? ⟨bM, oM, none⟩ = some (.slice AM 2 cM) := ((bbox (w0 := w4) (.cells #[.int .i64 3, .int .i64 0] 3)).cell (p := ⟨bM, oM, none⟩) (Nat.lt_of_lt_of_le hbM hb4.size)).trans hcM4
       have hbb5 := ballocs hbb4 (.cells #[.int .i64 3, .int .i64 0] 3)
       obtain ⟨W, hW⟩ : ∃ W, w4.alloc (.cells #[.int .i64 3, .int .i64 0] 3) = W := ⟨_, rfl⟩
       have HW := Lib.hid hW
       rw [hW] at hIa hIb hIMa hcMa hbb5
       clear hb4 hW)
    | (go_at_call 27; rw [HW.out]; refine (same_any (some ⟨g1, 0, none⟩) (some ⟨w4.heap.size, 0, none⟩) 2 2 2 2 [3, 0] [3, 0] _ hIa hIb (by omega) (by omega)).mono ?_; rintro e w5 ⟨rfl, q5, rfl⟩
       have hs5 : sameL [3, 0] [3, 0] = true := rfl
       have hIMb := (hIMa.drewN q5).upto (bbox (.cells #[.int .i64 3, .int .i64 1] 3))
       have hlit := Ints.lit (W.drewN q5) _ [3, 1] 3 2 _ rfl rfl rfl
       have hW6 : (W.drewN q5).heap.size = W.heap.size := rfl)
    | (go_at_call 27; refine (same_any AM (some ⟨W.heap.size, 0, none⟩) 2 2 cM 2 [3, 1] [3, 1] _ hIMb hlit (by omega) (by omega)).mono ?_; rintro e w6 ⟨rfl, q6, rfl⟩
       have hs6 : sameL [3, 1] [3, 1] = true := rfl))
  go_ret
  exact ⟨rfl, below_drewN (ballocs (below_drewN hbb5 q5) _) q6⟩
end Go.Proofs.Ytoblofilaegnaaa
