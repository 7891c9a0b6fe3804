/-
  Equations that are scaled, added, ordered anew; solutions plus lists of the kernel; plain numbers, no program in sight. No conditions.
-/
import Derived.Test.YteipcjmkhacdgaaEqA
namespace Go.Proofs.Yteipcjmkhacdgaa
set_option linter.unusedVariables false

section
variable {p : Int} {r c : Nat} {cells right cells2 right2 : List Int}
theorem EqOk.pos (h : EqOk p r c cells right) : 2 ≤ p := (okP_pos h.ok).1
/-- Equations times elements that are not 0. -/
theorem ker_scaled (hok : okP p = true) (hl : cells.length = r * c) (hl2 : cells2.length = r * c) (hs : ∀ i, i < r → ∃ x : Int, (1 ≤ x ∧ x < p) ∧ (∀ j, j < c → cf cells2 (i * c + j) = x * cf cells (i * c + j) % p) ∧ cf right2 i = x * cf right i % p) (z : Nat → Int) :
    Ker p (c + 1) (augM r c cells right) z ↔ Ker p (c + 1) (augM r c cells2 right2) z := by
  rw [ker_augM hl, ker_augM hl2]
  have key : ∀ i, i < r → ∃ x : Int, (1 ≤ x ∧ x < p) ∧ Cong p (Sg (fun j => cf cells2 (i * c + j) * z j) c + cf right2 i * z c) (x * (Sg (fun j => cf cells (i * c + j) * z j) c + cf right i * z c)) := by
    intro i hi
    obtain ⟨x, hx, h1, h2⟩ := hs i hi
    refine ⟨x, hx, ?_⟩
    rw [Int.mul_add, ← Sg_mul]
    refine Cong.add (Sg_cong fun j hj => ?_) ?_
    · rw [h1 j hj, ← Int.mul_assoc]; exact (Cong.mod p _).mul (Cong.refl _ _)
    · rw [h2, ← Int.mul_assoc]; exact (Cong.mod p _).mul (Cong.refl _ _)
  constructor
  · intro h i hi
    obtain ⟨x, _, h1⟩ := key i hi
    have := (Cong.refl p x).mul (h i hi)
    rw [Int.mul_zero] at this
    exact h1.trans this
  · intro h i hi
    obtain ⟨x, hx, h1⟩ := key i hi
    rcases Cong.mul_zero hok (h1.symm.trans (h i hi)) with h2 | h2
    · have := (Cong.elt_zero (p := p) (x := x) (by omega)).1 h2
      omega
    · exact h2
/-- One equation more. -/
theorem ker_more {row : List Int} {b : Int} (hl : cells.length = r * c) (hr : right.length = r) (hrow : row.length = c) (z : Nat → Int) (h : Ker p (c + 1) (augM (r + 1) c (cells ++ row) (right ++ [b])) z) : Ker p (c + 1) (augM r c cells right) z := by
  rw [ker_augM (by rw [List.length_append, hl, hrow, Nat.succ_mul])] at h
  rw [ker_augM hl]
  intro i hi
  have := h i (by omega)
  rw [cf_append, if_pos (by omega)] at this
  rwa [Sg_congr (g := fun j => cf cells (i * c + j) * z j) (fun j hj => by rw [cf_append, if_pos (by rw [hl]; exact idx_lt hi hj)])] at this
theorem EqOk.more {row : List Int} {b : Int} (h : EqOk p r c cells right) (hr32 : r + 1 ≤ 32) (hrow : row.length = c) (hra : allP p row = true) (hb : 0 ≤ b ∧ b < p) : EqOk p (r + 1) c (cells ++ row) (right ++ [b]) :=
  ⟨h.ok, hr32, h.c32, by rw [List.length_append, h.lc, hrow, Nat.succ_mul], by rw [List.length_append, h.lr]; rfl, allP_append.2 ⟨h.ac, hra⟩, allP_append.2 ⟨h.ar, allP_iff.2 fun x hx => by rw [List.mem_singleton.1 hx]; exact hb⟩⟩
/-- Rows that are there in another order, and twice. -/
theorem ker_order {r2 : Nat} (hl : cells.length = r * c) (hl2 : cells2.length = r2 * c) (h1 : ∀ t, t < r2 → ∃ i, i < r ∧ ∀ j, j < c → cf cells2 (t * c + j) = cf cells (i * c + j)) (h2 : ∀ i, i < r → ∃ t, t < r2 ∧ ∀ j, j < c → cf cells2 (t * c + j) = cf cells (i * c + j))
    (z : Nat → Int) (hz : ∀ j, c ≤ j → z j = 0) : Ker p (c + 1) (augM r c cells right) z ↔ Ker p (c + 1) (augM r2 c cells2 right2) z := by
  rw [ker_augM hl, ker_augM hl2, hz c (Nat.le_refl c)]
  constructor
  · intro h t ht
    obtain ⟨i, hi, e⟩ := h1 t ht
    have := h i hi
    rw [Int.mul_zero] at this ⊢
    rwa [Sg_congr (g := fun j => cf cells2 (t * c + j) * z j) (fun j hj => by rw [e j hj])] at this
  · intro h i hi
    obtain ⟨t, ht, e⟩ := h2 i hi
    have := h t ht
    rw [Int.mul_zero] at this ⊢
    rwa [Sg_congr (g := fun j => cf cells (i * c + j) * z j) (fun j hj => by rw [e j hj])] at this
/-- The same left sides. -/
theorem ker_left (hl : cells.length = r * c) (z : Nat → Int) (hz : ∀ j, c ≤ j → z j = 0) : Ker p (c + 1) (augM r c cells right) z ↔ Ker p (c + 1) (augM r c cells right2) z :=
  ker_order hl hl (fun t ht => ⟨t, ht, fun _ _ => rfl⟩) (fun t ht => ⟨t, ht, fun _ _ => rfl⟩) z hz

/-- A solution plus a multiple of a list of the kernel. -/
theorem solv_add {m0 m : List (List Int)} {lead : List Nat} (hp : 2 ≤ p) (h : Red p c m0 m lead) {f : Nat} (hf : f < c) (hfl : f ∉ lead) {x y : List Int} (hx : Solv p c m0 x) (t : Int) (hy : ∀ j, j < c → Cong p (cf y j) (cf x j + t * cf (kerX p c lead m f) j)) : Solv p c m0 y := by
  rw [h.solv] at hx ⊢
  intro i hi
  have h1 : Cong p (Sg (fun j => mx m i j * cf y j) c) (Sg (fun j => mx m i j * cf x j) c + t * Sg (fun j => mx m i j * kerZ p c lead m f j) c) := by
    rw [← Sg_mul, ← Sg_add]
    refine Sg_cong fun j hj => ?_
    have := (Cong.refl p (mx m i j)).mul (hy j hj)
    rw [cf_kerX, if_pos hj, Int.mul_add] at this
    rwa [show ∀ a b d : Int, a * (b * d) = b * (a * d) by intro a b d; rw [← Int.mul_assoc, Int.mul_comm a, Int.mul_assoc]] at this
  have h2 : Cong p (Sg (fun j => mx m i j * kerZ p c lead m f j) c) 0 := by
    have := kerZ_ker h.inv hf hfl i hi
    have hc : kerZ p c lead m f c = 0 := by unfold kerZ; rw [if_neg (by omega), if_pos (Nat.le_refl c)]
    have e : Sg (fun j => mx m i j * kerZ p c lead m f j) (c + 1) = Sg (fun j => mx m i j * kerZ p c lead m f j) c + mx m i c * kerZ p c lead m f c := rfl
    rwa [e, hc, Int.mul_zero, Int.add_zero] at this
  have h3 := (hx i hi).add ((Cong.refl p t).mul h2)
  rw [Int.mul_zero, Int.add_zero] at h3
  exact h1.trans h3
/-- Sums of solutions for sums of right sides. -/
theorem solv_sum {right3 x y s : List Int} (hl : cells.length = r * c) (hx : Solv p c (augM r c cells right) x) (hy : Solv p c (augM r c cells right2) y) (hs : ∀ j, j < c → Cong p (cf s j) (cf x j + cf y j)) (hr : ∀ i, i < r → Cong p (cf right3 i) (cf right i + cf right2 i)) :
    Solv p c (augM r c cells right3) s := by
  rw [solv_augM hl] at hx hy ⊢
  intro i hi
  have h1 : Cong p (Sg (fun j => cf cells (i * c + j) * cf s j) c) (Sg (fun j => cf cells (i * c + j) * cf x j) c + Sg (fun j => cf cells (i * c + j) * cf y j) c) := by
    rw [← Sg_add]
    refine Sg_cong fun j hj => ?_
    rw [← Int.mul_add]; exact (Cong.refl _ _).mul (hs j hj)
  exact h1.trans (((hx i hi).add (hy i hi)).trans (hr i hi).symm)
end

/-- As many leading columns as columns: no column is free. -/
theorem no_free {p : Int} {c : Nat} {lead : List Nat} {m : List (List Int)} (h : RInv p c lead m) (hc : lead.length = c) {j : Nat} (hj : j < c) : j ∈ lead := by
  by_cases hm : j ∈ lead
  · exact hm
  · have h1 := freeL_len h
    have h2 : j ∈ freeL c lead := List.mem_filter.2 ⟨List.mem_range.2 hj, by simpa using hm⟩
    have := List.length_pos_of_mem h2
    omega
/-- As many independent equations as unknowns. -/
theorem square_solve {p : Int} {n : Nat} {m0 : List (List Int)} (hn : m0.length = n) (hr : RankOf p n m0 n) (hp : 2 ≤ p) {o : Option (List Int)} (h : SolveOf p n m0 o) : ∃ x, o = some x ∧ Solv p n m0 x ∧ x.length = n ∧ allP p x = true ∧ ∀ y, Solv p n m0 y → y.length = n → allP p y = true → y = x := by
  obtain ⟨m, lead, h1, h2⟩ := hr
  rcases o with _ | x
  · obtain ⟨m', lead', h3, h4⟩ := h
    exfalso
    have e : lead = lead' := h1.leads hp h3 (fun z _ => Iff.rfl)
    subst e
    exact h4 fun i hi hm => by have := h3.ln; omega
  · obtain ⟨m', lead', h3, h4, h5⟩ := h
    have e : lead = lead' := h1.leads hp h3 (fun z _ => Iff.rfl)
    subst e
    refine ⟨x, rfl, (h3.solv x).2 (h5.solv h3.inv h4), h5.ln, h5.all h3.inv hp h3.el, fun y hy hl ha => ?_⟩
    exact h5.one h3.inv hp h3.el ((h3.solv y).1 hy) hl ha (fun j hj hm => absurd (no_free h3.inv h2.symm hj) hm)
theorem square_count {p : Int} {n : Nat} {m0 : List (List Int)} (hn : m0.length = n) (hr : RankOf p n m0 n) (hp : 2 ≤ p) {v : Option Int} (h : CountOf p n m0 v) : v = some 1 := by
  obtain ⟨m, lead, h1, h2⟩ := hr
  obtain ⟨m', lead', h3, h4⟩ := h
  have e : lead = lead' := h1.leads hp h3 (fun z _ => Iff.rfl)
  subst e
  rcases h4 with ⟨a, _⟩ | ⟨_, b⟩
  · exact absurd (fun i hi hm => by have := h3.ln; omega) a
  · rw [b, ← h2, Nat.sub_self]; rfl
theorem less_count {p : Int} {n r : Nat} {m0 : List (List Int)} (hr : RankOf p n m0 r) (hrn : r < n) (hp : 2 ≤ p) {v : Option Int} (h : CountOf p n m0 v) : v ≠ some 1 := by
  obtain ⟨m, lead, h1, h2⟩ := hr
  obtain ⟨m', lead', h3, h4⟩ := h
  have e : lead = lead' := h1.leads hp h3 (fun z _ => Iff.rfl)
  subst e
  rcases h4 with ⟨_, b⟩ | ⟨_, b⟩
  · rw [b]; simp
  · intro hv
    rw [hv] at b
    obtain ⟨d, hd⟩ : ∃ d, n - lead.length = 1 + d := ⟨n - lead.length - 1, by omega⟩
    rw [hd] at b
    obtain ⟨u, k1, k2⟩ := cntP_le hp 1 d 1 b.symm
    have := (cntP_pow hp _ _ k1).1
    rw [Int.pow_one] at this
    omega
/-- Rank and kernel. -/
theorem rank_kern {p : Int} {c r : Nat} {m0 : List (List Int)} {l : List (List Int)} (hp : 2 ≤ p) (hr : RankOf p c m0 r) (h : KernOf p c m0 l) : r + l.length = c := by
  obtain ⟨m, lead, h1, rfl⟩ := hr
  obtain ⟨m', lead', h3, rfl⟩ := h
  have e : lead = lead' := h1.leads hp h3 (fun z _ => Iff.rfl)
  subst e
  rw [List.length_map]; exact freeL_len h1.inv
/-- What was counted is as many lists as solve the equations. -/
theorem count_found {p : Nat} {c : Nat} {m0 : List (List Int)} {v : Int} {S : List Int → Bool} (hp : 2 ≤ p) (h : CountOf (p : Int) c m0 (some v)) (hS : ∀ x, S x = true ↔ Solv (p : Int) c m0 x) : Sg (fun k => if S (digL p c k) = true then 1 else 0) (p ^ c) = v := by
  obtain ⟨m, lead, h1, h2⟩ := h
  rcases h2 with ⟨a, b⟩ | ⟨a, b⟩
  · injection b with b
    rw [b]
    refine Sg_zero fun k hk => ?_
    rw [if_neg]
    intro e
    exact a ((h1.noClash_iff (by omega)).2 ⟨_, (hS _).1 e⟩)
  · have h3 := (cntP_pow (by omega) _ _ b.symm).1
    have h4 := freeL_len h1.inv
    rw [h3, show c - lead.length = (freeL c lead).length by omega, ← count_all h1.inv hp]
    refine Sg_congr fun k hk => ?_
    have : S (digL p c k) = sufOk p c 0 lead m (fun j => if j < c then cf (digL p c k) j else 0) := by
      rw [Bool.eq_iff_iff, hS, sufOk_solv h1.inv a]; exact h1.solv _
    rw [this]
end Go.Proofs.Yteipcjmkhacdgaa
