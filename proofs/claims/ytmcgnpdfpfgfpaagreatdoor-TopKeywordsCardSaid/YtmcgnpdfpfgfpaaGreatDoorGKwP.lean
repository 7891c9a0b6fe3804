/-
  Words for memory and contracts of small functions of the second form. Conditions: those of each lemma.
-/
import Derived.Test.YtmcgnpdfpfgfpaaGreatDoorPlain
/-! KwA -/
namespace Go.Proofs.YtmcgnpdfpfgfpaaGreatDoor
open Go.RowKit
set_option linter.unusedVariables false

theorem bl_irrefl : ∀ l : List UInt8, Op.bytesLess l l = false
  | [] => rfl
  | a :: x => by
    have := bl_irrefl x
    simp [Op.bytesLess, this]
theorem bl_trans : ∀ x y z : List UInt8, Op.bytesLess x y = true → Op.bytesLess y z = true → Op.bytesLess x z = true
  | _, _, [], _, h => by simp [Op.bytesLess] at h
  | _, [], _ :: _, h, _ => by simp [Op.bytesLess] at h
  | [], _ :: _, _ :: _, _, _ => rfl
  | a :: x, b :: y, c :: z, h, k => by
    simp only [Op.bytesLess, Bool.or_eq_true, decide_eq_true_eq, Bool.and_eq_true, beq_iff_eq] at h k ⊢
    rcases h with h | ⟨rfl, h⟩
    · rcases k with k | ⟨rfl, k⟩
      · exact .inl (UInt8.lt_trans h k)
      · exact .inl h
    · rcases k with k | ⟨rfl, k⟩
      · exact .inl k
      · exact .inr ⟨rfl, bl_trans x y z h k⟩
theorem bl_tri : ∀ x y : List UInt8, Op.bytesLess x y = false → x ≠ y → Op.bytesLess y x = true
  | [], [], _, h => absurd rfl h
  | [], _ :: _, h, _ => by simp [Op.bytesLess] at h
  | _ :: _, [], _, _ => rfl
  | a :: x, b :: y, h, k => by
    simp only [Op.bytesLess, Bool.or_eq_false_iff, decide_eq_false_iff_not, Bool.and_eq_false_iff, beq_eq_false_iff_ne] at h
    simp only [Op.bytesLess, Bool.or_eq_true, decide_eq_true_eq, Bool.and_eq_true, beq_iff_eq]
    by_cases e : a = b
    · subst e
      refine .inr ⟨rfl, bl_tri x y ?_ (fun e => k (by rw [e]))⟩
      rcases h.2 with h2 | h2
      · exact absurd rfl h2
      · exact h2
    · refine .inl ?_
      rcases Nat.lt_trichotomy a.toNat b.toNat with h1 | h1 | h1
      · exact absurd (UInt8.lt_iff_toNat_lt.2 h1) h.1
      · exact absurd (UInt8.toNat_inj.1 h1) e
      · exact UInt8.lt_iff_toNat_lt.2 h1
theorem bl_asymm (x y : List UInt8) (h : Op.bytesLess x y = true) : Op.bytesLess y x = false := by
  rcases e : Op.bytesLess y x with _ | _
  · rfl
  · have := bl_trans x y x h e
    rw [bl_irrefl] at this; cases this
theorem bl_ne {x y : List UInt8} (h : Op.bytesLess x y = true) : x ≠ y := fun e => by subst e; rw [bl_irrefl] at h; cases h

theorem ba_ext {a b : ByteArray} (h : a.toList = b.toList) : a = b := by
  rw [ByteArray.toList_eq, ByteArray.toList_eq] at h
  cases a; cases b
  congr
  exact Array.ext' h

/-- Entries ascend strictly by their keys. -/
def Asc (l : List (ByteArray × Int)) : Prop := l.Pairwise fun a b => Op.bytesLess a.1.toList b.1.toList = true
theorem Asc.nil_ : Asc [] := List.Pairwise.nil
theorem Asc.sub {l m : List (ByteArray × Int)} (h : Asc l) (hs : m.Sublist l) : Asc m := List.Pairwise.sublist hs h
/-- The entry at a place. -/
def entAt (l : List (ByteArray × Int)) (j : Nat) : ByteArray × Int := l.getD j (ByteArray.empty, 0)
theorem entAt_eq {l : List (ByteArray × Int)} {j : Nat} (hj : j < l.length) : entAt l j = l[j] := by
  unfold entAt
  rw [List.getD_eq_getElem?_getD, List.getElem?_eq_getElem hj]; rfl
theorem entAt_mem {l : List (ByteArray × Int)} {j : Nat} (hj : j < l.length) : entAt l j ∈ l := by rw [entAt_eq hj]; exact List.getElem_mem _
theorem Asc.lt {l : List (ByteArray × Int)} (h : Asc l) {i j : Nat} (hij : i < j) (hj : j < l.length) : Op.bytesLess (entAt l i).1.toList (entAt l j).1.toList = true := by
  rw [entAt_eq (by omega), entAt_eq hj]
  exact List.pairwise_iff_getElem.1 h i j (by omega) hj hij
/-- One more, at its place. -/
theorem Asc.insert {l : List (ByteArray × Int)} (h : Asc l) {k : Nat} (hk : k ≤ l.length) (e : ByteArray × Int) (hlo : k = 0 ∨ Op.bytesLess (entAt l (k - 1)).1.toList e.1.toList = true) (hhi : ∀ j, k ≤ j → j < l.length → Op.bytesLess e.1.toList (entAt l j).1.toList = true) : Asc (l.take k ++ e :: l.drop k) := by
  unfold Asc
  rw [List.pairwise_append, List.pairwise_cons]
  refine ⟨h.sub (List.take_sublist _ _), ⟨fun x hx => ?_, h.sub (List.drop_sublist _ _)⟩, fun x hx y hy => ?_⟩
  · obtain ⟨j, hj, rfl⟩ := List.getElem_of_mem hx
    rw [List.length_drop] at hj
    rw [List.getElem_drop, ← entAt_eq (by omega)]
    exact hhi _ (by omega) (by omega)
  · obtain ⟨i, hi, rfl⟩ := List.getElem_of_mem hx
    rw [List.length_take] at hi
    rw [List.getElem_take, ← entAt_eq (by omega)]
    have hxe : Op.bytesLess (entAt l i).1.toList e.1.toList = true := by
      rcases hlo with h0 | h0
      · omega
      · by_cases e1 : i = k - 1
        · rw [e1]; exact h0
        · exact bl_trans _ _ _ (h.lt (i := i) (j := k - 1) (by omega) (by omega)) h0
    rcases List.mem_cons.1 hy with rfl | hy
    · exact hxe
    · obtain ⟨j, hj, rfl⟩ := List.getElem_of_mem hy
      rw [List.length_drop] at hj
      rw [List.getElem_drop, ← entAt_eq (by omega)]
      exact h.lt (by omega) (by omega)
theorem mem_insert {l : List (ByteArray × Int)} {k : Nat} {e x : ByteArray × Int} (h : x ∈ l.take k ++ e :: l.drop k) : x = e ∨ x ∈ l := by
  rcases List.mem_append.1 h with h | h
  · exact .inr (List.mem_of_mem_take h)
  · rcases List.mem_cons.1 h with h | h
    · exact .inl h
    · exact .inr (List.mem_of_mem_drop h)

/-- The cells of entries. -/
def entC : List (ByteArray × Int) → List Value
  | [] => []
  | e :: l => .string e.1 :: .int .i64 e.2 :: entC l
theorem entC_len : ∀ l, (entC l).length = l.length * 2
  | [] => rfl
  | e :: l => by simp only [entC, List.length_cons, entC_len l]; omega
theorem entC_app : ∀ l m, entC (l ++ m) = entC l ++ entC m
  | [], _ => rfl
  | e :: l, m => by simp only [List.cons_append, entC, entC_app l m]
theorem entC_take : ∀ l k, (entC l).take (k * 2) = entC (l.take k)
  | [], k => by simp [entC]
  | e :: l, 0 => by simp [entC]
  | e :: l, k + 1 => by
    rw [show (k + 1) * 2 = k * 2 + 1 + 1 by omega]
    simp only [entC, List.take_succ_cons, entC_take l k]
theorem entC_drop : ∀ l k, (entC l).drop (k * 2) = entC (l.drop k)
  | [], k => by simp [entC]
  | e :: l, 0 => by simp
  | e :: l, k + 1 => by
    rw [show (k + 1) * 2 = k * 2 + 1 + 1 by omega]
    simp only [entC, List.drop_succ_cons, entC_drop l k]
theorem entC_one : ∀ l, ∀ v ∈ entC l, v.oneCell' = true
  | e :: l, v, h => by
    simp only [entC, List.mem_cons] at h
    rcases h with rfl | rfl | h
    · rfl
    · rfl
    · exact entC_one l v h
  | [], v, h => by simp [entC] at h
theorem entC_at : ∀ l j, j < l.length → (entC l)[j * 2]? = some (.string (entAt l j).1) ∧ (entC l)[j * 2 + 1]? = some (.int .i64 (entAt l j).2)
  | [], j, hj => by simp at hj
  | e :: l, 0, _ => ⟨rfl, rfl⟩
  | e :: l, j + 1, hj => by
    have := entC_at l j (by simpa using hj)
    rw [show (j + 1) * 2 = j * 2 + 1 + 1 by omega]
    exact this
theorem entC_set : ∀ (l : List (ByteArray × Int)) (k : Nat) (e : ByteArray × Int), k < l.length → ((entC l).set (k * 2) (.string e.1)).set (k * 2 + 1) (.int .i64 e.2) = entC (l.set k e)
  | [], k, e, h => by simp at h
  | x :: l, 0, e, _ => by simp [entC]
  | x :: l, k + 1, e, h => by
    rw [show (k + 1) * 2 = k * 2 + 1 + 1 by omega]
    simp only [entC, List.set_cons_succ]
    rw [entC_set l k e (by simpa using h)]
/-- The shift by one place, and the new entry. -/
theorem insert_shift (l : List (ByteArray × Int)) (z e : ByteArray × Int) (k : Nat) (hk : k ≤ l.length) : ((l ++ [z]).take (k + 1) ++ l.drop k).set k e = l.take k ++ e :: l.drop k := by
  have h1 : (l ++ [z]).take (k + 1) = l.take k ++ [(l ++ [z])[k]'(by simp; omega)] := by
    rw [List.take_succ_eq_append_getElem (by simp; omega), List.take_append_of_le_length hk]
  rw [h1, List.append_assoc, List.singleton_append, List.set_append_right _ _ (by rw [List.length_take]; omega), List.length_take, show k - min k l.length = 0 by omega]
  rfl
end Go.Proofs.YtmcgnpdfpfgfpaaGreatDoor

/-! KwB -/
namespace Go.Proofs.YtmcgnpdfpfgfpaaGreatDoor
open Go.RowKit
set_option linter.unusedVariables false

/-- The homes of a key. -/
def homesF (nb : Nat) (ps : List (Int × Int)) (key : ByteArray) : List Int := ps.map fun p => (p.1 * dSum key.data.toList + p.2) % 2147483647 % (nb : Int)
/-- A valid entry. -/
def okE (e : ByteArray × Int) : Prop := 1 ≤ e.1.size ∧ e.1.size ≤ 32 ∧ 0 ≤ e.2 ∧ e.2 < 2147483647
/-- What a valid directory holds. -/
structure DirOk (nb : Nat) (ps : List (Int × Int)) (slots : Nat) (E : List (List (ByteArray × Int))) : Prop where
  len : E.length = nb
  fit : ∀ l ∈ E, l.length ≤ slots
  asc : ∀ l ∈ E, Asc l
  val : ∀ l ∈ E, ∀ e ∈ l, okE e
  nd : E.flatten.Pairwise fun a b => a.1 ≠ b.1
  home : ∀ b, b < nb → ∀ e ∈ E.getD b [], (b : Int) ∈ homesF nb ps e.1

/-- The entries whose places name a bucket. -/
def bkt : List (ByteArray × Int) → List Int → Nat → List (ByteArray × Int)
  | e :: l, y :: ys, b => if y = (b : Int) then e :: bkt l ys b else bkt l ys b
  | _, _, _ => []
theorem bkt_nil (ys : List Int) (b : Nat) : bkt [] ys b = [] := by cases ys <;> rfl
theorem bkt_nil2 (l : List (ByteArray × Int)) (b : Nat) : bkt l [] b = [] := by cases l <;> rfl
theorem bkt_snoc (e : ByteArray × Int) (y : Int) (b : Nat) : ∀ (l : List (ByteArray × Int)) (ys : List Int), l.length = ys.length → bkt (l ++ [e]) (ys ++ [y]) b = bkt l ys b ++ if y = (b : Int) then [e] else []
  | [], [], _ => by simp [bkt]
  | x :: l, z :: ys, h => by
    have := bkt_snoc e y b l ys (by simpa using h)
    simp only [List.cons_append, bkt, this]
    by_cases hz : z = (b : Int)
    · rw [if_pos hz, if_pos hz]; rfl
    · rw [if_neg hz, if_neg hz]
theorem bkt_sub (b : Nat) : ∀ (l : List (ByteArray × Int)) (ys : List Int), (bkt l ys b).Sublist l
  | [], ys => by rw [bkt_nil]; exact List.Sublist.refl _
  | x :: l, [] => by rw [bkt_nil2]; exact List.nil_sublist _
  | x :: l, z :: ys => by
    simp only [bkt]
    by_cases hz : z = (b : Int)
    · rw [if_pos hz]; exact (bkt_sub b l ys).cons_cons x
    · rw [if_neg hz]; exact (bkt_sub b l ys).cons x
theorem bkt_len (b : Nat) : ∀ (l : List (ByteArray × Int)) (ys : List Int), (bkt l ys b).length ≤ (ys.filter fun y => decide (y = (b : Int))).length
  | [], ys => by rw [bkt_nil]; exact Nat.zero_le _
  | x :: l, [] => by rw [bkt_nil2]; exact Nat.zero_le _
  | x :: l, z :: ys => by
    have := bkt_len b l ys
    simp only [bkt, List.filter_cons]
    by_cases hz : z = (b : Int)
    · rw [if_pos hz, if_pos (by simpa using hz), List.length_cons, List.length_cons]; omega
    · rw [if_neg hz, if_neg (by simpa using hz)]; exact this
theorem bkt_at (b : Nat) : ∀ (l : List (ByteArray × Int)) (ys : List Int), ∀ e ∈ bkt l ys b, ∃ i, i < l.length ∧ i < ys.length ∧ entAt l i = e ∧ ys.getD i 0 = (b : Int)
  | [], ys, e, h => by rw [bkt_nil] at h; cases h
  | x :: l, [], e, h => by rw [bkt_nil2] at h; cases h
  | x :: l, z :: ys, e, h => by
    simp only [bkt] at h
    have key : e ∈ bkt l ys b → ∃ i, i < (x :: l).length ∧ i < (z :: ys).length ∧ entAt (x :: l) i = e ∧ (z :: ys).getD i 0 = (b : Int) := fun h => by
      obtain ⟨i, h1, h2, h3, h4⟩ := bkt_at b l ys e h
      exact ⟨i + 1, by simpa using h1, by simpa using h2, h3, by simpa using h4⟩
    by_cases hz : z = (b : Int)
    · rw [if_pos hz] at h
      rcases List.mem_cons.1 h with rfl | h
      · exact ⟨0, by simp, by simp, rfl, by simpa using hz⟩
      · exact key h
    · rw [if_neg hz] at h; exact key h
theorem asc_inj {l : List (ByteArray × Int)} (h : Asc l) {i j : Nat} (hi : i < l.length) (hj : j < l.length) (e : (entAt l i).1 = (entAt l j).1) : i = j := by
  rcases Nat.lt_trichotomy i j with h1 | h1 | h1
  · exact absurd (by rw [e]) (bl_ne (h.lt h1 hj))
  · exact h1
  · exact absurd (by rw [e]) (bl_ne (h.lt h1 hi))
/-- Entries that ascend, each placed in a home of its own, make a directory. -/
theorem dir_ok {nb slots : Nat} {ps : List (Int × Int)} {l : List (ByteArray × Int)} {ys : List Int} (ha : Asc l) (hv : ∀ e ∈ l, okE e) (hl : ys.length = l.length)
    (hh : ∀ i, i < l.length → ys.getD i 0 ∈ homesF nb ps (entAt l i).1) (hc : ∀ b : Nat, b < nb → (ys.filter fun y => decide (y = (b : Int))).length ≤ slots) :
    DirOk nb ps slots ((List.range nb).map (bkt l ys)) := by
  have hm : ∀ m ∈ (List.range nb).map (bkt l ys), ∃ b, b < nb ∧ bkt l ys b = m := fun m h => by
    obtain ⟨b, h1, h2⟩ := List.mem_map.1 h
    exact ⟨b, List.mem_range.1 h1, h2⟩
  refine ⟨by simp, fun m h => ?_, fun m h => ?_, fun m h e he => ?_, ?_, fun b hb e he => ?_⟩
  · obtain ⟨b, hb, rfl⟩ := hm m h
    exact Nat.le_trans (bkt_len b l ys) (hc b hb)
  · obtain ⟨b, hb, rfl⟩ := hm m h
    exact ha.sub (bkt_sub b l ys)
  · obtain ⟨b, hb, rfl⟩ := hm m h
    exact hv e ((bkt_sub b l ys).subset he)
  · rw [List.pairwise_flatten]
    refine ⟨fun m h => ?_, ?_⟩
    · obtain ⟨b, hb, rfl⟩ := hm m h
      have h0 : (bkt l ys b).Pairwise (fun x y => Op.bytesLess x.1.toList y.1.toList = true) := ha.sub (bkt_sub b l ys)
      exact h0.imp fun h2 e => bl_ne h2 (congrArg ByteArray.toList e)
    · rw [List.pairwise_map]
      refine List.Pairwise.imp (fun {b c} hbc x hx y hy e => ?_) (List.pairwise_lt_range (n := nb))
      obtain ⟨i, h1, h2, rfl, h4⟩ := bkt_at b l ys x hx
      obtain ⟨j, k1, k2, rfl, k4⟩ := bkt_at c l ys y hy
      have := asc_inj ha h1 k1 e
      subst this
      omega
  · rw [List.getD_eq_getElem?_getD, List.getElem?_map, List.getElem?_range hb] at he
    obtain ⟨i, h1, h2, rfl, h4⟩ := bkt_at b l ys e he
    rw [← h4]
    exact hh i h1
/-- What is found for a key in some buckets. -/
def pickL (key : ByteArray) : List (ByteArray × Int) → Option Int
  | [] => none
  | e :: l => if e.1.toList = key.toList then some e.2 else pickL key l
def pickB (key : ByteArray) : List (List (ByteArray × Int)) → Option Int
  | [] => none
  | l :: E => match pickL key l with
    | some v => some v
    | none => pickB key E
theorem pickL_none {key : ByteArray} : ∀ {l : List (ByteArray × Int)}, pickL key l = none ↔ ∀ e ∈ l, e.1.toList ≠ key.toList
  | [] => by simp [pickL]
  | x :: l => by
    simp only [pickL]
    by_cases h : x.1.toList = key.toList
    · simp [h]
    · rw [if_neg h, pickL_none]; simp [h]
theorem pickL_take {key : ByteArray} : ∀ {l : List (ByteArray × Int)} {j : Nat}, j < l.length → (∀ i, i < j → (entAt l i).1.toList ≠ key.toList) → (entAt l j).1.toList = key.toList → pickL key l = some (entAt l j).2
  | x :: l, 0, _, _, h => by
    have h2 : x.1.toList = key.toList := h
    simp only [pickL, if_pos h2]; rfl
  | x :: l, j + 1, hj, h1, h2 => by
    have h3 : x.1.toList ≠ key.toList := h1 0 (by omega)
    simp only [pickL, if_neg h3]
    exact pickL_take (j := j) (by simpa using hj) (fun i hi => h1 (i + 1) (by omega)) h2
theorem pickB_take {key : ByteArray} : ∀ {E : List (List (ByteArray × Int))} {b : Nat} {v : Int}, b < E.length → (∀ i, i < b → pickL key (E.getD i []) = none) → pickL key (E.getD b []) = some v → pickB key E = some v
  | x :: E, 0, v, _, _, h => by
    have h2 : pickL key x = some v := h
    simp only [pickB, h2]
  | x :: E, b + 1, v, hb, h1, h2 => by
    have h3 : pickL key x = none := h1 0 (by omega)
    simp only [pickB, h3]
    exact pickB_take (b := b) (by simpa using hb) (fun i hi => h1 (i + 1) (by omega)) h2
theorem pickB_none {key : ByteArray} : ∀ {E : List (List (ByteArray × Int))}, (∀ i, i < E.length → pickL key (E.getD i []) = none) → pickB key E = none
  | [], _ => rfl
  | x :: E, h => by
    have h3 : pickL key x = none := h 0 (by simp)
    simp only [pickB, h3]
    exact pickB_none (fun i hi => h (i + 1) (by simpa using hi))
end Go.Proofs.YtmcgnpdfpfgfpaaGreatDoor

/-! PlcA -/
namespace Go.Proofs.YtmcgnpdfpfgfpaaGreatDoor
set_option linter.unusedVariables false

theorem sum_add_ (T : List Nat) (f g : Nat → Nat) : (T.map fun b => f b + g b).sum = (T.map f).sum + (T.map g).sum := by
  induction T with
  | nil => rfl
  | cons b T ih => simp only [List.map_cons, List.sum_cons, ih]; omega
theorem sum_zero_ (T : List Nat) (f : Nat → Nat) (h : ∀ b ∈ T, f b = 0) : (T.map f).sum = 0 := by
  induction T with
  | nil => rfl
  | cons b T ih =>
    rw [List.map_cons, List.sum_cons, h b (List.mem_cons_self ..), ih (fun c hc => h c (List.mem_cons_of_mem _ hc))]
theorem sum_le_ (T : List Nat) (f g : Nat → Nat) (h : ∀ b ∈ T, f b ≤ g b) : (T.map f).sum ≤ (T.map g).sum := by
  induction T with
  | nil => exact Nat.le_refl _
  | cons b T ih =>
    rw [List.map_cons, List.sum_cons, List.map_cons, List.sum_cons]
    have h1 := h b (List.mem_cons_self ..)
    have h2 := ih (fun c hc => h c (List.mem_cons_of_mem _ hc))
    omega
theorem nodup_le_ : ∀ (X Y : List Nat), X.Nodup → (∀ x ∈ X, x ∈ Y) → X.length ≤ Y.length
  | [], _, _, _ => Nat.zero_le _
  | x :: X, Y, hn, h => by
    have hn' := List.nodup_cons.1 hn
    have h1 := nodup_le_ X (Y.erase x) hn'.2 (fun y hy => (List.mem_erase_of_ne (fun e => hn'.1 (by rw [← e]; exact hy))).2 (h y (List.mem_cons_of_mem _ hy)))
    have h2 := List.length_erase_of_mem (h x (List.mem_cons_self ..))
    have h3 : 0 < Y.length := List.length_pos_of_mem (h x (List.mem_cons_self ..))
    rw [List.length_cons]
    omega
/-- One bucket of some is hit once. -/
theorem sum_one_ (y : Nat) : ∀ (T : List Nat), T.Nodup → y ∈ T → (T.map fun b => if y = b then 1 else 0).sum = 1
  | [], _, h => by cases h
  | b :: T, hn, h => by
    rw [List.map_cons, List.sum_cons]
    have hn' := List.nodup_cons.1 hn
    by_cases e : y = b
    · subst e
      rw [if_pos rfl, sum_zero_ T _ (fun c hc => if_neg (fun e => hn'.1 (by rw [e]; exact hc)))]
    · rw [if_neg e, sum_one_ y T hn'.2 (by
        rcases List.mem_cons.1 h with h1 | h1
        · exact absurd h1 e
        · exact h1)]
/-- Items, bucket by bucket. -/
theorem sum_items (φ : Nat → Nat) (T : List Nat) (hT : T.Nodup) : ∀ X : List Nat, (∀ x ∈ X, φ x ∈ T) → (T.map fun b => (X.filter fun x => decide (φ x = b)).length).sum = X.length
  | [], _ => sum_zero_ T _ (fun _ _ => rfl)
  | x :: X, h => by
    have h1 : (T.map fun b => ((x :: X).filter fun x => decide (φ x = b)).length) = T.map fun b => (if φ x = b then 1 else 0) + (X.filter fun x => decide (φ x = b)).length := by
      apply List.map_congr_left
      intro b _
      rw [List.filter_cons]
      by_cases e : φ x = b
      · rw [if_pos (by simp [e]), if_pos e, List.length_cons]; omega
      · rw [if_neg (by simp [e]), if_neg e]; omega
    rw [h1, sum_add_, sum_one_ _ T hT (h x (List.mem_cons_self ..)), sum_items φ T hT X (fun y hy => h y (List.mem_cons_of_mem _ hy)), List.length_cons]
    omega

/-- All items below n are placed, each in one of its homes; each bucket holds at most room, the places used counted. -/
def Plc (H : List (List Int)) (a n nb room : Nat) (used : Nat → Nat) (φ : Nat → Nat) : Prop :=
  (∀ i, a ≤ i → i < n → ((φ i : Nat) : Int) ∈ H.getD i [] ∧ φ i < nb) ∧ ∀ b, b < nb → ((List.range' a (n - a)).filter fun i => decide (φ i = b)).length + used b ≤ room

/-- What a failed search leaves: seen buckets that are full, and closed under the homes of what lies in them. -/
theorem hall {H : List (List Int)} {a n nb room : Nat} {used : Nat → Nat} {f : Nat → Nat} {D T : List Nat} {item : Nat} (hT : T.Nodup) (hTb : ∀ b ∈ T, b < nb) (hD : D.Nodup) (hDn : ∀ j ∈ D, a ≤ j ∧ j < n) (hi : a ≤ item ∧ item < n) (hiD : item ∉ D)
    (hfull : ∀ b ∈ T, room ≤ (D.filter fun j => decide (f j = b)).length + used b) (hcl : ∀ j ∈ D, f j ∈ T → ∀ h ∈ H.getD j [], ∃ b ∈ T, h = ((b : Nat) : Int)) (hci : ∀ h ∈ H.getD item [], ∃ b ∈ T, h = ((b : Nat) : Int)) (φ : Nat → Nat) : ¬ Plc H a n nb room used φ := by
  rintro ⟨h1, h2⟩
  have hX : ∀ x ∈ item :: D.filter (fun j => decide (f j ∈ T)), φ x ∈ T := fun x hx => by
    have key : ∀ y, a ≤ y → y < n → (∀ h ∈ H.getD y [], ∃ b ∈ T, h = ((b : Nat) : Int)) → φ y ∈ T := fun y ha hy hc => by
      obtain ⟨b, hb, e⟩ := hc _ (h1 y ha hy).1
      have : φ y = b := by omega
      rw [this]; exact hb
    rcases List.mem_cons.1 hx with rfl | hx
    · exact key _ hi.1 hi.2 hci
    · obtain ⟨hxD, hxT⟩ := List.mem_filter.1 hx
      exact key x (hDn x hxD).1 (hDn x hxD).2 (hcl x hxD (by simpa using hxT))
  have hs := sum_items φ T hT _ hX
  have hf := sum_items f T hT (D.filter fun j => decide (f j ∈ T)) (fun x hx => by simpa using (List.mem_filter.1 hx).2)
  rw [List.length_cons] at hs
  have hle : (T.map fun b => ((item :: D.filter fun j => decide (f j ∈ T)).filter fun x => decide (φ x = b)).length).sum ≤ (T.map fun b => ((D.filter fun j => decide (f j ∈ T)).filter fun x => decide (f x = b)).length).sum := by
    refine sum_le_ T _ _ fun b hb => ?_
    have e1 := hfull b hb
    have e2 := h2 b (hTb b hb)
    have e3 : ((D.filter fun j => decide (f j ∈ T)).filter fun x => decide (f x = b)) = D.filter fun x => decide (f x = b) := by
      rw [List.filter_filter]
      apply List.filter_congr
      intro x _
      by_cases e : f x = b
      · simp [e, hb]
      · simp [e]
    have e4 : ((item :: D.filter fun j => decide (f j ∈ T)).filter fun x => decide (φ x = b)).length ≤ ((List.range' a (n - a)).filter fun i => decide (φ i = b)).length := by
      refine nodup_le_ _ _ ?_ ?_
      · exact (List.nodup_cons.2 ⟨fun h => hiD (List.mem_filter.1 h).1, hD.filter _⟩).filter _
      · intro x hx
        obtain ⟨hx1, hx2⟩ := List.mem_filter.1 hx
        refine List.mem_filter.2 ⟨List.mem_range'_1.2 ?_, hx2⟩
        rcases List.mem_cons.1 hx1 with rfl | hx1
        · omega
        · have := hDn x (List.mem_filter.1 hx1).1
          omega
    rw [e3]
    omega
  omega

/-- The first item's bucket in an assignment: it has room, and the rest is placed beside it. -/
theorem plc_step {H : List (List Int)} {a n nb room : Nat} {used : Nat → Nat} {φ : Nat → Nat} (h : Plc H a n nb room used φ) (ha : a < n) :
    ((φ a : Nat) : Int) ∈ H.getD a [] ∧ φ a < nb ∧ used (φ a) < room ∧ Plc H (a + 1) n nb room (fun b => if b = φ a then used b + 1 else used b) φ := by
  obtain ⟨h1, h2⟩ := h
  obtain ⟨h3, h4⟩ := h1 a (Nat.le_refl _) ha
  have hr : List.range' a (n - a) = a :: List.range' (a + 1) (n - (a + 1)) := by
    rw [show n - a = (n - (a + 1)) + 1 by omega, List.range'_succ]
  have hc : ∀ b, b < nb → ((List.range' (a + 1) (n - (a + 1))).filter fun i => decide (φ i = b)).length + (if b = φ a then 1 else 0) + used b ≤ room := fun b hb => by
    have := h2 b hb
    rw [hr, List.filter_cons] at this
    by_cases e : φ a = b
    · rw [if_pos (by simp [e]), List.length_cons] at this
      rw [if_pos e.symm]
      omega
    · rw [if_neg (by simp [e])] at this
      rw [if_neg (fun e2 => e e2.symm)]
      omega
  refine ⟨h3, h4, ?_, fun i hi hin => h1 i (by omega) hin, fun b hb => ?_⟩
  · have := hc _ h4
    rw [if_pos rfl] at this
    omega
  · have := hc b hb
    by_cases e : b = φ a
    · rw [if_pos e] at this
      simp only [e, if_pos]
      rw [e] at this
      omega
    · rw [if_neg e] at this
      simp only [if_neg e]
      omega
/-- All items of a list of homes are placed. -/
def PlcL (H : List (List Int)) (nb room : Nat) (used : Nat → Nat) (φ : Nat → Nat) : Prop := Plc H 0 H.length nb room used φ
theorem range_shift (φ : Nat → Nat) (b n : Nat) : ((List.range' 1 n).filter fun i => decide (φ i = b)).length = ((List.range' 0 n).filter fun i => decide (φ (i + 1) = b)).length := by
  have h : List.range' 1 n = (List.range' 0 n).map (1 + ·) := by rw [List.map_add_range']
  rw [h, List.filter_map, List.length_map]
  congr 1
  apply List.filter_congr
  intro x _
  simp only [Function.comp, Nat.add_comm]
theorem plcL_cons {h : List Int} {H : List (List Int)} {nb room : Nat} {used : Nat → Nat} {φ : Nat → Nat} (hP : PlcL (h :: H) nb room used φ) :
    ((φ 0 : Nat) : Int) ∈ h ∧ φ 0 < nb ∧ used (φ 0) < room ∧ PlcL H nb room (fun b => if b = φ 0 then used b + 1 else used b) (fun i => φ (i + 1)) := by
  obtain ⟨h1, h2, h3, h4, h5⟩ := plc_step hP (by simp)
  refine ⟨h1, h2, h3, fun i _ hi => ?_, fun b hb => ?_⟩
  · have := h4 (i + 1) (by omega) (by simpa using hi)
    rwa [List.getD_cons_succ] at this
  · have := h5 b hb
    rw [List.length_cons, show H.length + 1 - (0 + 1) = H.length by omega, range_shift] at this
    exact this
end Go.Proofs.YtmcgnpdfpfgfpaaGreatDoor

/-! PlcB -/
namespace Go.Proofs.YtmcgnpdfpfgfpaaGreatDoor
set_option linter.unusedVariables false

/-- A bucket that has not been tried. -/
def Un (seen : List Bool) (b : Nat) : Prop := seen.getD b false = false
/-- No mark is taken back. -/
def LeB (s t : List Bool) : Prop := ∀ b, s.getD b false = true → t.getD b false = true
theorem LeB.refl (s : List Bool) : LeB s s := fun _ h => h
theorem LeB.trans {s t u : List Bool} (h : LeB s t) (k : LeB t u) : LeB s u := fun b hb => k b (h b hb)
theorem Un.of {s t : List Bool} (h : LeB s t) {b : Nat} (hb : Un t b) : Un s b := by
  unfold Un at *
  rcases hs : s.getD b false with _ | _
  · rfl
  · rw [h b hs] at hb; cases hb
theorem un_or (s : List Bool) (b : Nat) : Un s b ∨ s.getD b false = true := by
  unfold Un
  cases s.getD b false <;> simp

/-- What lies in the untried buckets: items at one of their homes, each once, no bucket overfull. -/
structure PlS (H : List (List Int)) (nb room : Nat) (us : Nat → Nat) (seen : List Bool) (I : List (List Int)) : Prop where
  home : ∀ b, b < nb → Un seen b → ∀ x ∈ I.getD b [], ∃ j : Nat, x = (j : Int) ∧ j < H.length ∧ ((b : Nat) : Int) ∈ H.getD j []
  fits : ∀ b, b < nb → Un seen b → (I.getD b []).length + us b ≤ room
  nd : ∀ b, b < nb → Un seen b → (I.getD b []).Nodup
  ap : ∀ b c, b < nb → c < nb → Un seen b → Un seen c → b ≠ c → ∀ x ∈ I.getD b [], x ∉ I.getD c []
/-- A number lies in an untried bucket. -/
def InU (nb : Nat) (seen : List Bool) (I : List (List Int)) (x : Int) : Prop := ∃ b, b < nb ∧ Un seen b ∧ x ∈ I.getD b []
/-- The item has been placed; what lies in tried buckets stays. -/
structure PlY (H : List (List Int)) (nb room : Nat) (us : Nat → Nat) (seen : List Bool) (I I' : List (List Int)) (item : Int) : Prop where
  keep : ∀ b, b < nb → seen.getD b false = true → I'.getD b [] = I.getD b []
  s : PlS H nb room us seen I'
  mem : ∀ x, InU nb seen I' x ↔ x = item ∨ InU nb seen I x
/-- The buckets that were tried in vain: full, and all homes of what lies in them have been tried. -/
def PlC (H : List (List Int)) (nb room : Nat) (us : Nat → Nat) (seen seen' : List Bool) (I : List (List Int)) : Prop :=
  ∀ b, b < nb → seen'.getD b false = true → Un seen b → room ≤ (I.getD b []).length + us b ∧ ∀ j : Nat, (j : Int) ∈ I.getD b [] → ∀ h ∈ H.getD j [], ∃ c : Nat, h = (c : Int) ∧ c < nb ∧ seen'.getD c false = true

section
variable {H : List (List Int)} {nb room : Nat} {us : Nat → Nat} {seen s1 s2 : List Bool} {I I2 : List (List Int)}
theorem PlS.mono (h : PlS H nb room us seen I) (hl : LeB seen s1) : PlS H nb room us s1 I :=
  ⟨fun b hb hu => h.home b hb (hu.of hl), fun b hb hu => h.fits b hb (hu.of hl), fun b hb hu => h.nd b hb (hu.of hl), fun b c hb hc hu hv => h.ap b c hb hc (hu.of hl) (hv.of hl)⟩
theorem getD_setP (l : List (List Int)) (j i : Nat) (v : List Int) (hj : j < l.length) : (l.set j v).getD i [] = if j = i then v else l.getD i [] := by
  rw [List.getD_eq_getElem?_getD, List.getElem?_set, List.getD_eq_getElem?_getD]
  by_cases h : j = i
  · rw [if_pos h, if_pos h, if_pos hj]; rfl
  · rw [if_neg h, if_neg h]
/-- There is room. -/
theorem PlY.append {item b : Nat} (h : PlS H nb room us seen I) (hI : I.length = nb) (hb : b < nb) (hu : Un seen b) (hh : ((b : Nat) : Int) ∈ H.getD item []) (hi : item < H.length) (hr : (I.getD b []).length + us b < room) (hn : ¬ InU nb seen I item) :
    PlY H nb room us seen I (I.set b (I.getD b [] ++ [(item : Int)])) item := by
  have at_ : ∀ c, (I.set b (I.getD b [] ++ [(item : Int)])).getD c [] = if b = c then I.getD b [] ++ [(item : Int)] else I.getD c [] := fun c => getD_setP I b c _ (by omega)
  refine ⟨fun c hc hs => ?_, ⟨fun c hc hv x hx => ?_, fun c hc hv => ?_, fun c hc hv => ?_, fun c d hc hd hv hw hcd x hx => ?_⟩, fun x => ⟨?_, ?_⟩⟩
  · rw [at_, if_neg (fun e => by subst e; unfold Un at hu; rw [hu] at hs; cases hs)]
  · rw [at_] at hx
    by_cases e : b = c
    · subst e
      rw [if_pos rfl] at hx
      rcases List.mem_append.1 hx with hx | hx
      · exact h.home b hb hu x hx
      · exact ⟨item, List.mem_singleton.1 hx, hi, hh⟩
    · rw [if_neg e] at hx
      exact h.home c hc hv x hx
  · rw [at_]
    by_cases e : b = c
    · subst e
      rw [if_pos rfl, List.length_append, List.length_singleton]; omega
    · rw [if_neg e]; exact h.fits c hc hv
  · rw [at_]
    by_cases e : b = c
    · subst e
      rw [if_pos rfl]
      refine List.nodup_append.2 ⟨h.nd b hb hu, by simp, fun x hx y hy e => ?_⟩
      rw [List.mem_singleton.1 hy] at e
      exact hn ⟨b, hb, hu, by rw [← e]; exact hx⟩
    · rw [if_neg e]; exact h.nd c hc hv
  · rw [at_] at hx ⊢
    by_cases e : b = c
    · subst e
      rw [if_pos rfl] at hx
      rw [if_neg hcd]
      rcases List.mem_append.1 hx with hx | hx
      · exact h.ap b d hb hd hu hw hcd x hx
      · rw [List.mem_singleton.1 hx]
        exact fun h2 => hn ⟨d, hd, hw, h2⟩
    · rw [if_neg e] at hx
      by_cases e2 : b = d
      · subst e2
        rw [if_pos rfl]
        intro h2
        rcases List.mem_append.1 h2 with h2 | h2
        · exact h.ap c b hc hb hv hu hcd x hx h2
        · rw [List.mem_singleton.1 h2] at hx
          exact hn ⟨c, hc, hv, hx⟩
      · rw [if_neg e2]
        exact h.ap c d hc hd hv hw hcd x hx
  · rintro ⟨c, hc, hv, hx⟩
    rw [at_] at hx
    by_cases e : b = c
    · subst e
      rw [if_pos rfl] at hx
      rcases List.mem_append.1 hx with hx | hx
      · exact .inr ⟨b, hb, hu, hx⟩
      · exact .inl (List.mem_singleton.1 hx)
    · rw [if_neg e] at hx
      exact .inr ⟨c, hc, hv, hx⟩
  · rintro (rfl | ⟨c, hc, hv, hx⟩)
    · exact ⟨b, hb, hu, by rw [at_, if_pos rfl]; simp⟩
    · refine ⟨c, hc, hv, ?_⟩
      rw [at_]
      by_cases e : b = c
      · subst e
        rw [if_pos rfl]
        exact List.mem_append.2 (.inl hx)
      · rw [if_neg e]; exact hx
/-- Another item has moved out of the bucket. -/
theorem PlY.swap {item b k o : Nat} (h : PlS H nb room us seen I) (hl : LeB seen s1) (hb : b < nb) (hu : Un seen b) (hs1 : s1.getD b false = true) (hk : (I.getD b [])[k]? = some (o : Int)) (hh : ((b : Nat) : Int) ∈ H.getD item []) (hi : item < H.length) (hn : ¬ InU nb seen I item) (hY : PlY H nb room us s1 I I2 o) (hI2 : I2.length = nb) :
    PlY H nb room us seen I (I2.set b ((I2.getD b []).set k (item : Int))) item := by
  have hIb : I2.getD b [] = I.getD b [] := hY.keep b hb hs1
  have hkl : k < (I.getD b []).length := (List.getElem?_eq_some_iff.1 hk).1
  have hko : (I.getD b [])[k] = (o : Int) := (List.getElem?_eq_some_iff.1 hk).2
  have hob : (o : Int) ∈ I.getD b [] := by rw [← hko]; exact List.getElem_mem _
  have hnb := h.nd b hb hu
  have hni : (item : Int) ∉ I.getD b [] := fun hx => hn ⟨b, hb, hu, hx⟩
  have mem_set : ∀ x, x ∈ (I.getD b []).set k (item : Int) ↔ x = item ∨ (x ∈ I.getD b [] ∧ x ≠ o) := fun x => by
    constructor
    · intro hx
      obtain ⟨i, hi2, rfl⟩ := List.getElem_of_mem hx
      rw [List.length_set] at hi2
      rw [List.getElem_set]
      by_cases e : k = i
      · rw [if_pos e]; exact .inl rfl
      · rw [if_neg e]
        refine .inr ⟨List.getElem_mem _, fun e2 => e ?_⟩
        rw [← hko] at e2
        exact ((List.getElem_inj hnb).1 e2).symm
    · rintro (rfl | ⟨hx, hne⟩)
      · exact List.mem_iff_getElem.2 ⟨k, by rw [List.length_set]; exact hkl, by rw [List.getElem_set_self]⟩
      · obtain ⟨i, hi2, rfl⟩ := List.getElem_of_mem hx
        refine List.mem_iff_getElem.2 ⟨i, by rw [List.length_set]; exact hi2, ?_⟩
        rw [List.getElem_set, if_neg (fun e => hne (by subst e; exact hko))]
  have at_ : ∀ c, (I2.set b ((I2.getD b []).set k (item : Int))).getD c [] = if b = c then (I.getD b []).set k (item : Int) else I2.getD c [] := fun c => by rw [getD_setP I2 b c _ (by omega), hIb]
  -- what lies in I2's buckets that were untried at first, but for b
  have cls : ∀ c, c < nb → Un seen c → b ≠ c → ∀ x ∈ I2.getD c [], (s1.getD c false = true ∧ x ∈ I.getD c []) ∨ (Un s1 c ∧ InU nb s1 I2 x) := fun c hc hv hbc x hx => by
    rcases un_or s1 c with h1 | h1
    · exact .inr ⟨h1, c, hc, h1, hx⟩
    · rw [hY.keep c hc h1] at hx
      exact .inl ⟨h1, hx⟩
  have notb : ∀ c, c < nb → Un seen c → b ≠ c → ∀ x ∈ I2.getD c [], x ≠ item ∧ (x ∈ I.getD b [] → x = o) := fun c hc hv hbc x hx => by
    rcases cls c hc hv hbc x hx with ⟨h1, h2⟩ | ⟨h1, h2⟩
    · exact ⟨fun e => hn ⟨c, hc, hv, by rw [← e]; exact h2⟩, fun h3 => absurd h2 (h.ap b c hb hc hu hv hbc x h3)⟩
    · rcases (hY.mem x).1 h2 with h3 | ⟨d, hd, hw, h3⟩
      · refine ⟨fun e => hni (by rw [← e, h3]; exact hob), fun _ => h3⟩
      · have hbd : b ≠ d := fun e => by subst e; unfold Un at hw; rw [hw] at hs1; cases hs1
        exact ⟨fun e => hn ⟨d, hd, hw.of hl, by rw [← e]; exact h3⟩, fun h4 => absurd h3 (h.ap b d hb hd hu (hw.of hl) hbd x h4)⟩
  refine ⟨fun c hc hs => ?_, ⟨fun c hc hv x hx => ?_, fun c hc hv => ?_, fun c hc hv => ?_, fun c d hc hd hv hw hcd x hx => ?_⟩, fun x => ⟨?_, ?_⟩⟩
  · have hbc : b ≠ c := fun e => by subst e; unfold Un at hu; rw [hu] at hs; cases hs
    rw [at_, if_neg hbc]
    exact hY.keep c hc (hl c hs)
  · rw [at_] at hx
    by_cases e : b = c
    · subst e
      rw [if_pos rfl] at hx
      rcases (mem_set x).1 hx with hx | hx
      · exact ⟨item, hx, hi, hh⟩
      · exact h.home b hb hu x hx.1
    · rw [if_neg e] at hx
      rcases un_or s1 c with h1 | h1
      · exact hY.s.home c hc h1 x hx
      · rw [hY.keep c hc h1] at hx
        exact h.home c hc hv x hx
  · rw [at_]
    by_cases e : b = c
    · subst e
      rw [if_pos rfl, List.length_set]; exact h.fits b hb hu
    · rw [if_neg e]
      rcases un_or s1 c with h1 | h1
      · exact hY.s.fits c hc h1
      · rw [hY.keep c hc h1]; exact h.fits c hc hv
  · rw [at_]
    by_cases e : b = c
    · subst e
      rw [if_pos rfl]
      rw [List.nodup_iff_pairwise_ne, List.pairwise_iff_getElem]
      intro i j hi2 hj2 hij e3
      rw [List.length_set] at hi2 hj2
      rw [List.getElem_set, List.getElem_set] at e3
      by_cases e1 : k = i
      · rw [if_pos e1, if_neg (by omega)] at e3
        exact hni (by rw [e3]; exact List.getElem_mem _)
      · rw [if_neg e1] at e3
        by_cases e2 : k = j
        · rw [if_pos e2] at e3
          exact hni (by rw [← e3]; exact List.getElem_mem _)
        · rw [if_neg e2] at e3
          have := (List.getElem_inj hnb).1 e3
          omega
    · rw [if_neg e]
      rcases un_or s1 c with h1 | h1
      · exact hY.s.nd c hc h1
      · rw [hY.keep c hc h1]; exact h.nd c hc hv
  · rw [at_] at hx ⊢
    by_cases e : b = c
    · subst e
      rw [if_pos rfl] at hx
      rw [if_neg hcd]
      intro h2
      obtain ⟨n1, n2⟩ := notb d hd hw hcd x h2
      rcases (mem_set x).1 hx with hx | hx
      · exact n1 hx
      · exact hx.2 (n2 hx.1)
    · rw [if_neg e] at hx
      by_cases e2 : b = d
      · subst e2
        rw [if_pos rfl]
        intro h2
        obtain ⟨n1, n2⟩ := notb c hc hv e x hx
        rcases (mem_set x).1 h2 with h2 | h2
        · exact n1 h2
        · exact h2.2 (n2 h2.1)
      · rw [if_neg e2]
        rcases un_or s1 c with h1 | h1
        · rcases un_or s1 d with h3 | h3
          · exact hY.s.ap c d hc hd h1 h3 hcd x hx
          · rw [hY.keep d hd h3]
            intro h4
            rcases (hY.mem x).1 ⟨c, hc, h1, hx⟩ with h5 | ⟨f, hf, hfu, h5⟩
            · rw [h5] at h4
              exact h.ap b d hb hd hu hw e2 _ hob h4
            · have hfd : f ≠ d := fun e => by subst e; unfold Un at hfu; rw [hfu] at h3; cases h3
              exact h.ap f d hf hd (hfu.of hl) hw hfd x h5 h4
        · rw [hY.keep c hc h1] at hx
          rcases un_or s1 d with h3 | h3
          · intro h4
            rcases (hY.mem x).1 ⟨d, hd, h3, h4⟩ with h5 | ⟨f, hf, hfu, h5⟩
            · rw [h5] at hx
              exact h.ap b c hb hc hu hv e _ hob hx
            · have hfc : f ≠ c := fun e => by subst e; unfold Un at hfu; rw [hfu] at h1; cases h1
              exact h.ap f c hf hc (hfu.of hl) hv hfc x h5 hx
          · rw [hY.keep d hd h3]
            exact h.ap c d hc hd hv hw hcd x hx
  · rintro ⟨c, hc, hv, hx⟩
    rw [at_] at hx
    by_cases e : b = c
    · subst e
      rw [if_pos rfl] at hx
      rcases (mem_set x).1 hx with hx | hx
      · exact .inl hx
      · exact .inr ⟨b, hb, hu, hx.1⟩
    · rw [if_neg e] at hx
      rcases un_or s1 c with h1 | h1
      · rcases (hY.mem x).1 ⟨c, hc, h1, hx⟩ with h5 | ⟨f, hf, hfu, h5⟩
        · exact .inr ⟨b, hb, hu, by rw [h5]; exact hob⟩
        · exact .inr ⟨f, hf, hfu.of hl, h5⟩
      · rw [hY.keep c hc h1] at hx
        exact .inr ⟨c, hc, hv, hx⟩
  · rintro (rfl | ⟨c, hc, hv, hx⟩)
    · exact ⟨b, hb, hu, by rw [at_, if_pos rfl]; exact (mem_set _).2 (.inl rfl)⟩
    · by_cases e : b = c
      · subst e
        by_cases e2 : x = o
        · subst e2
          obtain ⟨f, hf, hfu, h5⟩ := (hY.mem (o : Int)).2 (.inl rfl)
          have hbf : b ≠ f := fun e => by subst e; unfold Un at hfu; rw [hfu] at hs1; cases hs1
          exact ⟨f, hf, hfu.of hl, by rw [at_, if_neg hbf]; exact h5⟩
        · exact ⟨b, hb, hu, by rw [at_, if_pos rfl]; exact (mem_set _).2 (.inr ⟨hx, e2⟩)⟩
      · rcases un_or s1 c with h1 | h1
        · obtain ⟨f, hf, hfu, h5⟩ := (hY.mem x).2 (.inr ⟨c, hc, h1, hx⟩)
          have hbf : b ≠ f := fun e => by subst e; unfold Un at hfu; rw [hfu] at hs1; cases hs1
          exact ⟨f, hf, hfu.of hl, by rw [at_, if_neg hbf]; exact h5⟩
        · exact ⟨c, hc, hv, by rw [at_, if_neg e, hY.keep c hc h1]; exact hx⟩
theorem PlC.refl (seen : List Bool) : PlC H nb room us seen seen I := fun b _ hs hu => by unfold Un at hu; rw [hu] at hs; cases hs
theorem PlC.trans (h : PlC H nb room us seen s1 I) (k : PlC H nb room us s1 s2 I) (hl : LeB s1 s2) : PlC H nb room us seen s2 I := fun b hb hs hu => by
  rcases un_or s1 b with h1 | h1
  · exact k b hb hs h1
  · obtain ⟨h2, h3⟩ := h b hb h1 hu
    refine ⟨h2, fun j hj x hx => ?_⟩
    obtain ⟨c, e, hc, hs⟩ := h3 j hj x hx
    exact ⟨c, e, hc, hl c hs⟩
end

section
variable {H : List (List Int)} {nb room m : Nat} {us : Nat → Nat} {seen s1 : List Bool} {I : List (List Int)}
/-- The bucket in which an item lies. -/
theorem bucket_ex (h : PlS H nb room us seen I) (hm : ∀ x, InU nb seen I x ↔ ∃ j : Nat, j < m ∧ x = (j : Int)) :
    ∃ f : Nat → Nat, (∀ j, j < m → f j < nb ∧ Un seen (f j) ∧ (j : Int) ∈ I.getD (f j) []) ∧ ∀ b, b < nb → Un seen b → ∀ j : Nat, (j : Int) ∈ I.getD b [] → j < m ∧ f j = b := by
  have hex : ∀ j, j < m → ∃ b, b < nb ∧ Un seen b ∧ (j : Int) ∈ I.getD b [] := fun j hj => (hm j).2 ⟨j, hj, rfl⟩
  refine ⟨fun j => if hj : j < m then (hex j hj).choose else 0, fun j hj => ?_, fun b hb hu j hjb => ?_⟩
  · simp only [dif_pos hj]
    exact (hex j hj).choose_spec
  · obtain ⟨j2, hj2, e⟩ := (hm j).1 ⟨b, hb, hu, hjb⟩
    have hj : j < m := by omega
    refine ⟨hj, ?_⟩
    simp only [dif_pos hj]
    obtain ⟨h1, h2, h3⟩ := (hex j hj).choose_spec
    by_cases e2 : (hex j hj).choose = b
    · exact e2
    · exact absurd hjb (h.ap _ b h1 hb h2 hu e2 _ h3)
/-- As many items lie in a bucket as the list says. -/
theorem bucket_cnt (h : PlS H nb room us seen I) (hm : ∀ x, InU nb seen I x ↔ ∃ j : Nat, j < m ∧ x = (j : Int)) {f : Nat → Nat} (hf : ∀ j, j < m → f j < nb ∧ Un seen (f j) ∧ (j : Int) ∈ I.getD (f j) [])
    (hf2 : ∀ b, b < nb → Un seen b → ∀ j : Nat, (j : Int) ∈ I.getD b [] → j < m ∧ f j = b) {b : Nat} (hb : b < nb) (hu : Un seen b) : ((List.range m).filter fun j => decide (f j = b)).length = (I.getD b []).length := by
  have hI : ∀ x ∈ I.getD b [], ∃ j : Nat, x = (j : Int) ∧ j < m ∧ f j = b := fun x hx => by
    obtain ⟨j, e, _⟩ := h.home b hb hu x hx
    subst e
    exact ⟨j, rfl, hf2 b hb hu j hx⟩
  have hnd : ((I.getD b []).map Int.toNat).Nodup := by
    rw [List.nodup_iff_pairwise_ne, List.pairwise_map]
    refine List.Pairwise.imp_of_mem ?_ (List.nodup_iff_pairwise_ne.1 (h.nd b hb hu))
    intro x y hx hy hne e
    obtain ⟨j, rfl, _⟩ := hI x hx
    obtain ⟨k, rfl, _⟩ := hI y hy
    exact hne (by simp at e; rw [e])
  have h1 : ((I.getD b []).map Int.toNat).length ≤ ((List.range m).filter fun j => decide (f j = b)).length := nodup_le_ _ _ hnd fun x hx => by
    obtain ⟨y, hy, rfl⟩ := List.mem_map.1 hx
    obtain ⟨j, rfl, hj, hfj⟩ := hI y hy
    exact List.mem_filter.2 ⟨List.mem_range.2 (by simpa using hj), by simpa using hfj⟩
  have h2 : ((List.range m).filter fun j => decide (f j = b)).length ≤ ((I.getD b []).map Int.toNat).length := nodup_le_ _ _ (List.nodup_range.filter _) fun j hj => by
    obtain ⟨hj1, hj2⟩ := List.mem_filter.1 hj
    have hfj : f j = b := by simpa using hj2
    obtain ⟨_, _, h3⟩ := hf j (List.mem_range.1 hj1)
    rw [hfj] at h3
    exact List.mem_map.2 ⟨_, h3, by simp⟩
  rw [List.length_map] at h1 h2
  omega
/-- Where the search for the next item fails, no assignment of all items exists. -/
theorem fail_top (h : PlS H nb room us seen I) (h0 : ∀ b, Un seen b) (hm : ∀ x, InU nb seen I x ↔ ∃ j : Nat, j < m ∧ x = (j : Int)) (hmn : m < H.length) (hC : PlC H nb room us seen s1 I) (hc : ∀ x ∈ H.getD m [], ∃ c : Nat, x = (c : Int) ∧ c < nb ∧ s1.getD c false = true) (φ : Nat → Nat) : ¬ PlcL H nb room us φ := by
  obtain ⟨f, hf, hf2⟩ := bucket_ex h hm
  have hT : ∀ b, b ∈ (List.range nb).filter (fun b => s1.getD b false) ↔ b < nb ∧ s1.getD b false = true := fun b => by rw [List.mem_filter, List.mem_range]
  refine hall (f := f) (D := List.range m) (T := (List.range nb).filter fun b => s1.getD b false) (item := m) (List.nodup_range.filter _) (fun b hb => ((hT b).1 hb).1) List.nodup_range (fun j hj => ⟨Nat.zero_le _, by have := List.mem_range.1 hj; omega⟩) ⟨Nat.zero_le _, hmn⟩ (by simp) (fun b hb => ?_) (fun j hj hfj x hx => ?_) (fun x hx => ?_) φ
  · obtain ⟨hb1, hb2⟩ := (hT b).1 hb
    rw [bucket_cnt h hm hf hf2 hb1 (h0 b)]
    exact (hC b hb1 hb2 (h0 b)).1
  · obtain ⟨hb1, hb2⟩ := (hT _).1 hfj
    obtain ⟨c, e, hc1, hc2⟩ := (hC _ hb1 hb2 (h0 _)).2 j (hf j (List.mem_range.1 hj)).2.2 x hx
    exact ⟨c, (hT c).2 ⟨hc1, hc2⟩, e⟩
  · obtain ⟨c, e, hc1, hc2⟩ := hc x hx
    exact ⟨c, (hT c).2 ⟨hc1, hc2⟩, e⟩
/-- Where all items lie in buckets, they are placed. -/
theorem all_placed (h : PlS H nb room us seen I) (h0 : ∀ b, Un seen b) (hm : ∀ x, InU nb seen I x ↔ ∃ j : Nat, j < H.length ∧ x = (j : Int)) : ∃ φ, PlcL H nb room us φ := by
  obtain ⟨f, hf, hf2⟩ := bucket_ex h hm
  refine ⟨f, fun i _ hi => ?_, fun b hb => ?_⟩
  · obtain ⟨h1, h2, h3⟩ := hf i hi
    obtain ⟨j, e, _, h4⟩ := h.home (f i) h1 h2 _ h3
    have : i = j := by omega
    subst this
    exact ⟨h4, h1⟩
  · have := bucket_cnt h hm hf hf2 hb (h0 b)
    rw [Nat.sub_zero, ← List.range_eq_range', this]
    exact h.fits b hb (h0 b)
end
end Go.Proofs.YtmcgnpdfpfgfpaaGreatDoor
