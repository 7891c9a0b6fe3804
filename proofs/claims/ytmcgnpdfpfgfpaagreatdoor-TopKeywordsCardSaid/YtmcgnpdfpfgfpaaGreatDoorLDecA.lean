/-
  Parts of layout's Decode: the search for a number that is not 0, the way back over one number, the bytes of a record among its rows. Conditions: those of each lemma.
-/
import Derived.Test.YtmcgnpdfpfgfpaaGreatDoorRowsO
import Derived.Test.YtmcgnpdfpfgfpaaGreatDoorGCod
import Derived.Test.YtmcgnpdfpfgfpaaGreatDoorGEnt
namespace Go.Proofs.YtmcgnpdfpfgfpaaGreatDoor
open Go.RowKit Go.Shelf
set_option linter.unusedVariables false
attribute [local go_sem] Oper.semAt_some

theorem dec1_ok (w : World) : Calls Tryz.prog 52 #[.int .i64 0] w fun e w' => e = .returned (.bool false) ∧ w = w' := by
  go_enter Tryz.func52, Tryz.ntmps52
  go_wp2
  go_ret
  exact ⟨rfl, rfl⟩

theorem indexZ_ok (A : Option Addr) (n c : Nat) (w : World) {B : Nat} (h : Ints w B A n (List.replicate n 0)) (hn : n ≤ 1000000) :
    Calls Tryz.prog 85 #[.slice A n c, .func (.func 52) #[] #[]] w fun e w' => e = .returned (.int .i64 (-1)) ∧ w = w' := by
  have hc := h.2
  go_enter Tryz.func85, Tryz.ntmps85
  go_wp2
  go_loop [8] (fun i => ∃ k : Nat, k ≤ n ∧ i = .int .i64 k) (fun i => n - (intOf i).toNat)
  case atStart => exact ⟨0, Nat.zero_le _, rfl⟩
  case round =>
    obtain ⟨k, hk, rfl⟩ := hrel
    by_cases hlt : k < n
    · obtain ⟨b', off, rfl, hb', hcell⟩ := hc (by omega)
      have hck := hcell k hlt
      clear hc hcell
      rw [List.getD_eq_getElem?_getD, List.getElem?_replicate, if_pos hlt] at hck
      have hck : w.cell? ⟨b', off + k, none⟩ = some (.int .i64 0) := hck
      go_wp2_with (go_at_call 52; refine (dec1_ok _).mono ?_; rintro e w' ⟨rfl, rfl⟩)
      go_round
      case rel => exact ⟨k + 1, by omega, by go_num⟩
      case measure => simp [intOf]; omega
    · go_wp2
      go_ret
      exact ⟨rfl, rfl⟩

theorem containsZ_ok (A : Option Addr) (n c : Nat) (w : World) {B : Nat} (h : Ints w B A n (List.replicate n 0)) (hn : n ≤ 1000000) :
    Calls Tryz.prog 51 #[.slice A n c, .func (.func 52) #[] #[]] w fun e w' => e = .returned (.bool false) ∧ w = w' := by
  go_enter Tryz.func51, Tryz.ntmps51
  go_wp2_with (go_at_call 85; refine (indexZ_ok A n c _ h hn).mono ?_; rintro e w' ⟨rfl, rfl⟩)
  go_ret
  exact ⟨rfl, rfl⟩

theorem bwd_any (A : Option Addr) (m c : Nat) (w : World) :
    Calls Tryz.prog 50 #[.slice A m c] w fun e w' => e = .returned (.func (.func 84) #[] #[.pointer (some ⟨w.heap.size, 0, none⟩)]) ∧ w' = w.alloc (.cells #[.slice A m c] 22) := by
  go_enter Tryz.func50, Tryz.ntmps50
  go_wp2
  go_ret
  exact ⟨rfl, rfl⟩

set_option maxRecDepth 100000 in
set_option maxHeartbeats 2000000 in
/-- The closure of Backward, where there is one number. -/
theorem bwd1_in (n : Nat) (hn : 1 ≤ n) (l B1 n₁ gs b off c : Nat) (x : Int) (J Jx : List Unit → World → Prop)
    (hY : ∀ pre (u : Unit) W, J pre W → pre.length < 1 → YieldAt Fence.wide (n - 1) Tryz.prog l #[.int .i64 0, .int .i64 x] W fun e W' =>
      (e = .returned (.bool true) ∧ J (pre ++ [u]) W' ∧ KeepsB n₁ gs W W') ∨ (e = .returned (.bool false) ∧ Jx (pre ++ [u]) W'))
    (W : World) (hB10 : B1 < n₁) (hB11 : B1 ≠ gs) (hb0 : b < n₁) (hb1 : b ≠ gs) (hB1 : W.cell? ⟨B1, 0, none⟩ = some (.slice (some ⟨b, off, none⟩) 1 c)) (hx : W.cell? ⟨b, off, none⟩ = some (.int .i64 x)) (h0 : J [] W) :
    CallsIn Fence.wide n Tryz.prog 84 #[.func (.yield l) #[] #[], .pointer (some ⟨B1, 0, none⟩)] W fun e W' => (∃ v, e = .returned v) ∧
      ((∃ ys, ys = [()] ∧ J ys W') ∨ (∃ pre, True ∧ Jx pre W')) := by
  refine callsIn_of_wp Tryz.func84 rfl trivial ?_ rfl
  simp only [Tryz.ntmps84, List.size_toArray, List.length_cons, List.length_nil, Nat.reduceAdd, Nat.reduceSub, Array.replicate_succ, Array.replicate_zero, List.push_toArray, List.append_toArray, List.nil_append, List.cons_append]
  gi_wp2
  gi_loopw [3] (fun i wr => (i = .int .i64 0 ∧ J [] wr ∧ KeepsB n₁ gs W wr) ∨ (i = .int .i64 (-1) ∧ J [()] wr ∧ KeepsB n₁ gs W wr))
    (fun i _ => (intOf i + 1).toNat)
  case atStart => exact .inl ⟨rfl, h0, KeepsB.refl _ _ _⟩
  case round =>
    rcases hrel with ⟨rfl, hJ, hk⟩ | ⟨rfl, hJ, hk⟩
    · have hc1 := (hk.cell (b := B1) (o := 0) hB10 hB11).trans hB1
      have hc2 := (hk.cell (b := b) (o := off) hb0 hb1).trans hx
      obtain ⟨fn, tmps, assign, body, hy, hR⟩ := hY [] () _ hJ (by simp)
      gi_wp2
      refine hR.mono ?_
      rintro e W3 (⟨rfl, hJ3, hk3⟩ | ⟨rfl, hJx3⟩)
      · gi_wp2
        go_roundw
        case rel => exact .inr ⟨rfl, hJ3, hk.trans hk3⟩
        case measure => simp [intOf]
      · gi_wp2
        refine bodyPost_ret (results_none rfl _ _ _) rfl ?_
        exact ⟨⟨_, rfl⟩, .inr ⟨_, trivial, hJx3⟩⟩
    · gi_wp2
      go_end0
      exact ⟨⟨_, rfl⟩, .inl ⟨_, rfl, hJ⟩⟩

theorem wpListIn_append_byte {F : Fence} {m0 : Nat} {w : World} {ops : Array Oper} {rest : List Oper} {o : Oper} {a : Act} {Q : Exit → Act → World → Prop} (hgd : o.guard = none) (s x : Operand) (t : TypeId)
    (ho : o.op = .call { callee := .builtin .append, args := #[s, x], argTypes := #[t, t] })
    (ht : Tryz.prog.underlying t = some (.slice 5)) (base : Nat) (A : Option Addr) (n c : Nat) (l : List UInt8) (hs : a.eval s = .slice A n c) (hown : OwnY w base A n c l)
    (b : Nat) (c2 : Nat) (u : UInt8) (hx : a.eval x = .slice (some ⟨b, 0, none⟩) 1 c2) (h0 : w.cell? ⟨b, 0, none⟩ = some (.int .u8 (u.toNat : Int))) (hn : n ≤ 1000000) (hbase : base ≤ w.heap.size)
    (h : ∀ A' c' w', OwnY w' base A' (n + 1) c' (l ++ [u]) → w.grownBy w' (Value.slice A n c).ownBlock → Below base w w' → wpListIn F m0 Tryz.prog ops Q rest (a.put o.dst (.slice A' (n + 1) c')) w') : wpListIn F m0 Tryz.prog ops Q (o :: rest) a w := by
  obtain ⟨i, hi, hz, hsize, hby⟩ := info_parts info_byte
  refine wpListIn_append_own w hgd s x t ho base 5 i _ 1 1 ht hi hz hsize hby rfl (by omega) (.slice A n c) n (byC l) hs hown ⟨b, 0, none⟩ 1 c2 [.int .u8 (u.toNat : Int)] hx rfl (fun j v hj => ?_)
    (fun v hv => by
      simp only [List.mem_cons, List.not_mem_nil, or_false] at hv
      rcases hv with rfl; rfl) (by unfold maxLen; omega) (by omega) hbase ?_
  · match j, hj with
    | 0, hj => simp at hj; subst hj; exact h0
    | j + 1, hj => simp at hj
  · intro v' w' hown' hg hat
    rw [show byC l ++ [.int .u8 (u.toNat : Int)] = byC (l ++ [u]) by simp [byC]] at hown'
    have hb : Below base w w' := (Below.refl base w).grown hg hbase (fun k hk => (World.ownsRow.lt hown k hk).1)
    rcases hown'.2 with ⟨hv, hn0⟩ | ⟨g, cap, cur, hv, _⟩
    · omega
    · rw [hv] at hown' ⊢
      exact h _ cap w' hown' hg hb
section
variable {F : Fence} {n : Nat} {P : Program} {w : World}
/-- A range over a function whose assignments only set slots; the body is told of its loop's record. -/
theorem rangeH {α : Type} {g : Operand} {ps : Array Tmp} {assign body : Code} {Q : Exit → Act → World → Prop} {a : Act}
    (hro : F.round = none) (h1 : 1 ≤ n) {gf : Nat} {lb : Array Value} (hg : a.eval g = .func (.func gf) #[] lb) (hFg : F.fn gf) (eg : ∀ args w, (callFunc gf args).run P w = .ok (.enter gf args) w)
    {encs : α → Array Value} {Kp : World → World → Prop} {S Sp : List α → Prop} {N : Nat} {w0 : World} (hseq : SeqStopsK F (n - 1) P gf lb encs Kp S Sp N w0)
    (hKt : ∀ {A B C : World}, Kp A B → Kp B C → Kp A C) (hKb : ∀ (W : World) (l : Nat) (o o' : Obj), w.heap.size ≤ l → W.heap[l]? = some o → o.isCells = false → o.isWalk = false → Kp W (W.putObj l o')) (hb0 : Below w0.heap.size w0 w) (hps : ∀ x, (encs x).size = ps.size)
    (I : List α → World → Prop) (Ix : Code → List α → World → Prop) (hI : OwnFrom w.heap.size I) (hIx : ∀ c, OwnFrom w.heap.size (Ix c)) (h0 : I [] w) (a₁ : α → Act)
    (hassign : ∀ (l : Nat) (x : α) (W : World) (K : Act → World → Prop), K (a₁ x) W → assign.wpIn (F.inRound l) (n - 1 - 1) P (Exit.then K (fun _ _ _ => False)) { tmps := (ps.zip (encs x)).foldl (fun t (p, v) => t.setIfInBounds p v) a.tmps, defers := [] } W)
    (hbody : ∀ (l : Nat) (pre : List α) (x : α) (W : World), w.heap.size ≤ l → (∃ r, W.heap[l]? = some (.loop r)) → I pre W → pre.length < N → body.wpIn (F.inRound l) (n - 1 - 1) P (ownPostG w.heap.size Kp I Ix (pre ++ [x]) W) (a₁ x) W)
    (hdone : ∀ (D : Nat) (xs : List α) (W : World), w.heap.size ≤ D → S xs → I xs W → W.heap[D]? = some (.deferred (some [])) → Q .normal { a with defers := { target := .collected D, args := #[] } :: a.defers } W)
    (hstop : ∀ (D : Nat) (c : Code) (pre : List α) (W : World), w.heap.size ≤ D → Sp pre → Ix c pre W → W.heap[D]? = some (.deferred (some [])) → c.wpIn F n P Q { a with defers := { target := .collected D, args := #[] } :: a.defers } W)
    (hKr : ∀ W, Kp W W) : (Code.rangeFunc g ps assign body).wpIn F n P Q a w :=
  wpIn_rangeFunc_ownH hro h1 hg hFg eg hseq (fun h k => hKt h k) hKb hb0 hps I Ix hI hIx h0 (fun x a' _ => a' = a₁ x) (fun _ _ _ _ _ _ hs _ _ => hs)
    (fun l pre x W K hi hK => hassign l x W K (hK _ _ (KeepsFrom.refl _ _) (hKr W) hi rfl)) (fun l pre x a' W h2 h3 hi e => by subst e; exact hbody l pre x W h2 h3 hi) hdone hstop
/-- The same, inside a round. -/
theorem rangeN {α : Type} {g : Operand} {ps : Array Tmp} {assign body : Code} {Q : Exit → Act → World → Prop} {a : Act}
    {l₀ : Nat} {r₀ : Loop} (hro : F.round = some l₀) (hl₀ : w.heap[l₀]? = some (.loop r₀)) (h1 : 1 ≤ n) {gf : Nat} {lb : Array Value} (hg : a.eval g = .func (.func gf) #[] lb) (hFg : F.fn gf) (eg : ∀ args w, (callFunc gf args).run P w = .ok (.enter gf args) w)
    {encs : α → Array Value} {Kp : World → World → Prop} {S Sp : List α → Prop} {N : Nat} {w0 : World} (hseq : SeqStopsK F (n - 1) P gf lb encs Kp S Sp N w0)
    (hKt : ∀ {A B C : World}, Kp A B → Kp B C → Kp A C) (hKb : ∀ (W : World) (l : Nat) (o o' : Obj), w.heap.size ≤ l → W.heap[l]? = some o → o.isCells = false → o.isWalk = false → Kp W (W.putObj l o')) (hb0 : Below w0.heap.size w0 w) (hps : ∀ x, (encs x).size = ps.size)
    (I : List α → World → Prop) (Ix : Code → List α → World → Prop) (hI : OwnFrom w.heap.size I) (hIx : ∀ c, OwnFrom w.heap.size (Ix c)) (h0 : I [] w) (a₁ : α → Act)
    (hassign : ∀ (l : Nat) (x : α) (W : World) (K : Act → World → Prop), K (a₁ x) W → assign.wpIn (F.inRound l) (n - 1 - 1) P (Exit.then K (fun _ _ _ => False)) { tmps := (ps.zip (encs x)).foldl (fun t (p, v) => t.setIfInBounds p v) a.tmps, defers := [] } W)
    (hbody : ∀ (l : Nat) (pre : List α) (x : α) (W : World), w.heap.size ≤ l → (∃ r, W.heap[l]? = some (.loop r)) → I pre W → pre.length < N → body.wpIn (F.inRound l) (n - 1 - 1) P (ownPostG w.heap.size Kp I Ix (pre ++ [x]) W) (a₁ x) W)
    (hdone : ∀ (xs : List α) (W : World), S xs → I xs W → Q .normal a W)
    (hstop : ∀ (c : Code) (pre : List α) (W : World), Sp pre → Ix c pre W → c.wpIn F n P Q a W)
    (hKr : ∀ W, Kp W W) : (Code.rangeFunc g ps assign body).wpIn F n P Q a w :=
  wpIn_rangeFunc_ownN hro hl₀ h1 hg hFg eg hseq (fun h k => hKt h k) hKb hb0 hps I Ix hI hIx h0 (fun x a' _ => a' = a₁ x) (fun _ _ _ _ _ _ hs _ _ => hs)
    (fun l pre x W K hi hK => hassign l x W K (hK _ _ (KeepsFrom.refl _ _) (hKr W) hi rfl)) (fun l pre x a' W h2 h3 hi e => by subst e; exact hbody l pre x W h2 h3 hi) hdone hstop
end
theorem own_cells {w : World} {base k n c : Nat} {t : TypeId} {A : Option Addr} {vs : List Value} (h : w.ownsRow base t k (.slice A n c) n vs) : ∀ j, (Value.slice A n c).ownBlock = some j → ∃ o : Obj, w.heap[j]? = some o ∧ o.isCells = true := by
  intro j e
  rcases h.2 with ⟨h0, _⟩ | ⟨g, cap, cur, hv, hgb, hh, _⟩
  · rw [h0] at e; cases e
  · rw [hv] at e
    injection e with e
    subst e
    exact ⟨_, hh, rfl⟩
theorem own_others {w w' : World} {base k n c : Nat} {t : TypeId} {A : Option Addr} {vs : List Value} (h : w.ownsRow base t k (.slice A n c) n vs) {row : Option Nat} (hg : w.grownBy w' row) (hr : ∀ r, row = some r → ∃ o : Obj, w.heap[r]? = some o ∧ o.isCells = false) : w'.ownsRow base t k (.slice A n c) n vs := by
  refine World.ownsRow.kept h hg ?_
  rcases h.2 with ⟨h0, _⟩ | ⟨g, cap, cur, hv, hgb, hh, _⟩
  · left; rw [h0]; rfl
  · right
    rw [hv]
    intro e
    obtain ⟨o, ho, hc⟩ := hr g e.symm
    rw [hh] at ho
    injection ho with ho
    subst ho
    cases hc

/-- Numbers of bytes and zeros are elements. -/
theorem elsF_all (s : ByteArray) (slots : Nat) : allP 257 (elsF s slots) = true := allP_iff.2 fun u hu => by
  unfold elsF at hu
  rcases List.mem_append.1 hu with h | h
  · obtain ⟨b, _, rfl⟩ := List.mem_map.1 h
    have := b.toNat_lt
    simp; omega
  · rw [List.eq_of_mem_replicate h]; decide
theorem rowF_all (s : ByteArray) (slots k : Nat) : allP 257 (rowF (elsF s slots) k) = true := allP_iff.2 fun u hu => allP_iff.1 (elsF_all s slots) u (List.mem_of_mem_drop (List.mem_of_mem_take hu))
theorem rowF_take (L : List Int) (k : Nat) : L.take (k * 40) ++ rowF L k = L.take ((k + 1) * 40) := by
  unfold rowF
  rw [Nat.succ_mul, List.take_add]
theorem rowsF_getD (L : List Int) (slots : Nat) {k : Nat} (hk : k < slots) : ((List.range slots).map (rowF L)).getD k [] = rowF L k := by
  rw [List.getD_eq_getElem?_getD, List.getElem?_map, List.getElem?_range hk]; rfl
theorem elsF_byte {s : ByteArray} {slots y : Nat} (hy : y < s.size) : (elsF s slots).getD y 0 = ((s.data.toList.getD y 0).toNat : Int) := by
  have hl : y < s.data.toList.length := by rw [Array.length_toList]; exact hy
  unfold elsF
  rw [List.getD_eq_getElem?_getD, List.getElem?_append_left (by rw [List.length_map]; exact hl), List.getElem?_map, List.getElem?_eq_getElem hl, List.getD_eq_getElem?_getD, List.getElem?_eq_getElem hl]; rfl
theorem elsF_tail {s : ByteArray} {slots : Nat} (h : s.size = slots * 37) : (elsF s slots).drop (slots * 37) = List.replicate (slots * 3) 0 := by
  have hl : (s.data.toList.map fun b => (b.toNat : Int)).length = slots * 37 := by rw [List.length_map, Array.length_toList]; exact h
  unfold elsF
  rw [List.drop_left' hl]
end Go.Proofs.YtmcgnpdfpfgfpaaGreatDoor
