/-
  SolveRanks returns true: the walk of the law. Conditions: none beyond the reading of its arguments.
-/
import Derived.Test.YteipcjmkhacdgaaS06
import Derived.Test.YteipcjmkhacdgaaEqBld
import Derived.Deep.RegionHeld3
import Derived.Deep.RegionLaw
import Derived.Deep.RegionLaw
import Derived.Deep.DeepCutAuto
import Derived.Deep.QuietTactic
import Derived.BigQuiet
namespace Go.Proofs.Yteipcjmkhacdgaa
open Go.RowKit
set_option linter.unusedVariables false

def Ap (v1 v2 : Value) : Prop := ∀ b, v1.ownBlock = some b → v2.ownBlock ≠ some b
theorem Ap.next {w : World} {base m cx : Nat} {e : TypeId} {X : Option Addr} {ks : List Int} {v2 v3 : Value} (h : Ap (.slice X m cx) v2) (hX : OwnI w base e X m cx ks) (hab : v3.ownBlock = v2.ownBlock ∨ v3.ownBlock = some w.heap.size) : Ap (.slice X m cx) v3 := fun b h1 h2 => by
  rcases hab with h3 | h3
  · exact h b h1 (by rw [← h3]; exact h2)
  · rw [h3] at h2
    injection h2 with h2
    have := (World.ownsRow.lt hX b h1).2
    omega
theorem Ap.keep {w w' : World} {base m cx : Nat} {e : TypeId} {X : Option Addr} {ks : List Int} {v2 : Value} (h : Ap (.slice X m cx) v2) (hX : OwnI w base e X m cx ks) (hg : w.grownBy w' v2.ownBlock) : OwnI w' base e X m cx ks := by
  refine hX.kept hg ?_
  rcases hb : (Value.slice X m cx).ownBlock with _ | b
  · exact .inl rfl
  · exact .inr (fun e => h b hb e.symm)
theorem Ap.new {w w' : World} {base base2 m cx n2 c2 : Nat} {e e2 : TypeId} {X C2 : Option Addr} {ks xs : List Int} (hX : OwnI w' base e X m cx ks) (hC : OwnI w base2 e2 C2 n2 c2 xs) (hb : w.heap.size ≤ base) : Ap (.slice X m cx) (.slice C2 n2 c2) := fun b h1 h2 => by
  have h3 := hX.row b h1
  have h4 := (World.ownsRow.lt hC b h2).2
  omega

/-- The numbers of the rows of an order's first m. -/
def firstN (ks : List Int) (m : Nat) : List Nat := (ks.take m).map Int.toNat
theorem firstN_len {ks : List Int} {m : Nat} (h : m ≤ ks.length) : (firstN ks m).length = m := by simp [firstN]; omega
theorem firstN_lt {r : Nat} {ks : List Int} (h : IsOrder r ks) (m : Nat) : ∀ i ∈ firstN ks m, i < r := fun i hi => by
  unfold firstN at hi
  obtain ⟨x, hx, rfl⟩ := List.mem_map.1 hi
  have := order_mem h x (List.mem_of_mem_take hx)
  omega
theorem firstN_snoc {ks : List Int} {m i : Nat} (hm : m < ks.length) (h : ks.getD m 0 = (i : Int)) : firstN ks (m + 1) = firstN ks m ++ [i] := by
  unfold firstN
  rw [take_snoc_int ks m hm, List.map_append, h]; rfl
theorem firstN_all {r : Nat} {ks : List Int} (h : IsOrder r ks) {i : Nat} (hi : i < r) : i ∈ firstN ks r := by
  unfold firstN
  rw [List.take_of_length_le (by rw [order_len h]; exact Nat.le_refl _)]
  refine List.mem_map.2 ⟨(i : Int), h.mem_iff.2 ?_, rfl⟩
  unfold rangeI
  exact List.mem_map.2 ⟨i, List.mem_range.2 hi, rfl⟩

set_option maxHeartbeats 16000000 in
set_option maxRecDepth 100000 in
theorem solveRanks_walk (A : Option Addr) (n c : Nat) (zs : List Int) (w : World) (w0 : IsRow .i64 w A n c zs) :
    Calls Try.prog 4 #[.slice A n c] w fun e w' => e = .returned (.bool true) ∧ Below w.heap.size w w' := by
  obtain ⟨i0, hi0, hz0, hz1, hz2⟩ := info_parts info_int
  obtain ⟨h, hw⟩ := w0.ints
  generalize zs.take n = xs at h hw
  clear w0
  by_cases hn : n ≤ 500
  · have hd : decide (n ≤ 500) = true := by simpa using hn
    go_enter Try.func4, Try.ntmps4
    go_upto_region 7 with (first
      | (go_at_call 9; refine (sane06_any _).mono ?_; rintro e w1 ⟨rfl, hb1⟩)
      | (go_at_call 10; refine (few_any A n c _).mono ?_; rintro e w' ⟨rfl, rfl⟩)
      | (go_at_call 11; refine (new_any A n c xs _ (h.upto hb1) hn).mono ?_; rintro e w2 ⟨⟨g, rfl, hge, hD2⟩, hb2⟩
         have hbb2 := bnext hb1 hb2
         have hg : w.heap.size ≤ g := by rw [hge]; exact hb1.size
         clear hge hb1 hb2)
      | (go_at_call 12; refine (equ_any g A n c xs _ _ hD2).mono ?_; rintro e w3 ⟨p, r, k, nc, C, cc, D, cd, cells, right, q3, rfl, hkn, hr4, hk5, hok, hnc, hoC, hoD, hD3, hS3⟩
         have hp := okP_pos hok.ok
         have HC := Lib.hid hok
         have HNC := Lib.hid hnc
         have hg2 := hD2.1.lt
         have hBx := Blk.new w3 30 (eqC p r k C nc cc D r cd)
         have hbb3 := ballocs (Step.below hbb2 hS3 hbb2.size hg) (.cells (eqC p r k C nc cc D r cd) 30)
         have hD3' := hD3.alloc (.cells (eqC p r k C nc cc D r cd) 30)
         have HOC := Lib.hid ((hoC.base (Nat.succ_le_of_lt hg2)).alloc (.cells (eqC p r k C nc cc D r cd) 30))
         have HOD := Lib.hid ((hoD.base (Nat.succ_le_of_lt hg2)).alloc (.cells (eqC p r k C nc cc D r cd) 30))
         have HCl : Hid (∀ b, (Value.slice C nc cc).ownBlock = some b → b < w3.heap.size) := Lib.hid fun b hb => (World.ownsRow.lt hoC b hb).2
         have HDl : Hid (∀ b, (Value.slice D r cd).ownBlock = some b → b < w3.heap.size) := Lib.hid fun b hb => (World.ownsRow.lt hoD b hb).2
         have hgB := hD3.1.lt
         clear hok hkn hnc hoC hoD hD2 hD3 hS3 hbb2))
    obtain ⟨B4, hB4⟩ : ∃ b, w3.heap.size = b := ⟨_, rfl⟩
    obtain ⟨W, hW⟩ : ∃ W, w3.alloc (.cells (eqC p r k C nc cc D r cd) 30) = W := ⟨_, rfl⟩
    have hWs : B4 < W.heap.size := by rw [← hW, ← hB4]; simp
    rw [hW] at hBx hbb3 hD3' HOC HOD ⊢
    rw [hB4] at hBx hgB HCl HDl ⊢
    clear hW hB4
    have hx0 : W.cell? ⟨B4, 0, none⟩ = some (.int .i64 p) := (hBx.cell 0).trans rfl
    have hx1 : W.cell? ⟨B4, 1, none⟩ = some (.int .i64 r) := (hBx.cell 1).trans rfl
    have hx2 : W.cell? ⟨B4, 2, none⟩ = some (.int .i64 k) := (hBx.cell 2).trans rfl
    have hx3 : W.cell? ⟨B4, 3, none⟩ = some (.slice C nc cc) := (hBx.cell 3).trans rfl
    have hx4 : W.cell? ⟨B4, 4, none⟩ = some (.slice D r cd) := (hBx.cell 4).trans rfl
    obtain ⟨r2, hr2⟩ : ∃ r2, 2 * r = r2 := ⟨_, rfl⟩
    have hm2 : (2 : Int) * (r : Int) = (r2 : Int) := by omega
    have hmw : IntKind.i64.wrap (r2 : Int) = (r2 : Int) := IntWalk.i64_in _ (by omega)
    have hX5 := Blk.new W 30 #[.int .i64 p, .int .i64 r2, .int .i64 k, .slice none 0 0, .slice none 0 0]
    have HS0 : Hid (St (W.alloc (.cells #[.int .i64 p, .int .i64 r2, .int .i64 k, .slice none 0 0, .slice none 0 0] 30)) g A n c xs q3 B4 W.heap.size p r k nc C cc D cd cells right r2 none 0 0 [] none 0 0 []) := Lib.hid ⟨hBx.alloc (.cells #[.int .i64 p, .int .i64 r2, .int .i64 k, .slice none 0 0, .slice none 0 0] 30), hX5, HOC.out.alloc (.cells #[.int .i64 p, .int .i64 r2, .int .i64 k, .slice none 0 0, .slice none 0 0] 30), HOD.out.alloc (.cells #[.int .i64 p, .int .i64 r2, .int .i64 k, .slice none 0 0, .slice none 0 0] 30), HCl.out, HDl.out, Two.nil_, hD3'.alloc (.cells #[.int .i64 p, .int .i64 r2, .int .i64 k, .slice none 0 0, .slice none 0 0] 30), hWs, hgB⟩
    have hbb5 := ballocs hbb3 (.cells #[.int .i64 p, .int .i64 r2, .int .i64 k, .slice none 0 0, .slice none 0 0] 30)
    have hsB5 : w.heap.size ≤ W.heap.size := hbb3.size
    clear hX5 hBx HOC HOD hD3' hbb3
    go_upto_region 8 with fail
    obtain ⟨B5, hB5⟩ : ∃ b, W.heap.size = b := ⟨_, rfl⟩
    obtain ⟨W5, hW5⟩ : ∃ V, W.alloc (.cells #[.int .i64 p, .int .i64 r2, .int .i64 k, .slice none 0 0, .slice none 0 0] 30) = V := ⟨_, rfl⟩
    rw [hW5] at HS0 hbb5 ⊢
    rw [hB5] at HS0 hsB5 ⊢
    clear hW5 hB5 hx0 hx1 hx2 hx3 hx4
    go_wp2_with fail
    go_loopw [29] (fun v wx => ∃ (a : Nat) (is : List Nat) (C2 : Option Addr) (n2 c2 : Nat) (D2 : Option Addr) (m2 d2 : Nat) (right2 : List Int) (q : Nat), a ≤ 2 ∧ v = .int .i64 a ∧ Hid (St wx g A n c xs q B4 B5 p r k nc C cc D cd cells right r2 C2 n2 c2 (rowsOf k cells is) D2 m2 d2 right2) ∧ Hid (is.length = m2 ∧ m2 * k = n2 ∧ m2 = a * r ∧ (∀ i ∈ is, i < r) ∧ (0 < a → ∀ i, i < r → i ∈ is) ∧ allP p right2 = true) ∧ Below w.heap.size w wx) (fun v _ => 2 - (intOf v).toNat)
    case atStart => exact ⟨0, [], none, 0, 0, none, 0, 0, [], q3, by omega, rfl, HS0, Lib.hid ⟨rfl, by simp, by simp, by simp, fun h => absurd h (by omega), rfl⟩, hbb5⟩
    case round =>
      obtain ⟨a, is, C2, n2, c2, D2, m2, d2, right2, q, ha, rfl, HS, HI, hb⟩ := hrel
      by_cases hlt : a < 2
      · have h1 : (a : Int) < 2 := by omega
        have hdk := HS.out.dk
        have hq1 : wr.cell? ⟨B4, 1, none⟩ = some (.int .i64 r) := (HS.out.b4.cell 1).trans rfl
        have hgl := HS.out.glt
        have hll := HS.out.lt
        have hl5 := HS.out.b5.lt
        go_wp2_with (first
          | (go_at_call 18; refine (order_any g A n c xs q r _ hdk (by omega)).mono ?_; rintro e w8 ⟨A8, c8, ks, q8, rfl, hk8, hO8, hD8, hS8⟩
             have HS8 := Lib.hid (HS.out.step hS8 hD8)
             have hb8 := Step.below hb hS8 hb.size hg
             have HO8 := Lib.hid hO8
             have HK8 : Hid (OwnI w8 (B5 + 1) 3 A8 r c8 ks) := Lib.hid (hk8.base hl5)
             have HAC : Hid (Ap (.slice A8 r c8) (.slice C2 n2 c2) ∧ Ap (.slice A8 r c8) (.slice D2 m2 d2)) := Lib.hid ⟨Ap.new hk8 HS.out.two.1 (Nat.le_refl _), Ap.new hk8 HS.out.two.2.1 (Nat.le_refl _)⟩
             clear hO8 hS8 hD8 hk8 hdk))
        clear hb HS
        go_loopw [36] (fun v wx => ∃ (m : Nat) (C2 : Option Addr) (n2 c2 : Nat) (D2 : Option Addr) (m2 d2 : Nat) (right2 : List Int) (q : Nat), m ≤ r ∧ v = .int .i64 m ∧ Hid (St wx g A n c xs q B4 B5 p r k nc C cc D cd cells right r2 C2 n2 c2 (rowsOf k cells (is ++ firstN ks m)) D2 m2 d2 right2) ∧ Hid (is.length + m = m2 ∧ m2 * k = n2 ∧ allP p right2 = true) ∧ Hid (OwnI wx (B5 + 1) 3 A8 r c8 ks) ∧ Hid (Ap (.slice A8 r c8) (.slice C2 n2 c2) ∧ Ap (.slice A8 r c8) (.slice D2 m2 d2)) ∧ Below w.heap.size w wx) (fun v _ => r - (intOf v).toNat)
        case atStart => exact ⟨0, C2, n2, c2, D2, m2, d2, right2, q8, by omega, rfl, Lib.hid (by rw [show firstN ks 0 = [] from rfl, List.append_nil]; exact HS8.out), Lib.hid ⟨by rw [← HI.out.1]; rfl, HI.out.2.1, HI.out.2.2.2.2.2⟩, HK8, HAC, hb8⟩
        case round =>
          rename_i wo _
          clear HS8 HK8 HAC
          obtain ⟨m, C3, n3, c3, D3, m3, d3, right3, q9, hm, rfl, HS, HJ, HK, HAC, hb⟩ := hrel
          by_cases hltm : m < r
          · obtain ⟨i, hi, hir⟩ := order_at HO8.out hltm
            obtain ⟨g8, hg8, _, _⟩ := HK.out.form (by omega)
            subst hg8
            have hck := HK.out.cellAt hltm
            rw [hi] at hck
            have HFN := Lib.hid (firstN_snoc (ks := ks) (m := m) (i := i) (by rw [order_len HO8.out]; exact hltm) hi)
            have h1m : (m : Int) < (r : Int) := by omega
            have h0m : (0 : Int) ≤ (m : Int) := by omega
            have hs2 : wr.cell? ⟨B4, 2, none⟩ = some (.int .i64 k) := (HS.out.b4.cell 2).trans rfl
            have hs3 : wr.cell? ⟨B4, 3, none⟩ = some (.slice C nc cc) := (HS.out.b4.cell 3).trans rfl
            have ht3 : wr.cell? ⟨B5, 3, none⟩ = some (.slice C3 n3 c3) := (HS.out.b5.cell 3).trans rfl
            have hcap := HS.out.hC.cap_
            have hrle := row_le (c := k) hir
            rw [HNC.out] at hrle
            have hnc20 : nc ≤ 4 * 5 := by rw [← HNC.out]; exact Nat.mul_le_mul hr4 hk5
            obtain ⟨l, hl⟩ : ∃ l, i * k = l := ⟨_, rfl⟩
            rw [hl] at hrle
            have hw1 : (i : Int) * (k : Int) = (l : Int) := by rw [← hl]; simp
            have hw2 : ((i : Int) + 1) * (k : Int) = ((l + k : Nat) : Int) := by rw [← hl, Int.add_mul]; simp
            have HIR := Lib.hid (HS.out.hC.ints.sub_ hcap l k hrle)
            have HROW : Hid (rowsOf k cells (is ++ firstN ks m) ++ (cells.drop l).take k = rowsOf k cells (is ++ firstN ks (m + 1))) := Lib.hid (by rw [HFN.out, ← List.append_assoc, rowsOf_snoc, hl])
            have HWD : Hid (m3 * k + k = (m3 + 1) * k) := Lib.hid (Nat.succ_mul m3 k).symm
            obtain ⟨row, hrow⟩ : ∃ z, (cells.drop l).take k = z := ⟨_, rfl⟩
            rw [hrow] at HIR HROW
            obtain ⟨e, he⟩ : ∃ e, l + k = e := ⟨_, rfl⟩
            have hem : e - l = k := by omega
            rw [he] at hw2 hrle
            obtain ⟨A4, hA4, HI4⟩ : ∃ A4 : Option Addr, (if cc = l then C else Option.map (fun x => x.add l) C) = A4 ∧ Hid (Ints wr wr.heap.size A4 k row) := by
              refine ⟨_, rfl, ?_⟩
              have := HIR
              rwa [Nat.mul_one] at this
            have s1 : (0 : Int) ≤ (l : Int) := by omega
            have s2 : (l : Int) ≤ (e : Int) := by omega
            have s3 : (e : Int) ≤ (cc : Int) := by omega
            have s4 : IntKind.i64.wrap (l : Int) = (l : Int) := IntWalk.i64_in _ (by omega)
            have s5 : IntKind.i64.wrap (e : Int) = (e : Int) := IntWalk.i64_in _ (by omega)
            have s6 : IntKind.i64.wrap ((i : Int) + 1) = (i : Int) + 1 := IntWalk.i64_in _ (by omega)
            have hm3 : m3 ≤ 12 := by have h3 := HJ.out.1; have h4 := HI.out.1; have h5 := HI.out.2.2.1; have h6 : a * r ≤ 2 * 4 := Nat.mul_le_mul ha hr4; omega
            have hn3 : n3 ≤ 100 := by
              have h1 := HJ.out.2.1
              have h2 := hm3
              have : m3 * k ≤ 12 * 5 := Nat.mul_le_mul h2 hk5
              omega
            have hll := HS.out.b5.lt
            clear hrow hl he hi
            go_upto_region 13 with fail
            go_cut [7] (fun s wx => ∃ (C4 : Option Addr) (c4 : Nat), s = .int .i64 i ∧ Hid (St wx g A n c xs q9 B4 B5 p r k nc C cc D cd cells right r2 C4 (n3 + k) c4 (rowsOf k cells (is ++ firstN ks (m + 1))) D3 m3 d3 right3) ∧ Hid (OwnI wx (B5 + 1) 3 (some ⟨g8, 0, none⟩) r c8 ks) ∧ Hid (Ap (.slice (some ⟨g8, 0, none⟩) r c8) (.slice C4 (n3 + k) c4) ∧ Ap (.slice (some ⟨g8, 0, none⟩) r c8) (.slice D3 m3 d3)) ∧ Below w.heap.size w wx)
            case first =>
              have hl5d : B5 + 1 ≤ wr.drew.heap.size := hll
              have hTd : OwnI wr.drew (B5 + 1) 3 C3 n3 c3 (rowsOf k cells (is ++ firstN ks m)) := HS.out.two.1
              have hRd : Ints wr.drew wr.drew.heap.size A4 k row := HI4.out
              go_region_law (first
                | ((refine step_append_ints (w := wr.drew) rfl (.tmp 41) (.tmp 53) 22 rfl (B5 + 1) 3 i0 _ Try.underlying22 hi0 hz0 hz1 hz2 rfl C3 n3 c3 _ (by first | rfl | simp [Act.eval]) hTd A4 k (cc - l) row (by first | rfl | simp [Act.eval, hem]) hRd (n3 + k) rfl (by omega) hl5d ?_); intro C4 c4 w9 hown9 hgr9 hbw9 hab9
                   have hgr9' : wr.grownBy w9 (Value.slice C3 n3 c3).ownBlock := ⟨hgr9.os, hgr9.tape, hgr9.output, hgr9.size, hgr9.block⟩
                   have hbw9' : Below (B5 + 1) wr w9 := ⟨hbw9.os, hbw9.tape, hbw9.output, hbw9.size, hbw9.block⟩
                   have hpush := HS.out.pushC hown9 hgr9' hbw9' hab9
                   rw [HROW.out] at hpush
                   have HP := Lib.hid hpush.2
                   have ht39 : w9.cell? ⟨B5, 3, none⟩ = some (.slice C3 n3 c3) := (hpush.1.cell 3).trans rfl
                   have hf39 := hpush.1.frozen 3
                   have HK9 := Lib.hid ((HAC.out.1.keep HK.out hgr9').box hpush.1 3 (.slice C4 (n3 + k) c4))
                   have HAC9 := Lib.hid (And.intro (HAC.out.1.next HK.out hab9) HAC.out.2)
                   have hb9 := (hb.trans (hbw9'.mono (by omega))).setCell (p := ⟨B5, 3, none⟩) (show w.heap.size ≤ B5 from hsB5) (.slice C4 (n3 + k) c4)
                   clear hpush hown9 hgr9 hbw9 hab9 hgr9' hbw9'))
              all_goals go_wp2
              all_goals go_meet
              all_goals exact ⟨C4, c4, rfl, HP, HK9, HAC9, hb9⟩
            case rest =>
            obtain ⟨C4, c4, rfl, HS4, HK4, HAC4, hb4⟩ := hcut
            have hu4 : wc.cell? ⟨B5, 4, none⟩ = some (.slice D3 m3 d3) := (HS4.out.b5.cell 4).trans rfl
            have hu0 : wc.cell? ⟨B4, 0, none⟩ = some (.int .i64 p) := (HS4.out.b4.cell 0).trans rfl
            have hDkd := HS4.out.dk.drew
            have hg4 := HS4.out.glt
            have hl45 := HS4.out.lt
            have hl5c := HS4.out.b5.lt
            clear HS HK HAC hb HI4 HIR hs2 hs3 ht3 hck hw1 hw2 s1 s2 s3 s4 s5 s6 hrle hcap hem hA4
            go_upto_region 14 with fail
            go_region_law (first
              | (go_simp; go_at_call 13; (with_reducible refine (next_any g A n c xs q9 p _ hDkd (by omega)).mono ?_); rintro e w9 ⟨t9, q10, rfl, ht9, hx9, hD9, hS9, hz9⟩
                 have HT9 := Lib.hid (ht9 (by omega))
                 have hS9 := Step.undrew hS9
                 have HS9 := Lib.hid (HS4.out.step hS9 hD9)
                 have HK9 := Lib.hid (HK4.out.step hS9 (by omega))
                 have hb9 := Step.below hb4 hS9 hb4.size hg
                 have hu49 : w9.cell? ⟨B5, 4, none⟩ = some (.slice D3 m3 d3) := (HS9.out.b5.cell 4).trans rfl
                 have hu09 : w9.cell? ⟨B4, 0, none⟩ = some (.int .i64 p) := (HS9.out.b4.cell 0).trans rfl
                 have hl9 := HS9.out.b5.lt
                 have hTa : OwnI (w9.alloc (.cells #[.int .i64 t9] 3)) (B5 + 1) 3 D3 m3 d3 right3 := (HS9.out.two.2.1).alloc _
                 have hRa : Ints (w9.alloc (.cells #[.int .i64 t9] 3)) (w9.alloc (.cells #[.int .i64 t9] 3)).heap.size (some ⟨w9.heap.size, 0, none⟩) 1 [t9] := Ints.oneAt _ _ _ _ rfl
                 have hl9a : B5 + 1 ≤ (w9.alloc (.cells #[.int .i64 t9] 3)).heap.size := le_alloc hl9 _
                 have HSa := Lib.hid (HS9.out.alloc (.cells #[.int .i64 t9] 3))
                 have HKa := Lib.hid (HK9.out.alloc (.cells #[.int .i64 t9] 3))
                 have hba := ballocs hb9 (.cells #[.int .i64 t9] 3)
                 clear ht9 hS9 hD9 hx9 hz9)
              | ((refine step_append_ints (w := w9.alloc (.cells #[.int .i64 t9] 3)) rfl (.tmp 57) (.tmp 63) 22 rfl (B5 + 1) 3 i0 _ Try.underlying22 hi0 hz0 hz1 hz2 rfl D3 m3 d3 _ (by first | rfl | simp [Act.eval]) hTa (some ⟨w9.heap.size, 0, none⟩) 1 1 [t9] (by first | rfl | simp [Act.eval]) hRa (m3 + 1) rfl (by omega) hl9a ?_); intro D4 d4 w10 hown10 hgr10 hbw10 hab10
                 have hpush := HSa.out.pushD hown10 hgr10 hbw10 hab10
                 have HP := Lib.hid hpush.2
                 have hu410 : w10.cell? ⟨B5, 4, none⟩ = some (.slice D3 m3 d3) := (hpush.1.cell 4).trans rfl
                 have hf410 := hpush.1.frozen 4
                 have HK10 := Lib.hid ((HAC4.out.2.keep HKa.out hgr10).box hpush.1 4 (.slice D4 (m3 + 1) d4))
                 have HAC10 := Lib.hid (And.intro HAC4.out.1 (HAC4.out.2.next HKa.out hab10))
                 have hb10 := (hba.trans (hbw10.mono (by omega))).setCell (p := ⟨B5, 4, none⟩) (show w.heap.size ≤ B5 from hsB5) (.slice D4 (m3 + 1) d4)
                 clear hpush hown10 hgr10 hbw10 hab10))
            all_goals go_wp2
            all_goals go_roundw
            all_goals first
              | exact ⟨⟨m + 1, C4, n3 + k, c4, D4, m3 + 1, d4, right3 ++ [t9], q10, by omega, by go_num, HP, Lib.hid ⟨by have := HJ.out.1; omega, by rw [← HWD.out, HJ.out.2.1], allP_append.2 ⟨HJ.out.2.2, allP_iff.2 (by simpa using HT9.out)⟩⟩, HK10, HAC10, hb10⟩, by simp [intOf]; omega⟩
              | exact ⟨m + 1, C4, n3 + k, c4, D4, m3 + 1, d4, right3 ++ [t9], q10, by omega, by go_num, HP, Lib.hid ⟨by have := HJ.out.1; omega, by rw [← HWD.out, HJ.out.2.1], allP_append.2 ⟨HJ.out.2.2, allP_iff.2 (by simpa using HT9.out)⟩⟩, HK10, HAC10, hb10⟩
              | (simp [intOf]; omega)
          · obtain rfl : m = r := by omega
            have hgl2 := HJ.out.1
            go_wp2_with fail
            go_roundw
            case rel => exact ⟨a + 1, is ++ firstN ks m, C3, n3, c3, D3, m3, d3, right3, q9, by omega, by go_num, HS, Lib.hid ⟨by rw [List.length_append, firstN_len (by rw [order_len HO8.out]; exact Nat.le_refl _)]; exact hgl2, HJ.out.2.1, by rw [← hgl2, HI.out.1, HI.out.2.2.1, Nat.succ_mul], fun i hi => by
                rcases List.mem_append.1 hi with h1 | h1
                · exact HI.out.2.2.2.1 i h1
                · exact firstN_lt HO8.out _ i h1, fun _ i hi => List.mem_append.2 (.inr (firstN_all HO8.out hi)), HJ.out.2.2⟩, hb⟩
            case measure => simp [intOf]; omega
      · obtain rfl : a = 2 := by omega
        have HK2 : Hid (EqOk p r2 k (rowsOf k cells is) right2) := Lib.hid ⟨HC.out.ok, by omega, HC.out.c32, by rw [rowsOf_len HC.out.lc HI.out.2.2.2.1, HI.out.1, HI.out.2.2.1, hr2], by rw [HS.out.two.2.1.len, HI.out.2.2.1, hr2], rowsOf_all HC.out.ac _, HI.out.2.2.2.2.2⟩
        have hm2r : m2 = r2 := by have := HI.out.2.2.1; omega
        subst hm2r
        have HE1 : Hid (EqW wr p r k nc C cc D cd cells right) := Lib.hid ⟨HC.out, HNC.out, HS.out.hC.ints, HS.out.hD.ints, HS.out.hC.cap_⟩
        have HE2 : Hid (EqW wr p m2 k n2 C2 c2 D2 d2 (rowsOf k cells is) right2) := Lib.hid ⟨HK2.out, HI.out.2.1, HS.out.two.1.ints, HS.out.two.2.1.ints, HS.out.two.1.cap_⟩
        have hB4r := HS.out.b4
        have hB5r := HS.out.b5
        have hy0 : wr.cell? ⟨B4, 0, none⟩ = some (.int .i64 p) := (hB4r.cell 0).trans rfl
        have hy1 : wr.cell? ⟨B4, 1, none⟩ = some (.int .i64 r) := (hB4r.cell 1).trans rfl
        have hy2 : wr.cell? ⟨B4, 2, none⟩ = some (.int .i64 k) := (hB4r.cell 2).trans rfl
        have hy3 : wr.cell? ⟨B4, 3, none⟩ = some (.slice C nc cc) := (hB4r.cell 3).trans rfl
        have hy4 : wr.cell? ⟨B4, 4, none⟩ = some (.slice D r cd) := (hB4r.cell 4).trans rfl
        clear HS
        go_wp2_with (first
          | (go_at_call 19; (with_reducible refine (rank_ok HE1.out).mono ?_); rintro e w20 ⟨rk, rfl, hR20, hb20⟩
             have HR20 := Lib.hid hR20
             have HE3 := Lib.hid (HE2.out.upto hb20)
             have hB520 := hB5r.below hb20 hB5r.lt
             have hB420 := hB4r.below hb20 hB4r.lt
             have hbb20 := bnext hb hb20
             have hrk := hR20.le
             rw [augM_len] at hrk
             have hzz0 : w20.cell? ⟨B5, 0, none⟩ = some (.int .i64 p) := (hB520.cell 0).trans rfl
             have hzz1 : w20.cell? ⟨B5, 1, none⟩ = some (.int .i64 m2) := (hB520.cell 1).trans rfl
             have hzz2 : w20.cell? ⟨B5, 2, none⟩ = some (.int .i64 k) := (hB520.cell 2).trans rfl
             have hzz3 : w20.cell? ⟨B5, 3, none⟩ = some (.slice C2 n2 c2) := (hB520.cell 3).trans rfl
             have hzz4 : w20.cell? ⟨B5, 4, none⟩ = some (.slice D2 m2 d2) := (hB520.cell 4).trans rfl
             clear hb20 hR20 hy0 hy1 hy2 hy3 hy4)
          | (go_at_call 19; (with_reducible refine (rank_ok HE3.out).mono ?_); rintro e w21 ⟨rk2, rfl, hR21, hb21⟩
             have HB421 := hB420.below hb21 hB420.lt
             have hbb21 := bnext hbb20 hb21
             have hone : rk = rk2 := HR20.out.one hp.1 hR21 (fun z hz => ker_rows HC.out.lc HI.out.2.2.2.1 (HI.out.2.2.2.2.1 (by omega)) HI.out.1 z hz)
             subst hone
             have hrm : (rk : Int) ≤ min (r : Int) (k : Int) := by omega
             have hv1 : w21.cell? ⟨B4, 1, none⟩ = some (.int .i64 r) := (HB421.cell 1).trans rfl
             have hv2 : w21.cell? ⟨B4, 2, none⟩ = some (.int .i64 k) := (HB421.cell 2).trans rfl
             clear hb21 hR21))
        all_goals go_ret
        all_goals exact ⟨by first | rfl | (simp; omega), hbb21⟩
  · have hd : decide (n ≤ 500) = false := by simpa using hn
    go_enter Try.func4, Try.ntmps4
    go_wp2_with (first
      | (go_at_call 9; refine (sane06_any _).mono ?_; rintro e w1 ⟨rfl, hb1⟩)
      | (go_at_call 10; refine (few_any A n c _).mono ?_; rintro e w' ⟨rfl, rfl⟩))
    go_ret
    exact ⟨rfl, hb1⟩
end Go.Proofs.Yteipcjmkhacdgaa
