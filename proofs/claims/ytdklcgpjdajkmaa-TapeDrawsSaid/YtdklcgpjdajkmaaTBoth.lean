/-
  Draws and Draw of the program and of the second form hand back the same. Conditions: the list reads as its numbers.
-/
import Derived.Test.YtdklcgpjdajkmaaRDraw1
namespace Go.Proofs.Ytdklcgpjdajkmaa
open Go.RowKit
set_option linter.unusedVariables false

/-- What some drawing leaves: a tape, the numbers, the error. -/
def DP (um : Nat) (us : List Int) (uat : Int) (dn : Nat) (ds : List Int) (er : Int) (w : World) (e : Ending) (w' : World) : Prop :=
  ∃ (U : Option Addr) (uc : Nat) (D : Option Addr) (dc : Nat), e = .returned (.tuple #[.agg #[.slice U um uc, .int .i64 uat], .slice D dn dc, .int .i64 er]) ∧ Ints w' w'.heap.size U um us ∧ Ints w' w'.heap.size D dn ds ∧ Below w.heap.size w w'
/-- And of one number. -/
def D1 (um : Nat) (us : List Int) (uat x er : Int) (w : World) (e : Ending) (w' : World) : Prop :=
  ∃ (U : Option Addr) (uc : Nat), e = .returned (.tuple #[.agg #[.slice U um uc, .int .i64 uat], .int .i64 x, .int .i64 er]) ∧ Ints w' w'.heap.size U um us ∧ Below w.heap.size w w'

theorem DrawsPost.dp {m : Nat} {a n count : Int} {xs : List Int} {w : World} {e : Ending} {w' : World} (h : DrawsPost m a n count xs w e w') (he : drawsE xs m a n count = 0) :
    DP m xs (a + count) count.toNat ((xs.drop a.toNat).take count.toNat) 0 w e w' := by
  obtain ⟨_, hy, hb⟩ := h
  obtain ⟨A', c', D, dc, e1, h1, h2⟩ := hy he
  exact ⟨A', c', D, dc, e1, h1.ints, h2.ints, hb⟩
theorem DrawsPost.dpE {m : Nat} {a n count : Int} {xs : List Int} {w : World} {e : Ending} {w' : World} (h : DrawsPost m a n count xs w e w') (he : ¬ drawsE xs m a n count = 0) :
    DP 0 [] 0 0 [] (drawsE xs m a n count) w e w' := by
  obtain ⟨hn, _, hb⟩ := h
  exact ⟨none, 0, none, 0, hn he, Ints.nil_, Ints.nil_, hb⟩

theorem draws_both (m : Nat) (a n count : Int) (xs : List Int) (hl : xs.length = m) (hm : m ≤ 1000000) (hc : count ≤ 9223372036854775807) :
    ∃ (um : Nat) (us : List Int) (uat : Int) (dn : Nat) (ds : List Int) (er : Int), um ≤ 1000000 ∧ dn ≤ 1000000 ∧ ∀ (A : Option Addr) (c : Nat) (w : World), Ints w w.heap.size A m xs →
      Calls Try.prog 24 #[.agg #[.slice A m c, .int .i64 a], .int .i64 n, .int .i64 count] w (DP um us uat dn ds er w) ∧
      Calls Try.prog 25 #[.agg #[.slice A m c, .int .i64 a], .int .i64 n, .int .i64 count] w (DP um us uat dn ds er w) := by
  by_cases he : drawsE xs m a n count = 0
  · refine ⟨m, xs, a + count, count.toNat, (xs.drop a.toNat).take count.toNat, 0, hm, ?_, fun A c w h => ⟨(draws_any A m c a n count xs w h hc).mono fun e w' h => h.dp he, (rdraws_any A m c a n count xs w h hc).mono fun e w' h => h.dp he⟩⟩
    have h1 := drawn_of he
    have h2 := validT_iff.1 h1.1
    have h3 := (drawE_ok count.toNat a.toNat (by omega)).1 h1.2.2.2
    omega
  · exact ⟨0, [], 0, 0, [], _, by omega, by omega, fun A c w h => ⟨(draws_any A m c a n count xs w h hc).mono fun e w' h => h.dpE he, (rdraws_any A m c a n count xs w h hc).mono fun e w' h => h.dpE he⟩⟩

theorem DrawPost.d1 {m : Nat} {a n : Int} {xs : List Int} {w : World} {e : Ending} {w' : World} (h : DrawPost m a n xs w e w') (he : drawsE xs m a n 1 = 0) :
    D1 m xs (a + 1) (xs.getD a.toNat 0) 0 w e w' := by
  obtain ⟨_, hy, hb⟩ := h
  obtain ⟨A', c', e1, h1⟩ := hy he
  exact ⟨A', c', e1, h1.ints, hb⟩
theorem DrawPost.d1E {m : Nat} {a n : Int} {xs : List Int} {w : World} {e : Ending} {w' : World} (h : DrawPost m a n xs w e w') (he : ¬ drawsE xs m a n 1 = 0) :
    D1 0 [] 0 0 (drawsE xs m a n 1) w e w' := by
  obtain ⟨hn, _, hb⟩ := h
  exact ⟨none, 0, hn he, Ints.nil_, hb⟩

theorem draw_both (m : Nat) (a n : Int) (xs : List Int) (hm : m ≤ 1000000) :
    ∃ (um : Nat) (us : List Int) (uat x er : Int), um ≤ 1000000 ∧ ∀ (A : Option Addr) (c : Nat) (w : World), Ints w w.heap.size A m xs →
      Calls Try.prog 22 #[.agg #[.slice A m c, .int .i64 a], .int .i64 n] w (D1 um us uat x er w) ∧
      Calls Try.prog 23 #[.agg #[.slice A m c, .int .i64 a], .int .i64 n] w (D1 um us uat x er w) := by
  by_cases he : drawsE xs m a n 1 = 0
  · exact ⟨m, xs, a + 1, xs.getD a.toNat 0, 0, hm, fun A c w h => ⟨(draw1_any A m c a n xs w h).mono fun e w' h => h.d1 he, (rdraw_any A m c a n xs w h).mono fun e w' h => h.d1 he⟩⟩
  · exact ⟨0, [], 0, 0, _, by omega, fun A c w h => ⟨(draw1_any A m c a n xs w h).mono fun e w' h => h.d1E he, (rdraw_any A m c a n xs w h).mono fun e w' h => h.d1E he⟩⟩
end Go.Proofs.Ytdklcgpjdajkmaa
