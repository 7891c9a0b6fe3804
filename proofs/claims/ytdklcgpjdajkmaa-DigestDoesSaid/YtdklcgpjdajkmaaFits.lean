/-
  What digest's Fits hands back for valid arguments. Conditions: the lists read as their numbers, all of them elements, and are short enough.
-/
import Derived.Test.YtdklcgpjdajkmaaLines
import Derived.Test.YtdklcgpjdajkmaaVec
namespace Go.Proofs.Ytdklcgpjdajkmaa
open Go.RowKit
set_option linter.unusedVariables false

set_option maxHeartbeats 800000 in
set_option maxRecDepth 100000 in
theorem fits_ok (p pt : Int) (L Q X : Option Addr) (n m cl cq cx : Nat) (ls qs xs : List Int) (w : World) (hok : okP p = true) (hpt : 0 ≤ pt ∧ pt < p) (hL : Ints w w.heap.size L n ls) (hQ : Ints w w.heap.size Q n qs) (hX : Ints w w.heap.size X m xs)
    (al : allP p ls = true) (aq : allP p qs = true) (ax : allP p xs = true) (hn : n ≤ 1024) (hm : m ≤ 64) :
    Calls Try.prog 53 #[.agg #[.int .i64 p], .int .i64 pt, .slice L n cl, .slice Q n cq, .slice X m cx] w fun e w' =>
      e = .returned (.tuple #[.bool (valueP p pt xs == dotP p qs ls), .int .i64 0]) ∧ Below w.heap.size w w' := by
  have hp := okP_pos hok
  have HO := Lib.hid hok
  have HP : Hid (inP p pt = true) := Lib.hid (inP_iff.2 hpt)
  have HL := Lib.hid al
  have HQ := Lib.hid aq
  have HX := Lib.hid ax
  clear hok al aq ax
  go_enter Try.func53, Try.ntmps53
  go_wp2_with (first
    | (go_at_call 120; refine (of_yes p _ HO.out).mono ?_; rintro e w1 ⟨rfl, hb1⟩
       have hbb1 := bnext (bbox _) hb1
       have hF1 := (Blk.new w 46 #[.int .i64 p]).below hb1 (by simp)
       clear hb1)
    | (go_at_call 125; refine (has_any p pt _).mono ?_; rintro e w' ⟨rfl, rfl⟩; rw [HP.out])
    | (go_at_call 121; (with_reducible refine (all_any p L n cl ls w1 (hL.upto hbb1) (by omega)).mono ?_); rintro e w2 ⟨rfl, hb2⟩; rw [HL.out]
       have hbb2 := bnext hbb1 hb2
       have hF2 := hF1.below hb2 hF1.lt
       clear hb2)
    | (go_at_call 121; (with_reducible refine (all_any p Q n cq qs w2 (hQ.upto hbb2) (by omega)).mono ?_); rintro e w3 ⟨rfl, hb3⟩; rw [HQ.out]
       have hbb3 := bnext hbb2 hb3
       have hF3 := hF2.below hb3 hF2.lt
       clear hb3)
    | (go_at_call 121; (with_reducible refine (all_any p X m cx xs w3 (hX.upto hbb3) (by omega)).mono ?_); rintro e w4 ⟨rfl, hb4⟩; rw [HX.out]
       have hbb4 := bnext hbb3 hb4
       have hF4 := hF3.below hb4 hF3.lt
       have hc4 : w4.cell? ⟨w.heap.size, 0, none⟩ = some (.int .i64 p) := (hF4.cell 0).trans rfl
       clear hb4)
    | (go_at_call 37; (refine (dot_ok p Q L n cq cl qs ls _ HO.out (hQ.upto hbb4) (hL.upto hbb4) HQ.out HL.out (by omega)).mono ?_); rintro e w5 ⟨rfl, hb5⟩
       have hbb5 := bnext hbb4 hb5
       clear hb5)
    | (go_at_call 134; (refine (value_any p pt X m cx xs _ hp hpt (hX.upto hbb5) HX.out (by omega)).mono ?_); rintro e w6 ⟨rfl, hb6⟩
       have hbb6 := bnext hbb5 hb6
       clear hb6))
  go_ret2
  exact ⟨rfl, hbb6⟩
end Go.Proofs.Ytdklcgpjdajkmaa
