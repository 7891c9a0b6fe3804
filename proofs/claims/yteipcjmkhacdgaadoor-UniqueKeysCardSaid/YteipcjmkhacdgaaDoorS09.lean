/-
  The sanity check of chapter 9 holds. Conditions: the variable errWrong holds its failure.
-/
import Derived.Test.YteipcjmkhacdgaaDoorUDecode
import Derived.Test.YteipcjmkhacdgaaDoorUChk
namespace Go.Proofs.YteipcjmkhacdgaaDoor
open Go.RowKit
set_option linter.unusedVariables false

/-- A block of four cells reads as its values and marks. -/
theorem cel4 (w : World) (a b c d : Int) (x y z u : Bool) : Cel (w.alloc (.cells #[.int .i64 a, .bool x, .int .i64 b, .bool y, .int .i64 c, .bool z, .int .i64 d, .bool u] 59)) (w.alloc (.cells #[.int .i64 a, .bool x, .int .i64 b, .bool y, .int .i64 c, .bool z, .int .i64 d, .bool u] 59)).heap.size (some ⟨w.heap.size, 0, none⟩) 4 [a, b, c, d] [x, y, z, u] :=
  ⟨rfl, rfl, fun _ => ⟨w.heap.size, 0, rfl, by simp, fun j hj => by
    have hB : (w.alloc (.cells #[.int .i64 a, .bool x, .int .i64 b, .bool y, .int .i64 c, .bool z, .int .i64 d, .bool u] 59)).heap[w.heap.size]? = some (.cells #[.int .i64 a, .bool x, .int .i64 b, .bool y, .int .i64 c, .bool z, .int .i64 d, .bool u] 59 (0, 0)) := Blk.new w 59 _
    rcases (by omega : j = 0 ∨ j = 1 ∨ j = 2 ∨ j = 3) with rfl | rfl | rfl | rfl
    · exact ⟨(Blk.cell hB 0).trans rfl, (Blk.cell hB 1).trans rfl⟩
    · exact ⟨(Blk.cell hB 2).trans rfl, (Blk.cell hB 3).trans rfl⟩
    · exact ⟨(Blk.cell hB 4).trans rfl, (Blk.cell hB 5).trans rfl⟩
    · exact ⟨(Blk.cell hB 6).trans rfl, (Blk.cell hB 7).trans rfl⟩⟩⟩

set_option maxRecDepth 100000 in
set_option maxHeartbeats 1600000 in
theorem sane09_any (w : World) (hW : ErrW w) : Calls Tryd.prog 9 #[] w fun e w' => e = .returned (.bool true) ∧ Below w.heap.size w w' := by
  have h7 : okP 7 = true := okP_known (by simp [isKnown])
  have HO := Lib.hid h7
  have HK : Hid (knL [3, 5, 1, 2] [true, true, true, true] = [(1, 3), (2, 5), (3, 1), (4, 2)]) := Lib.hid (by decide)
  have HKO : Hid (knOk 7 [3, 5, 1, 2] [true, true, true, true]) := Lib.hid (by
    intro e he
    rw [HK.out] at he
    simp only [List.mem_cons, List.not_mem_nil, or_false] at he
    rcases he with rfl | rfl | rfl | rfl <;> decide)
  have HW : Hid (wrL 7 [1, 2] [(1, 3), (2, 5), (3, 1), (4, 2)] = [3]) := Lib.hid (by decide)
  have HD : Hid (∀ a, DecOf 7 2 1 [(1, 3), (2, 5), (3, 1), (4, 2)] a → a = some [1, 2]) := Lib.hid fun a h => by
    have h1 := DecOf.one h7 h (by have := knL_apart (p := 7) (vs := [3, 5, 1, 2]) (bs := [true, true, true, true]) (by decide); rwa [HK.out] at this) (by decide) (P := [1, 2]) (by decide) (by decide) (by rw [HW.out]; decide)
    rw [h1]; decide
  have HS1 : Hid (sameL [1, 2] [1, 2] = true) := Lib.hid (by decide)
  have HS2 : Hid (sameL [3] [3] = true) := Lib.hid (by decide)
  have hb0 : Below w.heap.size w ((w.alloc (.cells #[.int .i64 7] 24)).alloc (.cells #[.int .i64 3, .bool true, .int .i64 5, .bool true, .int .i64 1, .bool true, .int .i64 2, .bool true] 59)) := ballocs (bbox _) _
  have hF0 := (Blk.new w 24 #[.int .i64 7]).alloc (.cells #[.int .i64 3, .bool true, .int .i64 5, .bool true, .int .i64 1, .bool true, .int .i64 2, .bool true] 59)
  have hE0 := hW.below hb0
  have hC0 := cel4 (w.alloc (.cells #[.int .i64 7] 24)) 3 5 1 2 true true true true
  have hc0 : ((w.alloc (.cells #[.int .i64 7] 24)).alloc (.cells #[.int .i64 3, .bool true, .int .i64 5, .bool true, .int .i64 1, .bool true, .int .i64 2, .bool true] 59)).cell? ⟨w.heap.size, 0, none⟩ = some (.int .i64 7) := (hF0.cell 0).trans rfl
  clear h7 hW
  rw [show (w.alloc (.cells #[.int .i64 7] 24)).heap.size = w.heap.size + 1 by simp] at hC0
  go_enter Tryd.func9, Tryd.ntmps9
  go_wp2_with fail
  go_at_call 18
  refine (uDecode_ok 7 (some ⟨w.heap.size + 1, 0, none⟩) 4 4 2 [3, 5, 1, 2] [true, true, true, true] _ HO.out hC0 (by omega) (by omega) HKO.out (by omega) (by omega) (by rw [HK.out]; decide) hE0).mono ?_
  rw [HK.out]
  rintro e w1 ⟨⟨hD, rfl⟩ | ⟨P, A1, c1, A2, c2, hD, rfl, hI1, hI2, hc1, hc2, hn1, hn2⟩, hb1⟩
  · exfalso
    have := HD.out _ hD
    cases this
  · have hP : P = [1, 2] := by
      have := HD.out _ hD
      injection this
    subst hP
    rw [HW.out] at hI2 hc2
    rw [HW.out]
    clear hD hn1 hn2
    obtain ⟨W, hWe⟩ : ∃ W, w1.alloc (.cells #[.slice A1 2 c1, .slice A2 1 c2] 27) = W := ⟨_, rfl⟩
    have hbW : Below w1.heap.size w1 W := by rw [← hWe]; exact bbox _
    have hN : Blk W w1.heap.size 27 #[.slice A1 2 c1, .slice A2 1 c2] := by rw [← hWe]; exact Blk.new w1 _ _
    have hbb := bnext (bnext hb0 hb1) hbW
    have hF := (hF0.below hb1 hF0.lt).below hbW (hF0.below hb1 hF0.lt).lt
    have hC := (hC0.upto hb1).upto hbW
    have hJ1 := hI1.upto hbW
    have hJ2 := hI2.upto hbW
    have hlw := (hF0.below hb1 hF0.lt).lt
    clear hbW hE0 hC0 hc0 hF0 hb0 hI1 hI2
    go_upto_region 5 with (go_at_call 25; (refine (uradius_ok 4 2 _ (by omega) (by omega) (by omega)).mono ?_); rintro e w' ⟨rfl, rfl⟩)
    clear hWe
    have hc0 : W.cell? ⟨w1.heap.size, 0, none⟩ = some (.slice A1 2 c1) := (hN.cell 0).trans rfl
    have hL1 : Below W.heap.size W (W.alloc (.cells #[.int .i64 1, .int .i64 2] 3)) := bbox _
    have hIa : Ints (W.alloc (.cells #[.int .i64 1, .int .i64 2] 3)) (W.alloc (.cells #[.int .i64 1, .int .i64 2] 3)).heap.size A1 2 [1, 2] := hJ1.upto hL1
    have hNa := hN.alloc (.cells #[.int .i64 1, .int .i64 2] 3)
    have hLa : Ints (W.alloc (.cells #[.int .i64 1, .int .i64 2] 3)) (W.alloc (.cells #[.int .i64 1, .int .i64 2] 3)).heap.size (some ⟨W.heap.size, 0, none⟩) 2 [1, 2] := Ints.lit W _ [1, 2] 3 2 _ rfl rfl rfl
    go_wp2_with fail
    go_at_call 24
    refine (same_any A1 (some ⟨W.heap.size, 0, none⟩) 2 2 c1 2 [1, 2] [1, 2] _ hIa hLa (by omega) (by omega)).mono ?_
    rintro e w' ⟨rfl, q1, rfl⟩
    rw [HS1.out]
    obtain ⟨W5, hW5⟩ : ∃ W5, (W.alloc (.cells #[.int .i64 1, .int .i64 2] 3)).drewN q1 = W5 := ⟨_, rfl⟩
    have hL5 : Below W.heap.size W W5 := by rw [← hW5]; exact below_drewN hL1 q1
    rw [hW5]
    clear hLa hIa hNa hL1 hW5
    have hc15 : W5.cell? ⟨w1.heap.size, 1, none⟩ = some (.slice A2 1 c2) := ((hN.below hL5 hN.lt).cell 1).trans rfl
    have hIb : Ints (W5.alloc (.cells #[.int .i64 3] 3)) (W5.alloc (.cells #[.int .i64 3] 3)).heap.size A2 1 [3] := (hJ2.upto hL5).upto (bbox _)
    have hLb : Ints (W5.alloc (.cells #[.int .i64 3] 3)) (W5.alloc (.cells #[.int .i64 3] 3)).heap.size (some ⟨W5.heap.size, 0, none⟩) 1 [3] := Ints.lit W5 _ [3] 3 1 _ rfl rfl rfl
    go_wp2_with fail
    go_at_call 24
    refine (same_any A2 (some ⟨W5.heap.size, 0, none⟩) 1 1 c2 1 [3] [3] _ hIb hLb (by omega) (by omega)).mono ?_
    rintro e w' ⟨rfl, q2, rfl⟩
    rw [HS2.out]
    obtain ⟨W6, hW6⟩ : ∃ W6, (W5.alloc (.cells #[.int .i64 3] 3)).drewN q2 = W6 := ⟨_, rfl⟩
    have hL6 : Below W.heap.size W W6 := by rw [← hW6]; exact below_drewN (hL5.trans (bbox (w0 := W5) _ |>.mono hL5.size)) q2
    rw [hW6]
    clear hLb hIb hc15 hW6
    have hN6 := hN.below hL6 hN.lt
    have hF6 := hF.below hL6 hF.lt
    have hC6 := hC.upto hL6
    have hK1 := hJ1.upto hL6
    have hK2 := hJ2.upto hL6
    have hk0 : W6.cell? ⟨w1.heap.size, 0, none⟩ = some (.slice A1 2 c1) := (hN6.cell 0).trans rfl
    have hk1 : W6.cell? ⟨w1.heap.size, 1, none⟩ = some (.slice A2 1 c2) := (hN6.cell 1).trans rfl
    have hf0 : W6.cell? ⟨w.heap.size, 0, none⟩ = some (.int .i64 7) := (hF6.cell 0).trans rfl
    go_wp2_with fail
    go_at_call 20
    refine (ucheck_yes 7 (some ⟨w.heap.size + 1, 0, none⟩) 4 4 2 [3, 5, 1, 2] [true, true, true, true] A1 A2 2 c1 1 c2 [1, 2] W6 HO.out hC6 (by omega) (by omega) HKO.out (by omega) (by omega) (by rw [HK.out]; decide) hK1 (by decide) hc1 (by omega) (by decide) (by rw [HK.out, HW.out]; exact hK2) (by rw [HK.out]; decide)).mono ?_
    rintro e w7 ⟨rfl, hb7⟩
    go_wp2_with fail
    go_ret
    exact ⟨rfl, bnext (hbb.trans (hL6.mono hbb.size)) hb7⟩
end Go.Proofs.YteipcjmkhacdgaaDoor
