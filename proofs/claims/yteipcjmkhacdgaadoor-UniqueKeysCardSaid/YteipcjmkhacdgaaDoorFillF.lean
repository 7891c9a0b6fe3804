/-
  What code's Fill hands back where too few cells are known. Conditions: the cells read as their values and marks.
-/
import Derived.Test.YteipcjmkhacdgaaDoorFill
namespace Go.Proofs.YteipcjmkhacdgaaDoor
open Go.RowKit
set_option linter.unusedVariables false

set_option maxRecDepth 100000 in
set_option maxHeartbeats 1600000 in
theorem fill_few (p : Int) (A : Option Addr) (m c k : Nat) (vs : List Int) (bs : List Bool) (w : World) (hok : okP p = true) (h : Cel w w.heap.size A m vs bs) (hm : m ≤ 32) (hmp : (m : Int) < p) (hkn : knOk p vs bs) (hk : 1 ≤ k) (hkm : k ≤ m) (hkl : (knL vs bs).length < k) :
    Calls Tryd.prog 42 #[.agg #[.int .i64 p], .slice A m c, .int .i64 k] w fun e w' => e = .returned (.tuple #[.slice none 0 0, .int .i64 11]) ∧ Below w.heap.size w w' := by
  have HO := Lib.hid hok
  have HKN := Lib.hid hkn
  obtain ⟨q, hq⟩ : ∃ q, (knL vs bs).length = q := ⟨_, rfl⟩
  have hkq : (q : Int) < (k : Int) := by omega
  have hkqN : q < k := by omega
  have hk1 : ¬ ((k : Int) < 1) := by omega
  have hk1N : ¬ k < 1 := by omega
  have hkmi : ¬ ((m : Int) < (k : Int)) := by omega
  have hkmiN : ¬ m < k := by omega
  have hb0 : Below w.heap.size w (w.alloc (.cells #[.int .i64 p] 24)) := bbox _
  have hS0 := h.upto hb0
  have HQ := Lib.hid hq
  clear hok hkn hq hkl
  go_enter Tryd.func42, Tryd.ntmps42
  go_wp2_with (go_at_call 65; (refine (cells_ok p A m c vs bs _ HO.out hS0 hm hmp HKN.out).mono ?_); rintro e w1 ⟨rfl, hb1⟩
               rw [HQ.out]
               have hbb1 := bnext hb0 hb1)
  go_ret2
  exact ⟨rfl, hbb1⟩

end Go.Proofs.YteipcjmkhacdgaaDoor
