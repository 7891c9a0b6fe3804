/-
  What poly's Degree and code's Fill hand back for valid arguments. Conditions: the lists read as their numbers, all of them elements; the cells as their values and marks.
-/
import Derived.Test.YtoblofilaegnaaaCode2
import Derived.Test.YtoblofilaegnaaaPoly1
import Derived.Test.YtoblofilaegnaaaSplL
import Derived.Deep.QuietTactic
import Derived.BigQuiet
import Derived.Deep.RegionHeld3
namespace Go.Proofs.Ytoblofilaegnaaa
open Go.RowKit
set_option linter.unusedVariables false

/-- poly's Degree. -/
theorem pdeg_ok (p : Int) (A : Option Addr) (n c : Nat) (xs : List Int) (w : World) (hok : okP p = true) (h : Ints w w.heap.size A n xs) (hx : allP p xs = true) (hc : n ≤ c) (hn : n ≤ 512) :
    Calls Try.prog 44 #[.agg #[.int .i64 p], .slice A n c] w fun e w' => e = .returned (.tuple #[.int .i64 ((tn xs n : Nat) - 1), .int .i64 0]) ∧ Below w.heap.size w w' := by
  have HO := Lib.hid hok
  have HR : Hid (∀ r ∈ [xs], allP p r = true ∧ r.length ≤ 512) := Lib.hid fun r hr => by rw [List.mem_singleton.1 hr]; exact ⟨hx, by rw [h.len]; exact hn⟩
  have ht := tn_le xs n
  clear hok hx
  obtain ⟨t, HT⟩ : ∃ t, Hid (tn xs n = t) := ⟨_, Lib.hid rfl⟩
  rw [HT.out] at ht
  rw [HT.out]
  go_enter Try.func44, Try.ntmps44
  go_wp2_with (first
    | (go_at_call 129; (refine (open_ok p _ 1 1 [xs] _ HO.out (by exact Mat.one _ A n c xs 22 _ (by simp) (h.upto (bbox _)) (by omega)) (by omega) HR.out).mono ?_); rintro e w1 ⟨rfl, hb1⟩
       have hbb1 := bnext (ballocs (bbox _) _) hb1
       clear hb1)
    | (go_at_call 133; refine (trim_any A n c xs _ (h.upto hbb1) hc (by omega)).mono ?_; rintro e w2 ⟨rfl, rfl⟩
       rw [HT.out]))
  go_ret2
  exact ⟨rfl, hbb1⟩


set_option maxRecDepth 100000 in
set_option maxHeartbeats 1600000 in
theorem fill_ok (p : Int) (A : Option Addr) (m c k : Nat) (vs : List Int) (bs : List Bool) (w : World) (hok : okP p = true) (h : Cel w w.heap.size A m vs bs) (hm : m ≤ 32) (hmp : (m : Int) < p) (hkn : knOk p vs bs) (hk : 1 ≤ k) (hkm : k ≤ m) (hkl : k ≤ (knL vs bs).length) :
    Calls Try.prog 69 #[.agg #[.int .i64 p], .slice A m c, .int .i64 k] w fun e w' =>
      (∃ R A' c', e = .returned (.tuple #[.slice A' R.length c', .int .i64 0]) ∧ OwnI w' w.heap.size 3 A' R.length c' R ∧ Through p (ptK ((knL vs bs).take k)) (vlK ((knL vs bs).take k)) R) ∧ Below w.heap.size w w' := by
  have HO := Lib.hid hok
  have HKN := Lib.hid hkn
  have hlen : ((knL vs bs).take k).length = k := by rw [List.length_take]; omega
  have hvl := h.1
  have HPA : Hid (allP p (ptK ((knL vs bs).take k)) = true) := Lib.hid (by rw [ptK_take]; exact take_allP (ptK_allP vs bs (by rw [hvl]; exact hmp)) k)
  have HVA : Hid (allP p (vlK ((knL vs bs).take k)) = true) := Lib.hid (by rw [vlK_take]; exact take_allP (vlK_allP hkn) k)
  have HPD : Hid (∀ i j, i < j → j < k → (ptK ((knL vs bs).take k)).getD i 0 ≠ (ptK ((knL vs bs).take k)).getD j 0) := Lib.hid fun i j h1 h2 => by
    rw [ptK_take]
    exact ((ptK_apart vs bs).take k) i j h1 (by rw [List.length_take, ptK_len]; omega)
  obtain ⟨q, hq⟩ : ∃ q, (knL vs bs).length = q := ⟨_, rfl⟩
  have hkq : ¬ ((q : Int) < (k : Int)) := by omega
  have hkqN : ¬ q < k := by omega
  have hk1 : ¬ ((k : Int) < 1) := by omega
  have hk1N : ¬ k < 1 := by omega
  have hkmi : ¬ ((m : Int) < (k : Int)) := by omega
  have hkmiN : ¬ m < k := by omega
  have hb0 : Below w.heap.size w (w.alloc (.cells #[.int .i64 p] 24)) := bbox _
  have hF0 := Blk.new w 24 #[.int .i64 p]
  have hS0 := h.upto hb0
  have HQ := Lib.hid hq
  clear hok hkn hq hkl
  obtain ⟨l, HL⟩ : ∃ l, Hid ((knL vs bs).take k = l) := ⟨_, Lib.hid rfl⟩
  rw [HL.out] at HPA HVA HPD hlen
  rw [HL.out]
  go_enter Try.func69, Try.ntmps69
  go_wp2_with (go_at_call 145; (refine (cells_ok p A m c vs bs _ HO.out hS0 hm hmp HKN.out).mono ?_); rintro e w1 ⟨rfl, hb1⟩
               rw [HQ.out]
               have hbb1 := bnext hb0 hb1
               have hF1 := hF0.below hb1 hF0.lt
               have hS1 := hS0.upto hb1)
  have hcF1 : w1.drew.cell? ⟨w.heap.size, 0, none⟩ = some (.int .i64 p) := (hF1.cell 0).trans rfl
  have hSd : Cel w1.drew w1.drew.heap.size A m vs bs := hS1
  have hB0 : Below w1.heap.size w1 w1.drew := (Below.refl _ w1).drew
  have HFF : Hid (∀ wx, Below w1.heap.size w1 wx → wx.cell? ⟨w.heap.size, 0, none⟩ = some (.int .i64 p)) := Lib.hid fun wx hx => ((hF1.below hx hF1.lt).cell 0).trans rfl
  go_region_held3 (fun w' => w'.cell? ⟨w.heap.size, 0, none⟩ = some (.int .i64 p)) (first | exact hcF1 | exact HFF.out _ hC2 | exact HFF.out _ hC3)
    (first
      | (go_at_call 146; (with_reducible refine (first_ok A m c k vs bs _ hSd hm (by omega)).mono ?_); rintro e w2 ⟨⟨A2, c2, rfl, hoS⟩, hb2⟩
         rw [HL.out, hlen] at hoS
         rw [HL.out, hlen]
         have hC2 := bnext hB0 hb2
         have hSh := hoS.sh
         have hcap := hoS.cap)
      | (go_at_call 48; (with_reducible refine (interp_ok p A2 k c2 (ptK l) (vlK l) _ HO.out hSh HPA.out HVA.out (by omega) HPD.out).mono ?_); rintro e w3 ⟨⟨R, A3, c3, rfl, hown3, hT⟩, hb3⟩
         have HT := Lib.hid hT
         have hC3 := bnext hC2 hb3
         clear hT))
  go_wp2
  go_ret2
  exact ⟨⟨R, A3, c3, rfl, hown3.base (by have := hbb1.size; have := hC2.size; omega), HT.out⟩, bnext hbb1 hC3⟩

/-- A block of cells reads as its values and marks. -/
theorem cel3 (w : World) (a b c : Int) (x y z : Bool) : Cel (w.alloc (.cells #[.int .i64 a, .bool x, .int .i64 b, .bool y, .int .i64 c, .bool z] 86)) (w.alloc (.cells #[.int .i64 a, .bool x, .int .i64 b, .bool y, .int .i64 c, .bool z] 86)).heap.size (some ⟨w.heap.size, 0, none⟩) 3 [a, b, c] [x, y, z] :=
  ⟨rfl, rfl, fun _ => ⟨w.heap.size, 0, rfl, by simp, fun j hj => by
    have hB : (w.alloc (.cells #[.int .i64 a, .bool x, .int .i64 b, .bool y, .int .i64 c, .bool z] 86)).heap[w.heap.size]? = some (.cells #[.int .i64 a, .bool x, .int .i64 b, .bool y, .int .i64 c, .bool z] 86 (0, 0)) := Blk.new w 86 _
    rcases (by omega : j = 0 ∨ j = 1 ∨ j = 2) with rfl | rfl | rfl
    · exact ⟨(Blk.cell hB 0).trans rfl, (Blk.cell hB 1).trans rfl⟩
    · exact ⟨(Blk.cell hB 2).trans rfl, (Blk.cell hB 3).trans rfl⟩
    · exact ⟨(Blk.cell hB 4).trans rfl, (Blk.cell hB 5).trans rfl⟩⟩⟩

end Go.Proofs.Ytoblofilaegnaaa
