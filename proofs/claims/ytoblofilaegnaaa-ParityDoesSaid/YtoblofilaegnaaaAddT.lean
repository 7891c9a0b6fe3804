/-
  What residue's AddTimes hands back for valid arguments. Conditions: the lists read as their numbers, all of them elements.
-/
import Derived.Test.YtoblofilaegnaaaMat
import Derived.Test.YtoblofilaegnaaaPlain
import Derived.Test.YtoblofilaegnaaaRes
import Derived.Outline
namespace Go.Proofs.Ytoblofilaegnaaa
open Go.RowKit
set_option linter.unusedVariables false

set_option maxHeartbeats 800000 in
/-- residue's AddTimes: it writes into a row of the call's own. -/
theorem addTimes_any (p x : Int) (g : Nat) (n c d : Nat) (L : Option Addr) (ts l : List Int) (w : World) {base B : Nat} (hp : 2 ≤ p ∧ p ≤ 65521) (hx : 0 ≤ x ∧ x < p) (hT : OwnI w base 3 (some ⟨g, 0, none⟩) n c ts)
    (hl : Ints w B L n l) (hlg : ∀ b off s, L = some ⟨b, off, s⟩ → 0 < n → b ≠ g) (hta : allP p ts = true) (hla : allP p l = true) (hn : n ≤ 17592186044416) :
    Calls Try.prog 127 #[.int .i64 p, .slice (some ⟨g, 0, none⟩) n c, .int .i64 x, .slice L n d] w fun e w' =>
      e = .returned (.tuple #[]) ∧ OwnI w' base 3 (some ⟨g, 0, none⟩) n c (zipI (timesP p x) ts l) ∧ Step g w w' := by
  have HT := Lib.hid hT.len
  have HL := Lib.hid hl.len
  have HTA := Lib.hid hta
  have HLA := Lib.hid hla
  clear hta hla
  go_enter Try.func127, Try.ntmps127
  go_wp2
  go_loopw [12] (fun i wr => ∃ k : Nat, k ≤ n ∧ i = .int .i64 k ∧ OwnI wr base 3 (some ⟨g, 0, none⟩) n c (partly (timesP p x) ts l k) ∧ Step g w wr) (fun i _ => n - (intOf i).toNat)
  case atStart => exact ⟨0, Nat.zero_le _, rfl, by rw [partly_zero]; exact hT, Step.refl _ _⟩
  case round =>
    obtain ⟨k, hk, rfl, hown, hS⟩ := hrel
    by_cases hlt : k < n
    · obtain ⟨b, off, rfl, hb, hcell⟩ := hl.2 (by omega)
      have hbg := hlg b off none rfl (by omega)
      have hbw : b < w.heap.size := World.block_lt_of_cell? w _ (hcell 0 (by omega))
      have hrl : wr.cell? ⟨b, off + k, none⟩ = some (.int .i64 (l.getD k 0)) := (World.cell?_of_block (World.grownBy.block hS b hbw (fun e => hbg (by injection e)))).trans (hcell k hlt)
      have hrt := hown.cellAt hlt
      rw [partly_at _ ts l (by rw [HT.out, HL.out]) k (by rw [HT.out]; exact hlt)] at hrt
      have hfz := hown.frozenAt k
      have hst := hown.stored k (timesP p x (ts.getD k 0) (l.getD k 0))
      rw [partly_set _ ts l (by rw [HT.out, HL.out]) k (by rw [HT.out]; exact hlt)] at hst
      have hS2 := hS.set k (.int .i64 (timesP p x (ts.getD k 0) (l.getD k 0)))
      have htk := allP_getD HTA.out (k := k) (by rw [HT.out]; exact hlt)
      have hlk := allP_getD HLA.out (k := k) (by rw [HL.out]; exact hlt)
      have hm := mulP_in x (l.getD k 0) hp.1
      generalize ts.getD k 0 = t at *
      generalize l.getD k 0 = y at *
      have hk0 : (0 : Int) ≤ (k : Int) := by omega
      have hk1 : (k : Int) < (n : Int) := by omega
      have HS := Lib.hid hst
      have HS2 := Lib.hid hS2
      clear hst hS2 hcell
      go_wp2_with fail
      go_region_with (first
        | (go_at_call 125; refine (mulP_any p x y _ hp hx hlk).mono ?_; rintro e w' ⟨rfl, rfl⟩)
        | (go_at_call 121; refine (addP_any p t _ _ hp htk hm).mono ?_; rintro e w' ⟨rfl, rfl⟩))
      all_goals go_wp2
      all_goals go_roundw
      all_goals first
        | exact ⟨⟨k + 1, by omega, by go_num, HS.out.drew, HS2.out.drew⟩, by simp [intOf]; omega⟩
        | exact ⟨k + 1, by omega, by go_num, HS.out.drew, HS2.out.drew⟩
        | (simp [intOf]; omega)
    · have hkn : k = n := by omega
      subst hkn
      have HE : Hid (partly (timesP p x) ts l k = zipI (timesP p x) ts l) := Lib.hid (by have := partly_all (timesP p x) ts l (by rw [HT.out, HL.out]); rwa [HT.out] at this)
      rw [HE.out] at hown
      go_wp2
      go_end0
      exact ⟨rfl, hown, hS⟩

end Go.Proofs.Ytoblofilaegnaaa
