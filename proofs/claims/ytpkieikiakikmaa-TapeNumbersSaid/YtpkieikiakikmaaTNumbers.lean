/-
  TapeNumbers returns true: the walk of the law. Conditions: none beyond the reading of its arguments.
-/
import Derived.Test.YtpkieikiakikmaaTapeS
import Derived.Test.YtpkieikiakikmaaShape
import Derived.Deep.QuietTactic
import Derived.Deep.RegionHeld3
import Derived.BigQuiet
namespace Go.Proofs.Ytpkieikiakikmaa
open Go.RowKit
set_option linter.unusedVariables false

theorem drawsE_one {xs : List Int} {m k : Nat} {n : Int} (hl : xs.length = m) (hm : m ≤ 16384) (hk : k < m) (hn : 1 ≤ n ∧ n ≤ 2147483647) (hx : 0 ≤ xs.getD k 0 ∧ xs.getD k 0 < n) : drawsE xs m k n 1 = 0 := by
  unfold drawsE
  rw [if_neg (by simp [validT]; omega), if_neg (by simp [limT]; omega), Int.toNat_natCast]
  show drawE xs n k 1 = 0
  simp only [drawE]
  rw [if_pos (nextE_zero (by omega) hx.1 hx.2)]
theorem drawsE_end {xs : List Int} {m : Nat} (hl : xs.length = m) (hm : m ≤ 16384) : drawsE xs m m 2 1 = 3 := by
  unfold drawsE
  rw [if_neg (by simp [validT]; omega), if_neg (by simp [limT]), Int.toNat_natCast]
  show drawE xs 2 m 1 = 3
  have h1 : nextE xs 2 m = 3 := by unfold nextE; rw [if_pos (by omega)]
  simp only [drawE]
  rw [h1]; rfl

set_option maxHeartbeats 3200000 in
set_option maxRecDepth 100000 in
theorem tapeNumbers_walk (A : Option Addr) (n c : Nat) (zs : List Int) (number other : Int) (w : World) (w0 : IsRow .i64 w A n c zs) (w1 : (Lit.int .u16 number).wf = true) (w2 : (Lit.int .u16 other).wf = true) :
    Calls Try.prog 5 #[.slice A n c, .int .u16 number, .int .u16 other] w fun e w' => e = .returned (.bool true) ∧ Below w.heap.size w w' := by
  have hnum : 0 ≤ number ∧ number ≤ 65535 := by simpa [Lit.wf, IntKind.min, IntKind.max, IntKind.signed, IntKind.bits] using w1
  have hoth : 0 ≤ other ∧ other ≤ 65535 := by simpa [Lit.wf, IntKind.min, IntKind.max, IntKind.signed, IntKind.bits] using w2
  obtain ⟨h, hw⟩ := w0.ints
  generalize zs.take n = xs at h hw
  clear w0 w1 w2
  by_cases hn : n ≤ 500
  · have hd : decide (n ≤ 500) = true := by simpa using hn
    go_enter Try.func5, Try.ntmps5
    go_wp2_with (first
      | (go_at_call 13; refine (sane02_any _).mono ?_; rintro e w1 ⟨rfl, hb1⟩)
      | (go_at_call 14; refine (few_any A n c _).mono ?_; rintro e w' ⟨rfl, rfl⟩)
      | (go_at_call 15; refine (new_any A n c xs _ (h.upto hb1) hn).mono ?_; rintro e w2 ⟨⟨g, rfl, hge, hD2⟩, hb2⟩
         have hbb2 := bnext hb1 hb2
         have hg : w.heap.size ≤ g := by rw [hge]; exact hb1.size
         clear hge)
      | (go_at_call 17; refine (limits_any g A n c xs _ _ hD2).mono ?_; rintro e w3 ⟨L, m, lc, l, q3, rfl, hL3, hsm, hD3, hS3⟩
         have hbb3 := Step.below hbb2 hS3 hbb2.size hg
         have HS := Lib.hid hsm
         have hI3 := hL3.ints
         have HLL := Lib.hid hL3.len
         have hm6 : m ≤ 6 := by have := hsm.1; rw [hL3.len] at this; exact this
         have hP0 := smallL_prod hsm
         clear hsm hD2 hD3 hS3 hbb2 hb1 hb2 hL3)
      | (go_at_call 31; refine (count_ok L m lc l _ hI3 HS.out).mono ?_; rintro e w' ⟨rfl, rfl⟩
         obtain ⟨P, HP⟩ : ∃ P, Hid (prodL l = P) := ⟨_, Lib.hid rfl⟩
         rw [HP.out] at hP0
         rw [HP.out]
         have hPn : ¬ P = 0 := by omega
         have hPb : ¬ P < 1 := by omega
         obtain ⟨a, ha⟩ : ∃ a, number % P = a := ⟨_, rfl⟩
         obtain ⟨b, hb⟩ : ∃ b, other % P = b := ⟨_, rfl⟩
         have ha0 : 0 ≤ a ∧ a < P := by rw [← ha]; exact ⟨Int.emod_nonneg _ (by omega), Int.emod_lt_of_pos _ (by omega)⟩
         have hb0 : 0 ≤ b ∧ b < P := by rw [← hb]; exact ⟨Int.emod_nonneg _ (by omega), Int.emod_lt_of_pos _ (by omega)⟩
         have hat : number.tmod P = a := by rw [Int.tmod_eq_emod_of_nonneg hnum.1]; exact ha
         have hbt : other.tmod P = b := by rw [Int.tmod_eq_emod_of_nonneg hoth.1]; exact hb
         have hw1 : IntKind.i64.wrap number = number := IntWalk.i64_in _ (by omega)
         have hw2 : IntKind.i64.wrap other = other := IntWalk.i64_in _ (by omega)))
    go_region
    have hI3d : Ints w3.drew w3.drew.heap.size L m l := hI3.drew
    have hbb3d := hbb3.drew
    have HGA := Lib.hid (digL_in l a (fun n hn => (HS.out.2 n hn).1))
    have HNA : Hid (numL l (digL l a) = a) := Lib.hid (numL_digL l a (fun n hn => (HS.out.2 n hn).1) ha0.1 (by rw [HP.out]; exact ha0.2))
    have HIJ := Lib.hid (digL_inj l (fun n hn => (HS.out.2 n hn).1) a b (by rw [HP.out]; exact ha0) (by rw [HP.out]; exact hb0))
    have HAL := Lib.hid (digL_len l a)
    obtain ⟨da, HDA⟩ : ∃ da, Hid (digL l a = da) := ⟨_, Lib.hid rfl⟩
    obtain ⟨db, HDB⟩ : ∃ db, Hid (digL l b = db) := ⟨_, Lib.hid rfl⟩
    rw [HDA.out] at HGA HNA HAL HIJ
    rw [HDB.out] at HIJ
    obtain ⟨ee, HEE⟩ : ∃ ee : Bool, Hid ((a == b) = ee) := ⟨_, Lib.hid rfl⟩
    have hee : (a == b) = ee := HEE.out
    have HSM : Hid (((0 : Int) == 0 && da == db) = ee) := Lib.hid (by rw [← HEE.out, Bool.eq_iff_iff]; simp [HIJ.out])
    clear hI3 hbb3
    go_wp2_with (first
      | (go_at_call 32; (with_reducible refine (at_ok L m lc l a w3.drew hI3d HS.out (by rw [HP.out]; exact ha0)).mono ?_); rintro e w4 ⟨⟨D4, c4, rfl, hown4⟩, hb4⟩
         rw [HDA.out] at hown4
         have hbb4 := bnext hbb3d hb4
         have hI4 := (hI3d.upto hb4).upto (bbox (.cells #[.slice D4 m c4, .int .i64 0] 24))
         have hJ4 := hown4.ints.upto (bbox (.cells #[.slice D4 m c4, .int .i64 0] 24))
         have hN4 := Blk.new w4 24 #[.slice D4 m c4, .int .i64 0]
         have hbb4' := ballocs hbb4 (.cells #[.slice D4 m c4, .int .i64 0] 24)
         have hL0 : Ints w4 w4.heap.size L m l := hI3d.upto hb4
         have hD0 : Ints w4 w4.heap.size D4 m da := hown4.ints
         have hcc4 : Below w4.heap.size w4 (w4.alloc (.cells #[.slice D4 m c4, .int .i64 0] 24)) := bbox _
         clear hb4 hI3d hown4)
      | (go_at_call 32; (refine (at_ok L m lc l b _ hI4 HS.out (by rw [HP.out]; exact hb0)).mono ?_); rintro e w5 ⟨⟨D5, c5, rfl, hown5⟩, hb5⟩
         rw [HDB.out] at hown5
         have hbb5 := ballocs (bnext hbb4' hb5) (.cells #[.slice D5 m c5, .int .i64 0] 24)
         have hI5 := (hI4.upto hb5).upto (bbox (.cells #[.slice D5 m c5, .int .i64 0] 24))
         have hJ5 := (hJ4.upto hb5).upto (bbox (.cells #[.slice D5 m c5, .int .i64 0] 24))
         have hK5 := hown5.ints.upto (bbox (.cells #[.slice D5 m c5, .int .i64 0] 24))
         have hN5 := (hN4.below hb5 hN4.lt).alloc (.cells #[.slice D5 m c5, .int .i64 0] 24)
         have hM5 := Blk.new w5 24 #[.slice D5 m c5, .int .i64 0]
         have hx0 : (w5.alloc (.cells #[.slice D5 m c5, .int .i64 0] 24)).cell? ⟨w4.heap.size, 0, none⟩ = some (.slice D4 m c4) := (hN5.cell 0).trans rfl
         have hx1 : (w5.alloc (.cells #[.slice D5 m c5, .int .i64 0] 24)).cell? ⟨w4.heap.size, 1, none⟩ = some (.int .i64 0) := (hN5.cell 1).trans rfl
         have hcc5 := (hcc4.trans (hb5.mono (by simp))).alloc (Nat.le_of_lt (Nat.lt_of_lt_of_le hN4.lt hb5.size)) (.cells #[.slice D5 m c5, .int .i64 0] 24)
         clear hb5 hown5)
      | (go_at_call 33; refine (number_ok L D4 m lc c4 l da _ hI5 hJ5 HS.out (fun j hj => HGA.out j (by rw [HLL.out]; exact hj))).mono ?_; rintro e w6 ⟨rfl, hb6⟩
         rw [HNA.out]
         have hbb6 := bnext hbb5 hb6
         have hN6 := hN5.below hb6 hN5.lt
         have hM6 := hM5.below hb6 hM5.lt
         have hJ6 := hJ5.upto hb6
         have hK6 := hK5.upto hb6
         have hx60 : w6.cell? ⟨w4.heap.size, 0, none⟩ = some (.slice D4 m c4) := (hN6.cell 0).trans rfl
         have hx61 : w6.cell? ⟨w4.heap.size, 1, none⟩ = some (.int .i64 0) := (hN6.cell 1).trans rfl
         have hy60 : w6.cell? ⟨w5.heap.size, 0, none⟩ = some (.slice D5 m c5) := (hM6.cell 0).trans rfl
         have hy61 : w6.cell? ⟨w5.heap.size, 1, none⟩ = some (.int .i64 0) := (hM6.cell 1).trans rfl
         have hcc6 := hcc5.trans (hb6.mono (Nat.le_of_lt hN5.lt)))
      | (go_at_call 22; refine (tsame_any D4 D5 m m c4 c5 0 0 da db _ hJ6 hK6 (by omega) (by omega)).mono ?_; rintro e w7 ⟨rfl, hb7⟩
         rw [HSM.out]
         have hbb7 := bnext hbb6 hb7
         have hN7 := hN6.below hb7 hN6.lt
         have hx70 : w7.cell? ⟨w4.heap.size, 0, none⟩ = some (.slice D4 m c4) := (hN7.cell 0).trans rfl
         have hx71 : w7.cell? ⟨w4.heap.size, 1, none⟩ = some (.int .i64 0) := (hN7.cell 1).trans rfl
         have hJ7 := hJ6.upto hb7
         have hcc7 := hcc6.trans (hb7.mono (Nat.le_of_lt hN6.lt))))
    have hdl : da.length = m := by rw [HAL.out, HLL.out]
    have hw4 := hbb4.size
    have HDN := Lib.hid (drawsE_end (m := m) hdl (by omega))
    have HDLn := Lib.hid hdl
    clear hx0 hx1 hx60 hx61 hy60 hy61 hx70 hx71 hN4 hN5 hN6 hM5 hM6 hI4 hI5 hJ4 hJ5 hJ6 hK5 hK6 hcc4 hcc5 hcc6 hbb4 hbb4' hbb5 hbb6 hbb3d hb6 hb7 hdl HSM HEE hee
    go_loopw [111] (fun i wz => ∃ (k : Nat) (Dk : Option Addr) (dk : Nat), k ≤ m ∧ i = .int .i64 k ∧ Blk wz w4.heap.size 24 #[.slice Dk m dk, .int .i64 k] ∧ Ints wz wz.heap.size Dk m da ∧ Below w4.heap.size w4 wz ∧ Below w.heap.size w wz) (fun i _ => m - (intOf i).toNat)
    case atStart => exact ⟨0, D4, c4, Nat.zero_le _, rfl, hN7, hJ7, hcc7, hbb7⟩
    case round =>
      obtain ⟨k, Dk, dk, hk, rfl, hT, hJ, hcz, hbz⟩ := hrel
      have hTl := hT.lt
      have ht0 : wr.cell? ⟨w4.heap.size, 0, none⟩ = some (.slice Dk m dk) := (hT.cell 0).trans rfl
      have ht1 : wr.cell? ⟨w4.heap.size, 1, none⟩ = some (.int .i64 k) := (hT.cell 1).trans rfl
      by_cases hlt : k < m
      · obtain ⟨b1, o1, rfl, hb1, hc1⟩ := hL0.2 (by omega)
        obtain ⟨b2, o2, rfl, hb2, hc2⟩ := hD0.2 (by omega)
        have hcl := (hcz.cell (p := ⟨b1, o1 + k, none⟩) hb1).trans (hc1 k hlt)
        have hcd := (hcz.cell (p := ⟨b2, o2 + k, none⟩) hb2).trans (hc2 k hlt)
        clear hc1 hc2
        have hnk := smallL_at HS.out (k := k) (by rw [HLL.out]; exact hlt)
        have hdk := HGA.out k (by rw [HLL.out]; exact hlt)
        have HDE := Lib.hid (drawsE_one HDLn.out (by omega) hlt (n := l.getD k 0) (by omega) hdk)
        obtain ⟨v, HVv⟩ : ∃ v, Hid (da.getD k 0 = v) := ⟨_, Lib.hid rfl⟩
        rw [HVv.out] at hdk hcd
        generalize l.getD k 0 = nk at *
        have hk0 : (0 : Int) ≤ (k : Int) := by omega
        have hk1 : (k : Int) < (m : Int) := by omega
        have hBr : Below wr.heap.size wr.drew wr.drew := Below.refl _ _
        have hBa : Below wr.heap.size wr.drew (wr.alloc (.cells #[.slice none 0 0, .int .i64 0] 24)).drew := ⟨rfl, rfl, rfl, (bbox (w0 := wr) (.cells #[.slice none 0 0, .int .i64 0] 24)).size, fun k hk => (bbox (w0 := wr) (.cells #[.slice none 0 0, .int .i64 0] 24)).block k hk⟩
        have HSK : Hid (∀ wx, Below wr.heap.size wr.drew wx → wx.cell? ⟨w4.heap.size, 0, none⟩ = some (.slice Dk m dk) ∧ wx.cell? ⟨w4.heap.size, 1, none⟩ = some (.int .i64 k) ∧ wx.cell? ⟨b1, o1 + k, none⟩ = some (.int .i64 nk)) := Lib.hid fun wx hx =>
          ⟨(((Blk.drew hT).below hx hT.lt).cell 0).trans rfl, (((Blk.drew hT).below hx hT.lt).cell 1).trans rfl, (hx.cell (p := ⟨b1, o1 + k, none⟩) (Nat.lt_of_lt_of_le hb1 (Nat.le_of_lt hTl))).trans hcl⟩
        have hJd : Ints wr.drew wr.drew.heap.size Dk m da := hJ.drew
        have hJa : Ints (wr.alloc (.cells #[.slice none 0 0, .int .i64 0] 24)).drew (wr.alloc (.cells #[.slice none 0 0, .int .i64 0] 24)).drew.heap.size Dk m da := (hJ.upto (bbox _)).drew
        go_wp2_with fail
        go_region_held3 (fun wx => wx.cell? ⟨w4.heap.size, 0, none⟩ = some (.slice Dk m dk) ∧ wx.cell? ⟨w4.heap.size, 1, none⟩ = some (.int .i64 k) ∧ wx.cell? ⟨b1, o1 + k, none⟩ = some (.int .i64 nk)) (first | exact HSK.out _ hBr | exact HSK.out _ hBa | exact HSK.out _ hb8r | exact HSK.out _ hb8a | exact HSK.out _ hb9 | exact HSK.out _ (bbox _))
          (first
            | (go_at_call 25; (with_reducible refine (draw1_any Dk m dk k nk da wr.drew hJd).mono ?_); rintro e w8 ⟨_, hyes, hb8r⟩
               obtain ⟨A8, c8, he, hown8⟩ := hyes HDE.out
               rw [Int.toNat_natCast, HVv.out] at he
               subst he
               have hb8a := bnext hb8r (bbox (.cells #[.slice none 0 0, .int .i64 0] 24))
               have hN := Blk.new w8 24 #[.slice none 0 0, .int .i64 0]
               have hn0 : (w8.alloc (.cells #[.slice none 0 0, .int .i64 0] 24)).cell? ⟨w8.heap.size, 0, none⟩ = some (.slice none 0 0) := (hN.cell 0).trans rfl
               have hn1 : (w8.alloc (.cells #[.slice none 0 0, .int .i64 0] 24)).cell? ⟨w8.heap.size, 1, none⟩ = some (.int .i64 0) := (hN.cell 1).trans rfl
               have hm0 := hN.frozen 0
               have hm1 := hN.frozen 1
               have hN9 := Blk.new w8 24 #[.slice A8 m c8, .int .i64 ((k : Int) + 1)]
               have hb9 := bnext hb8r (bbox (.cells #[.slice A8 m c8, .int .i64 ((k : Int) + 1)] 24))
               have hown9 := hown8.alloc (.cells #[.slice A8 m c8, .int .i64 ((k : Int) + 1)] 24)
               have hT9 := (Blk.drew hT).below hb9 hT.lt
               have hr0 : (w8.alloc (.cells #[.slice A8 m c8, .int .i64 ((k : Int) + 1)] 24)).cell? ⟨w8.heap.size, 0, none⟩ = some (.slice A8 m c8) := (hN9.cell 0).trans rfl
               have hr1 : (w8.alloc (.cells #[.slice A8 m c8, .int .i64 ((k : Int) + 1)] 24)).cell? ⟨w8.heap.size, 1, none⟩ = some (.int .i64 ((k : Int) + 1)) := (hN9.cell 1).trans rfl
               have hq0 : (w8.alloc (.cells #[.slice A8 m c8, .int .i64 ((k : Int) + 1)] 24)).cell? ⟨w4.heap.size, 0, none⟩ = some (.slice Dk m dk) := (hT9.cell 0).trans rfl
               have hq1 : (w8.alloc (.cells #[.slice A8 m c8, .int .i64 ((k : Int) + 1)] 24)).cell? ⟨w4.heap.size, 1, none⟩ = some (.int .i64 k) := (hT9.cell 1).trans rfl
               have hf0 := hT9.frozen 0
               have hf1 := hT9.frozen 1)
            | (go_at_call 25; (with_reducible refine (draw1_any Dk m dk k nk da (wr.alloc (.cells #[.slice none 0 0, .int .i64 0] 24)).drew hJa).mono ?_); rintro e w8 ⟨_, hyes, hb8⟩
               obtain ⟨A8, c8, he, hown8⟩ := hyes HDE.out
               rw [Int.toNat_natCast, HVv.out] at he
               subst he
               have hb8r := hBa.trans (hb8.mono hBa.size)
               have hN := (Blk.drew (Blk.new wr 24 #[.slice none 0 0, .int .i64 0])).below hb8 (Blk.new wr 24 #[.slice none 0 0, .int .i64 0]).lt
               have hn0 : w8.cell? ⟨wr.heap.size, 0, none⟩ = some (.slice none 0 0) := (hN.cell 0).trans rfl
               have hn1 : w8.cell? ⟨wr.heap.size, 1, none⟩ = some (.int .i64 0) := (hN.cell 1).trans rfl
               have hm0 := hN.frozen 0
               have hm1 := hN.frozen 1
               have hN9 := blk_two (v0 := .slice A8 m c8) (v1 := .int .i64 ((k : Int) + 1)) hN
               have hb9 := below_two hb8r (g := wr.heap.size) (Nat.le_refl _) (.slice A8 m c8) (.int .i64 ((k : Int) + 1))
               have hown9 := hown8.step (((Step.refl wr.heap.size w8).set 0 (.slice A8 m c8)).set 1 (.int .i64 ((k : Int) + 1))) (Blk.new wr 24 #[.slice none 0 0, .int .i64 0]).lt
               have hT9 := (Blk.drew hT).below hb9 hT.lt
               have hr0 : ((w8.setCell ⟨wr.heap.size, 0, none⟩ (.slice A8 m c8)).setCell ⟨wr.heap.size, 1, none⟩ (.int .i64 ((k : Int) + 1))).cell? ⟨wr.heap.size, 0, none⟩ = some (.slice A8 m c8) := (hN9.cell 0).trans rfl
               have hr1 : ((w8.setCell ⟨wr.heap.size, 0, none⟩ (.slice A8 m c8)).setCell ⟨wr.heap.size, 1, none⟩ (.int .i64 ((k : Int) + 1))).cell? ⟨wr.heap.size, 1, none⟩ = some (.int .i64 ((k : Int) + 1)) := (hN9.cell 1).trans rfl
               have hq0 : ((w8.setCell ⟨wr.heap.size, 0, none⟩ (.slice A8 m c8)).setCell ⟨wr.heap.size, 1, none⟩ (.int .i64 ((k : Int) + 1))).cell? ⟨w4.heap.size, 0, none⟩ = some (.slice Dk m dk) := (hT9.cell 0).trans rfl
               have hq1 : ((w8.setCell ⟨wr.heap.size, 0, none⟩ (.slice A8 m c8)).setCell ⟨wr.heap.size, 1, none⟩ (.int .i64 ((k : Int) + 1))).cell? ⟨w4.heap.size, 1, none⟩ = some (.int .i64 k) := (hT9.cell 1).trans rfl
               have hf0 := hT9.frozen 0
               have hf1 := hT9.frozen 1))
        all_goals go_wp2
        all_goals have hTE := blk_two (v0 := .slice A8 m c8) (v1 := .int .i64 ((k : Int) + 1)) hT9
        all_goals have hownE := hown9.step (((Step.refl w4.heap.size _).set 0 (.slice A8 m c8)).set 1 (.int .i64 ((k : Int) + 1))) (Nat.lt_of_lt_of_le hTl (by first | exact Nat.le_refl _ | exact (bbox (w0 := wr) (.cells #[.slice none 0 0, .int .i64 0] 24)).size))
        all_goals have hcE := below_two (hcz.drew.trans (hb9.mono hcz.size)) (g := w4.heap.size) (Nat.le_refl _) (.slice A8 m c8) (.int .i64 ((k : Int) + 1))
        all_goals have hbE := below_two (hbz.drew.trans (hb9.mono hbz.size)) (g := w4.heap.size) hw4 (.slice A8 m c8) (.int .i64 ((k : Int) + 1))
        all_goals go_roundw
        all_goals first
          | exact ⟨k + 1, A8, c8, by omega, by go_num, hTE, hownE.ints, hcE, hbE⟩
          | (simp [intOf]; omega)
      · obtain rfl : k = m := by omega
        have hJ2 := hJ
        go_wp2_with (go_at_call 25; refine (draw1_any Dk k dk k 2 da _ hJ).mono ?_; rintro e w8 ⟨hno, _, hb8⟩
                     have he := hno (by rw [HDN.out]; omega)
                     rw [HDN.out] at he
                     subst he
                     have hbz8 := ballocs (bnext hbz hb8) (.cells #[.slice none 0 0, .int .i64 0] 24))
        go_ret
        exact ⟨rfl, hbz8⟩
  · have hd : decide (n ≤ 500) = false := by simpa using hn
    go_enter Try.func5, Try.ntmps5
    go_wp2_with (first
      | (go_at_call 13; refine (sane02_any _).mono ?_; rintro e w1 ⟨rfl, hb1⟩)
      | (go_at_call 14; refine (few_any A n c _).mono ?_; rintro e w' ⟨rfl, rfl⟩))
    go_ret
    exact ⟨rfl, hb1⟩
end Go.Proofs.Ytpkieikiakikmaa
