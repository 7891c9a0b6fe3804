/-
  Words for memory and contracts of small functions of the second form. Conditions: those of each lemma.
-/
import Derived.Test.YtmcgnpdfpfgfpaaGreatDoorGEnt
import Derived.Test.YtmcgnpdfpfgfpaaGreatDoorGMHs
/-! MWord -/
namespace Go.Proofs.YtmcgnpdfpfgfpaaGreatDoor
open Go.RowKit
set_option linter.unusedVariables false

/-- What Word leaves. -/
def MWordPost (g : Nat) (A : Option Addr) (n c : Nat) (xs : List Int) (w : World) (e : Ending) (w' : World) : Prop :=
  ∃ (s : ByteArray) (q' : Nat), e = .returned (.string s) ∧ 1 ≤ s.size ∧ s.size ≤ 4 ∧ Deck w' g A n c xs q' ∧ Step g w w'

theorem u8_letter (y : Nat) (hy : y < 4) : ((UInt8.ofNat (97 + y)).toNat : Int) = 97 + (y : Int) := by
  simp [UInt8.toNat_ofNat']; omega

set_option maxRecDepth 100000 in
set_option maxHeartbeats 4000000 in
theorem mword_any (g : Nat) (A : Option Addr) (n c : Nat) (xs : List Int) (q : Nat) (w : World) (h : Deck w g A n c xs q) :
    Calls Tryz.prog 36 #[.pointer (some ⟨g, 0, none⟩)] w (MWordPost g A n c xs w) := by
  have hg := h.1.lt
  go_enter Tryz.func36, Tryz.ntmps36
  go_wp2_with (go_at_call 22
               refine (next_any g A n c xs q 4 _ h (by omega)).mono ?_
               rintro e w1 ⟨k', q1, rfl, hk1, _, hD1, hS1, hz1⟩
               obtain ⟨K, rfl⟩ : ∃ K : Nat, k' = (K : Int) - 1 := ⟨(k' + 1).toNat, by have := hk1 (by omega); omega⟩
               have hK1 : 1 ≤ K ∧ K ≤ 4 := by have := hk1 (by omega); omega
               clear hk1 hz1)
  go_loopw [3, 4] (fun v3 v4 wz => ∃ (j k : Nat) (P : Option Addr) (pc : Nat) (l : List UInt8) (q : Nat), j + k = K ∧ v3 = .slice P k pc ∧ v4 = .int .i64 ((j : Int) - 1) ∧ OwnY wz w.heap.size P k pc l ∧ Deck wz g A n c xs q ∧ Step g w wz) (fun _ v4 _ => (intOf v4 + 1).toNat)
  case atStart => exact ⟨K, 0, none, 0, [], q1, by omega, rfl, rfl, World.ownsRow_nil _ _ _ _, hD1, hS1⟩
  case round =>
  clear hD1 hS1 h
  obtain ⟨j, k, P, pc, l, q, hjk, rfl, rfl, hown, hD, hS⟩ := hrel
  by_cases hj : 0 < j
  · have hj1 : (1 : Int) ≤ (j : Int) := by omega
    obtain ⟨j1, hj2⟩ : ∃ j1 : Nat, (j : Int) - 1 = j1 := ⟨j - 1, by omega⟩
    have HJ2 := Lib.hid hj2
    clear hj2
    go_wp2_with (first
      | (go_at_call 22
         refine (next_any g A n c xs q 4 _ hD (by omega)).mono ?_
         rintro e w2 ⟨y', q2, rfl, hy, _, hD2, hS2, hz2⟩
         obtain ⟨y, rfl⟩ : ∃ y : Nat, y' = (y : Int) := ⟨y'.toNat, by have := hy (by omega); omega⟩
         have hy4 : y < 4 := by have := hy (by omega); omega
         have hyw : IntKind.u8.wrap (97 + (y : Int)) = 97 + (y : Int) := IntWalk.u8_in _ (by omega)
         have HU := Lib.hid (u8_letter y hy4)
         have hown2 := own_step hown hS2 hg
         have hsz := World.grownBy.size hS
         have hsz2 := World.grownBy.size hS2
         have hb3 := bbox (w0 := w2) (.cells #[.int .u8 (97 + (y : Int))] 5)
         have hown3 := own_below hown2 hb3
         have hN3 := Blk.new w2 5 #[.int .u8 (97 + (y : Int))]
         have hD3 := hD2.alloc (.cells #[.int .u8 (97 + (y : Int))] 5)
         have hle3 : w.heap.size ≤ (w2.alloc (.cells #[.int .u8 (97 + (y : Int))] 5)).heap.size := by rw [World.size_alloc]; omega
         have hSS := ((hS.trans hS2).alloc (.cells #[.int .u8 (97 + (y : Int))] 5))
         clear hy hz2 hsz hsz2)
      | (at_builtin
         refine wpList_append_byte rfl _ _ 103 rfl Tryz.underlying103 w.heap.size P k pc l rfl hown3 w2.heap.size 1 (UInt8.ofNat (97 + y)) rfl (by rw [HU.out]; exact (hN3.cell 0).trans rfl) (by omega) hle3 ?_
         intro P7 c7 w7 hown7 hgr7 hb7))
    go_roundw
    case rel => exact ⟨j1, k + 1, P7, c7, l ++ [UInt8.ofNat (97 + y)], q2, by have := HJ2.out; omega, rfl, by rw [HJ2.out], hown7, hD3.below hb7 hg, hSS.thenBelow hb7⟩
    case measure => simp [intOf]; omega
  · have hj1 : ¬ (1 : Int) ≤ (j : Int) := by omega
    have hjK : k = K := by omega
    subst hjK
    have hcv := fun (w : World) => fun (h : OwnY wr w.heap.size P k pc l) => h
    have hl := hown.len
    have HL := Lib.hid hl
    clear hl
    have hst := run_string_own hown 103 9 Tryz.underlying103 Tryz.underlying5 Tryz.underlying9 (by omega)
    go_wp2
    go_ret
    exact ⟨⟨l.toArray⟩, q, rfl, by show 1 ≤ l.toArray.size; rw [List.size_toArray, HL.out]; omega, by show l.toArray.size ≤ 4; rw [List.size_toArray, HL.out]; omega, hD, hS⟩

/-- What Words leaves. -/
def MWordsPost (g : Nat) (A : Option Addr) (n c : Nat) (xs : List Int) (most : Nat) (w : World) (e : Ending) (w' : World) : Prop :=
  ∃ (T : Option Addr) (m tc : Nat) (ts : List ByteArray) (q' : Nat), e = .returned (.slice T m tc) ∧ m ≤ most ∧ OwnT w' w.heap.size T m tc ts ∧ (∀ s ∈ ts, 1 ≤ s.size ∧ s.size ≤ 4) ∧ Deck w' g A n c xs q' ∧ Step g w w'

theorem OwnT.belowAll {w w' : World} {base n c : Nat} {A : Option Addr} {ts : List ByteArray} (h : OwnT w base A n c ts) (hb : Below w.heap.size w w') : OwnT w' base A n c ts := own_below h hb
theorem own_belowB {w w' : World} {B base k n : Nat} {e : TypeId} {v : Value} {vs : List Value} (h : w.ownsRow base e k v n vs) (hb : Below B w w') (hB : ∀ z, v.ownBlock = some z → z < B) : w'.ownsRow base e k v n vs := by
  refine ⟨h.1, ?_⟩
  rcases h.2 with h0 | ⟨g, cap, cur, hv, hg, hh, r⟩
  · exact .inl h0
  · refine .inr ⟨g, cap, cur, hv, hg, ?_, r⟩
    rw [hb.block g (hB g (by rw [hv]; rfl))]; exact hh
theorem OwnT.step {g base n c : Nat} {A : Option Addr} {ts : List ByteArray} {w w' : World} (h : OwnT w base A n c ts) (hs : Step g w w') (hg : g < base) : OwnT w' base A n c ts := own_step h hs hg

set_option maxRecDepth 100000 in
set_option maxHeartbeats 4000000 in
theorem mwords_any (g : Nat) (A : Option Addr) (n c : Nat) (xs : List Int) (q most : Nat) (w : World) (h : Deck w g A n c xs q) (hm : most ≤ 1000) :
    Calls Tryz.prog 9 #[.pointer (some ⟨g, 0, none⟩), .int .i64 most] w (MWordsPost g A n c xs most w) := by
  have hg := h.1.lt
  have hmw : IntKind.i64.wrap ((most : Int) + 1) = (most : Int) + 1 := IntWalk.i64_in _ (by omega)
  go_enter Tryz.func9, Tryz.ntmps9
  go_wp2_with (go_at_call 22
               refine (next_any g A n c xs q _ _ h (by omega)).mono ?_
               rintro e w1 ⟨k', q1, rfl, hk1, _, hD1, hS1, hz1⟩
               obtain ⟨K, rfl⟩ : ∃ K : Nat, k' = (K : Int) := ⟨k'.toNat, by have := hk1 (by omega); omega⟩
               have hK1 : K ≤ most := by have := hk1 (by omega); omega
               clear hk1 hz1)
  go_loopw [5, 6] (fun v5 v6 wz => ∃ (j k : Nat) (P : Option Addr) (pc : Nat) (ts : List ByteArray) (q : Nat), j + k ≤ K ∧ v5 = .slice P k pc ∧ v6 = .int .i64 j ∧ OwnT wz w.heap.size P k pc ts ∧ Hid (∀ s ∈ ts, 1 ≤ s.size ∧ s.size ≤ 4) ∧ Deck wz g A n c xs q ∧ Step g w wz) (fun _ v6 _ => (intOf v6).toNat)
  case atStart => exact ⟨K, 0, none, 0, [], q1, by omega, rfl, rfl, OwnT.nil_, Lib.hid (fun s hs => by cases hs), hD1, hS1⟩
  case round =>
  clear hD1 hS1 h
  obtain ⟨j, k, P, pc, ts, q, hjk, rfl, rfl, hown, HT, hD, hS⟩ := hrel
  by_cases hj : 0 < j
  · have hj1 : (0 : Int) < (j : Int) := by omega
    obtain ⟨j1, hj2⟩ : ∃ j1 : Nat, (j : Int) - 1 = j1 := ⟨j - 1, by omega⟩
    have HJ2 := Lib.hid hj2
    clear hj2
    go_wp2_with (go_at_call 36
                 refine (mword_any g A n c xs q _ hD).mono ?_
                 rintro e w2 ⟨s, q2, rfl, hs1, hs2, hD2, hS2⟩
                 have hown2 := hown.step hS2 hg
                 have hSS2 := hS.trans hS2
                 clear hD hS hown hS2)
    go_loopw [8, 23] (fun v8 v23 wz => ∃ (i : Nat) (b : Bool), i ≤ k ∧ v8 = .bool b ∧ v23 = .int .i64 i ∧ wz = w2) (fun _ v23 _ => k - (intOf v23).toNat)
    case atStart => exact ⟨0, false, Nat.zero_le _, rfl, rfl, rfl⟩
    case round =>
    obtain ⟨i, b, hi, rfl, rfl, rfl⟩ := hrel
    by_cases hik : i < k
    · have hiki : (i : Int) < (k : Int) := by omega
      have hi0 : (0 : Int) ≤ (i : Int) := by omega
      obtain ⟨gT, rfl, _, _, hcT⟩ := hown2.at_ hik
      rcases b with _ | _
      · go_wp2
        go_roundw
        case rel => exact ⟨i + 1, _, by omega, rfl, by go_num, trivial⟩
        case measure => simp [intOf]; omega
      · go_wp2
        go_roundw
        case rel => exact ⟨i + 1, _, by omega, rfl, by go_num, trivial⟩
        case measure => simp [intOf]; omega
    · obtain rfl : i = k := by omega
      have hown3 := hown2.belowAll (bbox (.cells #[.string s] 9))
      have hN3 := Blk.new wr 9 #[.string s]
      have hD3 := hD2.alloc (.cells #[.string s] 9)
      have hle3 : w.heap.size ≤ (wr.alloc (.cells #[.string s] 9)).heap.size := by have := World.grownBy.size hSS2; rw [World.size_alloc]; omega
      have hSS3 := hSS2.alloc (.cells #[.string s] 9)
      rcases b with _ | _
      · go_wp2_with (at_builtin
                     refine wpList_append_text rfl _ _ 36 rfl Tryz.underlying36 w.heap.size P i pc ts rfl hown3 wr.heap.size 1 s rfl ((hN3.cell 0).trans rfl) (by omega) hle3 ?_
                     intro P7 c7 w7 hown7 hgr7 hb7)
        go_roundw
        case rel => exact ⟨j1, i + 1, P7, c7, ts ++ [s], q2, by have := HJ2.out; omega, rfl, by rw [HJ2.out], hown7, Lib.hid (fun x hx => by
          rcases List.mem_append.1 hx with h1 | h1
          · exact HT.out x h1
          · rw [List.mem_singleton.1 h1]; exact ⟨hs1, hs2⟩), hD3.below hb7 hg, hSS3.thenBelow hb7⟩
        case measure => simp [intOf]; omega
      · go_wp2
        go_roundw
        case rel => exact ⟨j1, i, P, pc, ts, q2, by have := HJ2.out; omega, rfl, by rw [HJ2.out], hown2, HT, hD2, hSS2⟩
        case measure => simp [intOf]; omega
  · have hj1 : ¬ (0 : Int) < (j : Int) := by omega
    go_wp2
    go_ret
    exact ⟨P, k, pc, ts, q, rfl, by omega, hown, HT.out, hD, hS⟩

/-- What Entries leaves. -/
def MEntsPost (g : Nat) (A : Option Addr) (n c : Nat) (xs : List Int) (most : Nat) (w : World) (e : Ending) (w' : World) : Prop :=
  ∃ (T : Option Addr) (m tc : Nat) (es : List (ByteArray × Int)) (q' : Nat), e = .returned (.slice T m tc) ∧ m ≤ most ∧ OwnE w' w.heap.size T m tc es ∧ (∀ x ∈ es, okE x) ∧ Deck w' g A n c xs q' ∧ Step g w w'

set_option maxRecDepth 100000 in
set_option maxHeartbeats 4000000 in
theorem ments_any (g : Nat) (A : Option Addr) (n c : Nat) (xs : List Int) (q most : Nat) (w : World) (h : Deck w g A n c xs q) (hm : most ≤ 1000) :
    Calls Tryz.prog 34 #[.pointer (some ⟨g, 0, none⟩), .int .i64 most] w (MEntsPost g A n c xs most w) := by
  have hg := h.1.lt
  go_enter Tryz.func34, Tryz.ntmps34
  go_wp2_with (go_at_call 9
               refine (mwords_any g A n c xs q most _ h hm).mono ?_
               rintro e w1 ⟨T, m, tc, ts, q1, rfl, hm1, hT1, hts, hD1, hS1⟩
               have HT := Lib.hid hts
               clear hts)
  have hTB : ∀ z, (Value.slice T m tc).ownBlock = some z → z < w1.heap.size := fun z hz => (World.ownsRow.lt hT1 z hz).2
  have HTB := Lib.hid hTB
  have hsz1 := World.grownBy.size hS1
  clear hTB
  go_loopw [5, 12] (fun v5 v12 wz => ∃ (k : Nat) (P : Option Addr) (pc : Nat) (es : List (ByteArray × Int)) (q : Nat), k ≤ m ∧ v5 = .slice P k pc ∧ v12 = .int .i64 k ∧ OwnE wz w1.heap.size P k pc es ∧ OwnT wz w.heap.size T m tc ts ∧ Hid (∀ x ∈ es, okE x) ∧ Deck wz g A n c xs q ∧ Step g w wz ∧ w1.heap.size ≤ wz.heap.size) (fun _ v12 _ => m - (intOf v12).toNat)
  case atStart => exact ⟨0, none, 0, [], q1, Nat.zero_le _, rfl, rfl, OwnE.nil_, hT1, Lib.hid (fun x hx => by cases hx), hD1, hS1, Nat.le_refl _⟩
  case round =>
  clear hD1 hS1 h hT1
  obtain ⟨k, P, pc, es, q, hk, rfl, rfl, hown, hT, HE, hD, hS, hsz⟩ := hrel
  by_cases hkm : k < m
  · have hki : (k : Int) < (m : Int) := by omega
    have hk0 : (0 : Int) ≤ (k : Int) := by omega
    obtain ⟨gT, rfl, _, _, hcT⟩ := hT.at_ hkm
    have hmem := Lib.hid (HT.out _ (txtAt_mem (ts := ts) (j := k) (by rw [hT.len]; exact hkm)))
    generalize txtAt ts k = s at *
    go_wp2_with (first
      | (go_at_call 22
         refine (next_any g A n c xs q 1000 _ hD (by omega)).mono ?_
         rintro e w2 ⟨y, q2, rfl, hy, _, hD2, hS2, hz2⟩
         have hy2 := hy (by omega)
         have hown2 := own_step hown hS2 (by omega)
         have hT2 := hT.step hS2 hg
         have hle2 : w1.heap.size ≤ w2.heap.size := by rw [hz2]; exact hsz
         have hb3 := bbox (w0 := w2) (.cells #[.string s, .int .i64 y] 39)
         have hown3 := own_below hown2 hb3
         have hT3 := hT2.belowAll hb3
         have hN3 := Blk.new w2 39 #[.string s, .int .i64 y]
         have hD3 := hD2.alloc (.cells #[.string s, .int .i64 y] 39)
         have hle3 : w1.heap.size ≤ (w2.alloc (.cells #[.string s, .int .i64 y] 39)).heap.size := by rw [World.size_alloc]; omega
         have hSS := ((hS.trans hS2).alloc (.cells #[.string s, .int .i64 y] 39))
         clear hy hz2)
      | (at_builtin
         refine wpList_append_ent rfl _ _ 33 rfl Tryz.underlying33 w1.heap.size P k pc es rfl hown3 w2.heap.size 1 (s, y) rfl ((hN3.cell 0).trans rfl) ((hN3.cell 1).trans rfl) (by omega) hle3 ?_
         intro P7 c7 w7 hown7 hgr7 hb7 hab7))
    go_roundw
    case rel => exact ⟨k + 1, P7, c7, es ++ [(s, y)], q2, by omega, rfl, by go_num, hown7, own_belowB hT3 hb7 HTB.out, Lib.hid (fun x hx => by
      rcases List.mem_append.1 hx with h1 | h1
      · exact HE.out x h1
      · rw [List.mem_singleton.1 h1]
        have := hmem.out
        exact ⟨this.1, by show s.size ≤ 32; omega, hy2.1, by show y < 2147483647; omega⟩), hD3.below hb7 (by omega), hSS.thenBelow (hb7.mono hsz1), Nat.le_trans hle3 hgr7.size⟩
    case measure => simp [intOf]; omega
  · obtain rfl : k = m := by omega
    go_wp2
    go_ret
    exact ⟨P, k, pc, es, q, rfl, hm1, own_base hown hsz1, HE.out, hD, hS⟩
end Go.Proofs.YtmcgnpdfpfgfpaaGreatDoor

/-! MDir -/
namespace Go.Proofs.YtmcgnpdfpfgfpaaGreatDoor
open Go.RowKit
set_option linter.unusedVariables false

/-- What Directory leaves. -/
def MDirPost (g : Nat) (A : Option Addr) (n c : Nat) (xs : List Int) (w : World) (e : Ending) (w' : World) : Prop :=
  ∃ (nb np : Nat) (P : Option Addr) (pc : Nat) (us ys : List Int) (slots : Nat) (B : Option Addr) (bc : Nat) (E : List (List (ByteArray × Int))) (L : Option Addr) (m lc : Nat) (es : List (ByteArray × Int)) (q' : Nat),
    e = .returned (.tuple #[.agg #[.int .i64 nb, .slice P np pc, .int .i64 slots, .slice B nb bc], .slice L m lc]) ∧ HsOk nb np us ys ∧ nb ≤ 8 ∧ 1 ≤ slots ∧ slots ≤ 4 ∧ DirW w' w.heap.size nb np P pc us ys slots B E ∧ m ≤ 9 ∧ Ents w' w.heap.size w'.heap.size L m es ∧ (∀ x ∈ es, okE x) ∧ Deck w' g A n c xs q' ∧ Step g w w'

theorem DirW.low {w : World} {lo lo' nb np : Nat} {P : Option Addr} {pc : Nat} {us ys : List Int} {slots : Nat} {A : Option Addr} {E : List (List (ByteArray × Int))} (h : DirW w lo nb np P pc us ys slots A E) (hl : lo' ≤ lo) : DirW w lo' nb np P pc us ys slots A E :=
  ⟨h.1.base hl, h.2.1.low hl, h.2.2⟩

theorem DirW.below {w w' : World} {lo nb np : Nat} {P : Option Addr} {pc : Nat} {us ys : List Int} {slots : Nat} {A : Option Addr} {E : List (List (ByteArray × Int))} (h : DirW w lo nb np P pc us ys slots A E) (hb : Below w.heap.size w w') : DirW w' lo nb np P pc us ys slots A E :=
  ⟨h.1.belowAll hb, h.2.1.upto hb, h.2.2⟩
theorem DirW.step {w w' : World} {g lo nb np : Nat} {P : Option Addr} {pc : Nat} {us ys : List Int} {slots : Nat} {A : Option Addr} {E : List (List (ByteArray × Int))} (h : DirW w lo nb np P pc us ys slots A E) (hs : Step g w w') (hg : g < lo) : DirW w' lo nb np P pc us ys slots A E :=
  ⟨h.1.step hs hg, h.2.1.step hs hg, h.2.2⟩

set_option maxRecDepth 100000 in
set_option maxHeartbeats 4000000 in
theorem mdir_any (g : Nat) (A : Option Addr) (n c : Nat) (xs : List Int) (q : Nat) (w : World) (h : Deck w g A n c xs q) :
    Calls Tryz.prog 8 #[.pointer (some ⟨g, 0, none⟩)] w (MDirPost g A n c xs w) := by
  have hg := h.1.lt
  have hR0 := Blk.new w 32 #[.int .i64 0, .slice none 0 0, .int .i64 0, .slice none 0 0]
  have hS0 := (Step.refl g w).alloc (.cells #[.int .i64 0, .slice none 0 0, .int .i64 0, .slice none 0 0] 32)
  have hD0 := h.alloc (.cells #[.int .i64 0, .slice none 0 0, .int .i64 0, .slice none 0 0] 32)
  have hsz0 : (w.alloc (.cells #[.int .i64 0, .slice none 0 0, .int .i64 0, .slice none 0 0] 32)).heap.size = w.heap.size + 1 := World.size_alloc _ _
  go_enter Tryz.func8, Tryz.ntmps8
  go_upto_region 1 with fail
  generalize hw1 : w.alloc (.cells #[.int .i64 0, .slice none 0 0, .int .i64 0, .slice none 0 0] 32) = w1 at *
  have hgw : g < w.heap.size := hg
  clear hw1
  go_upto_region 2 with (first
    | (go_at_call 33
       refine (mhsh_any g A n c xs q _ hD0).mono ?_
       rintro e w2 ⟨nb, np, P, pc, us, ys, q2, rfl, hok, hnb8, hP2, hD2, hS2⟩
       have hR2 := Step.block hS2 hR0 (by omega)
       have hSS2 := hS0.trans hS2
       have HOK := Lib.hid hok
       have hsz2 := World.grownBy.size hS2
       clear hok hR0 hD0 hS2)
    | (go_at_call 22
       refine (next_any g A n c xs q2 4 _ hD2 (by omega)).mono ?_
       rintro e w3 ⟨s', q3, rfl, hsl, _, hD3, hS3, hz3⟩
       obtain ⟨slots, rfl⟩ : ∃ s : Nat, s' = (s : Int) - 1 := ⟨(s' + 1).toNat, by have := hsl (by omega); omega⟩
       have hsl1 : 1 ≤ slots ∧ slots ≤ 4 := by have := hsl (by omega); omega
       have hslw : (1 : Int) + ((slots : Int) - 1) = (slots : Int) := by omega
       have hR3 := Step.block hS3 hR2 (by omega)
       have hP3 := OwnS.step hP2 hS3 (by omega)
       have hSS3 := hSS2.trans hS3
       have hsz3 : w2.heap.size ≤ w3.heap.size := by omega
       clear hsl hz3 hR2 hD2 hP2 hS3 hSS2)
    | (go_at_call 34
       refine (ments_any g A n c xs q3 9 _ hD3 (by omega)).mono ?_
       rintro e w4 ⟨L, m, lc, es, q4, rfl, hm9, hL4, hes, hD4, hS4⟩
       have HES := Lib.hid hes
       have hR4 := Step.block hS4 hR3 (by omega)
       have hP4 := OwnS.step hP3 hS4 (by omega)
       have hSS4 := hSS3.trans hS4
       have hsz4 := World.grownBy.size hS4
       clear hes hR3 hD3 hP3 hS4 hSS3))
  have hmc := (own_shape hL4).1
  have hH5 := Blk.new w4 29 #[.int .i64 nb, .slice P np pc]
  have hb5 := bbox (w0 := w4) (.cells #[.int .i64 nb, .slice P np pc] 29)
  have hR5 := hR4.below hb5 hR4.lt
  have hP5 := hP4.belowAll hb5
  have hL5 := own_below hL4 hb5
  have hD5 := hD4.belowAll hb5
  have hSS5 := hSS4.thenBelow (hb5.mono (World.grownBy.size hSS4))
  obtain ⟨H, hH⟩ : ∃ H, w4.heap.size = H := ⟨_, rfl⟩
  obtain ⟨w5, hw5⟩ : ∃ x : World, w4.alloc (.cells #[.int .i64 nb, .slice P np pc] 29) = x := ⟨_, rfl⟩
  rw [hw5] at hH5 hR5 hP5 hL5 hD5 hSS5
  rw [hH] at hH5
  rw [hw5, hH]
  have hHl := hH5.lt
  have hsz5 : w.heap.size < w5.heap.size := hR5.lt
  have hL5e : Ents w5 w3.heap.size w5.heap.size L m es := OwnE.ents hL5
  have hc0 : w5.cell? ⟨H, 0, none⟩ = some (.int .i64 nb) := (hH5.cell 0).trans rfl
  have hc1 : w5.cell? ⟨H, 1, none⟩ = some (.slice P np pc) := (hH5.cell 1).trans rfl
  have hRl : w.heap.size < w3.heap.size := by omega
  clear hw5 hb5 hR4 hP4 hL4 hD4 hSS4 hH
  have HB := Lib.hid (build20_any nb np P pc us ys slots L m lc es w5 hP5.sh HOK.out (by omega) (by omega) hmc (RowV.low hL5e (Nat.zero_le _)) HES.out)
  go_upto_region 3 with (go_at_call 35
                         refine (HB.out).mono ?_
                         rintro e w6 ⟨Dv, er, rfl, hb6, hor⟩
                         rcases hor with ⟨rfl, P6, pc6, A6, c6, E6, rfl, hW6⟩ | ⟨hne, hm0, rfl⟩)
  · have hR6 := hR5.below hb6 hR5.lt
    have hD6 := hD5.belowAll hb6
    have hSS6 := hSS5.thenBelow (hb6.mono (World.grownBy.size hSS5))
    have hL6 : Ents w6 w3.heap.size w6.heap.size L m es := RowV.upto hL5e hb6
    have hT := Blk.new w6 32 #[.int .i64 nb, .slice P6 np pc6, .int .i64 slots, .slice A6 nb c6]
    have hb7 := bbox (w0 := w6) (.cells #[.int .i64 nb, .slice P6 np pc6, .int .i64 slots, .slice A6 nb c6] 32)
    have hR := hR6.below hb7 hR6.lt
    have hD := hD6.belowAll hb7
    have hSS := hSS6.thenBelow (hb7.mono (World.grownBy.size hSS6))
    have hL7 := RowV.upto hL6 hb7
    have hW := DirW.below hW6 hb7
    obtain ⟨T, hTe⟩ : ∃ T, w6.heap.size = T := ⟨_, rfl⟩
    obtain ⟨W, hWe⟩ : ∃ x : World, w6.alloc (.cells #[.int .i64 nb, .slice P6 np pc6, .int .i64 slots, .slice A6 nb c6] 32) = x := ⟨_, rfl⟩
    rw [hWe] at hT hR hD hSS hL7 hW
    rw [hTe] at hT
    rw [hWe, hTe]
    clear hWe hTe hb7 hR6 hD6 hSS6 hL6 hW6 hR5 hD5 hSS5 hP5 hL5 hL5e HB
    have hv0 : W.cell? ⟨T, 0, none⟩ = some (.int .i64 nb) := (hT.cell 0).trans rfl
    have hv1 : W.cell? ⟨T, 1, none⟩ = some (.slice P6 np pc6) := (hT.cell 1).trans rfl
    have hv2 : W.cell? ⟨T, 2, none⟩ = some (.int .i64 slots) := (hT.cell 2).trans rfl
    have hv3 : W.cell? ⟨T, 3, none⟩ = some (.slice A6 nb c6) := (hT.cell 3).trans rfl
    have hy0 : W.cell? ⟨w.heap.size, 0, none⟩ = some (.int .i64 0) := (hR.cell 0).trans rfl
    have hy1 : W.cell? ⟨w.heap.size, 1, none⟩ = some (.slice none 0 0) := (hR.cell 1).trans rfl
    have hy2 : W.cell? ⟨w.heap.size, 2, none⟩ = some (.int .i64 0) := (hR.cell 2).trans rfl
    have hy3 : W.cell? ⟨w.heap.size, 3, none⟩ = some (.slice none 0 0) := (hR.cell 3).trans rfl
    have hf0 := hR.frozen 0
    have hf1 := hR.frozen 1
    have hf2 := hR.frozen 2
    have hf3 := hR.frozen 3
    go_wp2
    have hR9 := blk_four (v0 := .int .i64 nb) (v1 := .slice P6 np pc6) (v2 := .int .i64 slots) (v3 := .slice A6 nb c6) hR
    have hz0 := (hR9.cell 0).trans rfl
    have hz1 := (hR9.cell 1).trans rfl
    have hz2 := (hR9.cell 2).trans rfl
    have hz3 := (hR9.cell 3).trans rfl
    have hst : Step w.heap.size W ((((W.setCell ⟨w.heap.size, 0, none⟩ (.int .i64 nb)).setCell ⟨w.heap.size, 1, none⟩ (.slice P6 np pc6)).setCell ⟨w.heap.size, 2, none⟩ (.int .i64 slots)).setCell ⟨w.heap.size, 3, none⟩ (.slice A6 nb c6)) := ((((Step.refl _ W).set 0 _).set 1 _).set 2 _).set 3 _
    exact bodyPost_ret (v := .tuple #[.agg #[.int .i64 nb, .slice P6 np pc6, .int .i64 slots, .slice A6 nb c6], .slice L m lc]) (by simp [results, Tryz.results8, go_sem, hz0, hz1, hz2, hz3]) rfl
      ⟨nb, np, P6, pc6, us, ys, slots, A6, c6, E6, L, m, lc, es, q4, rfl, HOK.out, hnb8, hsl1.1, hsl1.2, DirW.low (DirW.step hW hst (by omega)) (by omega), by omega, RowV.low (RowV.step hL7 hst hRl) (by omega), HES.out, (((hD.setCell (p := ⟨w.heap.size, 0, none⟩) hg _).setCell (p := ⟨w.heap.size, 1, none⟩) hg _).setCell (p := ⟨w.heap.size, 2, none⟩) hg _).setCell (p := ⟨w.heap.size, 3, none⟩) hg _,
        (((hSS.setNew (p := ⟨w.heap.size, 0, none⟩) (Nat.le_refl _) _).setNew (p := ⟨w.heap.size, 1, none⟩) (Nat.le_refl _) _).setNew (p := ⟨w.heap.size, 2, none⟩) (Nat.le_refl _) _).setNew (p := ⟨w.heap.size, 3, none⟩) (Nat.le_refl _) _⟩
  · have hR6 := hR5.below hb6 hR5.lt
    have hD6 := hD5.belowAll hb6
    have hSS6 := hSS5.thenBelow (hb6.mono (World.grownBy.size hSS5))
    have hT := Blk.new w6 32 #[.int .i64 0, .slice none 0 0, .int .i64 0, .slice none 0 0]
    have hb7 := bbox (w0 := w6) (.cells #[.int .i64 0, .slice none 0 0, .int .i64 0, .slice none 0 0] 32)
    have hR7 := hR6.below hb7 hR6.lt
    have hD7 := hD6.belowAll hb7
    have hSS7 := hSS6.thenBelow (hb7.mono (World.grownBy.size hSS6))
    have hH7 := (hH5.below hb6 hH5.lt).below hb7 (Nat.lt_of_lt_of_le hHl hb6.size)
    have hP7 := (hP5.belowAll hb6).belowAll hb7
    obtain ⟨T, hTe⟩ : ∃ T, w6.heap.size = T := ⟨_, rfl⟩
    obtain ⟨w7, hWe⟩ : ∃ x : World, w6.alloc (.cells #[.int .i64 0, .slice none 0 0, .int .i64 0, .slice none 0 0] 32) = x := ⟨_, rfl⟩
    rw [hWe] at hT hR7 hD7 hSS7 hH7 hP7
    rw [hTe] at hT
    rw [hWe, hTe]
    have hT5 : w5.heap.size ≤ T := by rw [← hTe]; exact hb6.size
    clear hWe hTe hb7 hR6 hD6 hSS6 hR5 hD5 hSS5 hP5 hL5 hL5e HB hc0 hc1
    have hne1 : (er != 0) = true := by simpa using hne
    have hc0 : w7.cell? ⟨H, 0, none⟩ = some (.int .i64 nb) := (hH7.cell 0).trans rfl
    have hc1 : w7.cell? ⟨H, 1, none⟩ = some (.slice P np pc) := (hH7.cell 1).trans rfl
    have hTl := hT.lt
    have hRl7 := hR7.lt
    have HB2 := Lib.hid (build20_any nb np P pc us ys slots none 0 0 [] w7 hP7.sh HOK.out (by omega) (by omega) (Nat.le_refl _) RowV.nil_ (fun x hx => by cases hx))
    have hRT : w.heap.size < T := by omega
    go_upto_region 5 with (go_at_call 35
                           refine (HB2.out).mono ?_
                           rintro e w8 ⟨Dv, er2, rfl, hb8, hor2⟩
                           obtain ⟨rfl, P8, pc8, A8, c8, E8, rfl, hW8⟩ := hor2.resolve_right (fun h => absurd h.2.1 (Nat.lt_irrefl 0))
                           have hT8 := hT.below hb8 hTl
                           have hR8 := hR7.below hb8 hRl7
                           have hD8 := hD7.belowAll hb8
                           have hSS8 := hSS7.thenBelow (hb8.mono (World.grownBy.size hSS7))
                           have ht0 : w8.cell? ⟨T, 0, none⟩ = some (.int .i64 0) := (hT8.cell 0).trans rfl
                           have ht1 : w8.cell? ⟨T, 1, none⟩ = some (.slice none 0 0) := (hT8.cell 1).trans rfl
                           have ht2 : w8.cell? ⟨T, 2, none⟩ = some (.int .i64 0) := (hT8.cell 2).trans rfl
                           have ht3 : w8.cell? ⟨T, 3, none⟩ = some (.slice none 0 0) := (hT8.cell 3).trans rfl
                           have hft0 := hT8.frozen 0
                           have hft1 := hT8.frozen 1
                           have hft2 := hT8.frozen 2
                           have hft3 := hT8.frozen 3)
    have hst8 : Step T w8 ((((w8.setCell ⟨T, 0, none⟩ (.int .i64 nb)).setCell ⟨T, 1, none⟩ (.slice P8 np pc8)).setCell ⟨T, 2, none⟩ (.int .i64 slots)).setCell ⟨T, 3, none⟩ (.slice A8 nb c8)) := ((((Step.refl _ w8).set 0 _).set 1 _).set 2 _).set 3 _
    have hT9 := blk_four (v0 := .int .i64 nb) (v1 := .slice P8 np pc8) (v2 := .int .i64 slots) (v3 := .slice A8 nb c8) hT8
    have hR9 := Step.block hst8 hR8 (by omega)
    have hD9 := (((hD8.setCell (p := ⟨T, 0, none⟩) (by show g < T; omega) (.int .i64 nb)).setCell (p := ⟨T, 1, none⟩) (by show g < T; omega) (.slice P8 np pc8)).setCell (p := ⟨T, 2, none⟩) (by show g < T; omega) (.int .i64 slots)).setCell (p := ⟨T, 3, none⟩) (by show g < T; omega) (.slice A8 nb c8)
    have hSS9 := (((hSS8.setNew (p := ⟨T, 0, none⟩) (by show w.heap.size ≤ T; omega) (.int .i64 nb)).setNew (p := ⟨T, 1, none⟩) (by show w.heap.size ≤ T; omega) (.slice P8 np pc8)).setNew (p := ⟨T, 2, none⟩) (by show w.heap.size ≤ T; omega) (.int .i64 slots)).setNew (p := ⟨T, 3, none⟩) (by show w.heap.size ≤ T; omega) (.slice A8 nb c8)
    have hW9 := DirW.step hW8 hst8 hTl
    obtain ⟨W, hWe⟩ : ∃ x : World, ((((w8.setCell ⟨T, 0, none⟩ (.int .i64 nb)).setCell ⟨T, 1, none⟩ (.slice P8 np pc8)).setCell ⟨T, 2, none⟩ (.int .i64 slots)).setCell ⟨T, 3, none⟩ (.slice A8 nb c8)) = x := ⟨_, rfl⟩
    rw [hWe] at hT9 hR9 hD9 hSS9 hW9
    rw [hWe]
    clear hWe hst8 hT8 hR8 hD8 hSS8 ht0 ht1 ht2 ht3 hft0 hft1 hft2 hft3 hW8 hb8 hT hR7 hD7 hSS7 hH7 hP7 HB2 hc0 hc1
    have hT := hT9
    have hR := hR9
    have hD := hD9
    have hSS := hSS9
    have hW := hW9
    clear hT9 hR9 hD9 hSS9 hW9
    have hv0 : W.cell? ⟨T, 0, none⟩ = some (.int .i64 nb) := (hT.cell 0).trans rfl
    have hv1 : W.cell? ⟨T, 1, none⟩ = some (.slice P8 np pc8) := (hT.cell 1).trans rfl
    have hv2 : W.cell? ⟨T, 2, none⟩ = some (.int .i64 slots) := (hT.cell 2).trans rfl
    have hv3 : W.cell? ⟨T, 3, none⟩ = some (.slice A8 nb c8) := (hT.cell 3).trans rfl
    have hy0 : W.cell? ⟨w.heap.size, 0, none⟩ = some (.int .i64 0) := (hR.cell 0).trans rfl
    have hy1 : W.cell? ⟨w.heap.size, 1, none⟩ = some (.slice none 0 0) := (hR.cell 1).trans rfl
    have hy2 : W.cell? ⟨w.heap.size, 2, none⟩ = some (.int .i64 0) := (hR.cell 2).trans rfl
    have hy3 : W.cell? ⟨w.heap.size, 3, none⟩ = some (.slice none 0 0) := (hR.cell 3).trans rfl
    have hf0 := hR.frozen 0
    have hf1 := hR.frozen 1
    have hf2 := hR.frozen 2
    have hf3 := hR.frozen 3
    go_wp2
    have hR9 := blk_four (v0 := .int .i64 nb) (v1 := .slice P8 np pc8) (v2 := .int .i64 slots) (v3 := .slice A8 nb c8) hR
    have hz0 := (hR9.cell 0).trans rfl
    have hz1 := (hR9.cell 1).trans rfl
    have hz2 := (hR9.cell 2).trans rfl
    have hz3 := (hR9.cell 3).trans rfl
    have hst : Step w.heap.size W ((((W.setCell ⟨w.heap.size, 0, none⟩ (.int .i64 nb)).setCell ⟨w.heap.size, 1, none⟩ (.slice P8 np pc8)).setCell ⟨w.heap.size, 2, none⟩ (.int .i64 slots)).setCell ⟨w.heap.size, 3, none⟩ (.slice A8 nb c8)) := ((((Step.refl _ W).set 0 _).set 1 _).set 2 _).set 3 _
    exact bodyPost_ret (v := .tuple #[.agg #[.int .i64 nb, .slice P8 np pc8, .int .i64 slots, .slice A8 nb c8], .slice none 0 0]) (by simp [results, Tryz.results8, go_sem, hz0, hz1, hz2, hz3]) rfl
      ⟨nb, np, P8, pc8, us, ys, slots, A8, c8, E8, none, 0, 0, [], q4, rfl, HOK.out, hnb8, hsl1.1, hsl1.2, DirW.low (DirW.step hW hst (by omega)) (by omega), by omega, RowV.nil_, (fun x hx => by cases hx), (((hD.setCell (p := ⟨w.heap.size, 0, none⟩) hg _).setCell (p := ⟨w.heap.size, 1, none⟩) hg _).setCell (p := ⟨w.heap.size, 2, none⟩) hg _).setCell (p := ⟨w.heap.size, 3, none⟩) hg _,
        (((hSS.setNew (p := ⟨w.heap.size, 0, none⟩) (Nat.le_refl _) _).setNew (p := ⟨w.heap.size, 1, none⟩) (Nat.le_refl _) _).setNew (p := ⟨w.heap.size, 2, none⟩) (Nat.le_refl _) _).setNew (p := ⟨w.heap.size, 3, none⟩) (Nat.le_refl _) _⟩
end Go.Proofs.YtmcgnpdfpfgfpaaGreatDoor
