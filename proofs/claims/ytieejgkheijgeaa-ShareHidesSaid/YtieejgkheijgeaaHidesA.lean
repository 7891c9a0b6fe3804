/-
  The shares of all tapes, counted, no program in sight: for 3 and 5 elements and thresholds 1 and 2. No conditions.
-/
import Derived.Test.YtieejgkheijgeaaHides1
import Derived.Test.YtieejgkheijgeaaSplit
import Derived.Test.YtieejgkheijgeaaJoinsA
namespace Go.Proofs.Ytieejgkheijgeaa
set_option linter.unusedVariables false

/-- Some of the shares as one number. -/
def uSo (p : Int) (ys ks : List Int) : Nat → Int
  | 0 => 0
  | t + 1 => uSo p ys ks t * p + ys.getD (ks.getD t 0).toNat 0
/-- The number of the shares that a tape leads to. -/
def hF (p : Int) (th : Nat) (s : Int) (ks : List Int) (n : Nat) : Int := uSo p (valsP p (s :: digN p n th) (ptsL (p.toNat - 1))) ks th
/-- How often each number came, behind n tapes. -/
def hL (p : Int) (th : Nat) (s : Int) (ks : List Int) (T : Nat) : Nat → List Int
  | 0 => List.replicate T 0
  | n + 1 => (hL p th s ks T n).set (hF p th s ks n).toNat ((hL p th s ks T n).getD (hF p th s ks n).toNat 0 + 1)
theorem hL_len (p : Int) (th : Nat) (s : Int) (ks : List Int) (T : Nat) : ∀ n, (hL p th s ks T n).length = T
  | 0 => by simp [hL]
  | n + 1 => by simp [hL, hL_len p th s ks T n]

def hCheck (p : Int) (th : Nat) (T : Nat) (s : Int) (ks : List Int) : Bool :=
  ((List.range T).all fun n => decide (0 ≤ hF p th s ks n) && decide (hF p th s ks n < (T : Int))) && (hL p th s ks T T == List.replicate T 1)
def hAll (p : Nat) (th : Nat) (T : Nat) : Bool :=
  (List.range p).all fun s => (List.range (p - 1)).all fun k0 => (List.range (p - 1)).all fun k1 => (k0 == k1) || hCheck (p : Int) th T (s : Int) [(k0 : Int), (k1 : Int)]
set_option maxRecDepth 100000 in
theorem hAll31 : hAll 3 1 3 = true := by decide +kernel
set_option maxRecDepth 100000 in
theorem hAll32 : hAll 3 2 9 = true := by decide +kernel
set_option maxRecDepth 100000 in
theorem hAll51 : hAll 5 1 5 = true := by decide +kernel
set_option maxRecDepth 100000 in
theorem hAll52 : hAll 5 2 25 = true := by decide +kernel

theorem uSo_two (p : Int) (ys ks : List Int) : ∀ th, th ≤ 2 → uSo p ys ks th = uSo p ys [ks.getD 0 0, ks.getD 1 0] th
  | 0, _ => rfl
  | 1, _ => rfl
  | 2, _ => rfl
  | k + 3, h => by omega
theorem hF_two (p : Int) {th : Nat} (s : Int) (ks : List Int) (n : Nat) (h : th ≤ 2) : hF p th s ks n = hF p th s [ks.getD 0 0, ks.getD 1 0] n := uSo_two p _ ks th h
theorem hL_two (p : Int) {th : Nat} (s : Int) (ks : List Int) (T : Nat) (h : th ≤ 2) : ∀ n, hL p th s ks T n = hL p th s [ks.getD 0 0, ks.getD 1 0] T n
  | 0 => rfl
  | n + 1 => by
    show (hL p th s ks T n).set _ _ = (hL p th s [ks.getD 0 0, ks.getD 1 0] T n).set _ _
    rw [hL_two p s ks T h n, hF_two p s ks n h]

theorem hAll_use {p th T : Nat} (h : hAll p th T = true) {s k0 k1 : Nat} (hs : s < p) (h0 : k0 < p - 1) (h1 : k1 < p - 1) (hne : k0 ≠ k1) : hCheck (p : Int) th T (s : Int) [(k0 : Int), (k1 : Int)] = true := by
  unfold hAll at h
  have e1 := List.all_eq_true.1 h s (List.mem_range.2 hs)
  have e2 := List.all_eq_true.1 e1 k0 (List.mem_range.2 h0)
  have e3 := List.all_eq_true.1 e2 k1 (List.mem_range.2 h1)
  rw [Bool.or_eq_true] at e3
  rcases e3 with e | e
  · exact absurd (by simpa using e) hne
  · exact e

/-- Every list of values of the shares comes once, whatever the secret is. -/
theorem hides {p : Nat} {th T : Nat} {s : Int} {ks : List Int} (hp : p = 3 ∨ p = 5) (hth : th = 1 ∨ th = 2) (hT : (T : Int) = powN (p : Int) th) (hs : 0 ≤ s ∧ s < (p : Int)) (hk : IsOrder (p - 1) ks) :
    (∀ n, n < T → 0 ≤ hF (p : Int) th s ks n ∧ hF (p : Int) th s ks n < (T : Int)) ∧ hL (p : Int) th s ks T T = List.replicate T 1 := by
  obtain ⟨k0, e0, l0⟩ := order_at hk (m := 0) (by omega)
  obtain ⟨k1, e1, l1⟩ := order_at hk (m := 1) (by omega)
  have hne : k0 ≠ k1 := fun e => ord_apart hk 0 1 (by omega) (by omega) (by rw [e0, e1, e])
  obtain ⟨s', rfl⟩ : ∃ s' : Nat, s = s' := ⟨s.toNat, by omega⟩
  have hth2 : th ≤ 2 := by omega
  have hall : hAll p th T = true := by
    rcases hp with rfl | rfl <;> rcases hth with rfl | rfl
    · have : T = 3 := by simp [powN] at hT; omega
      rw [this]; exact hAll31
    · have : T = 9 := by simp [powN] at hT; omega
      rw [this]; exact hAll32
    · have : T = 5 := by simp [powN] at hT; omega
      rw [this]; exact hAll51
    · have : T = 25 := by simp [powN] at hT; omega
      rw [this]; exact hAll52
  have hc := hAll_use hall (s := s') (by omega) l0 l1 hne
  unfold hCheck at hc
  rw [Bool.and_eq_true] at hc
  constructor
  · intro n hn
    have := List.all_eq_true.1 hc.1 n (List.mem_range.2 hn)
    rw [hF_two _ _ _ _ hth2, e0, e1]
    simpa using this
  · rw [hL_two _ _ _ _ hth2, e0, e1]
    simpa using hc.2
end Go.Proofs.Ytieejgkheijgeaa
