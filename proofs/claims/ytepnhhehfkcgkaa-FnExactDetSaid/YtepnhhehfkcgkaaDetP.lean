/-
  Determinants without fractions: the plain law. No program in sight.
-/
import Derived.RowKit
namespace Go.Proofs.Ytepnhhehfkcgkaa
open Go.RowKit (wrap64)
namespace Dt

/-- One number of the next matrix. -/
def EE (F : Nat → Nat → Int) (k i j : Nat) (l : Int) : Int := wrap64 ((wrap64 (wrap64 (F i j * F k k) - wrap64 (F i k * F k j))).tdiv l)
def elimF (F : Nat → Nat → Int) (k : Nat) (l : Int) (i j : Nat) : Int := if k < i ∧ k < j then EE F k i j l else F i j
def swapF (F : Nat → Nat → Int) (a k : Nat) (i j : Nat) : Int := if i = a then F k j else if i = k then F a j else F i j
/-- The first row from a on whose number in column k is not 0; or n. -/
def findP (F : Nat → Nat → Int) (k : Nat) : Nat → Nat → Nat
  | 0, a => a
  | f + 1, a => if F a k = 0 then findP F k f (a + 1) else a
def piv (F : Nat → Nat → Int) (k n : Nat) : Nat := findP F k (n - k) k
def Pv (F : Nat → Nat → Int) (k n a : Nat) : Prop := k ≤ a ∧ a ≤ n ∧ (∀ i, k ≤ i → i < a → F i k = 0) ∧ (a = n ∨ F a k ≠ 0)
theorem findP_pv {F : Nat → Nat → Int} {k : Nat} : ∀ (f b a : Nat), b ≤ a → a ≤ b + f → (∀ i, b ≤ i → i < a → F i k = 0) → (a = b + f ∨ F a k ≠ 0) → findP F k f b = a
  | 0, b, a, h1, h2, _, _ => by rw [findP]; omega
  | f + 1, b, a, h1, h2, h3, h4 => by
    rw [findP]
    by_cases e : b = a
    · subst e
      rw [if_neg (h4.resolve_left (by omega))]
    · rw [if_pos (h3 b (Nat.le_refl _) (by omega))]
      exact findP_pv f (b + 1) a (by omega) (by omega) (fun i hi => h3 i (by omega)) (h4.imp (fun h => by omega) id)
theorem piv_of {F : Nat → Nat → Int} {k n a : Nat} (h : Pv F k n a) : piv F k n = a := by
  obtain ⟨h1, h2, h3, h4⟩ := h
  exact findP_pv (n - k) k a h1 (by omega) h3 (h4.imp (fun h => by omega) id)
theorem findP_congr {F G : Nat → Nat → Int} {k : Nat} : ∀ (f a : Nat), (∀ i, i < a + f → F i k = G i k) → findP F k f a = findP G k f a
  | 0, _, _ => rfl
  | f + 1, a, h => by
    rw [findP, findP, h a (by omega), findP_congr f (a + 1) (fun i hi => h i (by omega))]
/-- From step k on. -/
def detS (n : Nat) : Nat → Nat → (Nat → Nat → Int) → Int → Int → Int
  | 0, _, _, s, l => wrap64 (s * l)
  | f + 1, k, F, s, l =>
    if piv F k n = n then 0
    else if piv F k n = k then detS n f (k + 1) (elimF F k l) s (F k k)
    else detS n f (k + 1) (elimF (swapF F (piv F k n) k) k l) (-s) (swapF F (piv F k n) k k k)
theorem elim_congr {F G : Nat → Nat → Int} {k n : Nat} {l : Int} (hk : k < n) (h : ∀ i j, i < n → k ≤ j → j < n → F i j = G i j) : ∀ i j, i < n → k + 1 ≤ j → j < n → elimF F k l i j = elimF G k l i j := by
  intro i j hi hj hjn
  rw [elimF, elimF]
  split
  · rw [EE, EE, h i j hi (by omega) hjn, h k k hk (Nat.le_refl _) hk, h i k hi (Nat.le_refl _) hk, h k j hk (by omega) hjn]
  · exact h i j hi (by omega) hjn
theorem swap_congr {F G : Nat → Nat → Int} {a k n : Nat} (ha : a < n) (hk : k < n) (h : ∀ i j, i < n → k ≤ j → j < n → F i j = G i j) : ∀ i j, i < n → k ≤ j → j < n → swapF F a k i j = swapF G a k i j := by
  intro i j hi hj hjn
  rw [swapF, swapF, h k j hk hj hjn, h a j ha hj hjn, h i j hi hj hjn]
theorem findP_le {F : Nat → Nat → Int} {k : Nat} : ∀ (f a : Nat), a ≤ findP F k f a ∧ findP F k f a ≤ a + f
  | 0, a => by rw [findP]; omega
  | f + 1, a => by
    rw [findP]
    have := findP_le (F := F) (k := k) f (a + 1)
    split <;> omega
/-- Columns before k don't matter. -/
theorem detS_congr {n : Nat} : ∀ (f k : Nat) (F G : Nat → Nat → Int) (s l : Int), k + f = n → (∀ i j, i < n → k ≤ j → j < n → F i j = G i j) → detS n f k F s l = detS n f k G s l
  | 0, _, _, _, _, _, _, _ => rfl
  | f + 1, k, F, G, s, l, hf, h => by
    have hk : k < n := by omega
    have hp : piv F k n = piv G k n := findP_congr (n - k) k (fun i hi => h i k (by omega) (Nat.le_refl _) hk)
    rw [detS, detS, hp]
    by_cases e : piv G k n = n
    · rw [if_pos e, if_pos e]
    · rw [if_neg e, if_neg e]
      have hpn : piv G k n < n := by
        have := (findP_le (F := G) (k := k) (n - k) k).2
        unfold piv at e ⊢
        omega
      by_cases e2 : piv G k n = k
      · rw [if_pos e2, if_pos e2, h k k hk (Nat.le_refl _) hk]
        exact detS_congr f (k + 1) _ _ _ _ (by omega) (elim_congr hk h)
      · rw [if_neg e2, if_neg e2, swap_congr hpn hk h k k hk (Nat.le_refl _) hk]
        exact detS_congr f (k + 1) _ _ _ _ (by omega) (elim_congr hk (swap_congr hpn hk h))

end Dt
end Go.Proofs.Ytepnhhehfkcgkaa
