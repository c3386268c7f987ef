/-
  full and TilingOk, both sides: what they return.
-/
import Derived.Test.YtepnhhehfkcgkaaDoorLaidOk
namespace Go.Proofs.YtepnhhehfkcgkaaDoor
open Go.RowKit

theorem laid_of {W T : Int} {n m : Nat} {bs : List Bool} {zs : List Int} (h : laidB W T n bs m zs = true) (hl : bs.length = n) : ∃ W' T' : Nat, W = W' ∧ T = T' ∧ Valid W' T' n bs ∧ m = n ∧ laysAll W' T' bs zs n = true := by
  rw [laidB, Bool.and_eq_true, Bool.and_eq_true, decide_eq_true_eq] at h
  obtain ⟨W', T', rfl, rfl, V⟩ := valid_of h.1 hl
  exact ⟨W', T', rfl, rfl, V, h.2.1, h.2.2⟩

def fullOne (bs : List Bool) (zs : List Int) (k : Nat) : Bool := !(onR bs k && (ent zs k == 0))
def fullAll (bs : List Bool) (zs : List Int) : Nat → Bool
  | 0 => true
  | k + 1 => fullAll bs zs k && fullOne bs zs k
theorem fullAll_no {bs : List Bool} {zs : List Int} {k n : Nat} (hk : k < n) (h : fullOne bs zs k = false) : fullAll bs zs n = false := by
  induction n with
  | zero => omega
  | succ n ih =>
    rw [fullAll]
    by_cases e : k = n
    · subst e; rw [h, Bool.and_false]
    · rw [ih (by omega), Bool.false_and]
def tilB (W T : Int) (n : Nat) (bs : List Bool) (m : Nat) (zs : List Int) : Bool := laidB W T n bs m zs && fullAll bs zs n




end Go.Proofs.YtepnhhehfkcgkaaDoor
