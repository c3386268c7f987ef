/-
  Texts of tilings: the sign of a cell. (plain)
-/
import Derived.Test.YtepnhhehfkcgkaaDoorTextP
import Derived.Test.YtepnhhehfkcgkaaDoorCarry
namespace Go.Proofs.YtepnhhehfkcgkaaDoor
open Go.RowKit

def signZ (z : Int) : UInt8 := if z = 0 then 35 else if z = 1 then 101 else if z = 2 then 110 else if z = 3 then 119 else 115
def signL (bs : List Bool) (zs : List Int) (k : Nat) : UInt8 := if onR bs k then signZ (ent zs k) else 46
theorem signL_off {bs : List Bool} {zs : List Int} {k : Nat} (h : onR bs k = false) : signL bs zs k = 46 := by rw [signL, h]; rfl
theorem signL_on {bs : List Bool} {zs : List Int} {k : Nat} {z : Int} (h : onR bs k = true) (hz : ent zs k = z) : signL bs zs k = signZ z := by rw [signL, h, hz]; rfl
def ltextF (W T : Int) (n : Nat) (bs : List Bool) (m : Nat) (zs : List Int) : List UInt8 := if laidB W T n bs m zs then textL (signL bs zs) W.toNat T.toNat else []
theorem laid_of' {W T : Int} {n m : Nat} {bs : List Bool} {zs : List Int} (h : laidB W T n bs m zs = true) (hl : bs.length = n) : ∃ W' T' : Nat, W = W' ∧ T = T' ∧ Valid W' T' n bs ∧ m = n ∧ laysAll W' T' bs zs n = true := by
  rw [laidB, Bool.and_eq_true, Bool.and_eq_true, decide_eq_true_eq] at h
  obtain ⟨W', T', rfl, rfl, V⟩ := valid_of h.1 hl
  exact ⟨W', T', rfl, rfl, V, h.2.1, h.2.2⟩
theorem five {z : Int} (h : 0 ≤ z ∧ z ≤ 4) : z = 0 ∨ z = 1 ∨ z = 2 ∨ z = 3 ∨ z = 4 := by omega
end Go.Proofs.YtepnhhehfkcgkaaDoor
