/-
  carry, TilingTurn and TilingFlip of the program: what they return.
-/
import Derived.Test.YtepnhhehfkcgkaaDoorTurn
import Derived.Test.YtepnhhehfkcgkaaDoorLaidOk
import Derived.Test.YtepnhhehfkcgkaaDoorTilOk
import Derived.Deep.RegionLaw
namespace Go.Proofs.YtepnhhehfkcgkaaDoor
open Go.RowKit

def turnD (z : Int) : Int := if z = 0 then 0 else z % 4 + 1
def flipD (z : Int) : Int := if z = 1 ∨ z = 3 then backF z else z
/-- The dominoes put elsewhere, one by one. -/
def carL (n : Nat) (to : Nat → Nat) (f : Int → Int) (zs : List Int) : Nat → List Int
  | 0 => List.replicate n 0
  | k + 1 => (carL n to f zs k).set (to k) (f (ent zs k))
theorem carL_len (n : Nat) (to : Nat → Nat) (f : Int → Int) (zs : List Int) (k : Nat) : (carL n to f zs k).length = n := by
  induction k with
  | zero => simp [carL]
  | succ k ih => rw [carL, List.length_set, ih]
def turnM : List Int := [0, 2, 3, 4, 1]
def flipM : List Int := [0, 3, 2, 1, 4]
theorem turnM_at {z : Nat} (h : z < 5) : turnM[z]? = some (turnD z) := by
  have : z = 0 ∨ z = 1 ∨ z = 2 ∨ z = 3 ∨ z = 4 := by omega
  rcases this with rfl | rfl | rfl | rfl | rfl <;> rfl
theorem flipM_at {z : Nat} (h : z < 5) : flipM[z]? = some (flipD z) := by
  have : z = 0 ∨ z = 1 ∨ z = 2 ∨ z = 3 ∨ z = 4 := by omega
  rcases this with rfl | rfl | rfl | rfl | rfl <;> rfl
theorem lays_way {W T n k : Nat} {bs : List Bool} {zs : List Int} (hk : k < n) (h : laysAll W T bs zs n = true) : 0 ≤ ent zs k ∧ ent zs k ≤ 4 := by
  have := laysAll_one hk h
  rw [laysOne, Bool.or_eq_true, beq_iff_eq, Bool.and_eq_true, decide_eq_true_eq] at this
  rcases this with h0 | ⟨h0, _⟩
  · omega
  · have : inB (ent zs k) 1 4 = true := by
      cases hi : inB (ent zs k) 1 4 with
      | true => rfl
      | false => rw [stepF_no hi] at h0; omega
    have := inB_iff.1 this
    omega


def turnZ (W T : Int) (n : Nat) (bs : List Bool) (m : Nat) (zs : List Int) : List Int := if laidB W T n bs m zs then carL n (turnT W.toNat T.toNat) turnD zs n else []
def flipZ (W T : Int) (n : Nat) (bs : List Bool) (m : Nat) (zs : List Int) : List Int := if laidB W T n bs m zs then carL n (flipT W.toNat T.toNat) flipD zs n else []


end Go.Proofs.YtepnhhehfkcgkaaDoor
