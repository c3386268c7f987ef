/-
  turned, mirrored, put; RegionTurn and RegionFlip, both sides: what they return.
-/
import Derived.Test.YtepnhhehfkcgkaaDoorStep
import Derived.Test.YtepnhhehfkcgkaaDoorMem2
import Derived.Test.YtepnhhehfkcgkaaDoorRBox
import Derived.Deep.RegionLaw
namespace Go.Proofs.YtepnhhehfkcgkaaDoor
open Go.RowKit

def turnT (W T k : Nat) : Nat := k % W * T + (T - 1 - k / W)
def flipT (W _T k : Nat) : Nat := k / W * W + (W - 1 - k % W)

theorem put_lt {x y W T : Nat} (h2 : y < T) (h3 : x * T + T ≤ W * T) : x * T + (T - 1 - y) < W * T := by omega
theorem turnT_lt {W T k : Nat} (hW : 1 ≤ W) (hk : k < W * T) : turnT W T k < W * T := by
  have h1 := Nat.mod_lt k (show W > 0 by omega)
  have h2 := Nat.div_lt_of_lt_mul hk
  have h3 : (k % W + 1) * T ≤ W * T := Nat.mul_le_mul_right _ h1
  rw [Nat.add_mul, Nat.one_mul] at h3
  exact put_lt h2 h3
theorem flipT_lt {W T k : Nat} (hW : 1 ≤ W) (hk : k < W * T) : flipT W T k < W * T := by
  have h1 := Nat.mod_lt k (show W > 0 by omega)
  have h2 := Nat.div_lt_of_lt_mul hk
  have h3 : (k / W + 1) * W ≤ T * W := Nat.mul_le_mul_right _ h2
  rw [Nat.add_mul, Nat.one_mul] at h3
  rw [Nat.mul_comm W T]
  exact put_lt h1 h3

/-- The cells put elsewhere, one by one. -/
def putL (n : Nat) (to : Nat → Nat) (bs : List Bool) : Nat → List Bool
  | 0 => List.replicate n false
  | k + 1 => (putL n to bs k).set (to k) (bs[k]?.getD false)
theorem putL_len (n : Nat) (to : Nat → Nat) (bs : List Bool) (k : Nat) : (putL n to bs k).length = n := by
  induction k with
  | zero => simp [putL]
  | succ k ih => rw [putL, List.length_set, ih]



end Go.Proofs.YtepnhhehfkcgkaaDoor
