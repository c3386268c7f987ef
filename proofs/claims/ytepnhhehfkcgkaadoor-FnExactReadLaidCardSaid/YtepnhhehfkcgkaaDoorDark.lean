/-
  xy, dark, darks and DarkMany, both sides: what they return.
-/
import Derived.Test.YtepnhhehfkcgkaaDoorValid
import Derived.BigQuiet
import Derived.Deep.QuietTactic
namespace Go.Proofs.YtepnhhehfkcgkaaDoor
open Go.RowKit

theorem div_bd (k W : Nat) : 0 ≤ (k : Int) / (W : Int) ∧ (k : Int) / (W : Int) ≤ k ∧ 0 ≤ (k : Int) % (W : Int) ∧ (k : Int) % (W : Int) ≤ k := by
  have e1 : (k : Int) / (W : Int) = ((k / W : Nat) : Int) := (Int.natCast_ediv k W).symm
  have e2 : (k : Int) % (W : Int) = ((k % W : Nat) : Int) := (Int.natCast_emod k W).symm
  rw [e1, e2]
  exact ⟨Int.natCast_nonneg _, Int.ofNat_le.2 (Nat.div_le_self k W), Int.natCast_nonneg _, Int.ofNat_le.2 (Nat.mod_le k W)⟩

set_option maxHeartbeats 400000 in
theorem xy_any (A : Option Addr) (n c W k x y : Nat) (T : Int) (w : World) (hW : 1 ≤ W) (hk : k ≤ 4194304) (hx : k % W = x) (hy : k / W = y) :
    Calls Tryd.prog 43 #[.agg #[.int .i64 W, .int .i64 T, .slice A n c], .int .i64 k] w fun e w' => e = .returned (.tuple #[.int .i64 x, .int .i64 y]) ∧ Below w.heap.size w w' := by
  obtain ⟨h1, h2, h3, h4⟩ := div_bd k W
  have E1 : Hid ((k : Int) / (W : Int) = (y : Int)) := by show _ = _; rw [← hy]; exact (Int.natCast_ediv k W).symm
  have E2 : Hid ((k : Int) % (W : Int) = (x : Int)) := by show _ = _; rw [← hx]; exact (Int.natCast_emod k W).symm
  clear hx hy
  have hW1 : (1 : Int) ≤ (W : Int) := by omega
  have hz : ((W : Int) == 0) = false := beq_eq_false_iff_ne.2 (by omega)
  go_enter Tryd.func43, Tryd.ntmps43
  go_wp2
  go_quiet (fail)
  go_wp2
  go_ret2
  exact ⟨ret_ii E2.out E1.out, below_drewN (below1 w _) _⟩

/-- Is a cell dark? -/
def darkB (W k : Nat) : Bool := (k % W + k / W) % 2 == 0


/-- How many of the first k cells belong to the region and are dark. -/
def darkN (W : Nat) (bs : List Bool) : Nat → Nat
  | 0 => 0
  | k + 1 => darkN W bs k + (if bs[k]?.getD false && darkB W k then 1 else 0)
theorem darkN_le (W : Nat) (bs : List Bool) (k : Nat) : darkN W bs k ≤ k := by
  induction k with
  | zero => exact Nat.le_refl _
  | succ k ih => rw [darkN]; split <;> omega
theorem darkN_yes {W : Nat} {bs : List Bool} {k : Nat} (h1 : bs[k]? = some true) (h2 : darkB W k = true) : darkN W bs (k + 1) = darkN W bs k + 1 := by simp [darkN, h1, h2]
theorem darkN_no1 {W : Nat} {bs : List Bool} {k : Nat} (h1 : bs[k]? = some false) : darkN W bs (k + 1) = darkN W bs k := by simp [darkN, h1]
theorem darkN_no2 {W : Nat} {bs : List Bool} {k : Nat} (h2 : darkB W k = false) : darkN W bs (k + 1) = darkN W bs k := by simp [darkN, h2]


def darkF (W T : Int) (n : Nat) (bs : List Bool) : Int := if validB W T n bs then darkN W.toNat bs n else -1


end Go.Proofs.YtepnhhehfkcgkaaDoor
