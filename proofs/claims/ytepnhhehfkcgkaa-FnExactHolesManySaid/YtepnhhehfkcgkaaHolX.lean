/-
  A cell by its column and row.
-/
import Derived.Test.YtepnhhehfkcgkaaTilP
namespace Go.Proofs.Ytepnhhehfkcgkaa
namespace Til
theorem cell_xy {W x y : Nat} (hx : x < W) : (y * W + x) % W = x ∧ (y * W + x) / W = y := by
  rw [Nat.mul_comm y W]
  exact ⟨by rw [Nat.mul_add_mod, Nat.mod_eq_of_lt hx], by rw [Nat.mul_add_div (by omega), Nat.div_eq_of_lt hx]; omega⟩
end Til
end Go.Proofs.Ytepnhhehfkcgkaa
