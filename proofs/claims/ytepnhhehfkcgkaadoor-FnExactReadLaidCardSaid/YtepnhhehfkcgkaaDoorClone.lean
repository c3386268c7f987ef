/-
  slices.Clone, slices.Clip and clone, of bools and of ints: what they return.
-/
import Derived.Test.YtepnhhehfkcgkaaDoorMem2
import Derived.Test.YtepnhhehfkcgkaaDoorApp
import Derived.Test.YtepnhhehfkcgkaaDoorLawI
namespace Go.Proofs.YtepnhhehfkcgkaaDoor
open Go.RowKit

theorem bools_one (bs : List Bool) : ∀ u ∈ bs.map Value.bool, u.oneCell' = true := by
  intro u hu; obtain ⟨x, _, rfl⟩ := List.mem_map.1 hu; rfl
theorem ints_one (zs : List Int) : ∀ u ∈ zs.map (Value.int .i64), u.oneCell' = true := by
  intro u hu; obtain ⟨x, _, rfl⟩ := List.mem_map.1 hu; rfl




end Go.Proofs.YtepnhhehfkcgkaaDoor
