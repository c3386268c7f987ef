/-
  slices.Clone, slices.Clip and clone, of bools and of ints: what they return.
-/
import Derived.Test.YtfilbcnhbadbbaaMem2
import Derived.Test.YtfilbcnhbadbbaaApp
import Derived.Test.YtfilbcnhbadbbaaLawI
namespace Go.Proofs.Ytfilbcnhbadbbaa
open Go.RowKit

theorem bools_one (bs : List Bool) : ∀ u ∈ bs.map Value.bool, u.oneCell' = true := by
  intro u hu; obtain ⟨x, _, rfl⟩ := List.mem_map.1 hu; rfl
theorem ints_one (zs : List Int) : ∀ u ∈ zs.map (Value.int .i64), u.oneCell' = true := by
  intro u hu; obtain ⟨x, _, rfl⟩ := List.mem_map.1 hu; rfl


theorem sclip_int (A : Option Addr) (n c : Nat) (w : World) (_hn : n ≤ 1048576) (h : n ≤ c) :
    Calls Try.prog 84 #[.slice A n c] w fun e w' => e = .returned (.slice A n n) ∧ w = w' := by
  go_enter Try.func84, Try.ntmps84
  go_wp2_with fail
  go_ret
  exact ⟨rfl, rfl⟩


end Go.Proofs.Ytfilbcnhbadbbaa
