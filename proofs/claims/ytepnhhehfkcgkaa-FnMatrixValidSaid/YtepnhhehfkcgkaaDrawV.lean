/-
  The drawn inputs of the laws FnRegionValid and FnRegionAt; alive.
-/
import Derived.Test.YtepnhhehfkcgkaaDrawR
import Derived.Test.YtepnhhehfkcgkaaRBox
import Derived.Test.YtepnhhehfkcgkaaScal
namespace Go.Proofs.Ytepnhhehfkcgkaa
open Go.RowKit

theorem grown_below' {w w1 w' : World} {q B : Nat} (hB : Below B w w1) (hg : w1.grownBy w' (some q)) (hq : B ≤ q) (hz : B ≤ w1.heap.size) : Below B w w' :=
  hB.grown hg hz (fun k hk => by simp only [Option.some.injEq] at hk; omega)


theorem alive_any (w : World) : Calls Try.prog 15 #[] w fun e w' => e = .returned (.bool true) ∧ Below w.heap.size w w' := by
  go_enter Try.func15, Try.ntmps15
  go_wp2_with fail
  refine (box_impl 2 3 _ ⟨by omega, by omega⟩ ⟨by omega, by omega⟩).mono ?_; rintro e w1 ⟨D, d, d0, rfl, hown, hb1, -⟩
  have hc : boxC 2 3 = List.replicate 6 true := by decide
  have hW : boxW 2 3 = 2 := by decide
  have hT : boxT 2 3 = 3 := by decide
  rw [hc] at hown
  rw [hc, hW, hT]
  go_wp2_with fail
  refine (cells_impl _ _ _ _ _ (List.replicate 6 true) _ (by simp) hown.sl).mono ?_; rintro e w2 ⟨rfl, hb2⟩
  have hv : cellsF 2 3 (List.replicate 6 true).length (List.replicate 6 true) = 6 := by decide
  rw [hv]
  go_wp2_with fail
  go_ret
  exact ⟨rfl, belowW hb1 hb2⟩

end Go.Proofs.Ytepnhhehfkcgkaa
