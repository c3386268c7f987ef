/-
  LayOne of the reference: what it returns.
-/
import Derived.Test.YtepnhhehfkcgkaaDoorLay
namespace Go.Proofs.YtepnhhehfkcgkaaDoor
open Go.RowKit

/-- A list of ints copied by an append onto an empty one. -/
theorem own_empty (w : World) : Own (w.alloc (.cells #[] 3)) w.heap.size (w.heap.size + 1) 3 (some ⟨w.heap.size, 0, none⟩) 0 0 [] := by
  simpa using Own.made (w := w) (base := w.heap.size) (e := 3) (cs := #[]) (n := 0) (Nat.le_refl _) (by unfold maxLen; omega) rfl


end Go.Proofs.YtepnhhehfkcgkaaDoor
