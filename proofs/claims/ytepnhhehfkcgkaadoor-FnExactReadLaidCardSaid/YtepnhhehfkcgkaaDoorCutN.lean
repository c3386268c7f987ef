/-
  strings.Split at a slash, by its parts' contracts on the shelf: the pieces, in a block of their own.
-/
import Derived.Test.YtepnhhehfkcgkaaDoorLaysD
import Derived.Test.YtepnhhehfkcgkaaDoorCutS
namespace Go.Proofs.YtepnhhehfkcgkaaDoor
open Go.Shelf Go.RowKit Go.Lib

theorem genSplit_any (S : ByteArray) (w : World) (hs : S.size ≤ 1048576) :
    Calls Tryd.prog 38 #[.string S, .string ⟨#[47]⟩, .int .i64 0, .int .i64 (-1)] w fun e w' =>
      e = .returned (.slice (some ⟨w.heap.size, 0, none⟩) (rowsB S).length (rowsB S).length) ∧ w' = w.alloc (.cells ((rowsB S).map Value.string).toArray 9) := by
  have hle := Lib.countB_le ⟨#[47]⟩ (by decide) S.size S (Nat.le_refl _)
  have hlen := rowsB_count S
  have c := Any.strings_genSplit_core Tryd.lays221 (by kernel_rfl) S ⟨#[47]⟩ 0 (-1) (Lib.countB S ⟨#[47]⟩ + 1) w (by omega) (by decide) (Nat.zero_le _)
    (fun x cs _ => (Any.strings_Index_one { Tryd.lays221 with } x 47 _).mono fun e w' ⟨he, hw⟩ => ⟨by rw [he]; show Ending.returned (Value.int .i64 (Lib.indexByte x.data.toList 47)) = Ending.returned (Value.int .i64 (Lib.index x.data.toList [47])); rw [Lib.index_one], hw⟩)
    ((Any.strings_Count_one { Tryd.lays221 with } S 47 w).mono fun e w' ⟨he, hw⟩ => ⟨by rw [he]; show _ = Ending.returned (Value.int .i64 ((Lib.count S.data.toList [47] : Nat) : Int)); rw [Lib.count_one]; rfl, hw⟩)
    (by decide) (by decide) (by rw [if_pos (by decide)]; omega)
  rw [Nat.add_sub_cancel, rowsB_split] at c
  have e2 : Lib.cellsOf (rowsB S) (Lib.countB S ⟨#[47]⟩ + 1) = ((rowsB S).map Value.string).toArray := by rw [hlen]; exact Lib.cellsOf_full _
  rw [e2, hlen] at c
  exact c

theorem split_any (S : ByteArray) (w : World) (hs : S.size ≤ 1048576) :
    Calls Tryd.prog 28 #[.string S, .string ⟨#[47]⟩] w fun e w' => ∃ g, e = .returned (.slice (some ⟨g, 0, none⟩) (rowsB S).length (rowsB S).length) ∧ Own w' w.heap.size w'.heap.size 9 (some ⟨g, 0, none⟩) (rowsB S).length (rowsB S).length ((rowsB S).map .string) ∧ Below w.heap.size w w' := by
  have hle := rowsB_le S
  go_enter Tryd.func28, Tryd.ntmps28
  go_wp2_with (go_at_call 38; refine (genSplit_any S _ hs).mono ?_; rintro e w1 ⟨rfl, rfl⟩)
  go_ret
  refine ⟨w.heap.size, rfl, ?_, below1 _ _⟩
  have m := Own.made (w := w) (base := w.heap.size) (e := 9) (cs := ((rowsB S).map Value.string).toArray) (n := (rowsB S).length) (Nat.le_refl _) (by unfold maxLen; omega) (by simp)
  exact m.top (by simp)

end Go.Proofs.YtepnhhehfkcgkaaDoor
