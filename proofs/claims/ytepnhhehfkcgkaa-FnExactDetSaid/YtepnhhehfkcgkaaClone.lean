/-
  slices.Clone, slices.Clip and clone, of bools and of ints: what they return.
-/
import Derived.Test.YtepnhhehfkcgkaaMem2
import Derived.Test.YtepnhhehfkcgkaaApp
import Derived.Test.YtepnhhehfkcgkaaLawI
namespace Go.Proofs.Ytepnhhehfkcgkaa
open Go.RowKit

theorem bools_one (bs : List Bool) : ∀ u ∈ bs.map Value.bool, u.oneCell' = true := by
  intro u hu; obtain ⟨x, _, rfl⟩ := List.mem_map.1 hu; rfl
theorem ints_one (zs : List Int) : ∀ u ∈ zs.map (Value.int .i64), u.oneCell' = true := by
  intro u hu; obtain ⟨x, _, rfl⟩ := List.mem_map.1 hu; rfl

set_option maxHeartbeats 400000 in
theorem sclone_int (A : Option Addr) (n c : Nat) (vs : List Value) (w : World) (hn : n ≤ 1048576) (h : Sl w A n vs) (h1 : ∀ u ∈ vs, u.oneCell' = true) :
    Calls Try.prog 83 #[.slice A n c] w fun e w' => ∃ A' c', e = .returned (.slice A' n c') ∧ Own w' w.heap.size w'.heap.size 3 A' n c' vs ∧ Below w.heap.size w w' ∧ n ≤ c' := by
  have hq := fun (wx : World) => Lib.run_eql_slice_nil (P := Try.prog) wx 39 3 A n c 0 0 Try.underlying39
  cases A with
  | none =>
    have h0 : n = 0 := by
      rcases Nat.eq_zero_or_pos n with h0 | h0
      · exact h0
      · obtain ⟨b, off, hA, _⟩ := h.2 h0; cases hA
    have hl := h.1
    subst h0
    obtain rfl := List.eq_nil_of_length_eq_zero hl
    clear hl
    go_enter Try.func83, Try.ntmps83
    go_wp2_with fail
    go_ret
    exact ⟨none, 0, rfl, own_nil _ _ _ _, Below.refl _ _, Nat.le_refl _⟩
  | some ad =>
    have H1 := Lib.hid h1
    clear h1
    have o0 : Own (w.alloc (.cells #[] 3)) w.heap.size (w.heap.size + 1) 3 (some ⟨w.heap.size, 0, none⟩) 0 0 [] := by
      simpa using Own.made (w := w) (base := w.heap.size) (e := 3) (cs := #[]) (n := 0) (Nat.le_refl _) (by unfold maxLen; omega) rfl
    go_enter Try.func83, Try.ntmps83
    go_wp2_with (at_builtin; refine wpList_appendN rfl _ _ 39 rfl 3 (.int .i64 0) 8 Try.underlying39 Try.infoInt rfl o0 rfl ad n c vs rfl (h.alloc _) H1.out (by omega) (by omega) (by simp) ?_; intro A' c' w' hown' hg)
    rw [List.nil_append, Nat.zero_add] at hown'
    go_ret
    exact ⟨A', c', rfl, hown', belowG (below1 w _) hg o0 (Nat.le_refl _), hown'.cap⟩



end Go.Proofs.Ytepnhhehfkcgkaa
