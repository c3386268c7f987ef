/-
  slices.Clone, slices.Clip and clone, of bools and of ints: what they return.
-/
import Derived.Test.YtcnkpcnbobiodaaMem2
import Derived.Test.YtcnkpcnbobiodaaApp
import Derived.Test.YtcnkpcnbobiodaaLawI
namespace Go.Proofs.Ytcnkpcnbobiodaa
open Go.RowKit

theorem bools_one (bs : List Bool) : ∀ u ∈ bs.map Value.bool, u.oneCell' = true := by
  intro u hu; obtain ⟨x, _, rfl⟩ := List.mem_map.1 hu; rfl
theorem ints_one (zs : List Int) : ∀ u ∈ zs.map (Value.int .i64), u.oneCell' = true := by
  intro u hu; obtain ⟨x, _, rfl⟩ := List.mem_map.1 hu; rfl

set_option maxHeartbeats 400000 in
theorem sclone_bool (A : Option Addr) (n c : Nat) (vs : List Value) (w : World) (hn : n ≤ 1048576) (h : Sl w A n vs) (h1 : ∀ u ∈ vs, u.oneCell' = true) :
    Calls Try.prog 91 #[.slice A n c] w fun e w' => ∃ A' c', e = .returned (.slice A' n c') ∧ Own w' w.heap.size w'.heap.size 4 A' n c' vs ∧ Below w.heap.size w w' ∧ n ≤ c' := by
  have hq := fun (wx : World) => Lib.run_eql_slice_nil (P := Try.prog) wx 22 4 A n c 0 0 Try.underlying22
  cases A with
  | none =>
    have h0 : n = 0 := by
      rcases Nat.eq_zero_or_pos n with h0 | h0
      · exact h0
      · obtain ⟨b, off, hA, _⟩ := h.2 h0; cases hA
    have hl := h.1
    subst h0
    obtain rfl := List.eq_nil_of_length_eq_zero hl
    clear hl
    go_enter Try.func91, Try.ntmps91
    go_wp2_with fail
    go_ret
    exact ⟨none, 0, rfl, own_nil _ _ _ _, Below.refl _ _, Nat.le_refl _⟩
  | some ad =>
    have H1 := Lib.hid h1
    clear h1
    have o0 : Own (w.alloc (.cells #[] 4)) w.heap.size (w.heap.size + 1) 4 (some ⟨w.heap.size, 0, none⟩) 0 0 [] := by
      simpa using Own.made (w := w) (base := w.heap.size) (e := 4) (cs := #[]) (n := 0) (Nat.le_refl _) (by unfold maxLen; omega) rfl
    go_enter Try.func91, Try.ntmps91
    go_wp2_with (at_builtin; refine wpList_appendN rfl _ _ 22 rfl 4 (.bool false) 1 Try.underlying22 Try.infoBool rfl o0 rfl ad n c vs rfl (h.alloc _) H1.out (by omega) (by omega) (by simp) ?_; intro A' c' w' hown' hg)
    rw [List.nil_append, Nat.zero_add] at hown'
    go_ret
    exact ⟨A', c', rfl, hown', belowG (below1 w _) hg o0 (Nat.le_refl _), hown'.cap⟩
set_option maxHeartbeats 400000 in
theorem sclone_int (A : Option Addr) (n c : Nat) (vs : List Value) (w : World) (hn : n ≤ 1048576) (h : Sl w A n vs) (h1 : ∀ u ∈ vs, u.oneCell' = true) :
    Calls Try.prog 97 #[.slice A n c] w fun e w' => ∃ A' c', e = .returned (.slice A' n c') ∧ Own w' w.heap.size w'.heap.size 3 A' n c' vs ∧ Below w.heap.size w w' ∧ n ≤ c' := by
  have hq := fun (wx : World) => Lib.run_eql_slice_nil (P := Try.prog) wx 33 3 A n c 0 0 Try.underlying33
  cases A with
  | none =>
    have h0 : n = 0 := by
      rcases Nat.eq_zero_or_pos n with h0 | h0
      · exact h0
      · obtain ⟨b, off, hA, _⟩ := h.2 h0; cases hA
    have hl := h.1
    subst h0
    obtain rfl := List.eq_nil_of_length_eq_zero hl
    clear hl
    go_enter Try.func97, Try.ntmps97
    go_wp2_with fail
    go_ret
    exact ⟨none, 0, rfl, own_nil _ _ _ _, Below.refl _ _, Nat.le_refl _⟩
  | some ad =>
    have H1 := Lib.hid h1
    clear h1
    have o0 : Own (w.alloc (.cells #[] 3)) w.heap.size (w.heap.size + 1) 3 (some ⟨w.heap.size, 0, none⟩) 0 0 [] := by
      simpa using Own.made (w := w) (base := w.heap.size) (e := 3) (cs := #[]) (n := 0) (Nat.le_refl _) (by unfold maxLen; omega) rfl
    go_enter Try.func97, Try.ntmps97
    go_wp2_with (at_builtin; refine wpList_appendN rfl _ _ 33 rfl 3 (.int .i64 0) 8 Try.underlying33 Try.infoInt rfl o0 rfl ad n c vs rfl (h.alloc _) H1.out (by omega) (by omega) (by simp) ?_; intro A' c' w' hown' hg)
    rw [List.nil_append, Nat.zero_add] at hown'
    go_ret
    exact ⟨A', c', rfl, hown', belowG (below1 w _) hg o0 (Nat.le_refl _), hown'.cap⟩

theorem sclip_int (A : Option Addr) (n c : Nat) (w : World) (_hn : n ≤ 1048576) (h : n ≤ c) :
    Calls Try.prog 62 #[.slice A n c] w fun e w' => e = .returned (.slice A n n) ∧ w = w' := by
  go_enter Try.func62, Try.ntmps62
  go_wp2_with fail
  go_ret
  exact ⟨rfl, rfl⟩
theorem sclip_ints (A : Option Addr) (n c : Nat) (w : World) (_hn : n ≤ 1048576) (h : n ≤ c) :
    Calls Try.prog 99 #[.slice A n c] w fun e w' => e = .returned (.slice A n n) ∧ w = w' := by
  go_enter Try.func99, Try.ntmps99
  go_wp2_with fail
  go_ret
  exact ⟨rfl, rfl⟩

theorem clone_int (A : Option Addr) (n c : Nat) (vs : List Value) (w : World) (hn : n ≤ 1048576) (h : Sl w A n vs) (h1 : ∀ u ∈ vs, u.oneCell' = true) :
    Calls Try.prog 68 #[.slice A n c] w fun e w' => ∃ A' c', e = .returned (.slice A' n n) ∧ Own w' w.heap.size w'.heap.size 3 A' n c' vs ∧ Below w.heap.size w w' := by
  have H1 := Lib.hid h1
  clear h1
  go_enter Try.func68, Try.ntmps68
  go_wp2_with fail
  refine (sclone_int A n c vs _ hn h H1.out).mono ?_; rintro e w1 ⟨A', c', rfl, hown, hb, hc⟩
  go_wp2_with fail
  refine (sclip_int A' n c' _ hn hc).mono ?_; rintro e w2 ⟨rfl, rfl⟩
  go_wp2_with fail
  go_ret
  exact ⟨A', c', rfl, hown, hb⟩

end Go.Proofs.Ytcnkpcnbobiodaa
