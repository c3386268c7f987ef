/-
  The drawn inputs of the laws FnDarkMany and FnCellsMany.
-/
import Derived.Test.YtepnhhehfkcgkaaDrawV
namespace Go.Proofs.Ytepnhhehfkcgkaa
open Go.RowKit

set_option maxHeartbeats 1000000 in
theorem drawDM_any (A : Option Addr) (n c : Nat) (us : List Int) (w : World) (hn : n ≤ 9223372036854775807 ∧ n ≤ c) (h : Sl w A n (us.map (.int .u8))) (hu : ∀ u ∈ us, 0 ≤ u ∧ u ≤ 255) :
    Calls Try.prog 21 #[.slice A n c] w fun e w' => ∃ (W T : Int) (cs : List Bool), cs.length ≤ 100 ∧ OutR w w' e W T cs := by
  have t0 := Thaw.new w #[.int .i64 0, .int .i64 0, .slice none 0 0] 34
  have x0 := Box.new w (.int .i64 0) (.int .i64 0) (.slice none 0 0) 34
  go_enter Try.func21, Try.ntmps21
  go_wp2_with fail
  refine (open_any A n c us _ hn.1 hn.2 (h.alloc _) hu).mono ?_; rintro e w1 ⟨he, ⟨n', us', hrd⟩, hb1, hs1⟩
  simp only [World.size_alloc] at he hrd hs1
  subst he
  have hs1' : w1.heap.size = w.heap.size + 2 := by omega
  have t1 := t0.below hb1
  have x1 := x0.below hb1
  have B1 := belowW (below1 w _) hb1
  go_wp2_with fail
  refine (region_any (w.heap.size + 1) A n' c us' 0 9 _ hrd (by omega) ⟨by omega, by omega⟩).mono ?_; rintro e w2 ⟨W, T, cs, D, d, p', rfl, hown, hg, hcs, -, -, -, -, -, -⟩
  have hne : some w.heap.size ≠ some (w.heap.size + 1) := by simp
  have t2 := t1.grown hg hne
  have x2 := x1.grown hg hne
  have B2 := grown_below' B1 hg (Nat.le_succ _) B1.size
  have hz2 := B2.size
  clear t0 x0 t1 x1 hb1 B1 hrd
  have f0 := t2.2 0
  have f1 := t2.2 1
  have f2 := t2.2 2
  have c0 := x2.1
  have c1 := x2.2.1
  have c2 := x2.2.2
  go_wp2_with fail
  refine bodyPost_ret (v := .agg #[.int .i64 W, .int .i64 T, .slice D cs.length d]) (by simp [results, Try.results21, go_sem, c0, c1, c2]) rfl ⟨W, T, cs, hcs, OutR.mk rfl (by omega) ?_ (((B2.setCell (Nat.le_refl _) _).setCell (Nat.le_refl _) _).setCell (Nat.le_refl _) _)⟩
  exact ((((hown.setBelow (show w.heap.size < w1.heap.size by omega) _).setBelow (show w.heap.size < w1.heap.size by omega) _).setBelow (show w.heap.size < w1.heap.size by omega) _).base (by omega)).top (by simp)
set_option maxHeartbeats 1000000 in
theorem drawCE_any (A : Option Addr) (n c : Nat) (us : List Int) (w : World) (hn : n ≤ 9223372036854775807 ∧ n ≤ c) (h : Sl w A n (us.map (.int .u8))) (hu : ∀ u ∈ us, 0 ≤ u ∧ u ≤ 255) :
    Calls Try.prog 26 #[.slice A n c] w fun e w' => ∃ (W T : Int) (cs : List Bool), cs.length ≤ 100 ∧ OutR w w' e W T cs := by
  have t0 := Thaw.new w #[.int .i64 0, .int .i64 0, .slice none 0 0] 34
  have x0 := Box.new w (.int .i64 0) (.int .i64 0) (.slice none 0 0) 34
  go_enter Try.func26, Try.ntmps26
  go_wp2_with fail
  refine (open_any A n c us _ hn.1 hn.2 (h.alloc _) hu).mono ?_; rintro e w1 ⟨he, ⟨n', us', hrd⟩, hb1, hs1⟩
  simp only [World.size_alloc] at he hrd hs1
  subst he
  have hs1' : w1.heap.size = w.heap.size + 2 := by omega
  have t1 := t0.below hb1
  have x1 := x0.below hb1
  have B1 := belowW (below1 w _) hb1
  go_wp2_with fail
  refine (region_any (w.heap.size + 1) A n' c us' 0 9 _ hrd (by omega) ⟨by omega, by omega⟩).mono ?_; rintro e w2 ⟨W, T, cs, D, d, p', rfl, hown, hg, hcs, -, -, -, -, -, -⟩
  have hne : some w.heap.size ≠ some (w.heap.size + 1) := by simp
  have t2 := t1.grown hg hne
  have x2 := x1.grown hg hne
  have B2 := grown_below' B1 hg (Nat.le_succ _) B1.size
  have hz2 := B2.size
  clear t0 x0 t1 x1 hb1 B1 hrd
  have f0 := t2.2 0
  have f1 := t2.2 1
  have f2 := t2.2 2
  have c0 := x2.1
  have c1 := x2.2.1
  have c2 := x2.2.2
  go_wp2_with fail
  refine bodyPost_ret (v := .agg #[.int .i64 W, .int .i64 T, .slice D cs.length d]) (by simp [results, Try.results26, go_sem, c0, c1, c2]) rfl ⟨W, T, cs, hcs, OutR.mk rfl (by omega) ?_ (((B2.setCell (Nat.le_refl _) _).setCell (Nat.le_refl _) _).setCell (Nat.le_refl _) _)⟩
  exact ((((hown.setBelow (show w.heap.size < w1.heap.size by omega) _).setBelow (show w.heap.size < w1.heap.size by omega) _).setBelow (show w.heap.size < w1.heap.size by omega) _).base (by omega)).top (by simp)

end Go.Proofs.Ytepnhhehfkcgkaa
