/-
  The drawn input of the law FnRegionAt.
-/
import Derived.Test.YtkaikpffdgamfaaDrawV
import Derived.Test.YtkaikpffdgamfaaAt
namespace Go.Proofs.Ytkaikpffdgamfaa
open Go.RowKit

def DrawnRAt (w : World) (e : Ending) (w' : World) : Prop :=
  ∃ (W T : Int) (cs : List Bool) (x y : Int) (D : Option Addr) (d : Nat), cs.length ≤ 100 ∧ (-1 ≤ x ∧ x ≤ 7) ∧ (-1 ≤ y ∧ y ≤ 7) ∧
    e = .returned (.tuple #[.agg #[.int .i64 W, .int .i64 T, .slice D cs.length d], .int .i64 x, .int .i64 y]) ∧ Own w' w.heap.size w'.heap.size 4 D cs.length d (cs.map .bool) ∧ Below w.heap.size w w'

set_option maxHeartbeats 1000000 in
theorem drawRAt_any (A : Option Addr) (n c : Nat) (us : List Int) (w : World) (hn : n ≤ 9223372036854775807 ∧ n ≤ c) (h : Sl w A n (us.map (.int .u8))) (hu : ∀ u ∈ us, 0 ≤ u ∧ u ≤ 255) :
    Calls Try.prog 41 #[.slice A n c] w (DrawnRAt w) := by
  have t0 := Thaw.new w #[.int .i64 0, .int .i64 0, .slice none 0 0] 27
  have x0 := Box.new w (.int .i64 0) (.int .i64 0) (.slice none 0 0) 27
  go_enter Try.func41, Try.ntmps41
  go_wp2_with fail
  refine (open_any A n c us _ hn.1 hn.2 (h.alloc _) hu).mono ?_; rintro e w1 ⟨he, ⟨n', us', hrd⟩, hb1, hs1⟩
  simp only [World.size_alloc] at he hrd hs1
  subst he
  have hs1' : w1.heap.size = w.heap.size + 2 := by omega
  have t1 := t0.below hb1
  have x1 := x0.below hb1
  have B1 := belowW (below1 w _) hb1
  go_wp2_with fail
  refine (region_any (w.heap.size + 1) A n' c us' 0 9 _ hrd (by omega) ⟨by omega, by omega⟩).mono ?_; rintro e w2 ⟨W, T, cs, D, d, p', rfl, hown, hg, hcs, hp', hrd2, -, -, -, -⟩
  have hne : some w.heap.size ≠ some (w.heap.size + 1) := by simp
  have t2 := t1.grown hg hne
  have x2 := x1.grown hg hne
  have B2 := grown_below' B1 hg (Nat.le_succ _) B1.size
  have hz2 := B2.size
  have hzw := hg.size
  clear t0 x0 t1 x1 hb1 B1 hrd hg
  go_wp2_with fail
  refine (pick_any (w.heap.size + 1) A n' c us' p' 8 _ hrd2 (by omega) ⟨by omega, by omega⟩).mono ?_; rintro e w3 ⟨v3, rfl, hv3, hv3', hrd3, hg3⟩
  have t3 := t2.grown hg3 hne
  have x3 := x2.grown hg3 hne
  have B3 := grown_below' B2 hg3 (Nat.le_succ _) B2.size
  have o3 := hown.grown hg3 (fun b off hA => by have := (hown.2 b off hA).1; simp; omega)
  have hz3 := hg3.size
  clear t2 x2 B2 hrd2 hown hg3
  go_wp2_with fail
  refine (pick_any (w.heap.size + 1) A n' c us' (p' + 1) 8 _ hrd3 (by omega) ⟨by omega, by omega⟩).mono ?_; rintro e w4 ⟨v4, rfl, hv4, hv4', hrd4, hg4⟩
  have t4 := t3.grown hg4 hne
  have x4 := x3.grown hg4 hne
  have B4 := grown_below' B3 hg4 (Nat.le_succ _) B3.size
  have hown := o3.grown hg4 (fun b off hA => by have := (o3.2 b off hA).1; simp; omega)
  have hz4 := hg4.size
  clear t3 x3 B3 hrd3 o3 hg4 hrd4
  have f0 := t4.2 0
  have f1 := t4.2 1
  have f2 := t4.2 2
  have c0 := x4.1
  have c1 := x4.2.1
  have c2 := x4.2.2
  go_wp2_with fail
  refine bodyPost_ret (v := .tuple #[.agg #[.int .i64 W, .int .i64 T, .slice D cs.length d], .int .i64 (v3 - 1), .int .i64 (v4 - 1)]) (by simp [results, Try.results41, go_sem, c0, c1, c2]) rfl ⟨W, T, cs, v3 - 1, v4 - 1, D, d, hcs, by omega, by omega, rfl, ?_, (((B4.setCell (Nat.le_refl _) _).setCell (Nat.le_refl _) _).setCell (Nat.le_refl _) _)⟩
  exact ((((hown.setBelow (show w.heap.size < w1.heap.size by omega) _).setBelow (show w.heap.size < w1.heap.size by omega) _).setBelow (show w.heap.size < w1.heap.size by omega) _).base (by omega)).top (by simp; omega)

end Go.Proofs.Ytkaikpffdgamfaa
