/-
  CellsMany, CornerMany, DarkMany, RegionAt and what they call, both sides: what they return.
-/
import Derived.Test.YtepnhhehfkcgkaaValid
namespace Go.Proofs.Ytepnhhehfkcgkaa
open Go.RowKit

def cellsF (W T : Int) (n : Nat) (bs : List Bool) : Int := if validB W T n bs then cnt bs else -1

theorem cells_impl (A : Option Addr) (n c : Nat) (W T : Int) (bs : List Bool) (w : World) (hn : n ≤ 1048576) (h : Sl w A n (bs.map .bool)) :
    Calls Try.prog 25 #[.agg #[.int .i64 W, .int .i64 T, .slice A n c]] w fun e w' => e = .returned (.int .i64 (cellsF W T n bs)) ∧ Below w.heap.size w w' := by
  by_cases hv : validB W T n bs = true
  · have E : Hid (cellsF W T n bs = cnt bs) := by show _ = _; rw [cellsF, if_pos hv]
    go_enter Try.func25, Try.ntmps25
    go_wp2_with fail
    refine (valid_impl A n c W T bs _ (by omega) (h.alloc _)).mono ?_; rintro e w1 ⟨rfl, hb1⟩
    have r1 := (Box.new w (.int .i64 W) (.int .i64 T) (.slice A n c) 34).below hb1
    have k1 := r1.1
    have k2 := r1.2.1
    have k3 := r1.2.2
    go_wp2_with fail
    refine (many_any A n c bs _ (by omega) ((h.alloc _).below hb1)).mono ?_; rintro e w2 ⟨rfl, rfl⟩
    go_wp2_with fail
    go_ret
    exact ⟨ret_i E.out.symm, belowW (below1 w _) hb1⟩
  · have E : Hid (cellsF W T n bs = -1) := by show _ = _; rw [cellsF, if_neg hv]
    have hv' : validB W T n bs = false := by simpa using hv
    clear hv
    go_enter Try.func25, Try.ntmps25
    go_wp2_with fail
    refine (valid_impl A n c W T bs _ (by omega) (h.alloc _)).mono ?_; rintro e w1 ⟨rfl, hb1⟩
    go_wp2_with fail
    go_ret
    exact ⟨ret_i E.out.symm, belowW (below1 w _) hb1⟩
theorem cells_spec (A : Option Addr) (n c : Nat) (W T : Int) (bs : List Bool) (w : World) (hn : n ≤ 1048576) (h : Sl w A n (bs.map .bool)) :
    Calls Try.prog 27 #[.agg #[.int .i64 W, .int .i64 T, .slice A n c]] w fun e w' => e = .returned (.int .i64 (cellsF W T n bs)) ∧ Below w.heap.size w w' := by
  by_cases hv : validB W T n bs = true
  · have E : Hid (cellsF W T n bs = cnt bs) := by show _ = _; rw [cellsF, if_pos hv]
    go_enter Try.func27, Try.ntmps27
    go_wp2_with fail
    refine (valid_spec A n c W T bs _ (by omega) (h.alloc _)).mono ?_; rintro e w1 ⟨rfl, hb1⟩
    have r1 := (Box.new w (.int .i64 W) (.int .i64 T) (.slice A n c) 34).below hb1
    have k1 := r1.1
    have k2 := r1.2.1
    have k3 := r1.2.2
    go_wp2_with fail
    refine (l1Count_any A n c bs _ (by omega) ((h.alloc _).below hb1)).mono ?_; rintro e w2 ⟨rfl, rfl⟩
    go_wp2_with fail
    go_ret
    exact ⟨ret_i E.out.symm, belowW (below1 w _) hb1⟩
  · have E : Hid (cellsF W T n bs = -1) := by show _ = _; rw [cellsF, if_neg hv]
    have hv' : validB W T n bs = false := by simpa using hv
    clear hv
    go_enter Try.func27, Try.ntmps27
    go_wp2_with fail
    refine (valid_spec A n c W T bs _ (by omega) (h.alloc _)).mono ?_; rintro e w1 ⟨rfl, hb1⟩
    go_wp2_with fail
    go_ret
    exact ⟨ret_i E.out.symm, belowW (below1 w _) hb1⟩


def cornerF (W T : Int) (n : Nat) (bs : List Bool) : Int := if validB W T n bs then (W + 1) * (T + 1) else -1
theorem corner_bd {W T : Nat} (h2 : W ≤ 6) (h4 : T ≤ 6) : 0 ≤ ((W : Int) + 1) * ((T : Int) + 1) ∧ ((W : Int) + 1) * ((T : Int) + 1) ≤ 49 := by
  have a : W = 0 ∨ W = 1 ∨ W = 2 ∨ W = 3 ∨ W = 4 ∨ W = 5 ∨ W = 6 := by omega
  rcases a with rfl | rfl | rfl | rfl | rfl | rfl | rfl <;> omega




end Go.Proofs.Ytepnhhehfkcgkaa
