/-
  CellsMany, CornerMany, DarkMany, RegionAt and what they call, both sides: what they return.
-/
import Derived.Test.YtehfhmafmblmnaaValid
namespace Go.Proofs.Ytehfhmafmblmnaa
open Go.RowKit

def cellsF (W T : Int) (n : Nat) (bs : List Bool) : Int := if validB W T n bs then cnt bs else -1

theorem cells_impl (A : Option Addr) (n c : Nat) (W T : Int) (bs : List Bool) (w : World) (hn : n ≤ 1048576) (h : Sl w A n (bs.map .bool)) :
    Calls Try.prog 70 #[.agg #[.int .i64 W, .int .i64 T, .slice A n c]] w fun e w' => e = .returned (.int .i64 (cellsF W T n bs)) ∧ Below w.heap.size w w' := by
  by_cases hv : validB W T n bs = true
  · have E : Hid (cellsF W T n bs = cnt bs) := by show _ = _; rw [cellsF, if_pos hv]
    go_enter Try.func70, Try.ntmps70
    go_wp2_with fail
    refine (valid_impl A n c W T bs _ (by omega) (h.alloc _)).mono ?_; rintro e w1 ⟨rfl, hb1⟩
    have r1 := (Box.new w (.int .i64 W) (.int .i64 T) (.slice A n c) 27).below hb1
    have k1 := r1.1
    have k2 := r1.2.1
    have k3 := r1.2.2
    go_wp2_with fail
    refine (many_any A n c bs _ (by omega) ((h.alloc _).below hb1)).mono ?_; rintro e w2 ⟨rfl, rfl⟩
    go_wp2_with fail
    go_ret
    exact ⟨ret_i E.out.symm, belowW (below1 w _) hb1⟩
  · have E : Hid (cellsF W T n bs = -1) := by show _ = _; rw [cellsF, if_neg hv]
    have hv' : validB W T n bs = false := by simpa using hv
    clear hv
    go_enter Try.func70, Try.ntmps70
    go_wp2_with fail
    refine (valid_impl A n c W T bs _ (by omega) (h.alloc _)).mono ?_; rintro e w1 ⟨rfl, hb1⟩
    go_wp2_with fail
    go_ret
    exact ⟨ret_i E.out.symm, belowW (below1 w _) hb1⟩
theorem cells_spec (A : Option Addr) (n c : Nat) (W T : Int) (bs : List Bool) (w : World) (hn : n ≤ 1048576) (h : Sl w A n (bs.map .bool)) :
    Calls Try.prog 57 #[.agg #[.int .i64 W, .int .i64 T, .slice A n c]] w fun e w' => e = .returned (.int .i64 (cellsF W T n bs)) ∧ Below w.heap.size w w' := by
  by_cases hv : validB W T n bs = true
  · have E : Hid (cellsF W T n bs = cnt bs) := by show _ = _; rw [cellsF, if_pos hv]
    go_enter Try.func57, Try.ntmps57
    go_wp2_with fail
    refine (valid_spec A n c W T bs _ (by omega) (h.alloc _)).mono ?_; rintro e w1 ⟨rfl, hb1⟩
    have r1 := (Box.new w (.int .i64 W) (.int .i64 T) (.slice A n c) 27).below hb1
    have k1 := r1.1
    have k2 := r1.2.1
    have k3 := r1.2.2
    go_wp2_with fail
    refine (l1Count_any A n c bs _ (by omega) ((h.alloc _).below hb1)).mono ?_; rintro e w2 ⟨rfl, rfl⟩
    go_wp2_with fail
    go_ret
    exact ⟨ret_i E.out.symm, belowW (below1 w _) hb1⟩
  · have E : Hid (cellsF W T n bs = -1) := by show _ = _; rw [cellsF, if_neg hv]
    have hv' : validB W T n bs = false := by simpa using hv
    clear hv
    go_enter Try.func57, Try.ntmps57
    go_wp2_with fail
    refine (valid_spec A n c W T bs _ (by omega) (h.alloc _)).mono ?_; rintro e w1 ⟨rfl, hb1⟩
    go_wp2_with fail
    go_ret
    exact ⟨ret_i E.out.symm, belowW (below1 w _) hb1⟩


def cornerF (W T : Int) (n : Nat) (bs : List Bool) : Int := if validB W T n bs then (W + 1) * (T + 1) else -1
theorem corner_bd {W T : Nat} (h2 : W ≤ 6) (h4 : T ≤ 6) : 0 ≤ ((W : Int) + 1) * ((T : Int) + 1) ∧ ((W : Int) + 1) * ((T : Int) + 1) ≤ 49 := by
  have a : W = 0 ∨ W = 1 ∨ W = 2 ∨ W = 3 ∨ W = 4 ∨ W = 5 ∨ W = 6 := by omega
  rcases a with rfl | rfl | rfl | rfl | rfl | rfl | rfl <;> omega

theorem corners_any (A : Option Addr) (n c : Nat) (W T : Nat) (w : World) (hW : W ≤ 6) (hT : T ≤ 6) :
    Calls Try.prog 68 #[.agg #[.int .i64 W, .int .i64 T, .slice A n c]] w fun e w' => e = .returned (.int .i64 (((W : Int) + 1) * ((T : Int) + 1))) ∧ Below w.heap.size w w' := by
  obtain ⟨b1, b2⟩ := corner_bd hW hT
  go_enter Try.func68, Try.ntmps68
  go_wp2_with fail
  go_ret
  exact ⟨rfl, below1 w _⟩

theorem corner_impl (A : Option Addr) (n c : Nat) (W T : Int) (bs : List Bool) (w : World) (hn : n ≤ 1048576) (h : Sl w A n (bs.map .bool)) :
    Calls Try.prog 23 #[.agg #[.int .i64 W, .int .i64 T, .slice A n c]] w fun e w' => e = .returned (.int .i64 (cornerF W T n bs)) ∧ Below w.heap.size w w' := by
  have hl := h.1
  rw [List.length_map] at hl
  by_cases hv : validB W T n bs = true
  · obtain ⟨W, T, rfl, rfl, V⟩ := valid_of hv hl
    have E : Hid (cornerF W T n bs = ((W : Int) + 1) * ((T : Int) + 1)) := by show _ = _; rw [cornerF, if_pos hv]
    clear hl
    go_enter Try.func23, Try.ntmps23
    go_wp2_with fail
    refine (valid_impl A n c W T bs _ (by omega) (h.alloc _)).mono ?_; rintro e w1 ⟨rfl, hb1⟩
    have r1 := (Box.new w (.int .i64 W) (.int .i64 T) (.slice A n c) 27).below hb1
    have k1 := r1.1
    have k2 := r1.2.1
    have k3 := r1.2.2
    go_wp2_with fail
    refine (corners_any A n c W T _ V.w1 V.t1).mono ?_; rintro e w2 ⟨rfl, hb2⟩
    go_wp2_with fail
    go_ret
    exact ⟨ret_i E.out.symm, belowW (belowW (below1 w _) hb1) hb2⟩
  · have E : Hid (cornerF W T n bs = -1) := by show _ = _; rw [cornerF, if_neg hv]
    have hv' : validB W T n bs = false := by simpa using hv
    clear hv hl
    go_enter Try.func23, Try.ntmps23
    go_wp2_with fail
    refine (valid_impl A n c W T bs _ (by omega) (h.alloc _)).mono ?_; rintro e w1 ⟨rfl, hb1⟩
    go_wp2_with fail
    go_ret
    exact ⟨ret_i E.out.symm, belowW (below1 w _) hb1⟩

theorem corner_spec (A : Option Addr) (n c : Nat) (W T : Int) (bs : List Bool) (w : World) (hn : n ≤ 1048576) (h : Sl w A n (bs.map .bool)) :
    Calls Try.prog 24 #[.agg #[.int .i64 W, .int .i64 T, .slice A n c]] w fun e w' => e = .returned (.int .i64 (cornerF W T n bs)) ∧ Below w.heap.size w w' := by
  have hl := h.1
  rw [List.length_map] at hl
  by_cases hv : validB W T n bs = true
  · obtain ⟨W, T, rfl, rfl, V⟩ := valid_of hv hl
    have E : Hid (cornerF W T n bs = ((W : Int) + 1) * ((T : Int) + 1)) := by show _ = _; rw [cornerF, if_pos hv]
    obtain ⟨b1, b2⟩ := corner_bd V.w1 V.t1
    have b3 := V.w1
    have b4 := V.t1
    clear hl
    go_enter Try.func24, Try.ntmps24
    go_wp2_with fail
    refine (valid_spec A n c W T bs _ (by omega) (h.alloc _)).mono ?_; rintro e w1 ⟨rfl, hb1⟩
    have r1 := (Box.new w (.int .i64 W) (.int .i64 T) (.slice A n c) 27).below hb1
    have k1 := r1.1
    have k2 := r1.2.1
    have k3 := r1.2.2
    go_wp2_with fail
    go_ret
    exact ⟨ret_i E.out.symm, belowW (below1 w _) hb1⟩
  · have E : Hid (cornerF W T n bs = -1) := by show _ = _; rw [cornerF, if_neg hv]
    have hv' : validB W T n bs = false := by simpa using hv
    clear hv hl
    go_enter Try.func24, Try.ntmps24
    go_wp2_with fail
    refine (valid_spec A n c W T bs _ (by omega) (h.alloc _)).mono ?_; rintro e w1 ⟨rfl, hb1⟩
    go_wp2_with fail
    go_ret
    exact ⟨ret_i E.out.symm, belowW (below1 w _) hb1⟩

end Go.Proofs.Ytehfhmafmblmnaa
