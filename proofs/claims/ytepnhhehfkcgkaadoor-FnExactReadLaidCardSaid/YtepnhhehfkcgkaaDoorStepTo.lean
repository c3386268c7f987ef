/-
  l2Step and StepTo, both sides: what they return.
-/
import Derived.Test.YtepnhhehfkcgkaaDoorStep
import Derived.Deep.QuietTactic
import Derived.BigQuiet
import Derived.IntWalk
namespace Go.Proofs.YtepnhhehfkcgkaaDoor
open Go.RowKit

theorem StepIn.i64 {W T k x y : Nat} (S : StepIn W T k x y) : IntKind.i64.wrap ((W : Int) - 1) = (W : Int) - 1 ∧ IntKind.i64.wrap ((T : Int) - 1) = (T : Int) - 1 ∧ ((W : Int) == 0) = false ∧ Int.tmod (k : Int) (W : Int) = (x : Int) ∧ Int.tdiv (k : Int) (W : Int) = (y : Int) ∧ (k : Int) % (W : Int) = (x : Int) ∧ (k : Int) / (W : Int) = (y : Int) := by
  have h1 := S.w0
  have h2 := S.w6
  have h3 := S.t0
  have h4 := S.t6
  have e1 : (k : Int) % (W : Int) = (x : Int) := by rw [← S.hx]; simp
  have e2 : (k : Int) / (W : Int) = (y : Int) := by rw [← S.hy]; simp
  refine ⟨IntWalk.i64_in _ (by omega), IntWalk.i64_in _ (by omega), beq_eq_false_iff_ne.2 (by omega), ?_, ?_, e1, e2⟩
  · rw [Int.tmod_eq_emod_of_nonneg (by omega)]; exact e1
  · rw [Int.tdiv_eq_ediv_of_nonneg (by omega)]; exact e2

set_option maxHeartbeats 400000 in
theorem l2Step_1y (A : Option Addr) (n c W T k x y : Nat) (w : World) (S : StepIn W T k x y) (hc : x + 1 < W) :
    Calls Tryd.prog 40 #[.agg #[.int .i64 W, .int .i64 T, .slice A n c], .int .i64 k, .int .i64 1] w fun e w' => e = .returned (.int .i64 ((k : Int) + 1)) ∧ Below w.heap.size w w' := by
  obtain ⟨i1, i2, i3, i4, i5, i6, i7⟩ := S.i64
  have s2 := S.w6
  have s7 := S.k36
  have s1 := S.w0
  have hW1 : (1 : Int) ≤ (W : Int) := by omega
  obtain ⟨h1, h2, h3, h4⟩ := div_bd k W
  have d1 : decide ((k : Int) % (W : Int) < (W : Int) - 1) = true := by first | exact decide_eq_true (by rw [i6]; omega) | exact decide_eq_true (by rw [i7]; omega) | exact decide_eq_false (by rw [i6]; omega) | exact decide_eq_false (by rw [i7]; omega)
  clear i4 i5 i6 i7
  have x0 := Box.new w (.int .i64 W) (.int .i64 T) (.slice A n c) 24
  have k1 := x0.1
  have k2 := x0.2.1
  have k3 := x0.2.2
  clear hc x0
  go_enter Tryd.func40, Tryd.ntmps40
  go_wp2_with fail
  repeat (go_quiet (fail); go_wp2_with fail)
  go_ret
  first
    | exact ⟨rfl, below_drewN (below1 w _) _⟩
    | exact ⟨rfl, below_drewN (below_drewN (below1 w _) _) _⟩
    | exact ⟨rfl, below_drewN (below_drewN (below_drewN (below1 w _) _) _) _⟩
    | exact ⟨rfl, below_drewN (below_drewN (below_drewN (below_drewN (below1 w _) _) _) _) _⟩
set_option maxHeartbeats 400000 in
theorem l2Step_1n (A : Option Addr) (n c W T k x y : Nat) (w : World) (S : StepIn W T k x y) (hc : ¬ x + 1 < W) :
    Calls Tryd.prog 40 #[.agg #[.int .i64 W, .int .i64 T, .slice A n c], .int .i64 k, .int .i64 1] w fun e w' => e = .returned (.int .i64 (-1)) ∧ Below w.heap.size w w' := by
  obtain ⟨i1, i2, i3, i4, i5, i6, i7⟩ := S.i64
  have s2 := S.w6
  have s7 := S.k36
  have s1 := S.w0
  have hW1 : (1 : Int) ≤ (W : Int) := by omega
  obtain ⟨h1, h2, h3, h4⟩ := div_bd k W
  have d1 : decide ((k : Int) % (W : Int) < (W : Int) - 1) = false := by first | exact decide_eq_true (by rw [i6]; omega) | exact decide_eq_true (by rw [i7]; omega) | exact decide_eq_false (by rw [i6]; omega) | exact decide_eq_false (by rw [i7]; omega)
  clear i4 i5 i6 i7
  have x0 := Box.new w (.int .i64 W) (.int .i64 T) (.slice A n c) 24
  have k1 := x0.1
  have k2 := x0.2.1
  have k3 := x0.2.2
  clear hc x0
  go_enter Tryd.func40, Tryd.ntmps40
  go_wp2_with fail
  repeat (go_quiet (fail); go_wp2_with fail)
  go_ret
  first
    | exact ⟨rfl, below_drewN (below1 w _) _⟩
    | exact ⟨rfl, below_drewN (below_drewN (below1 w _) _) _⟩
    | exact ⟨rfl, below_drewN (below_drewN (below_drewN (below1 w _) _) _) _⟩
    | exact ⟨rfl, below_drewN (below_drewN (below_drewN (below_drewN (below1 w _) _) _) _) _⟩
set_option maxHeartbeats 400000 in
theorem l2Step_2y (A : Option Addr) (n c W T k x y : Nat) (w : World) (S : StepIn W T k x y) (hc : y + 1 < T) :
    Calls Tryd.prog 40 #[.agg #[.int .i64 W, .int .i64 T, .slice A n c], .int .i64 k, .int .i64 2] w fun e w' => e = .returned (.int .i64 ((k : Int) + W)) ∧ Below w.heap.size w w' := by
  obtain ⟨i1, i2, i3, i4, i5, i6, i7⟩ := S.i64
  have s2 := S.w6
  have s7 := S.k36
  have s1 := S.w0
  have hW1 : (1 : Int) ≤ (W : Int) := by omega
  obtain ⟨h1, h2, h3, h4⟩ := div_bd k W
  have d1 : decide ((k : Int) / (W : Int) < (T : Int) - 1) = true := by first | exact decide_eq_true (by rw [i6]; omega) | exact decide_eq_true (by rw [i7]; omega) | exact decide_eq_false (by rw [i6]; omega) | exact decide_eq_false (by rw [i7]; omega)
  clear i4 i5 i6 i7
  have x0 := Box.new w (.int .i64 W) (.int .i64 T) (.slice A n c) 24
  have k1 := x0.1
  have k2 := x0.2.1
  have k3 := x0.2.2
  clear hc x0
  go_enter Tryd.func40, Tryd.ntmps40
  go_wp2_with fail
  repeat (go_quiet (fail); go_wp2_with fail)
  go_ret
  first
    | exact ⟨rfl, below_drewN (below1 w _) _⟩
    | exact ⟨rfl, below_drewN (below_drewN (below1 w _) _) _⟩
    | exact ⟨rfl, below_drewN (below_drewN (below_drewN (below1 w _) _) _) _⟩
    | exact ⟨rfl, below_drewN (below_drewN (below_drewN (below_drewN (below1 w _) _) _) _) _⟩
set_option maxHeartbeats 400000 in
theorem l2Step_2n (A : Option Addr) (n c W T k x y : Nat) (w : World) (S : StepIn W T k x y) (hc : ¬ y + 1 < T) :
    Calls Tryd.prog 40 #[.agg #[.int .i64 W, .int .i64 T, .slice A n c], .int .i64 k, .int .i64 2] w fun e w' => e = .returned (.int .i64 (-1)) ∧ Below w.heap.size w w' := by
  obtain ⟨i1, i2, i3, i4, i5, i6, i7⟩ := S.i64
  have s2 := S.w6
  have s7 := S.k36
  have s1 := S.w0
  have hW1 : (1 : Int) ≤ (W : Int) := by omega
  obtain ⟨h1, h2, h3, h4⟩ := div_bd k W
  have d1 : decide ((k : Int) / (W : Int) < (T : Int) - 1) = false := by first | exact decide_eq_true (by rw [i6]; omega) | exact decide_eq_true (by rw [i7]; omega) | exact decide_eq_false (by rw [i6]; omega) | exact decide_eq_false (by rw [i7]; omega)
  clear i4 i5 i6 i7
  have x0 := Box.new w (.int .i64 W) (.int .i64 T) (.slice A n c) 24
  have k1 := x0.1
  have k2 := x0.2.1
  have k3 := x0.2.2
  clear hc x0
  go_enter Tryd.func40, Tryd.ntmps40
  go_wp2_with fail
  repeat (go_quiet (fail); go_wp2_with fail)
  go_ret
  first
    | exact ⟨rfl, below_drewN (below1 w _) _⟩
    | exact ⟨rfl, below_drewN (below_drewN (below1 w _) _) _⟩
    | exact ⟨rfl, below_drewN (below_drewN (below_drewN (below1 w _) _) _) _⟩
    | exact ⟨rfl, below_drewN (below_drewN (below_drewN (below_drewN (below1 w _) _) _) _) _⟩
set_option maxHeartbeats 400000 in
theorem l2Step_3y (A : Option Addr) (n c W T k x y : Nat) (w : World) (S : StepIn W T k x y) (hc : 0 < x) :
    Calls Tryd.prog 40 #[.agg #[.int .i64 W, .int .i64 T, .slice A n c], .int .i64 k, .int .i64 3] w fun e w' => e = .returned (.int .i64 ((k : Int) - 1)) ∧ Below w.heap.size w w' := by
  obtain ⟨i1, i2, i3, i4, i5, i6, i7⟩ := S.i64
  have s2 := S.w6
  have s7 := S.k36
  have s1 := S.w0
  have hW1 : (1 : Int) ≤ (W : Int) := by omega
  obtain ⟨h1, h2, h3, h4⟩ := div_bd k W
  have d1 : decide ((0 : Int) < (k : Int) % (W : Int)) = true := by first | exact decide_eq_true (by rw [i6]; omega) | exact decide_eq_true (by rw [i7]; omega) | exact decide_eq_false (by rw [i6]; omega) | exact decide_eq_false (by rw [i7]; omega)
  clear i4 i5 i6 i7
  have x0 := Box.new w (.int .i64 W) (.int .i64 T) (.slice A n c) 24
  have k1 := x0.1
  have k2 := x0.2.1
  have k3 := x0.2.2
  clear hc x0
  go_enter Tryd.func40, Tryd.ntmps40
  go_wp2_with fail
  repeat (go_quiet (fail); go_wp2_with fail)
  go_ret
  first
    | exact ⟨rfl, below_drewN (below1 w _) _⟩
    | exact ⟨rfl, below_drewN (below_drewN (below1 w _) _) _⟩
    | exact ⟨rfl, below_drewN (below_drewN (below_drewN (below1 w _) _) _) _⟩
    | exact ⟨rfl, below_drewN (below_drewN (below_drewN (below_drewN (below1 w _) _) _) _) _⟩
set_option maxHeartbeats 400000 in
theorem l2Step_3n (A : Option Addr) (n c W T k x y : Nat) (w : World) (S : StepIn W T k x y) (hc : ¬ 0 < x) :
    Calls Tryd.prog 40 #[.agg #[.int .i64 W, .int .i64 T, .slice A n c], .int .i64 k, .int .i64 3] w fun e w' => e = .returned (.int .i64 (-1)) ∧ Below w.heap.size w w' := by
  obtain ⟨i1, i2, i3, i4, i5, i6, i7⟩ := S.i64
  have s2 := S.w6
  have s7 := S.k36
  have s1 := S.w0
  have hW1 : (1 : Int) ≤ (W : Int) := by omega
  obtain ⟨h1, h2, h3, h4⟩ := div_bd k W
  have d1 : decide ((0 : Int) < (k : Int) % (W : Int)) = false := by first | exact decide_eq_true (by rw [i6]; omega) | exact decide_eq_true (by rw [i7]; omega) | exact decide_eq_false (by rw [i6]; omega) | exact decide_eq_false (by rw [i7]; omega)
  clear i4 i5 i6 i7
  have x0 := Box.new w (.int .i64 W) (.int .i64 T) (.slice A n c) 24
  have k1 := x0.1
  have k2 := x0.2.1
  have k3 := x0.2.2
  clear hc x0
  go_enter Tryd.func40, Tryd.ntmps40
  go_wp2_with fail
  repeat (go_quiet (fail); go_wp2_with fail)
  go_ret
  first
    | exact ⟨rfl, below_drewN (below1 w _) _⟩
    | exact ⟨rfl, below_drewN (below_drewN (below1 w _) _) _⟩
    | exact ⟨rfl, below_drewN (below_drewN (below_drewN (below1 w _) _) _) _⟩
    | exact ⟨rfl, below_drewN (below_drewN (below_drewN (below_drewN (below1 w _) _) _) _) _⟩
set_option maxHeartbeats 400000 in
theorem l2Step_4y (A : Option Addr) (n c W T k x y : Nat) (w : World) (S : StepIn W T k x y) (hc : 0 < y) :
    Calls Tryd.prog 40 #[.agg #[.int .i64 W, .int .i64 T, .slice A n c], .int .i64 k, .int .i64 4] w fun e w' => e = .returned (.int .i64 ((k : Int) - W)) ∧ Below w.heap.size w w' := by
  obtain ⟨i1, i2, i3, i4, i5, i6, i7⟩ := S.i64
  have s2 := S.w6
  have s7 := S.k36
  have s1 := S.w0
  have hW1 : (1 : Int) ≤ (W : Int) := by omega
  obtain ⟨h1, h2, h3, h4⟩ := div_bd k W
  have d1 : decide ((0 : Int) < (k : Int) / (W : Int)) = true := by first | exact decide_eq_true (by rw [i6]; omega) | exact decide_eq_true (by rw [i7]; omega) | exact decide_eq_false (by rw [i6]; omega) | exact decide_eq_false (by rw [i7]; omega)
  clear i4 i5 i6 i7
  have x0 := Box.new w (.int .i64 W) (.int .i64 T) (.slice A n c) 24
  have k1 := x0.1
  have k2 := x0.2.1
  have k3 := x0.2.2
  clear hc x0
  go_enter Tryd.func40, Tryd.ntmps40
  go_wp2_with fail
  repeat (go_quiet (fail); go_wp2_with fail)
  go_ret
  first
    | exact ⟨rfl, below_drewN (below1 w _) _⟩
    | exact ⟨rfl, below_drewN (below_drewN (below1 w _) _) _⟩
    | exact ⟨rfl, below_drewN (below_drewN (below_drewN (below1 w _) _) _) _⟩
    | exact ⟨rfl, below_drewN (below_drewN (below_drewN (below_drewN (below1 w _) _) _) _) _⟩
set_option maxHeartbeats 400000 in
theorem l2Step_4n (A : Option Addr) (n c W T k x y : Nat) (w : World) (S : StepIn W T k x y) (hc : ¬ 0 < y) :
    Calls Tryd.prog 40 #[.agg #[.int .i64 W, .int .i64 T, .slice A n c], .int .i64 k, .int .i64 4] w fun e w' => e = .returned (.int .i64 (-1)) ∧ Below w.heap.size w w' := by
  obtain ⟨i1, i2, i3, i4, i5, i6, i7⟩ := S.i64
  have s2 := S.w6
  have s7 := S.k36
  have s1 := S.w0
  have hW1 : (1 : Int) ≤ (W : Int) := by omega
  obtain ⟨h1, h2, h3, h4⟩ := div_bd k W
  have d1 : decide ((0 : Int) < (k : Int) / (W : Int)) = false := by first | exact decide_eq_true (by rw [i6]; omega) | exact decide_eq_true (by rw [i7]; omega) | exact decide_eq_false (by rw [i6]; omega) | exact decide_eq_false (by rw [i7]; omega)
  clear i4 i5 i6 i7
  have x0 := Box.new w (.int .i64 W) (.int .i64 T) (.slice A n c) 24
  have k1 := x0.1
  have k2 := x0.2.1
  have k3 := x0.2.2
  clear hc x0
  go_enter Tryd.func40, Tryd.ntmps40
  go_wp2_with fail
  repeat (go_quiet (fail); go_wp2_with fail)
  go_ret
  first
    | exact ⟨rfl, below_drewN (below1 w _) _⟩
    | exact ⟨rfl, below_drewN (below_drewN (below1 w _) _) _⟩
    | exact ⟨rfl, below_drewN (below_drewN (below_drewN (below1 w _) _) _) _⟩
    | exact ⟨rfl, below_drewN (below_drewN (below_drewN (below_drewN (below1 w _) _) _) _) _⟩

end Go.Proofs.YtepnhhehfkcgkaaDoor
