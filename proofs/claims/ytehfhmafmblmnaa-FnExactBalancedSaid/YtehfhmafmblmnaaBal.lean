/-
  Balanced, both sides: what they return.
-/
import Derived.Test.YtehfhmafmblmnaaDark
import Derived.Test.YtehfhmafmblmnaaScal
import Derived.Deep.RegionHeld3
import Derived.Deep.RegionLaw
import Derived.IntWalk
namespace Go.Proofs.Ytehfhmafmblmnaa
open Go.RowKit

def balF (W T : Int) (n : Nat) (bs : List Bool) : Bool := if validB W T n bs then decide (2 * darkN W.toNat bs n = cnt bs) else false

theorem darks_two (A : Option Addr) (n c W T : Nat) (bs : List Bool) (w : World) (_V : Valid W T n bs) (hn : n ≤ 1048576) (h : Sl w A n (bs.map .bool)) :
    Calls Try.prog 59 #[.agg #[.int .i64 W, .int .i64 T, .slice A n c]] w fun e w' => e = .returned (.int .i64 (darkN W bs n)) ∧ Below w.heap.size w w' := darks_any A n c W T bs w _V.w0 (by omega) h
theorem dark_two (A : Option Addr) (n c W T : Nat) (bs : List Bool) (w : World) (_V : Valid W T n bs) (hn : n ≤ 1048576) (h : Sl w A n (bs.map .bool)) :
    Calls Try.prog 56 #[.agg #[.int .i64 W, .int .i64 T, .slice A n c]] w fun e w' => e = .returned (.int .i64 (darkN W bs n)) ∧ Below w.heap.size w w' := by
  have e : darkF (W : Int) (T : Int) n bs = (darkN W bs n : Int) := by rw [darkF, if_pos _V.ok]; rfl
  have := dark_spec A n c W T bs w hn h
  rwa [e] at this
theorem many_two (A : Option Addr) (n c W T : Nat) (bs : List Bool) (w : World) (_V : Valid W T n bs) (hn : n ≤ 1048576) (h : Sl w A n (bs.map .bool)) :
    Calls Try.prog 60 #[.slice A n c] w fun e w' => e = .returned (.int .i64 (cnt bs)) ∧ Below w.heap.size w w' := by
  refine (many_any A n c bs w (by omega) h).mono ?_; rintro e w' ⟨rfl, rfl⟩
  exact ⟨rfl, Below.refl _ _⟩
theorem cells_two (A : Option Addr) (n c W T : Nat) (bs : List Bool) (w : World) (_V : Valid W T n bs) (hn : n ≤ 1048576) (h : Sl w A n (bs.map .bool)) :
    Calls Try.prog 57 #[.agg #[.int .i64 W, .int .i64 T, .slice A n c]] w fun e w' => e = .returned (.int .i64 (cnt bs)) ∧ Below w.heap.size w w' := by
  have e : cellsF (W : Int) (T : Int) n bs = (cnt bs : Int) := by rw [cellsF, if_pos _V.ok]
  have := cells_spec A n c W T bs w hn h
  rwa [e] at this

set_option maxHeartbeats 400000 in
theorem bal_impl (A : Option Addr) (n c : Nat) (W T : Int) (bs : List Bool) (w : World) (hn : n ≤ 1048576) (h : Sl w A n (bs.map .bool)) :
    Calls Try.prog 18 #[.agg #[.int .i64 W, .int .i64 T, .slice A n c]] w fun e w' => e = .returned (.bool (balF W T n bs)) ∧ Below w.heap.size w w' := by
  have hl := h.1
  rw [List.length_map] at hl
  by_cases hv : validB W T n bs = true
  · obtain ⟨W, T, rfl, rfl, V⟩ := valid_of hv hl
    have hd := Nat.le_trans (darkN_le W bs n) hn
    have hc := cnt_le bs
    have e1 : IntKind.i64.wrap (2 * (darkN W bs n : Int)) = 2 * (darkN W bs n : Int) := IntWalk.i64_in _ (by omega)
    have E : Hid (balF (W : Int) (T : Int) n bs = decide (2 * darkN W bs n = cnt bs)) := by show _ = _; rw [balF, if_pos hv]; rfl
    have HV := Lib.hid hv
    have HL := Lib.hid hl
    clear hl hv
    have x0 := Box.new w (.int .i64 W) (.int .i64 T) (.slice A n c) 27
    have s0 := h.alloc (.cells #[.int .i64 W, .int .i64 T, .slice A n c] 27)
    go_enter Try.func18, Try.ntmps18
    go_wp2_with fail
    go_region_held3 (fun w' => w'.cell? ⟨w.heap.size, 0, none⟩ = some (.int .i64 W) ∧ w'.cell? ⟨w.heap.size, 1, none⟩ = some (.int .i64 T) ∧ w'.cell? ⟨w.heap.size, 2, none⟩ = some (.slice A n c))
      (first | exact ⟨x0.1, x0.2.1, x0.2.2⟩ | exact ⟨(x0.drew.below hb1).1, (x0.drew.below hb1).2.1, (x0.drew.below hb1).2.2⟩ | exact ⟨((x0.drew.below hb1).below hb2).1, ((x0.drew.below hb1).below hb2).2.1, ((x0.drew.below hb1).below hb2).2.2⟩ | exact ⟨(((x0.drew.below hb1).below hb2).below hb3).1, (((x0.drew.below hb1).below hb2).below hb3).2.1, (((x0.drew.below hb1).below hb2).below hb3).2.2⟩)
      (first
        | (go_at_call 25; refine (valid_impl A n c W T bs _ (by omega) s0.drew).mono ?_; rintro e w1 ⟨rfl, hb1⟩; rw [HV.out])
        | (go_at_call 59; refine (darks_two A n c W T bs _ V hn (s0.drew.below hb1)).mono ?_; rintro e w2 ⟨rfl, hb2⟩)
        | (go_at_call 60; refine (many_two A n c W T bs _ V hn ((s0.drew.below hb1).below hb2)).mono ?_; rintro e w3 ⟨rfl, hb3⟩))
    go_wp2_with fail
    go_ret
    exact ⟨ret_b (by rw [E.out, Bool.eq_iff_iff, beq_iff_eq, decide_eq_true_iff]; omega), belowW (belowW (belowW (below1 w _).drew hb1) hb2) hb3⟩
  · have E : Hid (balF W T n bs = false) := by show _ = _; rw [balF, if_neg hv]
    have hv' : validB W T n bs = false := by simpa using hv
    have HV := Lib.hid hv'
    clear hv hv' hl
    have x0 := Box.new w (.int .i64 W) (.int .i64 T) (.slice A n c) 27
    have s0 := h.alloc (.cells #[.int .i64 W, .int .i64 T, .slice A n c] 27)
    go_enter Try.func18, Try.ntmps18
    go_wp2_with fail
    have k1 := x0.1
    have k2 := x0.2.1
    have k3 := x0.2.2
    first
      | go_region_with (go_at_call 25; refine (valid_impl A n c W T bs _ (by omega) s0.drew).mono ?_; rintro e w1 ⟨rfl, hb1⟩; rw [HV.out])
      | fail
    all_goals
      go_wp2_with fail
      go_ret
      exact ⟨ret_b E.out.symm, belowW (below1 w _).drew hb1⟩
set_option maxHeartbeats 400000 in
theorem bal_spec (A : Option Addr) (n c : Nat) (W T : Int) (bs : List Bool) (w : World) (hn : n ≤ 1048576) (h : Sl w A n (bs.map .bool)) :
    Calls Try.prog 16 #[.agg #[.int .i64 W, .int .i64 T, .slice A n c]] w fun e w' => e = .returned (.bool (balF W T n bs)) ∧ Below w.heap.size w w' := by
  have hl := h.1
  rw [List.length_map] at hl
  by_cases hv : validB W T n bs = true
  · obtain ⟨W, T, rfl, rfl, V⟩ := valid_of hv hl
    have hd := Nat.le_trans (darkN_le W bs n) hn
    have hc := cnt_le bs
    have e1 : IntKind.i64.wrap (2 * (darkN W bs n : Int)) = 2 * (darkN W bs n : Int) := IntWalk.i64_in _ (by omega)
    have E : Hid (balF (W : Int) (T : Int) n bs = decide (2 * darkN W bs n = cnt bs)) := by show _ = _; rw [balF, if_pos hv]; rfl
    have HV := Lib.hid hv
    have HL := Lib.hid hl
    clear hl hv
    have x0 := Box.new w (.int .i64 W) (.int .i64 T) (.slice A n c) 27
    have s0 := h.alloc (.cells #[.int .i64 W, .int .i64 T, .slice A n c] 27)
    go_enter Try.func16, Try.ntmps16
    go_wp2_with fail
    go_region_held3 (fun w' => w'.cell? ⟨w.heap.size, 0, none⟩ = some (.int .i64 W) ∧ w'.cell? ⟨w.heap.size, 1, none⟩ = some (.int .i64 T) ∧ w'.cell? ⟨w.heap.size, 2, none⟩ = some (.slice A n c))
      (first | exact ⟨x0.1, x0.2.1, x0.2.2⟩ | exact ⟨(x0.drew.below hb1).1, (x0.drew.below hb1).2.1, (x0.drew.below hb1).2.2⟩ | exact ⟨((x0.drew.below hb1).below hb2).1, ((x0.drew.below hb1).below hb2).2.1, ((x0.drew.below hb1).below hb2).2.2⟩ | exact ⟨(((x0.drew.below hb1).below hb2).below hb3).1, (((x0.drew.below hb1).below hb2).below hb3).2.1, (((x0.drew.below hb1).below hb2).below hb3).2.2⟩)
      (first
        | (go_at_call 55; refine (valid_spec A n c W T bs _ (by omega) s0.drew).mono ?_; rintro e w1 ⟨rfl, hb1⟩; rw [HV.out])
        | (go_at_call 56; refine (dark_two A n c W T bs _ V hn (s0.drew.below hb1)).mono ?_; rintro e w2 ⟨rfl, hb2⟩)
        | (go_at_call 57; refine (cells_two A n c W T bs _ V hn ((s0.drew.below hb1).below hb2)).mono ?_; rintro e w3 ⟨rfl, hb3⟩))
    go_wp2_with fail
    go_ret
    exact ⟨ret_b (by rw [E.out, Bool.eq_iff_iff, beq_iff_eq, decide_eq_true_iff]; omega), belowW (belowW (belowW (below1 w _).drew hb1) hb2) hb3⟩
  · have E : Hid (balF W T n bs = false) := by show _ = _; rw [balF, if_neg hv]
    have hv' : validB W T n bs = false := by simpa using hv
    have HV := Lib.hid hv'
    clear hv hv' hl
    have x0 := Box.new w (.int .i64 W) (.int .i64 T) (.slice A n c) 27
    have s0 := h.alloc (.cells #[.int .i64 W, .int .i64 T, .slice A n c] 27)
    go_enter Try.func16, Try.ntmps16
    go_wp2_with fail
    have k1 := x0.1
    have k2 := x0.2.1
    have k3 := x0.2.2
    first
      | go_region_with (go_at_call 55; refine (valid_spec A n c W T bs _ (by omega) s0.drew).mono ?_; rintro e w1 ⟨rfl, hb1⟩; rw [HV.out])
      | fail
    all_goals
      go_wp2_with fail
      go_ret
      exact ⟨ret_b E.out.symm, belowW (below1 w _).drew hb1⟩

end Go.Proofs.Ytehfhmafmblmnaa
