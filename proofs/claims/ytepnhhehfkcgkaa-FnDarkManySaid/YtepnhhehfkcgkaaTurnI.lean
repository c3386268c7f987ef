/-
  RegionTurn and RegionFlip of the program: what they return.
-/
import Derived.Test.YtepnhhehfkcgkaaTurn
namespace Go.Proofs.Ytepnhhehfkcgkaa
open Go.RowKit

def turnW (W T : Int) (n : Nat) (bs : List Bool) : Int := if validB W T n bs then T else 0
def turnH (W T : Int) (n : Nat) (bs : List Bool) : Int := if validB W T n bs then W else 0
def turnC (W T : Int) (n : Nat) (bs : List Bool) : List Bool := if validB W T n bs then putL n (turnT W.toNat T.toNat) bs n else []
theorem turn_yes {W T n : Nat} {bs : List Bool} (hv : validB W T n bs = true) : turnW W T n bs = T ∧ turnH W T n bs = W ∧ turnC W T n bs = putL n (turnT W T) bs n := by
  rw [turnW, turnH, turnC, if_pos hv, if_pos hv, if_pos hv]; exact ⟨rfl, rfl, rfl⟩
theorem turn_no {W T : Int} {n : Nat} {bs : List Bool} (hv : ¬ validB W T n bs = true) : turnW W T n bs = 0 ∧ turnH W T n bs = 0 ∧ turnC W T n bs = [] := by
  rw [turnW, turnH, turnC, if_neg hv, if_neg hv, if_neg hv]; exact ⟨rfl, rfl, rfl⟩
def flipW (W T : Int) (n : Nat) (bs : List Bool) : Int := if validB W T n bs then W else 0
def flipH (W T : Int) (n : Nat) (bs : List Bool) : Int := if validB W T n bs then T else 0
def flipC (W T : Int) (n : Nat) (bs : List Bool) : List Bool := if validB W T n bs then putL n (flipT W.toNat T.toNat) bs n else []
theorem flip_yes {W T n : Nat} {bs : List Bool} (hv : validB W T n bs = true) : flipW W T n bs = W ∧ flipH W T n bs = T ∧ flipC W T n bs = putL n (flipT W T) bs n := by
  rw [flipW, flipH, flipC, if_pos hv, if_pos hv, if_pos hv]; exact ⟨rfl, rfl, rfl⟩
theorem flip_no {W T : Int} {n : Nat} {bs : List Bool} (hv : ¬ validB W T n bs = true) : flipW W T n bs = 0 ∧ flipH W T n bs = 0 ∧ flipC W T n bs = [] := by
  rw [flipW, flipH, flipC, if_neg hv, if_neg hv, if_neg hv]; exact ⟨rfl, rfl, rfl⟩

set_option maxHeartbeats 400000 in
theorem flip_impl (A : Option Addr) (n c : Nat) (W T : Int) (bs : List Bool) (w : World) (hn : n ≤ 1048576) (h : Sl w A n (bs.map .bool)) :
    Calls Try.prog 24 #[.agg #[.int .i64 W, .int .i64 T, .slice A n c]] w fun e w' => OutR w w' e (flipW W T n bs) (flipH W T n bs) (flipC W T n bs) := by
  have hl := h.1
  rw [List.length_map] at hl
  by_cases hv : validB W T n bs = true
  · obtain ⟨W, T, rfl, rfl, V⟩ := valid_of hv hl
    obtain ⟨e1, e2, e3⟩ := flip_yes hv
    rw [e1, e2, e3]
    clear hl e1 e2 e3
    go_enter Try.func24, Try.ntmps24
    go_wp2_with fail
    refine (valid_impl A n c W T bs _ (by omega) ((h.alloc _).alloc _)).mono ?_; rintro e w1 ⟨rfl, hb1⟩
    have z1 : w.heap.size + 1 + 1 ≤ w1.heap.size := by have h := hb1.size; simp only [World.size_alloc] at h; exact h
    have X1 := ((Box.new w (.int .i64 W) (.int .i64 T) (.slice A n c) 34).alloc (.cells #[.int .i64 0, .int .i64 0, .slice none 0 0] 34)).below hb1
    have R1 : Box w1 (w.heap.size + 1) (.int .i64 0) (.int .i64 0) (.slice none 0 0) := by simpa using (Box.new (w.alloc (.cells #[.int .i64 W, .int .i64 T, .slice A n c] 34)) (.int .i64 0) (.int .i64 0) (.slice none 0 0) 34).below hb1
    have T1 : Thaw w1 (w.heap.size + 1) := by simpa using (Thaw.new (w.alloc (.cells #[.int .i64 W, .int .i64 T, .slice A n c] 34)) #[.int .i64 0, .int .i64 0, .slice none 0 0] 34).below hb1
    have B1 : Below w.heap.size w w1 := belowW (belowA (below1 w _)) hb1
    have k1 := X1.1
    have k2 := X1.2.1
    have k3 := X1.2.2
    clear hb1
    go_wp2_with fail
    refine (put_mirrored A n c W T bs _ V (h.below B1)).mono ?_; rintro e w2 ⟨D, d, d0, rfl, hown, hb2, hm⟩
    have R2 := R1.below hb2
    have T2 := T1.below hb2
    have B2 := belowW B1 hb2
    clear R1 T1 B1 X1 k1 k2 k3
    have f1 := T2.2 0
    have f2 := T2.2 1
    have f3 := T2.2 2
    have k4 := R2.1
    have k5 := R2.2.1
    have k6 := R2.2.2
    go_wp2_with fail
    rw [putL_len] at hown
    rw [putL_len]
    refine bodyPost_ret (v := .agg #[_, _, .slice D n d]) (by simp [results, Try.results24, go_sem, k4, k5, k6]) rfl (OutR.mkL (c0 := d0) (putL_len _ _ _ _) (by omega) ?_ ?_)
    · exact ((((hown.setBelow (show w.heap.size + 1 < w1.heap.size by omega) _).setBelow (show w.heap.size + 1 < w1.heap.size by omega) _).setBelow (show w.heap.size + 1 < w1.heap.size by omega) _).base (by omega)).top (by simp)
    · exact ((B2.setCell (show w.heap.size ≤ w.heap.size + 1 by omega) _).setCell (show w.heap.size ≤ w.heap.size + 1 by omega) _).setCell (show w.heap.size ≤ w.heap.size + 1 by omega) _
  · obtain ⟨e1, e2, e3⟩ := flip_no hv
    rw [e1, e2, e3]
    have hv' : validB W T n bs = false := by simpa using hv
    clear hv hl e1 e2 e3
    go_enter Try.func24, Try.ntmps24
    go_wp2_with fail
    refine (valid_impl A n c W T bs _ (by omega) ((h.alloc _).alloc _)).mono ?_; rintro e w1 ⟨rfl, hb1⟩
    have R1 : Box w1 (w.heap.size + 1) (.int .i64 0) (.int .i64 0) (.slice none 0 0) := by simpa using (Box.new (w.alloc (.cells #[.int .i64 W, .int .i64 T, .slice A n c] 34)) (.int .i64 0) (.int .i64 0) (.slice none 0 0) 34).below hb1
    have T1 : Thaw w1 (w.heap.size + 1) := by simpa using (Thaw.new (w.alloc (.cells #[.int .i64 W, .int .i64 T, .slice A n c] 34)) #[.int .i64 0, .int .i64 0, .slice none 0 0] 34).below hb1
    have B1 : Below w.heap.size w w1 := belowW (belowA (below1 w _)) hb1
    have f1 := T1.2 0
    have f2 := T1.2 1
    have f3 := T1.2 2
    have k4 := R1.1
    have k5 := R1.2.1
    have k6 := R1.2.2
    go_wp2_with fail
    exact bodyPost_ret (v := .agg #[.int .i64 0, .int .i64 0, .slice none 0 0]) (by simp [results, Try.results24, go_sem, k4, k5, k6]) rfl (outR_zero w (((B1.setCell (show w.heap.size ≤ w.heap.size + 1 by omega) _).setCell (show w.heap.size ≤ w.heap.size + 1 by omega) _).setCell (show w.heap.size ≤ w.heap.size + 1 by omega) _))

end Go.Proofs.Ytepnhhehfkcgkaa
