/-
  LaidBare, both sides: what they return.
-/
import Derived.Test.YtcnkpcnbobiodaaValid
import Derived.Test.YtcnkpcnbobiodaaMem2
import Derived.Test.YtcnkpcnbobiodaaLawI
namespace Go.Proofs.Ytcnkpcnbobiodaa
open Go.RowKit

def bareF (W T : Int) (n : Nat) (bs : List Bool) : List Int := if validB W T n bs then List.replicate n 0 else []

theorem bare_impl (A : Option Addr) (n c : Nat) (W T : Int) (bs : List Bool) (w : World) (hn : n ≤ 1048576) (h : Sl w A n (bs.map .bool)) :
    Calls Try.prog 71 #[.agg #[.int .i64 W, .int .i64 T, .slice A n c]] w fun e w' => OutL w w' e (bareF W T n bs) := by
  by_cases hv : validB W T n bs = true
  · have E : Hid (bareF W T n bs = List.replicate n 0) := by show _ = _; rw [bareF, if_pos hv]
    have hmk := run_make_row' (P := Try.prog) 33 3 (.int .i64 0) 8 Try.underlying33 Try.infoInt rfl .i64 .i64 n (by omega) (by omega)
    go_enter Try.func71, Try.ntmps71
    go_wp2_with fail
    refine (valid_impl A n c W T bs _ (by omega) (h.alloc _)).mono ?_; rintro e w1 ⟨rfl, hb1⟩
    have r1 := (Box.new w (.int .i64 W) (.int .i64 T) (.slice A n c) 27).below hb1
    have B1 := belowW (below1 w _) hb1
    have k1 := r1.1
    have k2 := r1.2.1
    have k3 := r1.2.2
    go_wp2_with fail
    have hm := Own.made (w := w1) (base := w.heap.size) (e := 3) (cs := madeCells #[.int .i64 0] n) (n := n) B1.size (by unfold maxLen; omega) (by rw [← Array.length_toList, toList_madeCells_one, List.length_replicate])
    rw [toList_madeCells_one] at hm
    rw [E.out]
    refine bodyPost_ret (v := .slice (some ⟨w1.heap.size, 0, none⟩) n n) (by simp [results, Try.results71, go_sem]) rfl (OutL.mk (by simp) (by omega) ?_ (belowA B1))
    rw [List.map_replicate]
    simpa using hm
  · have E : Hid (bareF W T n bs = []) := by show _ = _; rw [bareF, if_neg hv]
    have hv' : validB W T n bs = false := by simpa using hv
    clear hv
    go_enter Try.func71, Try.ntmps71
    go_wp2_with fail
    refine (valid_impl A n c W T bs _ (by omega) (h.alloc _)).mono ?_; rintro e w1 ⟨rfl, hb1⟩
    have B1 := belowW (below1 w _) hb1
    go_wp2_with fail
    rw [E.out]
    first
      | exact bodyPost_ret (v := .slice none 0 0) (by simp [results, Try.results71, go_sem]) rfl (outL_nil w B1)
      | (have hm := Own.made (w := w1) (base := w.heap.size) (e := 3) (cs := #[]) (n := 0) B1.size (by unfold maxLen; omega) rfl
         refine bodyPost_ret (v := .slice (some ⟨w1.heap.size, 0, none⟩) 0 0) (by simp [results, Try.results71, go_sem]) rfl (OutL.mk rfl (by omega) ?_ (belowA B1))
         simpa using hm)
theorem bare_spec (A : Option Addr) (n c : Nat) (W T : Int) (bs : List Bool) (w : World) (hn : n ≤ 1048576) (h : Sl w A n (bs.map .bool)) :
    Calls Try.prog 70 #[.agg #[.int .i64 W, .int .i64 T, .slice A n c]] w fun e w' => OutL w w' e (bareF W T n bs) := by
  by_cases hv : validB W T n bs = true
  · have E : Hid (bareF W T n bs = List.replicate n 0) := by show _ = _; rw [bareF, if_pos hv]
    have hmk := run_make_row' (P := Try.prog) 33 3 (.int .i64 0) 8 Try.underlying33 Try.infoInt rfl .i64 .i64 n (by omega) (by omega)
    go_enter Try.func70, Try.ntmps70
    go_wp2_with fail
    refine (valid_spec A n c W T bs _ (by omega) (h.alloc _)).mono ?_; rintro e w1 ⟨rfl, hb1⟩
    have r1 := (Box.new w (.int .i64 W) (.int .i64 T) (.slice A n c) 27).below hb1
    have B1 := belowW (below1 w _) hb1
    have k1 := r1.1
    have k2 := r1.2.1
    have k3 := r1.2.2
    go_wp2_with fail
    have hm := Own.made (w := w1) (base := w.heap.size) (e := 3) (cs := madeCells #[.int .i64 0] n) (n := n) B1.size (by unfold maxLen; omega) (by rw [← Array.length_toList, toList_madeCells_one, List.length_replicate])
    rw [toList_madeCells_one] at hm
    rw [E.out]
    refine bodyPost_ret (v := .slice (some ⟨w1.heap.size, 0, none⟩) n n) (by simp [results, Try.results70, go_sem]) rfl (OutL.mk (by simp) (by omega) ?_ (belowA B1))
    rw [List.map_replicate]
    simpa using hm
  · have E : Hid (bareF W T n bs = []) := by show _ = _; rw [bareF, if_neg hv]
    have hv' : validB W T n bs = false := by simpa using hv
    clear hv
    go_enter Try.func70, Try.ntmps70
    go_wp2_with fail
    refine (valid_spec A n c W T bs _ (by omega) (h.alloc _)).mono ?_; rintro e w1 ⟨rfl, hb1⟩
    have B1 := belowW (below1 w _) hb1
    go_wp2_with fail
    rw [E.out]
    first
      | exact bodyPost_ret (v := .slice none 0 0) (by simp [results, Try.results70, go_sem]) rfl (outL_nil w B1)
      | (have hm := Own.made (w := w1) (base := w.heap.size) (e := 3) (cs := #[]) (n := 0) B1.size (by unfold maxLen; omega) rfl
         refine bodyPost_ret (v := .slice (some ⟨w1.heap.size, 0, none⟩) 0 0) (by simp [results, Try.results70, go_sem]) rfl (OutL.mk rfl (by omega) ?_ (belowA B1))
         simpa using hm)

end Go.Proofs.Ytcnkpcnbobiodaa
