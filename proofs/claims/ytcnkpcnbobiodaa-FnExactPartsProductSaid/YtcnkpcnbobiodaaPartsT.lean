/-
  PartsOf and PartsMany of the reference, for every region: what they return.
-/
import Derived.Test.YtcnkpcnbobiodaaPartsS
namespace Go.Proofs.Ytcnkpcnbobiodaa
open Go.RowKit

theorem partsOf_spec (A : Option Addr) (n c : Nat) (W T : Int) (bs : List Bool) (w : World) (hn : n ≤ 1048576) (h : Sl w A n (bs.map .bool)) :
    Calls Try.prog 59 #[.agg #[.int .i64 W, .int .i64 T, .slice A n c]] w fun e w' => OutL w w' e (partsF W T n bs) := by
  have hl := h.1
  rw [List.length_map] at hl
  by_cases hv : validB W T n bs = true
  · obtain ⟨W, T, rfl, rfl, V⟩ := valid_of hv hl
    have E : partsF W T n bs = partL W T bs := by rw [partsF, if_pos hv]; rfl
    rw [E]
    exact partsOf_spec_ok A n c W T bs w V h
  · have hv' : validB W T n bs = false := by simpa using hv
    have E : partsF W T n bs = [] := by rw [partsF, hv']; rfl
    rw [E]
    have HV := Lib.hid hv'
    have o0 : Own ((w.alloc (.cells #[.int .i64 W, .int .i64 T, .slice A n c] 27)).alloc (.cells #[] 3)) (w.heap.size + 1) (w.heap.size + 2) 3 (some ⟨w.heap.size + 1, 0, none⟩) 0 0 [] := by
      simpa using Own.made (w := w.alloc (.cells #[.int .i64 W, .int .i64 T, .slice A n c] 27)) (base := w.heap.size + 1) (e := 3) (cs := #[]) (n := 0) (by simp) (by unfold maxLen; omega) rfl
    clear hv hv' hl E
    go_enter Try.func59, Try.ntmps59
    go_wp2_with fail
    refine (valid_spec A n c W T bs _ (by omega) ((h.alloc _).alloc _)).mono ?_; rintro e w1 ⟨rfl, hb1⟩
    rw [HV.out]
    have o1 := (o0.below hb1).top (show w.heap.size + 2 ≤ w1.heap.size by have := hb1.size; simpa using this)
    go_wp2_with fail
    go_ret
    exact OutL.mk rfl (by omega) (by simpa using o1.base (show w.heap.size ≤ w.heap.size + 1 by omega)) (belowW (belowA (below1 w _)) hb1)


end Go.Proofs.Ytcnkpcnbobiodaa
