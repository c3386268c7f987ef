/-
  total and TilingsMany of the program: what they return.
-/
import Derived.Test.YtcnkpcnbobiodaaCnt
import Derived.Deep.RegionHeld3
namespace Go.Proofs.Ytcnkpcnbobiodaa
open Go.RowKit
open Til (on to cntA avC avL)

theorem zeros_sl {w : World} {n : Nat} (hn : n ≤ 36) : Sl (w.alloc (.cells (madeCells #[.int .i64 0] n) 3)) (some ⟨w.heap.size, 0, none⟩) n ((List.replicate n (0 : Int)).map (.int .i64)) := by
  have := (Own.made (w := w) (base := w.heap.size) (e := 3) (cs := madeCells #[.int .i64 0] n) (n := n) (Nat.le_refl _) (by unfold maxLen; omega) (by rw [← Array.length_toList, toList_madeCells_one, List.length_replicate])).sl
  rw [toList_madeCells_one] at this
  rw [List.map_replicate]; exact this

set_option maxHeartbeats 1000000 in
theorem total_any (A : Option Addr) (n c W T : Nat) (bs : List Bool) (w : World) (V : Valid W T n bs) (h : Sl w A n (bs.map .bool)) :
    Calls Try.prog 52 #[.agg #[.int .i64 W, .int .i64 T, .slice A n c]] w fun e w' => e = .returned (.int .i64 (cntA W T n 0 bs)) ∧ Below w.heap.size w w' := by
  have n36 := V.n36
  have hmk := run_make_row' (P := Try.prog) 33 3 (.int .i64 0) 8 Try.underlying33 Try.infoInt rfl .i64 .i64 n (by omega) (by omega)
  have x0 := Box.new w (.int .i64 W) (.int .i64 T) (.slice A n c) 27
  have s0 := h.alloc (.cells #[.int .i64 W, .int .i64 T, .slice A n c] 27)
  have z0 : Sl ((w.alloc (.cells #[.int .i64 W, .int .i64 T, .slice A n c] 27)).drew.alloc (.cells (madeCells #[.int .i64 0] n) 3)) (some ⟨w.heap.size + 1, 0, none⟩) n ((List.replicate n (0 : Int)).map (.int .i64)) := by
    have := zeros_sl (w := (w.alloc (.cells #[.int .i64 W, .int .i64 T, .slice A n c] 27)).drew) n36
    simpa using this
  have k1 := x0.1
  have k2 := x0.2.1
  have k3 := x0.2.2
  go_enter Try.func52, Try.ntmps52
  go_wp2_with fail
  go_region_held3 (fun w' => w'.cell? ⟨w.heap.size, 0, none⟩ = some (.int .i64 W) ∧ w'.cell? ⟨w.heap.size, 1, none⟩ = some (.int .i64 T) ∧ w'.cell? ⟨w.heap.size, 2, none⟩ = some (.slice A n c))
    (first | exact ⟨k1, k2, k3⟩ | go_keep)
    (first
      | (go_at_call 57; refine (count_any A n c W T bs (some ⟨w.heap.size + 1, 0, none⟩) n (List.replicate n 0) _ V (s0.drew.alloc _) z0).mono ?_; rintro e w4 ⟨rfl, hb4⟩; have x4 := (x0.drew.alloc _).below hb4; have q1 := x4.1; have q2 := x4.2.1; have q3 := x4.2.2)
      | fail)
  all_goals go_wp2_with fail
  go_ret
  exact ⟨ret_i (by rw [Til.cnt_bare]), belowW (belowA (below1 w _).drew) hb4⟩

/-- How many tilings; -1 where the region is not valid. -/
def tilF (W T : Int) (n : Nat) (bs : List Bool) : Int := if validB W T n bs then (cntA W.toNat T.toNat n 0 bs : Nat) else -1

set_option maxHeartbeats 1000000 in
theorem til_many_impl (A : Option Addr) (n c : Nat) (W T : Int) (bs : List Bool) (w : World) (hn : n ≤ 1048576) (h : Sl w A n (bs.map .bool)) :
    Calls Try.prog 17 #[.agg #[.int .i64 W, .int .i64 T, .slice A n c]] w fun e w' => e = .returned (.int .i64 (tilF W T n bs)) ∧ Below w.heap.size w w' := by
  have hl := h.1
  rw [List.length_map] at hl
  by_cases hv : validB W T n bs = true
  · obtain ⟨W, T, rfl, rfl, V⟩ := valid_of hv hl
    have E : Hid (tilF W T n bs = (cntA W T n 0 bs : Nat)) := by show _ = _; rw [tilF, if_pos hv]; rfl
    have HV := Lib.hid hv
    clear hl hv
    go_enter Try.func17, Try.ntmps17
    go_wp2_with fail
    refine (valid_impl A n c W T bs _ (by omega) (h.alloc _)).mono ?_; rintro e w1 ⟨rfl, hb1⟩
    rw [HV.out]
    have R1 := P1.of hb1
    clear hb1
    have k1 := R1.X.1
    have k2 := R1.X.2.1
    have k3 := R1.X.2.2
    go_wp2_with fail
    refine (total_any A n c W T bs _ V (h.below R1.B)).mono ?_; rintro e w2 ⟨rfl, hb2⟩
    go_wp2_with fail
    go_ret
    exact ⟨ret_i E.out.symm, belowW R1.B hb2⟩
  · have E : Hid (tilF W T n bs = -1) := by show _ = _; rw [tilF, if_neg hv]
    have hv' : validB W T n bs = false := by simpa using hv
    have HV := Lib.hid hv'
    clear hv hv' hl
    go_enter Try.func17, Try.ntmps17
    go_wp2_with fail
    refine (valid_impl A n c W T bs _ (by omega) (h.alloc _)).mono ?_; rintro e w1 ⟨rfl, hb1⟩
    rw [HV.out]
    go_wp2_with fail
    go_ret
    exact ⟨ret_i E.out.symm, belowW (below1 w _) hb1⟩

end Go.Proofs.Ytcnkpcnbobiodaa
