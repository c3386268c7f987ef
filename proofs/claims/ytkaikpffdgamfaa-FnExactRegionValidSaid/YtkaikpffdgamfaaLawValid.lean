/-
  The law FnExactRegionValid: its walk.
-/
import Derived.Test.YtkaikpffdgamfaaValid
import Derived.Deep.RegionHeld3
namespace Go.Proofs.Ytkaikpffdgamfaa
open Go.RowKit

set_option maxHeartbeats 400000 in
theorem law_valid (A : Option Addr) (n c : Nat) (W T : Int) (bs : List Bool) (w : World) (hn : n ≤ 9223372036854775807) (h : Sl w A n (bs.map .bool)) :
    Calls Try.prog 7 #[.agg #[.int .i64 W, .int .i64 T, .slice A n c]] w fun e w' => e = .returned (.bool true) ∧ Below w.heap.size w w' := by
  by_cases hbig : 1048576 < n
  · have e : szV 1048576 n = -1 := by rw [szV, if_pos (by omega)]
    go_enter Try.func7, Try.ntmps7
    go_wp2_with (go_at_call 24; refine (szRegion_any A n c W T _ _ hn (by omega) (by omega)).mono ?_; rintro e w1 ⟨rfl, hb1⟩)
    go_ret
    exact ⟨rfl, (below1 w _).trans (hb1.mono (by simp))⟩
  · have e : 0 ≤ szV 1048576 n := by rw [szV, if_neg (by omega)]; omega
    go_enter Try.func7, Try.ntmps7
    go_wp2_with fail
    refine (szRegion_any A n c W T _ _ hn (by omega) (by omega)).mono ?_; rintro e w1 ⟨rfl, hb1⟩
    have r1 := (Box.new w (.int .i64 W) (.int .i64 T) (.slice A n c) 32).below hb1
    have B1 : Below w.heap.size w w1 := (below1 w _).trans (hb1.mono (by simp))
    have k1 := r1.1
    have k2 := r1.2.1
    have k3 := r1.2.2
    go_wp2_with fail
    refine (toRegion_any A n c W T bs _ (by omega) ((h.alloc _).below hb1)).mono ?_; rintro e w2 ⟨g2, rfl, hown2, hb2⟩
    clear k1 k2 k3
    have r2 := r1.below hb2
    have B2 := belowW B1 hb2
    go_wp2_with fail
    refine (valid_spec _ n n W T bs _ (by omega) hown2.sl).mono ?_; rintro e w3 ⟨rfl, hb3⟩
    have r3 := r2.below hb3
    have B3 := belowW B2 hb3
    have k1 := r3.1
    have k2 := r3.2.1
    have k3 := r3.2.2
    go_wp2_with fail
    refine (toRegion_any A n c W T bs _ (by omega) (h.below B3)).mono ?_; rintro e w4 ⟨g4, rfl, hown4, hb4⟩
    clear k1 k2 k3
    have r4 := r3.below hb4
    have B4 := belowW B3 hb4
    go_wp2_with fail
    refine (valid_impl _ n n W T bs _ (by omega) (hown4.sl.alloc _)).mono ?_; rintro e w5 ⟨rfl, hb5⟩
    have x5 := (Box.new w4 (.int .i64 W) (.int .i64 T) (.slice (some ⟨g4, 0, none⟩) n n) 27).below hb5
    have r5 := (r4.alloc (.cells #[.int .i64 W, .int .i64 T, .slice (some ⟨g4, 0, none⟩) n n] 27)).below hb5
    have B5 := belowW (B4.alloc B4.size _) hb5
    have s5 := (hown4.sl.alloc _).below hb5
    have k1 := r5.1
    have k2 := r5.2.1
    have k3 := r5.2.2
    have k4 := x5.1
    have k5 := x5.2.1
    have k6 := x5.2.2
    go_wp2_with fail
    clear r1 r2 r3 r4 hb1 hb2 hb3 hb4 hb5 hown2 hown4 B1 B2 B3 B4
    go_region_held3 (fun w' => w'.cell? ⟨w.heap.size, 0, none⟩ = some (.int .i64 W) ∧ w'.cell? ⟨w.heap.size, 1, none⟩ = some (.int .i64 T) ∧ w'.cell? ⟨w.heap.size, 2, none⟩ = some (.slice A n c) ∧ w'.cell? ⟨w4.heap.size, 0, none⟩ = some (.int .i64 W) ∧ w'.cell? ⟨w4.heap.size, 1, none⟩ = some (.int .i64 T) ∧ w'.cell? ⟨w4.heap.size, 2, none⟩ = some (.slice (some ⟨g4, 0, none⟩) n n))
      (first | exact ⟨k1, k2, k3, k4, k5, k6⟩ | exact ⟨(r5.drew.below hb6).1, (r5.drew.below hb6).2.1, (r5.drew.below hb6).2.2, (x5.drew.below hb6).1, (x5.drew.below hb6).2.1, (x5.drew.below hb6).2.2⟩ | exact ⟨((r5.drew.below hb6).below hb7).1, ((r5.drew.below hb6).below hb7).2.1, ((r5.drew.below hb6).below hb7).2.2, ((x5.drew.below hb6).below hb7).1, ((x5.drew.below hb6).below hb7).2.1, ((x5.drew.below hb6).below hb7).2.2⟩)
      (first
        | (go_at_call 26; refine (toRegion_any A n c W T bs _ (by omega) (h.below B5.drew)).mono ?_; rintro e w6 ⟨g6, rfl, hown6, hb6⟩)
        | (go_at_call 21; refine (eqRegion_any _ _ n n _ _ W T W T bs bs _ (by omega) (s5.drew.below hb6) hown6.sl).mono ?_; rintro e w7 ⟨rfl, hb7⟩; rw [regEq_self]))
    go_wp2_with fail
    go_ret
    exact ⟨rfl, belowW (belowW B5.drew hb6) hb7⟩

end Go.Proofs.Ytkaikpffdgamfaa
