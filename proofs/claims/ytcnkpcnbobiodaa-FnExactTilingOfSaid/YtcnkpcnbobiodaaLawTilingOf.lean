/-
  The law FnExactTilingOf: its walk. By program (wip/tools/genlaw.py).
-/
import Derived.Test.YtcnkpcnbobiodaaRankS
import Derived.Test.YtcnkpcnbobiodaaLawB
import Derived.Test.YtcnkpcnbobiodaaLawI
import Derived.Test.YtcnkpcnbobiodaaMem2
import Derived.Deep.RegionHeld3
import Derived.Deep.DeepCutAuto
namespace Go.Proofs.Ytcnkpcnbobiodaa
open Go.RowKit


set_option maxRecDepth 100000 in
set_option maxHeartbeats 2000000 in
theorem law_TilingOf (A0 : Option Addr) (n0 c0 : Nat) (W0 T0 : Int) (bs0 : List Bool) (x1 : Int) (w : World) (hn0 : n0 ≤ 9223372036854775807) (h0 : Sl w A0 n0 (bs0.map .bool)) (hx1 : I64 x1) :
    Calls Try.prog 11 #[.agg #[.int .i64 W0, .int .i64 T0, .slice A0 n0 c0], .int .i64 x1] w fun e w' => e = .returned (.bool true) ∧ Below w.heap.size w w' := by
  by_cases hbig0 : (1048576 : Int) < (n0 : Int)
  · have e0 : szV 1048576 n0 = -1 := by rw [szV, if_pos (by omega)]
    go_enter Try.func11, Try.ntmps11
    go_wp2_with fail
    refine (szRegion_any A0 n0 c0 W0 T0 1048576 _ hn0 (by omega) (by omega)).mono ?_; rintro e w1 ⟨rfl, hb1⟩
    have B0 : Below w.heap.size w w := Below.refl _ _
    have z1 : w.heap.size + 1 ≤ w1.heap.size := by have h := hb1.size; simp only [World.size_alloc] at h; exact h
    have B1 := belowW (belowA B0) hb1
    have p0_1 := (Box.new w (.int .i64 W0) (.int .i64 T0) (.slice A0 n0 c0) 24).below hb1
    clear hb1  
    have k_p00 := p0_1.1
    have k_p01 := p0_1.2.1
    have k_p02 := p0_1.2.2
    rw [e0]
    go_wp2_with fail
    go_ret
    exact ⟨rfl, B1⟩
  have e0 : szV 1048576 n0 = 1048576 - (n0 : Int) := by rw [szV, if_neg (by omega)]
  go_enter Try.func11, Try.ntmps11
  go_wp2_with fail
  refine (szRegion_any A0 n0 c0 W0 T0 1048576 _ hn0 (by omega) (by omega)).mono ?_; rintro e w1 ⟨rfl, hb1⟩
  have B0 : Below w.heap.size w w := Below.refl _ _
  have z1 : w.heap.size + 1 ≤ w1.heap.size := by have h := hb1.size; simp only [World.size_alloc] at h; exact h
  have B1 := belowW (belowA B0) hb1
  have p0_1 := (Box.new w (.int .i64 W0) (.int .i64 T0) (.slice A0 n0 c0) 24).below hb1
  clear hb1  
  have k_p00 := p0_1.1
  have k_p01 := p0_1.2.1
  have k_p02 := p0_1.2.2
  rw [e0]
  go_wp2_with fail
  refine (toRegion_any A0 n0 c0 W0 T0 bs0 _ (by omega) (h0.below B1)).mono ?_; rintro e w2 ⟨g2, rfl, or2, hb2⟩
  clear k_p00 k_p01 k_p02
  have z2 : w1.heap.size ≤ w2.heap.size := hb2.size
  have B2 := belowW B1 hb2
  have p0_2 := p0_1.below hb2
  have s0_2 : Own w2 (w1.heap.size) w2.heap.size 4 (some ⟨g2, 0, none⟩) n0 n0 (bs0.map .bool) := or2
  clear hb2 or2 p0_1 B1
  have k_p00 := p0_2.1
  have k_p01 := p0_2.2.1
  have k_p02 := p0_2.2.2
  go_wp2_with fail
  refine (tof_spec (some ⟨g2, 0, none⟩) n0 n0 W0 T0 bs0 x1 _ (by omega) s0_2.sl hx1).mono ?_; rintro e w3 ⟨Q3, q3, d3, rfl, or3, hb3, hm3⟩
  clear k_p00 k_p01 k_p02
  have z3 : w2.heap.size ≤ w3.heap.size := hb3.size
  have B3 := belowW B2 hb3
  have p0_3 := p0_2.below hb3
  have s0_3 := s0_2.below hb3
  have w0_3 : Own w3 (w2.heap.size) w3.heap.size 3 Q3 (tofZ W0 T0 n0 bs0 x1).length d3 ((tofZ W0 T0 n0 bs0 x1).map (.int .i64)) := or3
  clear hb3 or3 p0_2 s0_2 B2
  have k_p00 := p0_3.1
  have k_p01 := p0_3.2.1
  have k_p02 := p0_3.2.2
  go_wp2_with fail
  refine (toRegion_any A0 n0 c0 W0 T0 bs0 _ (by omega) (h0.below B3)).mono ?_; rintro e w4 ⟨g4, rfl, or4, hb4⟩
  clear k_p00 k_p01 k_p02
  have z4 : w3.heap.size ≤ w4.heap.size := hb4.size
  have B4 := belowW B3 hb4
  have p0_4 := p0_3.below hb4
  have w0_4 := w0_3.below hb4
  have x0_4 : Own w4 (w3.heap.size) w4.heap.size 4 (some ⟨g4, 0, none⟩) n0 n0 (bs0.map .bool) := or4
  clear hb4 or4 p0_3 w0_3 B3
  have k_p00 := p0_4.1
  have k_p01 := p0_4.2.1
  have k_p02 := p0_4.2.2
  have l_p0 := p0_4.lt
  have m_p0 := Nat.ne_of_lt l_p0
  go_wp2_with fail
  refine (tof_impl (some ⟨g4, 0, none⟩) n0 n0 W0 T0 bs0 x1 _ (by omega) (x0_4.sl.alloc _) hx1).mono ?_; rintro e w5 ⟨Q5, q5, d5, rfl, or5, hb5, hm5⟩
  clear l_p0 m_p0
  clear k_p00 k_p01 k_p02
  have z5 : w4.heap.size + 1 ≤ w5.heap.size := by have h := hb5.size; simp only [World.size_alloc] at h; exact h
  have B5 := belowW (belowA B4) hb5
  have p0_5 := (p0_4.alloc _).below hb5
  have w0_5 := (w0_4.alloc _).below hb5
  have x0_5 := (x0_4.alloc _).below hb5
  have xx0_5 := (Box.new w4 (.int .i64 W0) (.int .i64 T0) (.slice (some ⟨g4, 0, none⟩) n0 n0) 27).below hb5
  have g0_5 : Own w5 (w4.heap.size + 1) w5.heap.size 3 Q5 (tofZ W0 T0 n0 bs0 x1).length d5 ((tofZ W0 T0 n0 bs0 x1).map (.int .i64)) := or5.base (by simp)
  clear hb5 or5 p0_4 w0_4 x0_4 B4
  have k_p00 := p0_5.1
  have k_p01 := p0_5.2.1
  have k_p02 := p0_5.2.2
  have k_xx00 := xx0_5.1
  have k_xx01 := xx0_5.2.1
  have k_xx02 := xx0_5.2.2
  go_wp2_with fail
  refine (eqIntS_any Q5 Q3 _ _ _ _ (tofZ W0 T0 n0 bs0 x1) (tofZ W0 T0 n0 bs0 x1) _ (by omega) g0_5.sl w0_5.sl).mono ?_; rintro e w6 ⟨rfl, hb6⟩
  clear k_p00 k_p01 k_p02 k_xx00 k_xx01 k_xx02
  have z6 : w5.heap.size ≤ w6.heap.size := hb6.size
  have B6 := belowW B5 hb6
  have p0_6 := p0_5.below hb6
  have xx0_6 := xx0_5.below hb6
  have w0_6 := w0_5.below hb6
  have x0_6 := x0_5.below hb6
  have g0_6 := g0_5.below hb6
  clear hb6  p0_5 xx0_5 w0_5 x0_5 g0_5 B5
  have k_p00 := p0_6.1
  have k_p01 := p0_6.2.1
  have k_p02 := p0_6.2.2
  have k_xx00 := xx0_6.1
  have k_xx01 := xx0_6.2.1
  have k_xx02 := xx0_6.2.2
  rw [eqI_self]
  go_wp2_with fail
  go_region_held3 (fun w' => w'.cell? ⟨w.heap.size, 0, none⟩ = some (.int .i64 W0) ∧ w'.cell? ⟨w.heap.size, 1, none⟩ = some (.int .i64 T0) ∧ w'.cell? ⟨w.heap.size, 2, none⟩ = some (.slice A0 n0 c0) ∧ w'.cell? ⟨w4.heap.size, 0, none⟩ = some (.int .i64 W0) ∧ w'.cell? ⟨w4.heap.size, 1, none⟩ = some (.int .i64 T0) ∧ w'.cell? ⟨w4.heap.size, 2, none⟩ = some (.slice (some ⟨g4, 0, none⟩) n0 n0))
    (first | exact ⟨p0_6.1, p0_6.2.1, p0_6.2.2, xx0_6.1, xx0_6.2.1, xx0_6.2.2⟩ | exact ⟨(p0_6.drew.below hb7).1, (p0_6.drew.below hb7).2.1, (p0_6.drew.below hb7).2.2, (xx0_6.drew.below hb7).1, (xx0_6.drew.below hb7).2.1, (xx0_6.drew.below hb7).2.2⟩ | exact ⟨((p0_6.drew.below hb7).below hb8).1, ((p0_6.drew.below hb7).below hb8).2.1, ((p0_6.drew.below hb7).below hb8).2.2, ((xx0_6.drew.below hb7).below hb8).1, ((xx0_6.drew.below hb7).below hb8).2.1, ((xx0_6.drew.below hb7).below hb8).2.2⟩)
    (first
      | (go_at_call 16; refine (toRegion_any A0 n0 c0 W0 T0 bs0 _ (by omega) (h0.below B6.drew)).mono ?_; rintro e w7 ⟨g7, rfl, or7, hb7⟩)
      | (go_at_call 18; refine (eqRegion_any _ _ n0 n0 _ _ W0 T0 W0 T0 bs0 bs0 _ (by omega) (x0_6.sl.drew.below hb7) or7.sl).mono ?_; rintro e w8 ⟨rfl, hb8⟩; rw [regEq_self]))
  have hb8' := below_step hb7 hb8 (Nat.le_refl _)
  clear hb8
  have hb8 : Below w6.heap.size w6.drew w8 := hb8'
  clear hb8' hb7 or7
  clear k_p00 k_p01 k_p02 k_xx00 k_xx01 k_xx02
  have z8 : w6.heap.size ≤ w8.heap.size := hb8.size
  have B8 := belowW (B6.drew) hb8
  have p0_8 := p0_6.drew.below hb8
  have xx0_8 := xx0_6.drew.below hb8
  have w0_8 := w0_6.drew.below hb8
  have x0_8 := x0_6.drew.below hb8
  have g0_8 := g0_6.drew.below hb8
  clear hb8  p0_6 xx0_6 w0_6 x0_6 g0_6 B6
  have k_p00 := p0_8.1
  have k_p01 := p0_8.2.1
  have k_p02 := p0_8.2.2
  have k_xx00 := xx0_8.1
  have k_xx01 := xx0_8.2.1
  have k_xx02 := xx0_8.2.2
  go_wp2_with fail
  refine (markRegion_any (some ⟨g4, 0, none⟩) _ _ _ _ _ _ bs0 (1) _ (by omega) (by omega) (by omega) x0_8).mono ?_; rintro e w9 ⟨rfl, or9, hb9⟩
  clear k_p00 k_p01 k_p02 k_xx00 k_xx01 k_xx02
  have z9 : w8.heap.size ≤ w9.heap.size := hb9.size
  have B9 := belowG B8 hb9 x0_8 (by have := B8.size; omega)
  have p0_9 := p0_8.grown hb9 (x0_8.offBox (by have := B8.size; omega))
  have xx0_9 := xx0_8.grown hb9 (x0_8.offBox (by have := B8.size; omega))
  have w0_9 := w0_8.grown hb9 (Own.apart w0_8 x0_8 (by omega))
  have g0_9 := g0_8.grown hb9 (Own.apart g0_8 x0_8 (by omega))
  clear hb9  p0_8 xx0_8 w0_8 x0_8 g0_8 B8
  have k_p00 := p0_9.1
  have k_p01 := p0_9.2.1
  have k_p02 := p0_9.2.2
  have k_xx00 := xx0_9.1
  have k_xx01 := xx0_9.2.1
  have k_xx02 := xx0_9.2.2
  clear or9
  go_wp2_with fail
  refine (eqIntS_any Q5 Q3 _ _ _ _ (tofZ W0 T0 n0 bs0 x1) (tofZ W0 T0 n0 bs0 x1) _ (by omega) g0_9.sl w0_9.sl).mono ?_; rintro e w10 ⟨rfl, hb10⟩
  clear k_p00 k_p01 k_p02 k_xx00 k_xx01 k_xx02
  have z10 : w9.heap.size ≤ w10.heap.size := hb10.size
  have B10 := belowW B9 hb10
  have p0_10 := p0_9.below hb10
  have xx0_10 := xx0_9.below hb10
  have w0_10 := w0_9.below hb10
  have g0_10 := g0_9.below hb10
  clear hb10  p0_9 xx0_9 w0_9 g0_9 B9
  have k_p00 := p0_10.1
  have k_p01 := p0_10.2.1
  have k_p02 := p0_10.2.2
  have k_xx00 := xx0_10.1
  have k_xx01 := xx0_10.2.1
  have k_xx02 := xx0_10.2.2
  rw [eqI_self]
  go_wp2_with fail
  refine (markIntS_any Q5 _ _ _ _ (tofZ W0 T0 n0 bs0 x1) 1 _ (by omega) (by omega) (by omega) g0_10).mono ?_; rintro e w11 ⟨rfl, or11, hb11⟩
  clear k_p00 k_p01 k_p02 k_xx00 k_xx01 k_xx02
  have z11 : w10.heap.size ≤ w11.heap.size := hb11.size
  have B11 := belowG B10 hb11 g0_10 (by have := B10.size; omega)
  have p0_11 := p0_10.grown hb11 (g0_10.offBox (by have := B10.size; omega))
  have xx0_11 := xx0_10.grown hb11 (g0_10.offBox (by have := B10.size; omega))
  have w0_11 := w0_10.grown hb11 (Own.apart w0_10 g0_10 (by omega))
  clear hb11  p0_10 xx0_10 w0_10 g0_10 B10
  have k_p00 := p0_11.1
  have k_p01 := p0_11.2.1
  have k_p02 := p0_11.2.2
  have k_xx00 := xx0_11.1
  have k_xx01 := xx0_11.2.1
  have k_xx02 := xx0_11.2.2
  have g0_11 := or11
  clear or11
  go_wp2_with fail
  refine (heldIntS_any Q5 _ _ 1 _ (by omega) (by omega) (by omega) g0_11.sl).mono ?_; rintro e w12 ⟨rfl, hb12⟩
  clear k_p00 k_p01 k_p02 k_xx00 k_xx01 k_xx02
  have z12 : w11.heap.size ≤ w12.heap.size := hb12.size
  have B12 := belowW B11 hb12
  have p0_12 := p0_11.below hb12
  have xx0_12 := xx0_11.below hb12
  have w0_12 := w0_11.below hb12
  have g0_12 := g0_11.below hb12
  clear hb12  p0_11 xx0_11 w0_11 g0_11 B11
  have k_p00 := p0_12.1
  have k_p01 := p0_12.2.1
  have k_p02 := p0_12.2.2
  have k_xx00 := xx0_12.1
  have k_xx01 := xx0_12.2.1
  have k_xx02 := xx0_12.2.2
  go_wp2_with fail
  refine (toRegion_any A0 n0 c0 W0 T0 bs0 _ (by omega) (h0.below B12)).mono ?_; rintro e w13 ⟨g13, rfl, or13, hb13⟩
  clear k_p00 k_p01 k_p02 k_xx00 k_xx01 k_xx02
  have z13 : w12.heap.size ≤ w13.heap.size := hb13.size
  have B13 := belowW B12 hb13
  have p0_13 := p0_12.below hb13
  have xx0_13 := xx0_12.below hb13
  have w0_13 := w0_12.below hb13
  have g0_13 := g0_12.below hb13
  have y0_13 : Own w13 (w12.heap.size) w13.heap.size 4 (some ⟨g13, 0, none⟩) n0 n0 (bs0.map .bool) := or13
  clear hb13 or13 p0_12 xx0_12 w0_12 g0_12 B12
  have k_p00 := p0_13.1
  have k_p01 := p0_13.2.1
  have k_p02 := p0_13.2.2
  have k_xx00 := xx0_13.1
  have k_xx01 := xx0_13.2.1
  have k_xx02 := xx0_13.2.2
  go_wp2_with fail
  refine (tof_impl (some ⟨g13, 0, none⟩) n0 n0 W0 T0 bs0 x1 _ (by omega) y0_13.sl hx1).mono ?_; rintro e w14 ⟨Q14, q14, d14, rfl, or14, hb14, hm14⟩
  clear k_p00 k_p01 k_p02 k_xx00 k_xx01 k_xx02
  have z14 : w13.heap.size ≤ w14.heap.size := hb14.size
  have B14 := belowW B13 hb14
  have p0_14 := p0_13.below hb14
  have xx0_14 := xx0_13.below hb14
  have w0_14 := w0_13.below hb14
  have g0_14 := g0_13.below hb14
  have y0_14 := y0_13.below hb14
  have h0_14 : Own w14 (w13.heap.size) w14.heap.size 3 Q14 (tofZ W0 T0 n0 bs0 x1).length d14 ((tofZ W0 T0 n0 bs0 x1).map (.int .i64)) := or14
  clear hb14 or14 p0_13 xx0_13 w0_13 g0_13 y0_13 B13
  have k_p00 := p0_14.1
  have k_p01 := p0_14.2.1
  have k_p02 := p0_14.2.2
  have k_xx00 := xx0_14.1
  have k_xx01 := xx0_14.2.1
  have k_xx02 := xx0_14.2.2
  go_wp2_with fail
  refine (eqIntS_any Q14 Q3 _ _ _ _ (tofZ W0 T0 n0 bs0 x1) (tofZ W0 T0 n0 bs0 x1) _ (by omega) h0_14.sl w0_14.sl).mono ?_; rintro e w15 ⟨rfl, hb15⟩
  clear k_p00 k_p01 k_p02 k_xx00 k_xx01 k_xx02
  have z15 : w14.heap.size ≤ w15.heap.size := hb15.size
  have B15 := belowW B14 hb15
  have p0_15 := p0_14.below hb15
  have xx0_15 := xx0_14.below hb15
  have w0_15 := w0_14.below hb15
  have g0_15 := g0_14.below hb15
  have h0_15 := h0_14.below hb15
  clear hb15  p0_14 xx0_14 w0_14 g0_14 h0_14 B14
  have k_p00 := p0_15.1
  have k_p01 := p0_15.2.1
  have k_p02 := p0_15.2.2
  have k_xx00 := xx0_15.1
  have k_xx01 := xx0_15.2.1
  have k_xx02 := xx0_15.2.2
  rw [eqI_self]
  go_wp2_with fail
  refine (heldIntS_any Q5 _ _ 1 _ (by omega) (by omega) (by omega) g0_15.sl).mono ?_; rintro e w16 ⟨rfl, hb16⟩
  clear k_p00 k_p01 k_p02 k_xx00 k_xx01 k_xx02
  have z16 : w15.heap.size ≤ w16.heap.size := hb16.size
  have B16 := belowW B15 hb16
  have p0_16 := p0_15.below hb16
  have xx0_16 := xx0_15.below hb16
  have w0_16 := w0_15.below hb16
  have g0_16 := g0_15.below hb16
  have h0_16 := h0_15.below hb16
  clear hb16  p0_15 xx0_15 w0_15 g0_15 h0_15 B15
  have k_p00 := p0_16.1
  have k_p01 := p0_16.2.1
  have k_p02 := p0_16.2.2
  have k_xx00 := xx0_16.1
  have k_xx01 := xx0_16.2.1
  have k_xx02 := xx0_16.2.2
  go_wp2_with fail
  go_ret
  exact ⟨rfl, B16⟩

end Go.Proofs.Ytcnkpcnbobiodaa
