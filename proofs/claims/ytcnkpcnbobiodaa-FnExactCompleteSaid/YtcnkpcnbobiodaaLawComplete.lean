/-
  The law FnExactComplete: its walk. By program (wip/tools/genlaw.py).
-/
import Derived.Test.YtcnkpcnbobiodaaCompl
import Derived.Test.YtcnkpcnbobiodaaComplS
import Derived.Test.YtcnkpcnbobiodaaLawB
import Derived.Test.YtcnkpcnbobiodaaLawI
import Derived.Test.YtcnkpcnbobiodaaMem2
import Derived.Deep.RegionHeld3
import Derived.Deep.DeepCutAuto
namespace Go.Proofs.Ytcnkpcnbobiodaa
open Go.RowKit


set_option maxRecDepth 100000 in
set_option maxHeartbeats 2000000 in
theorem law_Complete (A0 : Option Addr) (n0 c0 : Nat) (W0 T0 : Int) (bs0 : List Bool) (A1 : Option Addr) (n1 c1 : Nat) (zs1 : List Int) (w : World) (hn0 : n0 ≤ 9223372036854775807) (h0 : Sl w A0 n0 (bs0.map .bool)) (hn1 : n1 ≤ 9223372036854775807) (h1 : Sl w A1 n1 (zs1.map (.int .i64))) (hz1 : ∀ z ∈ zs1, I64 z) :
    Calls Try.prog 7 #[.agg #[.int .i64 W0, .int .i64 T0, .slice A0 n0 c0], .slice A1 n1 c1] w fun e w' => e = .returned (.bool true) ∧ Below w.heap.size w w' := by
  by_cases hbig1 : 1048576 < n1
  · have hq : (1048576 : Int) < (n1 : Int) := by omega
    go_enter Try.func7, Try.ntmps7
    go_wp2_with fail
    go_ret
    exact ⟨rfl, below1 w _⟩
  by_cases hbig0 : (1048576 : Int) < (n0 : Int)
  · have e0 : szV 1048576 n0 = -1 := by rw [szV, if_pos (by omega)]
    go_enter Try.func7, Try.ntmps7
    go_wp2_with fail
    refine (szRegion_any A0 n0 c0 W0 T0 1048576 _ hn0 (by omega) (by omega)).mono ?_; rintro e w1 ⟨rfl, hb1⟩
    have B0 : Below w.heap.size w w := Below.refl _ _
    have z1 : w.heap.size + 1 ≤ w1.heap.size := by have h := hb1.size; simp only [World.size_alloc] at h; exact h
    have B1 := belowW (belowA B0) hb1
    have p0_1 := (Box.new w (.int .i64 W0) (.int .i64 T0) (.slice A0 n0 c0) 24).below hb1
    clear hb1  
    have k_p00 := p0_1.1
    have k_p01 := p0_1.2.1
    have k_p02 := p0_1.2.2
    rw [e0]
    go_wp2_with fail
    go_ret
    exact ⟨rfl, B1⟩
  have e0 : szV 1048576 n0 = 1048576 - (n0 : Int) := by rw [szV, if_neg (by omega)]
  go_enter Try.func7, Try.ntmps7
  go_wp2_with fail
  refine (szRegion_any A0 n0 c0 W0 T0 1048576 _ hn0 (by omega) (by omega)).mono ?_; rintro e w1 ⟨rfl, hb1⟩
  have B0 : Below w.heap.size w w := Below.refl _ _
  have z1 : w.heap.size + 1 ≤ w1.heap.size := by have h := hb1.size; simp only [World.size_alloc] at h; exact h
  have B1 := belowW (belowA B0) hb1
  have p0_1 := (Box.new w (.int .i64 W0) (.int .i64 T0) (.slice A0 n0 c0) 24).below hb1
  clear hb1  
  have k_p00 := p0_1.1
  have k_p01 := p0_1.2.1
  have k_p02 := p0_1.2.2
  rw [e0]
  go_wp2_with fail
  refine (toRegion_any A0 n0 c0 W0 T0 bs0 _ (by omega) (h0.below B1)).mono ?_; rintro e w2 ⟨g2, rfl, or2, hb2⟩
  clear k_p00 k_p01 k_p02
  have z2 : w1.heap.size ≤ w2.heap.size := hb2.size
  have B2 := belowW B1 hb2
  have p0_2 := p0_1.below hb2
  have s0_2 : Own w2 (w1.heap.size) w2.heap.size 4 (some ⟨g2, 0, none⟩) n0 n0 (bs0.map .bool) := or2
  clear hb2 or2 p0_1 B1
  have k_p00 := p0_2.1
  have k_p01 := p0_2.2.1
  have k_p02 := p0_2.2.2
  go_wp2_with fail
  refine (toIntS_any A1 n1 c1 zs1 _ (by omega) (h1.below B2)).mono ?_; rintro e w3 ⟨g3, rfl, or3, hb3⟩
  clear k_p00 k_p01 k_p02
  have z3 : w2.heap.size ≤ w3.heap.size := hb3.size
  have B3 := belowW B2 hb3
  have p0_3 := p0_2.below hb3
  have s0_3 := s0_2.below hb3
  have s1_3 : Own w3 (w2.heap.size) w3.heap.size 3 (some ⟨g3, 0, none⟩) n1 n1 (zs1.map (.int .i64)) := or3
  clear hb3 or3 p0_2 s0_2 B2
  have k_p00 := p0_3.1
  have k_p01 := p0_3.2.1
  have k_p02 := p0_3.2.2
  go_wp2_with fail
  refine (complete_spec (some ⟨g2, 0, none⟩) n0 n0 W0 T0 bs0 (some ⟨g3, 0, none⟩) n1 n1 zs1 _ (by omega) s0_3.sl (by omega) s1_3.sl hz1).mono ?_; rintro e w4 ⟨Q4, q4, d4, rfl, or4, hb4, hm4⟩
  clear k_p00 k_p01 k_p02
  have z4 : w3.heap.size ≤ w4.heap.size := hb4.size
  have B4 := belowW B3 hb4
  have p0_4 := p0_3.below hb4
  have s0_4 := s0_3.below hb4
  have s1_4 := s1_3.below hb4
  have w0_4 : Own w4 (w3.heap.size) w4.heap.size 3 Q4 (compZ W0 T0 n0 bs0 n1 zs1).length d4 ((compZ W0 T0 n0 bs0 n1 zs1).map (.int .i64)) := or4
  clear hb4 or4 p0_3 s0_3 s1_3 B3
  have k_p00 := p0_4.1
  have k_p01 := p0_4.2.1
  have k_p02 := p0_4.2.2
  go_wp2_with fail
  refine (toRegion_any A0 n0 c0 W0 T0 bs0 _ (by omega) (h0.below B4)).mono ?_; rintro e w5 ⟨g5, rfl, or5, hb5⟩
  clear k_p00 k_p01 k_p02
  have z5 : w4.heap.size ≤ w5.heap.size := hb5.size
  have B5 := belowW B4 hb5
  have p0_5 := p0_4.below hb5
  have w0_5 := w0_4.below hb5
  have x0_5 : Own w5 (w4.heap.size) w5.heap.size 4 (some ⟨g5, 0, none⟩) n0 n0 (bs0.map .bool) := or5
  clear hb5 or5 p0_4 w0_4 B4
  have k_p00 := p0_5.1
  have k_p01 := p0_5.2.1
  have k_p02 := p0_5.2.2
  have l_p0 := p0_5.lt
  have m_p0 := Nat.ne_of_lt l_p0
  go_wp2_with fail
  refine (toIntS_any A1 n1 c1 zs1 _ (by omega) (h1.below (belowA B5))).mono ?_; rintro e w6 ⟨g6, rfl, or6, hb6⟩
  clear l_p0 m_p0
  clear k_p00 k_p01 k_p02
  have z6 : w5.heap.size + 1 ≤ w6.heap.size := by have h := hb6.size; simp only [World.size_alloc] at h; exact h
  have B6 := belowW (belowA B5) hb6
  have p0_6 := (p0_5.alloc _).below hb6
  have w0_6 := (w0_5.alloc _).below hb6
  have x0_6 := (x0_5.alloc _).below hb6
  have xx0_6 := (Box.new w5 (.int .i64 W0) (.int .i64 T0) (.slice (some ⟨g5, 0, none⟩) n0 n0) 27).below hb6
  have x1_6 : Own w6 (w5.heap.size + 1) w6.heap.size 3 (some ⟨g6, 0, none⟩) n1 n1 (zs1.map (.int .i64)) := or6.base (by simp)
  clear hb6 or6 p0_5 w0_5 x0_5 B5
  have k_p00 := p0_6.1
  have k_p01 := p0_6.2.1
  have k_p02 := p0_6.2.2
  have k_xx00 := xx0_6.1
  have k_xx01 := xx0_6.2.1
  have k_xx02 := xx0_6.2.2
  go_wp2_with fail
  refine (complete_impl (some ⟨g5, 0, none⟩) n0 n0 W0 T0 bs0 (some ⟨g6, 0, none⟩) n1 n1 zs1 _ (by omega) x0_6.sl (by omega) x1_6.sl hz1).mono ?_; rintro e w7 ⟨Q7, q7, d7, rfl, or7, hb7, hm7⟩
  clear k_p00 k_p01 k_p02 k_xx00 k_xx01 k_xx02
  have z7 : w6.heap.size ≤ w7.heap.size := hb7.size
  have B7 := belowW B6 hb7
  have p0_7 := p0_6.below hb7
  have xx0_7 := xx0_6.below hb7
  have w0_7 := w0_6.below hb7
  have x0_7 := x0_6.below hb7
  have x1_7 := x1_6.below hb7
  have g0_7 : Own w7 (w6.heap.size) w7.heap.size 3 Q7 (compZ W0 T0 n0 bs0 n1 zs1).length d7 ((compZ W0 T0 n0 bs0 n1 zs1).map (.int .i64)) := or7
  clear hb7 or7 p0_6 xx0_6 w0_6 x0_6 x1_6 B6
  have k_p00 := p0_7.1
  have k_p01 := p0_7.2.1
  have k_p02 := p0_7.2.2
  have k_xx00 := xx0_7.1
  have k_xx01 := xx0_7.2.1
  have k_xx02 := xx0_7.2.2
  go_wp2_with fail
  refine (eqIntS_any Q7 Q4 _ _ _ _ (compZ W0 T0 n0 bs0 n1 zs1) (compZ W0 T0 n0 bs0 n1 zs1) _ (by omega) g0_7.sl w0_7.sl).mono ?_; rintro e w8 ⟨rfl, hb8⟩
  clear k_p00 k_p01 k_p02 k_xx00 k_xx01 k_xx02
  have z8 : w7.heap.size ≤ w8.heap.size := hb8.size
  have B8 := belowW B7 hb8
  have p0_8 := p0_7.below hb8
  have xx0_8 := xx0_7.below hb8
  have w0_8 := w0_7.below hb8
  have x0_8 := x0_7.below hb8
  have x1_8 := x1_7.below hb8
  have g0_8 := g0_7.below hb8
  clear hb8  p0_7 xx0_7 w0_7 x0_7 x1_7 g0_7 B7
  have k_p00 := p0_8.1
  have k_p01 := p0_8.2.1
  have k_p02 := p0_8.2.2
  have k_xx00 := xx0_8.1
  have k_xx01 := xx0_8.2.1
  have k_xx02 := xx0_8.2.2
  rw [eqI_self]
  go_wp2_with fail
  go_region_held3 (fun w' => w'.cell? ⟨w.heap.size, 0, none⟩ = some (.int .i64 W0) ∧ w'.cell? ⟨w.heap.size, 1, none⟩ = some (.int .i64 T0) ∧ w'.cell? ⟨w.heap.size, 2, none⟩ = some (.slice A0 n0 c0) ∧ w'.cell? ⟨w5.heap.size, 0, none⟩ = some (.int .i64 W0) ∧ w'.cell? ⟨w5.heap.size, 1, none⟩ = some (.int .i64 T0) ∧ w'.cell? ⟨w5.heap.size, 2, none⟩ = some (.slice (some ⟨g5, 0, none⟩) n0 n0))
    (first | exact ⟨p0_8.1, p0_8.2.1, p0_8.2.2, xx0_8.1, xx0_8.2.1, xx0_8.2.2⟩ | exact ⟨(p0_8.drew.below hb9).1, (p0_8.drew.below hb9).2.1, (p0_8.drew.below hb9).2.2, (xx0_8.drew.below hb9).1, (xx0_8.drew.below hb9).2.1, (xx0_8.drew.below hb9).2.2⟩ | exact ⟨((p0_8.drew.below hb9).below hb10).1, ((p0_8.drew.below hb9).below hb10).2.1, ((p0_8.drew.below hb9).below hb10).2.2, ((xx0_8.drew.below hb9).below hb10).1, ((xx0_8.drew.below hb9).below hb10).2.1, ((xx0_8.drew.below hb9).below hb10).2.2⟩)
    (first
      | (go_at_call 16; refine (toRegion_any A0 n0 c0 W0 T0 bs0 _ (by omega) (h0.below B8.drew)).mono ?_; rintro e w9 ⟨g9, rfl, or9, hb9⟩)
      | (go_at_call 18; refine (eqRegion_any _ _ n0 n0 _ _ W0 T0 W0 T0 bs0 bs0 _ (by omega) (x0_8.sl.drew.below hb9) or9.sl).mono ?_; rintro e w10 ⟨rfl, hb10⟩; rw [regEq_self]))
  have hb10' := below_step hb9 hb10 (Nat.le_refl _)
  clear hb10
  have hb10 : Below w8.heap.size w8.drew w10 := hb10'
  clear hb10' hb9 or9
  clear k_p00 k_p01 k_p02 k_xx00 k_xx01 k_xx02
  have z10 : w8.heap.size ≤ w10.heap.size := hb10.size
  have B10 := belowW (B8.drew) hb10
  have p0_10 := p0_8.drew.below hb10
  have xx0_10 := xx0_8.drew.below hb10
  have w0_10 := w0_8.drew.below hb10
  have x0_10 := x0_8.drew.below hb10
  have x1_10 := x1_8.drew.below hb10
  have g0_10 := g0_8.drew.below hb10
  clear hb10  p0_8 xx0_8 w0_8 x0_8 x1_8 g0_8 B8
  have k_p00 := p0_10.1
  have k_p01 := p0_10.2.1
  have k_p02 := p0_10.2.2
  have k_xx00 := xx0_10.1
  have k_xx01 := xx0_10.2.1
  have k_xx02 := xx0_10.2.2
  go_wp2_with fail
  refine (toIntS_any A1 n1 c1 zs1 _ (by omega) (h1.below B10)).mono ?_; rintro e w11 ⟨g11, rfl, or11, hb11⟩
  clear k_p00 k_p01 k_p02 k_xx00 k_xx01 k_xx02
  have z11 : w10.heap.size ≤ w11.heap.size := hb11.size
  have B11 := belowW B10 hb11
  have p0_11 := p0_10.below hb11
  have xx0_11 := xx0_10.below hb11
  have w0_11 := w0_10.below hb11
  have x0_11 := x0_10.below hb11
  have x1_11 := x1_10.below hb11
  have g0_11 := g0_10.below hb11
  have t1_11 : Own w11 (w10.heap.size) w11.heap.size 3 (some ⟨g11, 0, none⟩) n1 n1 (zs1.map (.int .i64)) := or11
  clear hb11 or11 p0_10 xx0_10 w0_10 x0_10 x1_10 g0_10 B10
  have k_p00 := p0_11.1
  have k_p01 := p0_11.2.1
  have k_p02 := p0_11.2.2
  have k_xx00 := xx0_11.1
  have k_xx01 := xx0_11.2.1
  have k_xx02 := xx0_11.2.2
  go_wp2_with fail
  refine (eqIntS_any _ _ n1 n1 _ _ zs1 zs1 _ (by omega) x1_11.sl t1_11.sl).mono ?_; rintro e w12 ⟨rfl, hb12⟩
  clear k_p00 k_p01 k_p02 k_xx00 k_xx01 k_xx02
  have z12 : w11.heap.size ≤ w12.heap.size := hb12.size
  have B12 := belowW B11 hb12
  have p0_12 := p0_11.below hb12
  have xx0_12 := xx0_11.below hb12
  have w0_12 := w0_11.below hb12
  have x0_12 := x0_11.below hb12
  have x1_12 := x1_11.below hb12
  have g0_12 := g0_11.below hb12
  have t1_12 := t1_11.below hb12
  clear hb12  p0_11 xx0_11 w0_11 x0_11 x1_11 g0_11 t1_11 B11
  have k_p00 := p0_12.1
  have k_p01 := p0_12.2.1
  have k_p02 := p0_12.2.2
  have k_xx00 := xx0_12.1
  have k_xx01 := xx0_12.2.1
  have k_xx02 := xx0_12.2.2
  rw [eqI_self]
  go_wp2_with fail
  refine (markRegion_any (some ⟨g5, 0, none⟩) _ _ _ _ _ _ bs0 (1) _ (by omega) (by omega) (by omega) x0_12).mono ?_; rintro e w13 ⟨rfl, or13, hb13⟩
  clear k_p00 k_p01 k_p02 k_xx00 k_xx01 k_xx02
  have z13 : w12.heap.size ≤ w13.heap.size := hb13.size
  have B13 := belowG B12 hb13 x0_12 (by have := B12.size; omega)
  have p0_13 := p0_12.grown hb13 (x0_12.offBox (by have := B12.size; omega))
  have xx0_13 := xx0_12.grown hb13 (x0_12.offBox (by have := B12.size; omega))
  have w0_13 := w0_12.grown hb13 (Own.apart w0_12 x0_12 (by omega))
  have x1_13 := x1_12.grown hb13 (Own.apart x1_12 x0_12 (by omega))
  have g0_13 := g0_12.grown hb13 (Own.apart g0_12 x0_12 (by omega))
  clear hb13  p0_12 xx0_12 w0_12 x0_12 x1_12 g0_12 B12
  have k_p00 := p0_13.1
  have k_p01 := p0_13.2.1
  have k_p02 := p0_13.2.2
  have k_xx00 := xx0_13.1
  have k_xx01 := xx0_13.2.1
  have k_xx02 := xx0_13.2.2
  clear or13
  go_wp2_with fail
  refine (markIntS_any (some ⟨g6, 0, none⟩) _ _ _ _ zs1 (1 + (n0 : Int)) _ (by omega) (by omega) (by omega) x1_13).mono ?_; rintro e w14 ⟨rfl, or14, hb14⟩
  clear k_p00 k_p01 k_p02 k_xx00 k_xx01 k_xx02
  have z14 : w13.heap.size ≤ w14.heap.size := hb14.size
  have B14 := belowG B13 hb14 x1_13 (by have := B13.size; omega)
  have p0_14 := p0_13.grown hb14 (x1_13.offBox (by have := B13.size; omega))
  have xx0_14 := xx0_13.grown hb14 (x1_13.offBox (by have := B13.size; omega))
  have w0_14 := w0_13.grown hb14 (Own.apart w0_13 x1_13 (by omega))
  have g0_14 := g0_13.grown hb14 (Own.apart g0_13 x1_13 (by omega))
  clear hb14  p0_13 xx0_13 w0_13 x1_13 g0_13 B13
  have k_p00 := p0_14.1
  have k_p01 := p0_14.2.1
  have k_p02 := p0_14.2.2
  have k_xx00 := xx0_14.1
  have k_xx01 := xx0_14.2.1
  have k_xx02 := xx0_14.2.2
  clear or14
  go_wp2_with fail
  refine (eqIntS_any Q7 Q4 _ _ _ _ (compZ W0 T0 n0 bs0 n1 zs1) (compZ W0 T0 n0 bs0 n1 zs1) _ (by omega) g0_14.sl w0_14.sl).mono ?_; rintro e w15 ⟨rfl, hb15⟩
  clear k_p00 k_p01 k_p02 k_xx00 k_xx01 k_xx02
  have z15 : w14.heap.size ≤ w15.heap.size := hb15.size
  have B15 := belowW B14 hb15
  have p0_15 := p0_14.below hb15
  have xx0_15 := xx0_14.below hb15
  have w0_15 := w0_14.below hb15
  have g0_15 := g0_14.below hb15
  clear hb15  p0_14 xx0_14 w0_14 g0_14 B14
  have k_p00 := p0_15.1
  have k_p01 := p0_15.2.1
  have k_p02 := p0_15.2.2
  have k_xx00 := xx0_15.1
  have k_xx01 := xx0_15.2.1
  have k_xx02 := xx0_15.2.2
  rw [eqI_self]
  go_wp2_with fail
  refine (markIntS_any Q7 _ _ _ _ (compZ W0 T0 n0 bs0 n1 zs1) 1 _ (by omega) (by omega) (by omega) g0_15).mono ?_; rintro e w16 ⟨rfl, or16, hb16⟩
  clear k_p00 k_p01 k_p02 k_xx00 k_xx01 k_xx02
  have z16 : w15.heap.size ≤ w16.heap.size := hb16.size
  have B16 := belowG B15 hb16 g0_15 (by have := B15.size; omega)
  have p0_16 := p0_15.grown hb16 (g0_15.offBox (by have := B15.size; omega))
  have xx0_16 := xx0_15.grown hb16 (g0_15.offBox (by have := B15.size; omega))
  have w0_16 := w0_15.grown hb16 (Own.apart w0_15 g0_15 (by omega))
  clear hb16  p0_15 xx0_15 w0_15 g0_15 B15
  have k_p00 := p0_16.1
  have k_p01 := p0_16.2.1
  have k_p02 := p0_16.2.2
  have k_xx00 := xx0_16.1
  have k_xx01 := xx0_16.2.1
  have k_xx02 := xx0_16.2.2
  have g0_16 := or16
  clear or16
  go_wp2_with fail
  refine (heldIntS_any Q7 _ _ 1 _ (by omega) (by omega) (by omega) g0_16.sl).mono ?_; rintro e w17 ⟨rfl, hb17⟩
  clear k_p00 k_p01 k_p02 k_xx00 k_xx01 k_xx02
  have z17 : w16.heap.size ≤ w17.heap.size := hb17.size
  have B17 := belowW B16 hb17
  have p0_17 := p0_16.below hb17
  have xx0_17 := xx0_16.below hb17
  have w0_17 := w0_16.below hb17
  have g0_17 := g0_16.below hb17
  clear hb17  p0_16 xx0_16 w0_16 g0_16 B16
  have k_p00 := p0_17.1
  have k_p01 := p0_17.2.1
  have k_p02 := p0_17.2.2
  have k_xx00 := xx0_17.1
  have k_xx01 := xx0_17.2.1
  have k_xx02 := xx0_17.2.2
  go_wp2_with fail
  refine (toRegion_any A0 n0 c0 W0 T0 bs0 _ (by omega) (h0.below B17)).mono ?_; rintro e w18 ⟨g18, rfl, or18, hb18⟩
  clear k_p00 k_p01 k_p02 k_xx00 k_xx01 k_xx02
  have z18 : w17.heap.size ≤ w18.heap.size := hb18.size
  have B18 := belowW B17 hb18
  have p0_18 := p0_17.below hb18
  have xx0_18 := xx0_17.below hb18
  have w0_18 := w0_17.below hb18
  have g0_18 := g0_17.below hb18
  have y0_18 : Own w18 (w17.heap.size) w18.heap.size 4 (some ⟨g18, 0, none⟩) n0 n0 (bs0.map .bool) := or18
  clear hb18 or18 p0_17 xx0_17 w0_17 g0_17 B17
  have k_p00 := p0_18.1
  have k_p01 := p0_18.2.1
  have k_p02 := p0_18.2.2
  have k_xx00 := xx0_18.1
  have k_xx01 := xx0_18.2.1
  have k_xx02 := xx0_18.2.2
  go_wp2_with fail
  refine (toIntS_any A1 n1 c1 zs1 _ (by omega) (h1.below B18)).mono ?_; rintro e w19 ⟨g19, rfl, or19, hb19⟩
  clear k_p00 k_p01 k_p02 k_xx00 k_xx01 k_xx02
  have z19 : w18.heap.size ≤ w19.heap.size := hb19.size
  have B19 := belowW B18 hb19
  have p0_19 := p0_18.below hb19
  have xx0_19 := xx0_18.below hb19
  have w0_19 := w0_18.below hb19
  have g0_19 := g0_18.below hb19
  have y0_19 := y0_18.below hb19
  have y1_19 : Own w19 (w18.heap.size) w19.heap.size 3 (some ⟨g19, 0, none⟩) n1 n1 (zs1.map (.int .i64)) := or19
  clear hb19 or19 p0_18 xx0_18 w0_18 g0_18 y0_18 B18
  have k_p00 := p0_19.1
  have k_p01 := p0_19.2.1
  have k_p02 := p0_19.2.2
  have k_xx00 := xx0_19.1
  have k_xx01 := xx0_19.2.1
  have k_xx02 := xx0_19.2.2
  go_wp2_with fail
  refine (complete_impl (some ⟨g18, 0, none⟩) n0 n0 W0 T0 bs0 (some ⟨g19, 0, none⟩) n1 n1 zs1 _ (by omega) y0_19.sl (by omega) y1_19.sl hz1).mono ?_; rintro e w20 ⟨Q20, q20, d20, rfl, or20, hb20, hm20⟩
  clear k_p00 k_p01 k_p02 k_xx00 k_xx01 k_xx02
  have z20 : w19.heap.size ≤ w20.heap.size := hb20.size
  have B20 := belowW B19 hb20
  have p0_20 := p0_19.below hb20
  have xx0_20 := xx0_19.below hb20
  have w0_20 := w0_19.below hb20
  have g0_20 := g0_19.below hb20
  have y0_20 := y0_19.below hb20
  have y1_20 := y1_19.below hb20
  have h0_20 : Own w20 (w19.heap.size) w20.heap.size 3 Q20 (compZ W0 T0 n0 bs0 n1 zs1).length d20 ((compZ W0 T0 n0 bs0 n1 zs1).map (.int .i64)) := or20
  clear hb20 or20 p0_19 xx0_19 w0_19 g0_19 y0_19 y1_19 B19
  have k_p00 := p0_20.1
  have k_p01 := p0_20.2.1
  have k_p02 := p0_20.2.2
  have k_xx00 := xx0_20.1
  have k_xx01 := xx0_20.2.1
  have k_xx02 := xx0_20.2.2
  go_wp2_with fail
  refine (eqIntS_any Q20 Q4 _ _ _ _ (compZ W0 T0 n0 bs0 n1 zs1) (compZ W0 T0 n0 bs0 n1 zs1) _ (by omega) h0_20.sl w0_20.sl).mono ?_; rintro e w21 ⟨rfl, hb21⟩
  clear k_p00 k_p01 k_p02 k_xx00 k_xx01 k_xx02
  have z21 : w20.heap.size ≤ w21.heap.size := hb21.size
  have B21 := belowW B20 hb21
  have p0_21 := p0_20.below hb21
  have xx0_21 := xx0_20.below hb21
  have w0_21 := w0_20.below hb21
  have g0_21 := g0_20.below hb21
  have h0_21 := h0_20.below hb21
  clear hb21  p0_20 xx0_20 w0_20 g0_20 h0_20 B20
  have k_p00 := p0_21.1
  have k_p01 := p0_21.2.1
  have k_p02 := p0_21.2.2
  have k_xx00 := xx0_21.1
  have k_xx01 := xx0_21.2.1
  have k_xx02 := xx0_21.2.2
  rw [eqI_self]
  go_wp2_with fail
  refine (heldIntS_any Q7 _ _ 1 _ (by omega) (by omega) (by omega) g0_21.sl).mono ?_; rintro e w22 ⟨rfl, hb22⟩
  clear k_p00 k_p01 k_p02 k_xx00 k_xx01 k_xx02
  have z22 : w21.heap.size ≤ w22.heap.size := hb22.size
  have B22 := belowW B21 hb22
  have p0_22 := p0_21.below hb22
  have xx0_22 := xx0_21.below hb22
  have w0_22 := w0_21.below hb22
  have g0_22 := g0_21.below hb22
  have h0_22 := h0_21.below hb22
  clear hb22  p0_21 xx0_21 w0_21 g0_21 h0_21 B21
  have k_p00 := p0_22.1
  have k_p01 := p0_22.2.1
  have k_p02 := p0_22.2.2
  have k_xx00 := xx0_22.1
  have k_xx01 := xx0_22.2.1
  have k_xx02 := xx0_22.2.2
  go_wp2_with fail
  go_ret
  exact ⟨rfl, B22⟩

end Go.Proofs.Ytcnkpcnbobiodaa
