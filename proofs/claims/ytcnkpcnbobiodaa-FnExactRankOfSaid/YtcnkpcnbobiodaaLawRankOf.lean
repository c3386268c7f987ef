/-
  The law FnExactRankOf: its walk. By program (wip/tools/genlaw.py).
-/
import Derived.Test.YtcnkpcnbobiodaaRankS
import Derived.Test.YtcnkpcnbobiodaaLawB
import Derived.Test.YtcnkpcnbobiodaaLawI
import Derived.Test.YtcnkpcnbobiodaaMem2
import Derived.Deep.RegionHeld3
import Derived.Deep.DeepCutAuto
namespace Go.Proofs.Ytcnkpcnbobiodaa
open Go.RowKit


set_option maxRecDepth 100000 in
set_option maxHeartbeats 1000000 in
theorem law_RankOf (A0 : Option Addr) (n0 c0 : Nat) (W0 T0 : Int) (bs0 : List Bool) (A1 : Option Addr) (n1 c1 : Nat) (zs1 : List Int) (w : World) (hn0 : n0 ≤ 9223372036854775807) (h0 : Sl w A0 n0 (bs0.map .bool)) (hn1 : n1 ≤ 9223372036854775807) (h1 : Sl w A1 n1 (zs1.map (.int .i64))) (hz1 : ∀ z ∈ zs1, I64 z) :
    Calls Try.prog 10 #[.agg #[.int .i64 W0, .int .i64 T0, .slice A0 n0 c0], .slice A1 n1 c1] w fun e w' => e = .returned (.bool true) ∧ Below w.heap.size w w' := by
  by_cases hbig1 : 1048576 < n1
  · have hq : (1048576 : Int) < (n1 : Int) := by omega
    go_enter Try.func10, Try.ntmps10
    go_wp2_with fail
    go_ret
    exact ⟨rfl, below1 w _⟩
  by_cases hbig0 : (1048576 : Int) < (n0 : Int)
  · have e0 : szV 1048576 n0 = -1 := by rw [szV, if_pos (by omega)]
    go_enter Try.func10, Try.ntmps10
    go_wp2_with fail
    refine (szRegion_any A0 n0 c0 W0 T0 1048576 _ hn0 (by omega) (by omega)).mono ?_; rintro e w1 ⟨rfl, hb1⟩
    have B0 : Below w.heap.size w w := Below.refl _ _
    have z1 : w.heap.size + 1 ≤ w1.heap.size := by have h := hb1.size; simp only [World.size_alloc] at h; exact h
    have B1 := belowW (belowA B0) hb1
    have p0_1 := (Box.new w (.int .i64 W0) (.int .i64 T0) (.slice A0 n0 c0) 24).below hb1
    clear hb1  
    have k_p00 := p0_1.1
    have k_p01 := p0_1.2.1
    have k_p02 := p0_1.2.2
    rw [e0]
    go_wp2_with fail
    go_ret
    exact ⟨rfl, B1⟩
  have e0 : szV 1048576 n0 = 1048576 - (n0 : Int) := by rw [szV, if_neg (by omega)]
  go_enter Try.func10, Try.ntmps10
  go_wp2_with fail
  refine (szRegion_any A0 n0 c0 W0 T0 1048576 _ hn0 (by omega) (by omega)).mono ?_; rintro e w1 ⟨rfl, hb1⟩
  have B0 : Below w.heap.size w w := Below.refl _ _
  have z1 : w.heap.size + 1 ≤ w1.heap.size := by have h := hb1.size; simp only [World.size_alloc] at h; exact h
  have B1 := belowW (belowA B0) hb1
  have p0_1 := (Box.new w (.int .i64 W0) (.int .i64 T0) (.slice A0 n0 c0) 24).below hb1
  clear hb1  
  have k_p00 := p0_1.1
  have k_p01 := p0_1.2.1
  have k_p02 := p0_1.2.2
  rw [e0]
  go_wp2_with fail
  refine (toRegion_any A0 n0 c0 W0 T0 bs0 _ (by omega) (h0.below B1)).mono ?_; rintro e w2 ⟨g2, rfl, or2, hb2⟩
  clear k_p00 k_p01 k_p02
  have z2 : w1.heap.size ≤ w2.heap.size := hb2.size
  have B2 := belowW B1 hb2
  have p0_2 := p0_1.below hb2
  have s0_2 : Own w2 (w1.heap.size) w2.heap.size 4 (some ⟨g2, 0, none⟩) n0 n0 (bs0.map .bool) := or2
  clear hb2 or2 p0_1 B1
  have k_p00 := p0_2.1
  have k_p01 := p0_2.2.1
  have k_p02 := p0_2.2.2
  go_wp2_with fail
  refine (toIntS_any A1 n1 c1 zs1 _ (by omega) (h1.below B2)).mono ?_; rintro e w3 ⟨g3, rfl, or3, hb3⟩
  clear k_p00 k_p01 k_p02
  have z3 : w2.heap.size ≤ w3.heap.size := hb3.size
  have B3 := belowW B2 hb3
  have p0_3 := p0_2.below hb3
  have s0_3 := s0_2.below hb3
  have s1_3 : Own w3 (w2.heap.size) w3.heap.size 3 (some ⟨g3, 0, none⟩) n1 n1 (zs1.map (.int .i64)) := or3
  clear hb3 or3 p0_2 s0_2 B2
  have k_p00 := p0_3.1
  have k_p01 := p0_3.2.1
  have k_p02 := p0_3.2.2
  go_wp2_with fail
  refine (rank_spec (some ⟨g2, 0, none⟩) n0 n0 W0 T0 bs0 (some ⟨g3, 0, none⟩) n1 n1 zs1 _ (by omega) s0_3.sl (by omega) s1_3.sl hz1).mono ?_; rintro e w4 ⟨rfl, hb4⟩
  clear k_p00 k_p01 k_p02
  have z4 : w3.heap.size ≤ w4.heap.size := hb4.size
  have B4 := belowW B3 hb4
  have p0_4 := p0_3.below hb4
  have s0_4 := s0_3.below hb4
  have s1_4 := s1_3.below hb4
  clear hb4  p0_3 s0_3 s1_3 B3
  have k_p00 := p0_4.1
  have k_p01 := p0_4.2.1
  have k_p02 := p0_4.2.2
  go_wp2_with fail
  refine (toRegion_any A0 n0 c0 W0 T0 bs0 _ (by omega) (h0.below B4)).mono ?_; rintro e w5 ⟨g5, rfl, or5, hb5⟩
  clear k_p00 k_p01 k_p02
  have z5 : w4.heap.size ≤ w5.heap.size := hb5.size
  have B5 := belowW B4 hb5
  have p0_5 := p0_4.below hb5
  have x0_5 : Own w5 (w4.heap.size) w5.heap.size 4 (some ⟨g5, 0, none⟩) n0 n0 (bs0.map .bool) := or5
  clear hb5 or5 p0_4 B4
  have k_p00 := p0_5.1
  have k_p01 := p0_5.2.1
  have k_p02 := p0_5.2.2
  have l_p0 := p0_5.lt
  have m_p0 := Nat.ne_of_lt l_p0
  go_wp2_with fail
  refine (toIntS_any A1 n1 c1 zs1 _ (by omega) (h1.below (belowA B5))).mono ?_; rintro e w6 ⟨g6, rfl, or6, hb6⟩
  clear l_p0 m_p0
  clear k_p00 k_p01 k_p02
  have z6 : w5.heap.size + 1 ≤ w6.heap.size := by have h := hb6.size; simp only [World.size_alloc] at h; exact h
  have B6 := belowW (belowA B5) hb6
  have p0_6 := (p0_5.alloc _).below hb6
  have x0_6 := (x0_5.alloc _).below hb6
  have xx0_6 := (Box.new w5 (.int .i64 W0) (.int .i64 T0) (.slice (some ⟨g5, 0, none⟩) n0 n0) 27).below hb6
  have x1_6 : Own w6 (w5.heap.size + 1) w6.heap.size 3 (some ⟨g6, 0, none⟩) n1 n1 (zs1.map (.int .i64)) := or6.base (by simp)
  clear hb6 or6 p0_5 x0_5 B5
  have k_p00 := p0_6.1
  have k_p01 := p0_6.2.1
  have k_p02 := p0_6.2.2
  have k_xx00 := xx0_6.1
  have k_xx01 := xx0_6.2.1
  have k_xx02 := xx0_6.2.2
  go_wp2_with fail
  refine (rank_impl (some ⟨g5, 0, none⟩) n0 n0 W0 T0 bs0 (some ⟨g6, 0, none⟩) n1 n1 zs1 _ (by omega) x0_6.sl (by omega) x1_6.sl hz1).mono ?_; rintro e w7 ⟨rfl, hb7⟩
  clear k_p00 k_p01 k_p02 k_xx00 k_xx01 k_xx02
  have z7 : w6.heap.size ≤ w7.heap.size := hb7.size
  have B7 := belowW B6 hb7
  have p0_7 := p0_6.below hb7
  have xx0_7 := xx0_6.below hb7
  have x0_7 := x0_6.below hb7
  have x1_7 := x1_6.below hb7
  clear hb7  p0_6 xx0_6 x0_6 x1_6 B6
  have k_p00 := p0_7.1
  have k_p01 := p0_7.2.1
  have k_p02 := p0_7.2.2
  have k_xx00 := xx0_7.1
  have k_xx01 := xx0_7.2.1
  have k_xx02 := xx0_7.2.2
  go_wp2_with fail
  go_region_held3 (fun w' => w'.cell? ⟨w.heap.size, 0, none⟩ = some (.int .i64 W0) ∧ w'.cell? ⟨w.heap.size, 1, none⟩ = some (.int .i64 T0) ∧ w'.cell? ⟨w.heap.size, 2, none⟩ = some (.slice A0 n0 c0) ∧ w'.cell? ⟨w5.heap.size, 0, none⟩ = some (.int .i64 W0) ∧ w'.cell? ⟨w5.heap.size, 1, none⟩ = some (.int .i64 T0) ∧ w'.cell? ⟨w5.heap.size, 2, none⟩ = some (.slice (some ⟨g5, 0, none⟩) n0 n0))
    (first | exact ⟨p0_7.1, p0_7.2.1, p0_7.2.2, xx0_7.1, xx0_7.2.1, xx0_7.2.2⟩ | exact ⟨(p0_7.drew.below hb8).1, (p0_7.drew.below hb8).2.1, (p0_7.drew.below hb8).2.2, (xx0_7.drew.below hb8).1, (xx0_7.drew.below hb8).2.1, (xx0_7.drew.below hb8).2.2⟩ | exact ⟨((p0_7.drew.below hb8).below hb9).1, ((p0_7.drew.below hb8).below hb9).2.1, ((p0_7.drew.below hb8).below hb9).2.2, ((xx0_7.drew.below hb8).below hb9).1, ((xx0_7.drew.below hb8).below hb9).2.1, ((xx0_7.drew.below hb8).below hb9).2.2⟩)
    (first
      | (go_at_call 16; refine (toRegion_any A0 n0 c0 W0 T0 bs0 _ (by omega) (h0.below B7.drew)).mono ?_; rintro e w8 ⟨g8, rfl, or8, hb8⟩)
      | (go_at_call 18; refine (eqRegion_any _ _ n0 n0 _ _ W0 T0 W0 T0 bs0 bs0 _ (by omega) (x0_7.sl.drew.below hb8) or8.sl).mono ?_; rintro e w9 ⟨rfl, hb9⟩; rw [regEq_self]))
  have hb9' := below_step hb8 hb9 (Nat.le_refl _)
  clear hb9
  have hb9 : Below w7.heap.size w7.drew w9 := hb9'
  clear hb9' hb8 or8
  clear k_p00 k_p01 k_p02 k_xx00 k_xx01 k_xx02
  have z9 : w7.heap.size ≤ w9.heap.size := hb9.size
  have B9 := belowW (B7.drew) hb9
  have p0_9 := p0_7.drew.below hb9
  have xx0_9 := xx0_7.drew.below hb9
  have x0_9 := x0_7.drew.below hb9
  have x1_9 := x1_7.drew.below hb9
  clear hb9  p0_7 xx0_7 x0_7 x1_7 B7
  have k_p00 := p0_9.1
  have k_p01 := p0_9.2.1
  have k_p02 := p0_9.2.2
  have k_xx00 := xx0_9.1
  have k_xx01 := xx0_9.2.1
  have k_xx02 := xx0_9.2.2
  go_wp2_with fail
  refine (toIntS_any A1 n1 c1 zs1 _ (by omega) (h1.below B9)).mono ?_; rintro e w10 ⟨g10, rfl, or10, hb10⟩
  clear k_p00 k_p01 k_p02 k_xx00 k_xx01 k_xx02
  have z10 : w9.heap.size ≤ w10.heap.size := hb10.size
  have B10 := belowW B9 hb10
  have p0_10 := p0_9.below hb10
  have xx0_10 := xx0_9.below hb10
  have x0_10 := x0_9.below hb10
  have x1_10 := x1_9.below hb10
  have t1_10 : Own w10 (w9.heap.size) w10.heap.size 3 (some ⟨g10, 0, none⟩) n1 n1 (zs1.map (.int .i64)) := or10
  clear hb10 or10 p0_9 xx0_9 x0_9 x1_9 B9
  have k_p00 := p0_10.1
  have k_p01 := p0_10.2.1
  have k_p02 := p0_10.2.2
  have k_xx00 := xx0_10.1
  have k_xx01 := xx0_10.2.1
  have k_xx02 := xx0_10.2.2
  go_wp2_with fail
  refine (eqIntS_any _ _ n1 n1 _ _ zs1 zs1 _ (by omega) x1_10.sl t1_10.sl).mono ?_; rintro e w11 ⟨rfl, hb11⟩
  clear k_p00 k_p01 k_p02 k_xx00 k_xx01 k_xx02
  have z11 : w10.heap.size ≤ w11.heap.size := hb11.size
  have B11 := belowW B10 hb11
  have p0_11 := p0_10.below hb11
  have xx0_11 := xx0_10.below hb11
  have x0_11 := x0_10.below hb11
  have x1_11 := x1_10.below hb11
  have t1_11 := t1_10.below hb11
  clear hb11  p0_10 xx0_10 x0_10 x1_10 t1_10 B10
  have k_p00 := p0_11.1
  have k_p01 := p0_11.2.1
  have k_p02 := p0_11.2.2
  have k_xx00 := xx0_11.1
  have k_xx01 := xx0_11.2.1
  have k_xx02 := xx0_11.2.2
  rw [eqI_self]
  go_wp2_with fail
  go_ret
  exact ⟨rfl, B11⟩

end Go.Proofs.Ytcnkpcnbobiodaa
