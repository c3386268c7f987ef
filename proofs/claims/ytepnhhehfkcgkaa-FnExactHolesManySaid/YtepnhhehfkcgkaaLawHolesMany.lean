/-
  The law FnExactHolesMany: its walk. By program (wip/tools/genlaw.py).
-/
import Derived.Test.YtepnhhehfkcgkaaHolS
import Derived.Test.YtepnhhehfkcgkaaLawB
import Derived.Test.YtepnhhehfkcgkaaMem2
import Derived.Deep.RegionHeld3
import Derived.Deep.DeepCutAuto
namespace Go.Proofs.Ytepnhhehfkcgkaa
open Go.RowKit


set_option maxRecDepth 100000 in
set_option maxHeartbeats 1000000 in
theorem law_HolesMany (A0 : Option Addr) (n0 c0 : Nat) (W0 T0 : Int) (bs0 : List Bool) (w : World) (hn0 : n0 ≤ 9223372036854775807) (h0 : Sl w A0 n0 (bs0.map .bool)) :
    Calls Try.prog 7 #[.agg #[.int .i64 W0, .int .i64 T0, .slice A0 n0 c0]] w fun e w' => e = .returned (.bool true) ∧ Below w.heap.size w w' := by
  by_cases hbig0 : (1048576 : Int) < (n0 : Int)
  · have e0 : szV 1048576 n0 = -1 := by rw [szV, if_pos (by omega)]
    go_enter Try.func7, Try.ntmps7
    go_wp2_with fail
    refine (szRegion_any A0 n0 c0 W0 T0 1048576 _ hn0 (by omega) (by omega)).mono ?_; rintro e w1 ⟨rfl, hb1⟩
    have B0 : Below w.heap.size w w := Below.refl _ _
    have z1 : w.heap.size + 1 ≤ w1.heap.size := by have h := hb1.size; simp only [World.size_alloc] at h; exact h
    have B1 := belowW (belowA B0) hb1
    have p0_1 := (Box.new w (.int .i64 W0) (.int .i64 T0) (.slice A0 n0 c0) 41).below hb1
    clear hb1  
    have k_p00 := p0_1.1
    have k_p01 := p0_1.2.1
    have k_p02 := p0_1.2.2
    rw [e0]
    go_wp2_with fail
    go_ret
    exact ⟨rfl, B1⟩
  have e0 : szV 1048576 n0 = 1048576 - (n0 : Int) := by rw [szV, if_neg (by omega)]
  go_enter Try.func7, Try.ntmps7
  go_wp2_with fail
  refine (szRegion_any A0 n0 c0 W0 T0 1048576 _ hn0 (by omega) (by omega)).mono ?_; rintro e w1 ⟨rfl, hb1⟩
  have B0 : Below w.heap.size w w := Below.refl _ _
  have z1 : w.heap.size + 1 ≤ w1.heap.size := by have h := hb1.size; simp only [World.size_alloc] at h; exact h
  have B1 := belowW (belowA B0) hb1
  have p0_1 := (Box.new w (.int .i64 W0) (.int .i64 T0) (.slice A0 n0 c0) 41).below hb1
  clear hb1  
  have k_p00 := p0_1.1
  have k_p01 := p0_1.2.1
  have k_p02 := p0_1.2.2
  rw [e0]
  go_wp2_with fail
  refine (toRegion_any A0 n0 c0 W0 T0 bs0 _ (by omega) (h0.below B1)).mono ?_; rintro e w2 ⟨g2, rfl, or2, hb2⟩
  clear k_p00 k_p01 k_p02
  have z2 : w1.heap.size ≤ w2.heap.size := hb2.size
  have B2 := belowW B1 hb2
  have p0_2 := p0_1.below hb2
  have s0_2 : Own w2 (w1.heap.size) w2.heap.size 4 (some ⟨g2, 0, none⟩) n0 n0 (bs0.map .bool) := or2
  clear hb2 or2 p0_1 B1
  have k_p00 := p0_2.1
  have k_p01 := p0_2.2.1
  have k_p02 := p0_2.2.2
  go_wp2_with fail
  refine (holes_spec (some ⟨g2, 0, none⟩) n0 n0 W0 T0 bs0 _ (by omega) s0_2.sl).mono ?_; rintro e w3 ⟨rfl, hb3⟩
  clear k_p00 k_p01 k_p02
  have z3 : w2.heap.size ≤ w3.heap.size := hb3.size
  have B3 := belowW B2 hb3
  have p0_3 := p0_2.below hb3
  have s0_3 := s0_2.below hb3
  clear hb3  p0_2 s0_2 B2
  have k_p00 := p0_3.1
  have k_p01 := p0_3.2.1
  have k_p02 := p0_3.2.2
  go_wp2_with fail
  refine (toRegion_any A0 n0 c0 W0 T0 bs0 _ (by omega) (h0.below B3)).mono ?_; rintro e w4 ⟨g4, rfl, or4, hb4⟩
  clear k_p00 k_p01 k_p02
  have z4 : w3.heap.size ≤ w4.heap.size := hb4.size
  have B4 := belowW B3 hb4
  have p0_4 := p0_3.below hb4
  have x0_4 : Own w4 (w3.heap.size) w4.heap.size 4 (some ⟨g4, 0, none⟩) n0 n0 (bs0.map .bool) := or4
  clear hb4 or4 p0_3 B3
  have k_p00 := p0_4.1
  have k_p01 := p0_4.2.1
  have k_p02 := p0_4.2.2
  have l_p0 := p0_4.lt
  have m_p0 := Nat.ne_of_lt l_p0
  go_wp2_with fail
  refine (holes_impl (some ⟨g4, 0, none⟩) n0 n0 W0 T0 bs0 _ (by omega) (x0_4.sl.alloc _)).mono ?_; rintro e w5 ⟨rfl, hb5⟩
  clear l_p0 m_p0
  clear k_p00 k_p01 k_p02
  have z5 : w4.heap.size + 1 ≤ w5.heap.size := by have h := hb5.size; simp only [World.size_alloc] at h; exact h
  have B5 := belowW (belowA B4) hb5
  have p0_5 := (p0_4.alloc _).below hb5
  have x0_5 := (x0_4.alloc _).below hb5
  have xx0_5 := (Box.new w4 (.int .i64 W0) (.int .i64 T0) (.slice (some ⟨g4, 0, none⟩) n0 n0) 34).below hb5
  clear hb5  p0_4 x0_4 B4
  have k_p00 := p0_5.1
  have k_p01 := p0_5.2.1
  have k_p02 := p0_5.2.2
  have k_xx00 := xx0_5.1
  have k_xx01 := xx0_5.2.1
  have k_xx02 := xx0_5.2.2
  go_wp2_with fail
  go_region_held3 (fun w' => w'.cell? ⟨w.heap.size, 0, none⟩ = some (.int .i64 W0) ∧ w'.cell? ⟨w.heap.size, 1, none⟩ = some (.int .i64 T0) ∧ w'.cell? ⟨w.heap.size, 2, none⟩ = some (.slice A0 n0 c0) ∧ w'.cell? ⟨w4.heap.size, 0, none⟩ = some (.int .i64 W0) ∧ w'.cell? ⟨w4.heap.size, 1, none⟩ = some (.int .i64 T0) ∧ w'.cell? ⟨w4.heap.size, 2, none⟩ = some (.slice (some ⟨g4, 0, none⟩) n0 n0))
    (first | exact ⟨p0_5.1, p0_5.2.1, p0_5.2.2, xx0_5.1, xx0_5.2.1, xx0_5.2.2⟩ | exact ⟨(p0_5.drew.below hb6).1, (p0_5.drew.below hb6).2.1, (p0_5.drew.below hb6).2.2, (xx0_5.drew.below hb6).1, (xx0_5.drew.below hb6).2.1, (xx0_5.drew.below hb6).2.2⟩ | exact ⟨((p0_5.drew.below hb6).below hb7).1, ((p0_5.drew.below hb6).below hb7).2.1, ((p0_5.drew.below hb6).below hb7).2.2, ((xx0_5.drew.below hb6).below hb7).1, ((xx0_5.drew.below hb6).below hb7).2.1, ((xx0_5.drew.below hb6).below hb7).2.2⟩)
    (first
      | (go_at_call 32; refine (toRegion_any A0 n0 c0 W0 T0 bs0 _ (by omega) (h0.below B5.drew)).mono ?_; rintro e w6 ⟨g6, rfl, or6, hb6⟩)
      | (go_at_call 34; refine (eqRegion_any _ _ n0 n0 _ _ W0 T0 W0 T0 bs0 bs0 _ (by omega) (x0_5.sl.drew.below hb6) or6.sl).mono ?_; rintro e w7 ⟨rfl, hb7⟩; rw [regEq_self]))
  have hb7' := below_step hb6 hb7 (Nat.le_refl _)
  clear hb7
  have hb7 : Below w5.heap.size w5.drew w7 := hb7'
  clear hb7' hb6 or6
  clear k_p00 k_p01 k_p02 k_xx00 k_xx01 k_xx02
  have z7 : w5.heap.size ≤ w7.heap.size := hb7.size
  have B7 := belowW (B5.drew) hb7
  have p0_7 := p0_5.drew.below hb7
  have xx0_7 := xx0_5.drew.below hb7
  have x0_7 := x0_5.drew.below hb7
  clear hb7  p0_5 xx0_5 x0_5 B5
  have k_p00 := p0_7.1
  have k_p01 := p0_7.2.1
  have k_p02 := p0_7.2.2
  have k_xx00 := xx0_7.1
  have k_xx01 := xx0_7.2.1
  have k_xx02 := xx0_7.2.2
  go_wp2_with fail
  go_ret
  exact ⟨rfl, B7⟩

end Go.Proofs.Ytepnhhehfkcgkaa
