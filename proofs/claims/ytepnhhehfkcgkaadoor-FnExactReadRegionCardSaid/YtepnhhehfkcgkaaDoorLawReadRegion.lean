/-
  The law FnExactReadRegion: its walk. By program (wip/tools/genlaw.py).
-/
import Derived.Test.YtepnhhehfkcgkaaDoorReadR
import Derived.Test.YtepnhhehfkcgkaaDoorLawB
import Derived.Test.YtepnhhehfkcgkaaDoorMem2
import Derived.Deep.RegionHeld3
import Derived.Deep.DeepCutAuto
namespace Go.Proofs.YtepnhhehfkcgkaaDoor
open Go.RowKit


set_option maxRecDepth 100000 in
set_option maxHeartbeats 2000000 in
theorem law_ReadRegion (s0 : ByteArray) (w : World)  :
    Calls Tryd.prog 3 #[.string s0] w fun e w' => e = .returned (.bool true) ∧ Below w.heap.size w w' := by
  by_cases hbig0 : 1048576 < s0.size
  · have hq : (1048576 : Int) < (s0.size : Int) := by omega
    go_enter Tryd.func3, Tryd.ntmps3
    go_wp2_with fail
    go_ret
    exact ⟨rfl, Below.refl _ _⟩
  have hx0 : s0.size ≤ 1048576 := by omega
  go_enter Tryd.func3, Tryd.ntmps3
  go_wp2_with fail
  have B0 : Below w.heap.size w w := Below.refl _ _
  go_wp2_with fail
  refine (read_spec s0 _ hx0).mono ?_; rintro e w1 ⟨Q1, q1, d1, rfl, or1, hb1, hm1⟩
  have z1 : w.heap.size ≤ w1.heap.size := hb1.size
  have B1 := belowW B0 hb1
  have w0_1 : Own w1 (w.heap.size) w1.heap.size 4 Q1 (rdC s0).length d1 ((rdC s0).map .bool) := or1
  clear hb1 or1 
  go_wp2_with fail
  refine (read_impl s0 _ hx0).mono ?_; rintro e w2 ⟨Q2, q2, d2, rfl, or2, hb2, hm2⟩
  have z2 : w1.heap.size + 1 ≤ w2.heap.size := by have h := hb2.size; simp only [World.size_alloc] at h; exact h
  have B2 := belowW (belowA B1) hb2
  have w0_2 := (w0_1.alloc _).below hb2
  have bw0_2 := (Box.new w1 (.int .i64 (rdW s0)) (.int .i64 (rdT s0)) (.slice Q1 (rdC s0).length q1) 24).below hb2
  have g0_2 : Own w2 (w1.heap.size + 1) w2.heap.size 4 Q2 (rdC s0).length d2 ((rdC s0).map .bool) := or2.base (by simp)
  clear hb2 or2 w0_1 B1
  have k_bw00 := bw0_2.1
  have k_bw01 := bw0_2.2.1
  have k_bw02 := bw0_2.2.2
  have l_bw0 := bw0_2.lt
  have m_bw0 := Nat.ne_of_lt l_bw0
  go_wp2_with fail
  refine (eqRegion_any Q2 Q1 _ _ _ _ (rdW s0) (rdT s0) (rdW s0) (rdT s0) (rdC s0) (rdC s0) _ (by omega) (g0_2.sl.alloc _) (w0_2.sl.alloc _)).mono ?_; rintro e w3 ⟨rfl, hb3⟩
  clear l_bw0 m_bw0
  clear k_bw00 k_bw01 k_bw02
  have z3 : w2.heap.size + 1 ≤ w3.heap.size := by have h := hb3.size; simp only [World.size_alloc] at h; exact h
  have B3 := belowW (belowA B2) hb3
  have bw0_3 := (bw0_2.alloc _).below hb3
  have w0_3 := (w0_2.alloc _).below hb3
  have g0_3 := (g0_2.alloc _).below hb3
  have bg0_3 := (Box.new w2 (.int .i64 (rdW s0)) (.int .i64 (rdT s0)) (.slice Q2 (rdC s0).length q2) 24).below hb3
  clear hb3  bw0_2 w0_2 g0_2 B2
  have k_bw00 := bw0_3.1
  have k_bw01 := bw0_3.2.1
  have k_bw02 := bw0_3.2.2
  have k_bg00 := bg0_3.1
  have k_bg01 := bg0_3.2.1
  have k_bg02 := bg0_3.2.2
  rw [regEq_self]
  go_wp2_with fail
  refine (markRegion_any Q2 _ _ _ _ _ _ (rdC s0) 1 _ (by omega) (by omega) (by omega) g0_3).mono ?_; rintro e w4 ⟨rfl, or4, hb4⟩
  clear k_bw00 k_bw01 k_bw02 k_bg00 k_bg01 k_bg02
  have z4 : w3.heap.size ≤ w4.heap.size := hb4.size
  have B4 := belowG B3 hb4 g0_3 (by have := B3.size; omega)
  have bw0_4 := bw0_3.grown hb4 (g0_3.offBox (by have := B3.size; omega))
  have bg0_4 := bg0_3.grown hb4 (g0_3.offBox (by have := B3.size; omega))
  have w0_4 := w0_3.grown hb4 (Own.apart w0_3 g0_3 (by omega))
  clear hb4  bw0_3 bg0_3 w0_3 g0_3 B3
  have k_bw00 := bw0_4.1
  have k_bw01 := bw0_4.2.1
  have k_bw02 := bw0_4.2.2
  have k_bg00 := bg0_4.1
  have k_bg01 := bg0_4.2.1
  have k_bg02 := bg0_4.2.2
  have g0_4 := or4
  clear or4
  go_wp2_with fail
  refine (heldRegion_any Q2 _ _ _ _ 1 _ (by omega) (by omega) (by omega) g0_4.sl).mono ?_; rintro e w5 ⟨rfl, hb5⟩
  clear k_bw00 k_bw01 k_bw02 k_bg00 k_bg01 k_bg02
  have z5 : w4.heap.size ≤ w5.heap.size := hb5.size
  have B5 := belowW B4 hb5
  have bw0_5 := bw0_4.below hb5
  have bg0_5 := bg0_4.below hb5
  have w0_5 := w0_4.below hb5
  have g0_5 := g0_4.below hb5
  clear hb5  bw0_4 bg0_4 w0_4 g0_4 B4
  have k_bw00 := bw0_5.1
  have k_bw01 := bw0_5.2.1
  have k_bw02 := bw0_5.2.2
  have k_bg00 := bg0_5.1
  have k_bg01 := bg0_5.2.1
  have k_bg02 := bg0_5.2.2
  go_wp2_with fail
  refine (read_impl s0 _ hx0).mono ?_; rintro e w6 ⟨Q6, q6, d6, rfl, or6, hb6, hm6⟩
  clear k_bw00 k_bw01 k_bw02 k_bg00 k_bg01 k_bg02
  have z6 : w5.heap.size ≤ w6.heap.size := hb6.size
  have B6 := belowW B5 hb6
  have bw0_6 := bw0_5.below hb6
  have bg0_6 := bg0_5.below hb6
  have w0_6 := w0_5.below hb6
  have g0_6 := g0_5.below hb6
  have h0_6 : Own w6 (w5.heap.size) w6.heap.size 4 Q6 (rdC s0).length d6 ((rdC s0).map .bool) := or6
  clear hb6 or6 bw0_5 bg0_5 w0_5 g0_5 B5
  have k_bw00 := bw0_6.1
  have k_bw01 := bw0_6.2.1
  have k_bw02 := bw0_6.2.2
  have k_bg00 := bg0_6.1
  have k_bg01 := bg0_6.2.1
  have k_bg02 := bg0_6.2.2
  have l_bw0 := bw0_6.lt
  have m_bw0 := Nat.ne_of_lt l_bw0
  have l_bg0 := bg0_6.lt
  have m_bg0 := Nat.ne_of_lt l_bg0
  go_wp2_with fail
  refine (eqRegion_any Q6 Q1 _ _ _ _ (rdW s0) (rdT s0) (rdW s0) (rdT s0) (rdC s0) (rdC s0) _ (by omega) (h0_6.sl.alloc _) (w0_6.sl.alloc _)).mono ?_; rintro e w7 ⟨rfl, hb7⟩
  clear l_bw0 m_bw0 l_bg0 m_bg0
  clear k_bw00 k_bw01 k_bw02 k_bg00 k_bg01 k_bg02
  have z7 : w6.heap.size + 1 ≤ w7.heap.size := by have h := hb7.size; simp only [World.size_alloc] at h; exact h
  have B7 := belowW (belowA B6) hb7
  have bw0_7 := (bw0_6.alloc _).below hb7
  have bg0_7 := (bg0_6.alloc _).below hb7
  have w0_7 := (w0_6.alloc _).below hb7
  have g0_7 := (g0_6.alloc _).below hb7
  have h0_7 := (h0_6.alloc _).below hb7
  have bh0_7 := (Box.new w6 (.int .i64 (rdW s0)) (.int .i64 (rdT s0)) (.slice Q6 (rdC s0).length q6) 24).below hb7
  clear hb7  bw0_6 bg0_6 w0_6 g0_6 h0_6 B6
  have k_bw00 := bw0_7.1
  have k_bw01 := bw0_7.2.1
  have k_bw02 := bw0_7.2.2
  have k_bg00 := bg0_7.1
  have k_bg01 := bg0_7.2.1
  have k_bg02 := bg0_7.2.2
  have k_bh00 := bh0_7.1
  have k_bh01 := bh0_7.2.1
  have k_bh02 := bh0_7.2.2
  rw [regEq_self]
  go_wp2_with fail
  refine (heldRegion_any Q2 _ _ _ _ 1 _ (by omega) (by omega) (by omega) g0_7.sl).mono ?_; rintro e w8 ⟨rfl, hb8⟩
  clear k_bw00 k_bw01 k_bw02 k_bg00 k_bg01 k_bg02 k_bh00 k_bh01 k_bh02
  have z8 : w7.heap.size ≤ w8.heap.size := hb8.size
  have B8 := belowW B7 hb8
  have bw0_8 := bw0_7.below hb8
  have bg0_8 := bg0_7.below hb8
  have bh0_8 := bh0_7.below hb8
  have w0_8 := w0_7.below hb8
  have g0_8 := g0_7.below hb8
  have h0_8 := h0_7.below hb8
  clear hb8  bw0_7 bg0_7 bh0_7 w0_7 g0_7 h0_7 B7
  have k_bw00 := bw0_8.1
  have k_bw01 := bw0_8.2.1
  have k_bw02 := bw0_8.2.2
  have k_bg00 := bg0_8.1
  have k_bg01 := bg0_8.2.1
  have k_bg02 := bg0_8.2.2
  have k_bh00 := bh0_8.1
  have k_bh01 := bh0_8.2.1
  have k_bh02 := bh0_8.2.2
  go_wp2_with fail
  go_ret
  exact ⟨rfl, B8⟩

end Go.Proofs.YtepnhhehfkcgkaaDoor
