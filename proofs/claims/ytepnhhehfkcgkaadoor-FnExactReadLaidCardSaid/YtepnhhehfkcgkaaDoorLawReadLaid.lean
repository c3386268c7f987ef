/-
  The law FnExactReadLaid: its walk. By program (wip/tools/genrlb.py).
-/
import Derived.Test.YtepnhhehfkcgkaaDoorLReadS
import Derived.Test.YtepnhhehfkcgkaaDoorLReadI
import Derived.Test.YtepnhhehfkcgkaaDoorLawB
import Derived.Test.YtepnhhehfkcgkaaDoorLawI
namespace Go.Proofs.YtepnhhehfkcgkaaDoor
open Go.RowKit

theorem ldC_len (S : ByteArray) (h : S.size ≤ 1048576) : (ldC S).length ≤ 1048576 := by
  rw [ldC]; split
  · rw [List.length_map]; exact Nat.le_trans (signs_small S) h
  · exact Nat.zero_le _
theorem ldZ_len (S : ByteArray) (h : S.size ≤ 1048576) : (ldZ S).length ≤ 1048576 := by
  rw [ldZ]; split
  · rw [List.length_map]; exact Nat.le_trans (signs_small S) h
  · exact Nat.zero_le _

set_option maxRecDepth 100000 in
set_option maxHeartbeats 2000000 in
theorem law_ReadLaid (s0 : ByteArray) (w : World) :
    Calls Tryd.prog 4 #[.string s0] w fun e w' => e = .returned (.bool true) ∧ Below w.heap.size w w' := by
  by_cases hbig0 : 1048576 < s0.size
  · have hq : (1048576 : Int) < (s0.size : Int) := by omega
    go_enter Tryd.func4, Tryd.ntmps4
    go_wp2_with fail
    go_ret
    exact ⟨rfl, Below.refl _ _⟩
  have hx0 : s0.size ≤ 1048576 := by omega
  have hcl := ldC_len s0 hx0
  have hzl := ldZ_len s0 hx0
  go_enter Tryd.func4, Tryd.ntmps4
  have B0 : Below w.heap.size w w := Below.refl _ _
  go_wp2_with fail
  refine (lread_spec s0 _ hx0).mono ?_; rintro e w1 ⟨Q1, q1, d1, P1, p1, u1, rfl, or1, ol1, fa1, fb1, hb1, hm1, hl1⟩
  have z1 : w.heap.size ≤ w1.heap.size := hb1.size
  have B1 := belowW B0 hb1
  have w0_1 : Own w1 (w.heap.size) w1.heap.size 4 Q1 (ldC s0).length d1 ((ldC s0).map .bool) := or1
  clear hb1 or1 
  have w1_1 : Own w1 (w.heap.size) w1.heap.size 3 P1 (ldZ s0).length u1 ((ldZ s0).map (.int .i64)) := ol1
  clear ol1
  go_wp2_with fail
  refine (lread_impl s0 _ hx0).mono ?_; rintro e w2 ⟨Q2, q2, d2, P2, p2, u2, rfl, or2, ol2, fa2, fb2, hb2, hm2, hl2⟩
  have z2 : w1.heap.size + 1 ≤ w2.heap.size := by have h := hb2.size; simp only [World.size_alloc] at h; exact h
  have B2 := belowW (belowA B1) hb2
  have w0_2 := (w0_1.alloc _).below hb2
  have w1_2 := (w1_1.alloc _).below hb2
  have bw0_2 := (Box.new w1 (.int .i64 (ldW s0)) (.int .i64 (ldT s0)) (.slice Q1 (ldC s0).length q1) 24).below hb2
  have g0_2 : Own w2 (w1.heap.size + 1) w2.heap.size 4 Q2 (ldC s0).length d2 ((ldC s0).map .bool) := or2.base (by simp)
  clear hb2 or2 w0_1 w1_1 B1
  have k_bw00 := bw0_2.1
  have k_bw01 := bw0_2.2.1
  have k_bw02 := bw0_2.2.2
  have g1_2 : Own w2 (w1.heap.size + 1) w2.heap.size 3 P2 (ldZ s0).length u2 ((ldZ s0).map (.int .i64)) := ol2.base (by simp)
  clear ol2
  have l_bw0 := bw0_2.lt
  have m_bw0 := Nat.ne_of_lt l_bw0
  go_wp2_with fail
  refine (eqRegion_any Q2 Q1 _ _ _ _ (ldW s0) (ldT s0) (ldW s0) (ldT s0) (ldC s0) (ldC s0) _ (by omega) (g0_2.sl.alloc _) (w0_2.sl.alloc _)).mono ?_; rintro e w3 ⟨rfl, hb3⟩
  clear l_bw0 m_bw0
  clear k_bw00 k_bw01 k_bw02
  have z3 : w2.heap.size + 1 ≤ w3.heap.size := by have h := hb3.size; simp only [World.size_alloc] at h; exact h
  have B3 := belowW (belowA B2) hb3
  have bw0_3 := (bw0_2.alloc _).below hb3
  have w0_3 := (w0_2.alloc _).below hb3
  have w1_3 := (w1_2.alloc _).below hb3
  have g0_3 := (g0_2.alloc _).below hb3
  have g1_3 := (g1_2.alloc _).below hb3
  have bg0_3 := (Box.new w2 (.int .i64 (ldW s0)) (.int .i64 (ldT s0)) (.slice Q2 (ldC s0).length q2) 24).below hb3
  clear hb3  bw0_2 w0_2 w1_2 g0_2 g1_2 B2
  have k_bw00 := bw0_3.1
  have k_bw01 := bw0_3.2.1
  have k_bw02 := bw0_3.2.2
  have k_bg00 := bg0_3.1
  have k_bg01 := bg0_3.2.1
  have k_bg02 := bg0_3.2.2
  rw [regEq_self]
  go_wp2_with fail
  refine (eqIntS_any P2 P1 _ _ _ _ (ldZ s0) (ldZ s0) _ (by omega) g1_3.sl w1_3.sl).mono ?_; rintro e w4 ⟨rfl, hb4⟩
  clear k_bw00 k_bw01 k_bw02 k_bg00 k_bg01 k_bg02
  have z4 : w3.heap.size ≤ w4.heap.size := hb4.size
  have B4 := belowW B3 hb4
  have bw0_4 := bw0_3.below hb4
  have bg0_4 := bg0_3.below hb4
  have w0_4 := w0_3.below hb4
  have w1_4 := w1_3.below hb4
  have g0_4 := g0_3.below hb4
  have g1_4 := g1_3.below hb4
  clear hb4  bw0_3 bg0_3 w0_3 w1_3 g0_3 g1_3 B3
  have k_bw00 := bw0_4.1
  have k_bw01 := bw0_4.2.1
  have k_bw02 := bw0_4.2.2
  have k_bg00 := bg0_4.1
  have k_bg01 := bg0_4.2.1
  have k_bg02 := bg0_4.2.2
  rw [eqI_self]
  go_wp2_with fail
  refine (markRegion_any Q2 _ _ _ _ _ _ (ldC s0) 1 _ (by omega) (by omega) (by omega) g0_4).mono ?_; rintro e w5 ⟨rfl, or5, hb5⟩
  clear k_bw00 k_bw01 k_bw02 k_bg00 k_bg01 k_bg02
  have z5 : w4.heap.size ≤ w5.heap.size := hb5.size
  have B5 := belowG B4 hb5 g0_4 (by have := B4.size; omega)
  have bw0_5 := bw0_4.grown hb5 (g0_4.offBox (by have := B4.size; omega))
  have bg0_5 := bg0_4.grown hb5 (g0_4.offBox (by have := B4.size; omega))
  have w0_5 := w0_4.grown hb5 (Own.apart w0_4 g0_4 (by omega))
  have w1_5 := w1_4.grown hb5 (Own.apart w1_4 g0_4 (by omega))
  have g1_5 := g1_4.grown hb5 fb2
  clear hb5  bw0_4 bg0_4 w0_4 w1_4 g0_4 g1_4 B4
  have k_bw00 := bw0_5.1
  have k_bw01 := bw0_5.2.1
  have k_bw02 := bw0_5.2.2
  have k_bg00 := bg0_5.1
  have k_bg01 := bg0_5.2.1
  have k_bg02 := bg0_5.2.2
  have g0_5 := or5
  clear or5
  go_wp2_with fail
  refine (markIntS_any P2 _ _ _ _ (ldZ s0) (1 + ((ldC s0).length : Int)) _ (by omega) (by omega) (by omega) g1_5).mono ?_; rintro e w6 ⟨rfl, or6, hb6⟩
  clear k_bw00 k_bw01 k_bw02 k_bg00 k_bg01 k_bg02
  have z6 : w5.heap.size ≤ w6.heap.size := hb6.size
  have B6 := belowG B5 hb6 g1_5 (by have := B5.size; omega)
  have bw0_6 := bw0_5.grown hb6 (g1_5.offBox (by have := B5.size; omega))
  have bg0_6 := bg0_5.grown hb6 (g1_5.offBox (by have := B5.size; omega))
  have w0_6 := w0_5.grown hb6 (Own.apart w0_5 g1_5 (by omega))
  have w1_6 := w1_5.grown hb6 (Own.apart w1_5 g1_5 (by omega))
  have g0_6 := g0_5.grown hb6 fa2
  clear hb6  bw0_5 bg0_5 w0_5 w1_5 g0_5 g1_5 B5
  have k_bw00 := bw0_6.1
  have k_bw01 := bw0_6.2.1
  have k_bw02 := bw0_6.2.2
  have k_bg00 := bg0_6.1
  have k_bg01 := bg0_6.2.1
  have k_bg02 := bg0_6.2.2
  have g1_6 := or6
  clear or6
  go_wp2_with fail
  refine (heldRegion_any Q2 _ _ _ _ 1 _ (by omega) (by omega) (by omega) g0_6.sl).mono ?_; rintro e w7 ⟨rfl, hb7⟩
  clear k_bw00 k_bw01 k_bw02 k_bg00 k_bg01 k_bg02
  have z7 : w6.heap.size ≤ w7.heap.size := hb7.size
  have B7 := belowW B6 hb7
  have bw0_7 := bw0_6.below hb7
  have bg0_7 := bg0_6.below hb7
  have w0_7 := w0_6.below hb7
  have w1_7 := w1_6.below hb7
  have g0_7 := g0_6.below hb7
  have g1_7 := g1_6.below hb7
  clear hb7  bw0_6 bg0_6 w0_6 w1_6 g0_6 g1_6 B6
  have k_bw00 := bw0_7.1
  have k_bw01 := bw0_7.2.1
  have k_bw02 := bw0_7.2.2
  have k_bg00 := bg0_7.1
  have k_bg01 := bg0_7.2.1
  have k_bg02 := bg0_7.2.2
  go_wp2_with fail
  refine (heldIntS_any P2 _ _ (1 + ((ldC s0).length : Int)) _ (by omega) (by omega) (by omega) g1_7.sl).mono ?_; rintro e w8 ⟨rfl, hb8⟩
  clear k_bw00 k_bw01 k_bw02 k_bg00 k_bg01 k_bg02
  have z8 : w7.heap.size ≤ w8.heap.size := hb8.size
  have B8 := belowW B7 hb8
  have bw0_8 := bw0_7.below hb8
  have bg0_8 := bg0_7.below hb8
  have w0_8 := w0_7.below hb8
  have w1_8 := w1_7.below hb8
  have g0_8 := g0_7.below hb8
  have g1_8 := g1_7.below hb8
  clear hb8  bw0_7 bg0_7 w0_7 w1_7 g0_7 g1_7 B7
  have k_bw00 := bw0_8.1
  have k_bw01 := bw0_8.2.1
  have k_bw02 := bw0_8.2.2
  have k_bg00 := bg0_8.1
  have k_bg01 := bg0_8.2.1
  have k_bg02 := bg0_8.2.2
  go_wp2_with fail
  refine (lread_impl s0 _ hx0).mono ?_; rintro e w9 ⟨Q9, q9, d9, P9, p9, u9, rfl, or9, ol9, fa9, fb9, hb9, hm9, hl9⟩
  clear k_bw00 k_bw01 k_bw02 k_bg00 k_bg01 k_bg02
  have z9 : w8.heap.size ≤ w9.heap.size := hb9.size
  have B9 := belowW B8 hb9
  have bw0_9 := bw0_8.below hb9
  have bg0_9 := bg0_8.below hb9
  have w0_9 := w0_8.below hb9
  have w1_9 := w1_8.below hb9
  have g0_9 := g0_8.below hb9
  have g1_9 := g1_8.below hb9
  have h0_9 : Own w9 (w8.heap.size) w9.heap.size 4 Q9 (ldC s0).length d9 ((ldC s0).map .bool) := or9
  clear hb9 or9 bw0_8 bg0_8 w0_8 w1_8 g0_8 g1_8 B8
  have k_bw00 := bw0_9.1
  have k_bw01 := bw0_9.2.1
  have k_bw02 := bw0_9.2.2
  have k_bg00 := bg0_9.1
  have k_bg01 := bg0_9.2.1
  have k_bg02 := bg0_9.2.2
  have h1_9 : Own w9 (w8.heap.size) w9.heap.size 3 P9 (ldZ s0).length u9 ((ldZ s0).map (.int .i64)) := ol9
  clear ol9
  have l_bw0 := bw0_9.lt
  have m_bw0 := Nat.ne_of_lt l_bw0
  have l_bg0 := bg0_9.lt
  have m_bg0 := Nat.ne_of_lt l_bg0
  go_wp2_with fail
  refine (eqRegion_any Q9 Q1 _ _ _ _ (ldW s0) (ldT s0) (ldW s0) (ldT s0) (ldC s0) (ldC s0) _ (by omega) (h0_9.sl.alloc _) (w0_9.sl.alloc _)).mono ?_; rintro e w10 ⟨rfl, hb10⟩
  clear l_bw0 m_bw0 l_bg0 m_bg0
  clear k_bw00 k_bw01 k_bw02 k_bg00 k_bg01 k_bg02
  have z10 : w9.heap.size + 1 ≤ w10.heap.size := by have h := hb10.size; simp only [World.size_alloc] at h; exact h
  have B10 := belowW (belowA B9) hb10
  have bw0_10 := (bw0_9.alloc _).below hb10
  have bg0_10 := (bg0_9.alloc _).below hb10
  have w0_10 := (w0_9.alloc _).below hb10
  have w1_10 := (w1_9.alloc _).below hb10
  have g0_10 := (g0_9.alloc _).below hb10
  have g1_10 := (g1_9.alloc _).below hb10
  have h0_10 := (h0_9.alloc _).below hb10
  have h1_10 := (h1_9.alloc _).below hb10
  have bh0_10 := (Box.new w9 (.int .i64 (ldW s0)) (.int .i64 (ldT s0)) (.slice Q9 (ldC s0).length q9) 24).below hb10
  clear hb10  bw0_9 bg0_9 w0_9 w1_9 g0_9 g1_9 h0_9 h1_9 B9
  have k_bw00 := bw0_10.1
  have k_bw01 := bw0_10.2.1
  have k_bw02 := bw0_10.2.2
  have k_bg00 := bg0_10.1
  have k_bg01 := bg0_10.2.1
  have k_bg02 := bg0_10.2.2
  have k_bh00 := bh0_10.1
  have k_bh01 := bh0_10.2.1
  have k_bh02 := bh0_10.2.2
  rw [regEq_self]
  go_wp2_with fail
  refine (eqIntS_any P9 P1 _ _ _ _ (ldZ s0) (ldZ s0) _ (by omega) h1_10.sl w1_10.sl).mono ?_; rintro e w11 ⟨rfl, hb11⟩
  clear k_bw00 k_bw01 k_bw02 k_bg00 k_bg01 k_bg02 k_bh00 k_bh01 k_bh02
  have z11 : w10.heap.size ≤ w11.heap.size := hb11.size
  have B11 := belowW B10 hb11
  have bw0_11 := bw0_10.below hb11
  have bg0_11 := bg0_10.below hb11
  have bh0_11 := bh0_10.below hb11
  have w0_11 := w0_10.below hb11
  have w1_11 := w1_10.below hb11
  have g0_11 := g0_10.below hb11
  have g1_11 := g1_10.below hb11
  have h0_11 := h0_10.below hb11
  have h1_11 := h1_10.below hb11
  clear hb11  bw0_10 bg0_10 bh0_10 w0_10 w1_10 g0_10 g1_10 h0_10 h1_10 B10
  have k_bw00 := bw0_11.1
  have k_bw01 := bw0_11.2.1
  have k_bw02 := bw0_11.2.2
  have k_bg00 := bg0_11.1
  have k_bg01 := bg0_11.2.1
  have k_bg02 := bg0_11.2.2
  have k_bh00 := bh0_11.1
  have k_bh01 := bh0_11.2.1
  have k_bh02 := bh0_11.2.2
  rw [eqI_self]
  go_wp2_with fail
  refine (heldRegion_any Q2 _ _ _ _ 1 _ (by omega) (by omega) (by omega) g0_11.sl).mono ?_; rintro e w12 ⟨rfl, hb12⟩
  clear k_bw00 k_bw01 k_bw02 k_bg00 k_bg01 k_bg02 k_bh00 k_bh01 k_bh02
  have z12 : w11.heap.size ≤ w12.heap.size := hb12.size
  have B12 := belowW B11 hb12
  have bw0_12 := bw0_11.below hb12
  have bg0_12 := bg0_11.below hb12
  have bh0_12 := bh0_11.below hb12
  have w0_12 := w0_11.below hb12
  have w1_12 := w1_11.below hb12
  have g0_12 := g0_11.below hb12
  have g1_12 := g1_11.below hb12
  have h0_12 := h0_11.below hb12
  have h1_12 := h1_11.below hb12
  clear hb12  bw0_11 bg0_11 bh0_11 w0_11 w1_11 g0_11 g1_11 h0_11 h1_11 B11
  have k_bw00 := bw0_12.1
  have k_bw01 := bw0_12.2.1
  have k_bw02 := bw0_12.2.2
  have k_bg00 := bg0_12.1
  have k_bg01 := bg0_12.2.1
  have k_bg02 := bg0_12.2.2
  have k_bh00 := bh0_12.1
  have k_bh01 := bh0_12.2.1
  have k_bh02 := bh0_12.2.2
  go_wp2_with fail
  refine (heldIntS_any P2 _ _ (1 + ((ldC s0).length : Int)) _ (by omega) (by omega) (by omega) g1_12.sl).mono ?_; rintro e w13 ⟨rfl, hb13⟩
  clear k_bw00 k_bw01 k_bw02 k_bg00 k_bg01 k_bg02 k_bh00 k_bh01 k_bh02
  have z13 : w12.heap.size ≤ w13.heap.size := hb13.size
  have B13 := belowW B12 hb13
  have bw0_13 := bw0_12.below hb13
  have bg0_13 := bg0_12.below hb13
  have bh0_13 := bh0_12.below hb13
  have w0_13 := w0_12.below hb13
  have w1_13 := w1_12.below hb13
  have g0_13 := g0_12.below hb13
  have g1_13 := g1_12.below hb13
  have h0_13 := h0_12.below hb13
  have h1_13 := h1_12.below hb13
  clear hb13  bw0_12 bg0_12 bh0_12 w0_12 w1_12 g0_12 g1_12 h0_12 h1_12 B12
  have k_bw00 := bw0_13.1
  have k_bw01 := bw0_13.2.1
  have k_bw02 := bw0_13.2.2
  have k_bg00 := bg0_13.1
  have k_bg01 := bg0_13.2.1
  have k_bg02 := bg0_13.2.2
  have k_bh00 := bh0_13.1
  have k_bh01 := bh0_13.2.1
  have k_bh02 := bh0_13.2.2
  go_wp2_with fail
  go_ret
  exact ⟨rfl, B13⟩

end Go.Proofs.YtepnhhehfkcgkaaDoor
