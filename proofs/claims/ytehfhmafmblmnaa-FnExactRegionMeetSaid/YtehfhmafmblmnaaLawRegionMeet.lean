/-
  The law FnExactRegionMeet: its walk. By program (wip/tools/genlaw.py).
-/
import Derived.Test.YtehfhmafmblmnaaCombM
import Derived.Test.YtehfhmafmblmnaaLawB
import Derived.Test.YtehfhmafmblmnaaMem2
import Derived.Deep.RegionHeld3
import Derived.Deep.DeepCutAuto
namespace Go.Proofs.Ytehfhmafmblmnaa
open Go.RowKit


set_option maxRecDepth 100000 in
set_option maxHeartbeats 2000000 in
theorem law_RegionMeet (A0 : Option Addr) (n0 c0 : Nat) (W0 T0 : Int) (bs0 : List Bool) (A1 : Option Addr) (n1 c1 : Nat) (W1 T1 : Int) (bs1 : List Bool) (w : World) (hn0 : n0 ≤ 9223372036854775807) (h0 : Sl w A0 n0 (bs0.map .bool)) (hn1 : n1 ≤ 9223372036854775807) (h1 : Sl w A1 n1 (bs1.map .bool)) :
    Calls Try.prog 8 #[.agg #[.int .i64 W0, .int .i64 T0, .slice A0 n0 c0], .agg #[.int .i64 W1, .int .i64 T1, .slice A1 n1 c1]] w fun e w' => e = .returned (.bool true) ∧ Below w.heap.size w w' := by
  by_cases hbig0 : (1048576 : Int) < (n0 : Int)
  · have e0 : szV 1048576 n0 = -1 := by rw [szV, if_pos (by omega)]
    go_enter Try.func8, Try.ntmps8
    go_wp2_with fail
    refine (szRegion_any A0 n0 c0 W0 T0 1048576 _ hn0 (by omega) (by omega)).mono ?_; rintro e w1 ⟨rfl, hb1⟩
    have B0 : Below w.heap.size w w := Below.refl _ _
    have z1 : w.heap.size + 1 + 1 ≤ w1.heap.size := by have h := hb1.size; simp only [World.size_alloc] at h; exact h
    have B1 := belowW (belowA (belowA B0)) hb1
    have p0_1 := ((Box.new w (.int .i64 W0) (.int .i64 T0) (.slice A0 n0 c0) 24).alloc _).below hb1
    have p1_1 : Box w1 (w.heap.size + 1) (.int .i64 W1) (.int .i64 T1) (.slice A1 n1 c1) := by simpa using (Box.new (w.alloc (.cells #[.int .i64 W0, .int .i64 T0, .slice A0 n0 c0] 24)) (.int .i64 W1) (.int .i64 T1) (.slice A1 n1 c1) 24).below hb1
    clear hb1  
    have k_p00 := p0_1.1
    have k_p01 := p0_1.2.1
    have k_p02 := p0_1.2.2
    have k_p10 := p1_1.1
    have k_p11 := p1_1.2.1
    have k_p12 := p1_1.2.2
    rw [e0]
    go_wp2_with fail
    go_ret
    exact ⟨rfl, B1⟩
  by_cases hbig1 : ((1048576 - (n0 : Int) : Int) : Int) < (n1 : Int)
  · have e1 : szV ((1048576 - (n0 : Int) : Int)) n1 = -1 := by rw [szV, if_pos (by omega)]
    have e0 : szV 1048576 n0 = 1048576 - (n0 : Int) := by rw [szV, if_neg (by omega)]
    go_enter Try.func8, Try.ntmps8
    go_wp2_with fail
    refine (szRegion_any A0 n0 c0 W0 T0 1048576 _ hn0 (by omega) (by omega)).mono ?_; rintro e w1 ⟨rfl, hb1⟩
    have B0 : Below w.heap.size w w := Below.refl _ _
    have z1 : w.heap.size + 1 + 1 ≤ w1.heap.size := by have h := hb1.size; simp only [World.size_alloc] at h; exact h
    have B1 := belowW (belowA (belowA B0)) hb1
    have p0_1 := ((Box.new w (.int .i64 W0) (.int .i64 T0) (.slice A0 n0 c0) 24).alloc _).below hb1
    have p1_1 : Box w1 (w.heap.size + 1) (.int .i64 W1) (.int .i64 T1) (.slice A1 n1 c1) := by simpa using (Box.new (w.alloc (.cells #[.int .i64 W0, .int .i64 T0, .slice A0 n0 c0] 24)) (.int .i64 W1) (.int .i64 T1) (.slice A1 n1 c1) 24).below hb1
    clear hb1  
    have k_p00 := p0_1.1
    have k_p01 := p0_1.2.1
    have k_p02 := p0_1.2.2
    have k_p10 := p1_1.1
    have k_p11 := p1_1.2.1
    have k_p12 := p1_1.2.2
    rw [e0]
    go_wp2_with fail
    refine (szRegion_any A1 n1 c1 W1 T1 (1048576 - (n0 : Int)) _ hn1 (by omega) (by omega)).mono ?_; rintro e w2 ⟨rfl, hb2⟩
    clear k_p00 k_p01 k_p02 k_p10 k_p11 k_p12
    have z2 : w1.heap.size ≤ w2.heap.size := hb2.size
    have B2 := belowW B1 hb2
    have p0_2 := p0_1.below hb2
    have p1_2 := p1_1.below hb2
    clear hb2  p0_1 p1_1 B1
    have k_p00 := p0_2.1
    have k_p01 := p0_2.2.1
    have k_p02 := p0_2.2.2
    have k_p10 := p1_2.1
    have k_p11 := p1_2.2.1
    have k_p12 := p1_2.2.2
    rw [e1]
    go_wp2_with fail
    go_ret
    exact ⟨rfl, B2⟩
  have e0 : szV 1048576 n0 = 1048576 - (n0 : Int) := by rw [szV, if_neg (by omega)]
  have e1 : szV (1048576 - (n0 : Int)) n1 = 1048576 - (n0 : Int) - (n1 : Int) := by rw [szV, if_neg (by omega)]
  go_enter Try.func8, Try.ntmps8
  go_wp2_with fail
  refine (szRegion_any A0 n0 c0 W0 T0 1048576 _ hn0 (by omega) (by omega)).mono ?_; rintro e w1 ⟨rfl, hb1⟩
  have B0 : Below w.heap.size w w := Below.refl _ _
  have z1 : w.heap.size + 1 + 1 ≤ w1.heap.size := by have h := hb1.size; simp only [World.size_alloc] at h; exact h
  have B1 := belowW (belowA (belowA B0)) hb1
  have p0_1 := ((Box.new w (.int .i64 W0) (.int .i64 T0) (.slice A0 n0 c0) 24).alloc _).below hb1
  have p1_1 : Box w1 (w.heap.size + 1) (.int .i64 W1) (.int .i64 T1) (.slice A1 n1 c1) := by simpa using (Box.new (w.alloc (.cells #[.int .i64 W0, .int .i64 T0, .slice A0 n0 c0] 24)) (.int .i64 W1) (.int .i64 T1) (.slice A1 n1 c1) 24).below hb1
  clear hb1  
  have k_p00 := p0_1.1
  have k_p01 := p0_1.2.1
  have k_p02 := p0_1.2.2
  have k_p10 := p1_1.1
  have k_p11 := p1_1.2.1
  have k_p12 := p1_1.2.2
  rw [e0]
  go_wp2_with fail
  refine (szRegion_any A1 n1 c1 W1 T1 (1048576 - (n0 : Int)) _ hn1 (by omega) (by omega)).mono ?_; rintro e w2 ⟨rfl, hb2⟩
  clear k_p00 k_p01 k_p02 k_p10 k_p11 k_p12
  have z2 : w1.heap.size ≤ w2.heap.size := hb2.size
  have B2 := belowW B1 hb2
  have p0_2 := p0_1.below hb2
  have p1_2 := p1_1.below hb2
  clear hb2  p0_1 p1_1 B1
  have k_p00 := p0_2.1
  have k_p01 := p0_2.2.1
  have k_p02 := p0_2.2.2
  have k_p10 := p1_2.1
  have k_p11 := p1_2.2.1
  have k_p12 := p1_2.2.2
  rw [e1]
  go_wp2_with fail
  have nz0 := Nat.ne_of_gt p0_2.lt
  have nz1 := Nat.ne_of_gt p1_2.lt
  go_upto_region 8 with fail
  go_cut [6, 7] (fun s6 s7 wx => s7 = .bool (combB andO W0 T0 n0 bs0 W1 T1 n1 bs1) ∧ MeetR w2 (combW andO W0 T0 n0 bs0 W1 T1 n1 bs1) (combT andO W0 T0 n0 bs0 W1 T1 n1 bs1) (combC andO W0 T0 n0 bs0 W1 T1 n1 bs1) s6 wx)
  case first =>
    go_region_held3 (fun w' => w'.cell? ⟨w.heap.size, 0, none⟩ = some (.int .i64 W0) ∧ w'.cell? ⟨w.heap.size, 1, none⟩ = some (.int .i64 T0) ∧ w'.cell? ⟨w.heap.size, 2, none⟩ = some (.slice A0 n0 c0) ∧ w'.cell? ⟨w.heap.size + 1, 0, none⟩ = some (.int .i64 W1) ∧ w'.cell? ⟨w.heap.size + 1, 1, none⟩ = some (.int .i64 T1) ∧ w'.cell? ⟨w.heap.size + 1, 2, none⟩ = some (.slice A1 n1 c1))
      (first | exact ⟨p0_2.1, p0_2.2.1, p0_2.2.2, p1_2.1, p1_2.2.1, p1_2.2.2⟩ | go_keep)
      (first
        | (go_at_call_of 17 (Value.agg #[Value.int IntKind.i64 W0, Value.int IntKind.i64 T0, Value.slice A0 n0 c0]); refine (toRegion_any A0 n0 c0 W0 T0 bs0 _ (by omega) (h0.below (belowW B2 DB))).mono ?_; rintro e wA ⟨gA, rfl, orA, hbA⟩; have DA := belowW DB hbA; have orB2 := orB.below hbA; have PA0 := p0_2.below DA; have cA00 := PA0.1; have cA01 := PA0.2.1; have cA02 := PA0.2.2; have nnA0 := Nat.ne_of_gt PA0.lt; have PA1 := p1_2.below DA; have cA10 := PA1.1; have cA11 := PA1.2.1; have cA12 := PA1.2.2; have nnA1 := Nat.ne_of_gt PA1.lt; (first | (have zx := zx.below hbA; have zt := zt.below hbA) | skip))
        | (go_at_call_of 17 (Value.agg #[Value.int IntKind.i64 W0, Value.int IntKind.i64 T0, Value.slice A0 n0 c0]); refine (toRegion_any A0 n0 c0 W0 T0 bs0 _ (by omega) (h0.below (belowA (belowW B2 DB)))).mono ?_; rintro e wA ⟨gA, rfl, orA, hbA⟩; have DA := belowW (belowA DB) hbA; have orB2 := (orB.alloc _).below hbA; have PA0 := p0_2.below DA; have cA00 := PA0.1; have cA01 := PA0.2.1; have cA02 := PA0.2.2; have nnA0 := Nat.ne_of_gt PA0.lt; have PA1 := p1_2.below DA; have cA10 := PA1.1; have cA11 := PA1.2.1; have cA12 := PA1.2.2; have nnA1 := Nat.ne_of_gt PA1.lt; have zx := (Box.new wB (.int .i64 0) (.int .i64 0) (.slice none 0 0) 27).below hbA; have zt := (Thaw.new wB #[.int .i64 0, .int .i64 0, .slice none 0 0] 27).below hbA; have zl : w2.heap.size ≤ wB.heap.size := DB.size)
        | (go_at_call_of 17 (Value.agg #[Value.int IntKind.i64 W0, Value.int IntKind.i64 T0, Value.slice A0 n0 c0]); refine (toRegion_any A0 n0 c0 W0 T0 bs0 _ (by omega) (h0.below B2.drew)).mono ?_; rintro e wA ⟨gA, rfl, orA, hbA⟩; have DA := belowW (Below.refl _ _).drew hbA; have PA0 := p0_2.below DA; have cA00 := PA0.1; have cA01 := PA0.2.1; have cA02 := PA0.2.2; have nnA0 := Nat.ne_of_gt PA0.lt; have PA1 := p1_2.below DA; have cA10 := PA1.1; have cA11 := PA1.2.1; have cA12 := PA1.2.2; have nnA1 := Nat.ne_of_gt PA1.lt)
        | (go_at_call_of 17 (Value.agg #[Value.int IntKind.i64 W0, Value.int IntKind.i64 T0, Value.slice A0 n0 c0]); refine (toRegion_any A0 n0 c0 W0 T0 bs0 _ (by omega) (h0.below (belowA B2).drew)).mono ?_; rintro e wA ⟨gA, rfl, orA, hbA⟩; have DA := belowW (below1 _ _).drew hbA; have PA0 := p0_2.below DA; have cA00 := PA0.1; have cA01 := PA0.2.1; have cA02 := PA0.2.2; have nnA0 := Nat.ne_of_gt PA0.lt; have PA1 := p1_2.below DA; have cA10 := PA1.1; have cA11 := PA1.2.1; have cA12 := PA1.2.2; have nnA1 := Nat.ne_of_gt PA1.lt; have zx := (Box.new w2 (.int .i64 0) (.int .i64 0) (.slice none 0 0) 27).drew.below hbA; have zt := (Thaw.new w2 #[.int .i64 0, .int .i64 0, .slice none 0 0] 27).drew.below hbA; have zl : w2.heap.size ≤ w2.heap.size := Nat.le_refl _)
        | (go_at_call_of 17 (Value.agg #[Value.int IntKind.i64 W1, Value.int IntKind.i64 T1, Value.slice A1 n1 c1]); refine (toRegion_any A1 n1 c1 W1 T1 bs1 _ (by omega) (h1.below (belowW B2 DA))).mono ?_; rintro e wB ⟨gB, rfl, orB, hbB⟩; have DB := belowW DA hbB; have orA2 := orA.below hbB; have PB0 := p0_2.below DB; have cB00 := PB0.1; have cB01 := PB0.2.1; have cB02 := PB0.2.2; have nnB0 := Nat.ne_of_gt PB0.lt; have PB1 := p1_2.below DB; have cB10 := PB1.1; have cB11 := PB1.2.1; have cB12 := PB1.2.2; have nnB1 := Nat.ne_of_gt PB1.lt; (first | (have zx := zx.below hbB; have zt := zt.below hbB) | skip))
        | (go_at_call_of 17 (Value.agg #[Value.int IntKind.i64 W1, Value.int IntKind.i64 T1, Value.slice A1 n1 c1]); refine (toRegion_any A1 n1 c1 W1 T1 bs1 _ (by omega) (h1.below (belowA (belowW B2 DA)))).mono ?_; rintro e wB ⟨gB, rfl, orB, hbB⟩; have DB := belowW (belowA DA) hbB; have orA2 := (orA.alloc _).below hbB; have PB0 := p0_2.below DB; have cB00 := PB0.1; have cB01 := PB0.2.1; have cB02 := PB0.2.2; have nnB0 := Nat.ne_of_gt PB0.lt; have PB1 := p1_2.below DB; have cB10 := PB1.1; have cB11 := PB1.2.1; have cB12 := PB1.2.2; have nnB1 := Nat.ne_of_gt PB1.lt; have zx := (Box.new wA (.int .i64 0) (.int .i64 0) (.slice none 0 0) 27).below hbB; have zt := (Thaw.new wA #[.int .i64 0, .int .i64 0, .slice none 0 0] 27).below hbB; have zl : w2.heap.size ≤ wA.heap.size := DA.size)
        | (go_at_call_of 17 (Value.agg #[Value.int IntKind.i64 W1, Value.int IntKind.i64 T1, Value.slice A1 n1 c1]); refine (toRegion_any A1 n1 c1 W1 T1 bs1 _ (by omega) (h1.below B2.drew)).mono ?_; rintro e wB ⟨gB, rfl, orB, hbB⟩; have DB := belowW (Below.refl _ _).drew hbB; have PB0 := p0_2.below DB; have cB00 := PB0.1; have cB01 := PB0.2.1; have cB02 := PB0.2.2; have nnB0 := Nat.ne_of_gt PB0.lt; have PB1 := p1_2.below DB; have cB10 := PB1.1; have cB11 := PB1.2.1; have cB12 := PB1.2.2; have nnB1 := Nat.ne_of_gt PB1.lt)
        | (go_at_call_of 17 (Value.agg #[Value.int IntKind.i64 W1, Value.int IntKind.i64 T1, Value.slice A1 n1 c1]); refine (toRegion_any A1 n1 c1 W1 T1 bs1 _ (by omega) (h1.below (belowA B2).drew)).mono ?_; rintro e wB ⟨gB, rfl, orB, hbB⟩; have DB := belowW (below1 _ _).drew hbB; have PB0 := p0_2.below DB; have cB00 := PB0.1; have cB01 := PB0.2.1; have cB02 := PB0.2.2; have nnB0 := Nat.ne_of_gt PB0.lt; have PB1 := p1_2.below DB; have cB10 := PB1.1; have cB11 := PB1.2.1; have cB12 := PB1.2.2; have nnB1 := Nat.ne_of_gt PB1.lt; have zx := (Box.new w2 (.int .i64 0) (.int .i64 0) (.slice none 0 0) 27).drew.below hbB; have zt := (Thaw.new w2 #[.int .i64 0, .int .i64 0, .slice none 0 0] 27).drew.below hbB; have zl : w2.heap.size ≤ w2.heap.size := Nat.le_refl _)
        | (go_at_call 36; refine (meet_spec (some ⟨gA, 0, none⟩) n0 n0 W0 T0 bs0 (some ⟨gB, 0, none⟩) n1 n1 W1 T1 bs1 _ (by omega) orA.sl (by omega) orB2.sl).mono ?_; rintro e wS ⟨QS, qS, dS, rfl, orS, hbS, hmS⟩; have DS := belowW DA hbS; have hbase := DA.size; have PS0 := p0_2.below DS; have cS00 := PS0.1; have cS01 := PS0.2.1; have cS02 := PS0.2.2; have nnS0 := Nat.ne_of_gt PS0.lt; have PS1 := p1_2.below DS; have cS10 := PS1.1; have cS11 := PS1.2.1; have cS12 := PS1.2.2; have nnS1 := Nat.ne_of_gt PS1.lt; (first | (have zb' := zx.lt; have zx := zx.below hbS; have zt := zt.below hbS) | skip); (first | (have q0 := zx.1; have q1 := zx.2.1; have q2 := zx.2.2; have t0 := zt.2 0; have t1 := zt.2 1; have t2 := zt.2 2) | skip))
        | (go_at_call 36; refine (meet_spec (some ⟨gA, 0, none⟩) n0 n0 W0 T0 bs0 (some ⟨gB, 0, none⟩) n1 n1 W1 T1 bs1 _ (by omega) (orA.alloc _).sl (by omega) (orB2.alloc _).sl).mono ?_; rintro e wS ⟨QS, qS, dS, rfl, orS, hbS, hmS⟩; have DS := belowW (belowA DA) hbS; have hbase : w2.heap.size ≤ (wA.alloc (.cells #[.int .i64 0, .int .i64 0, .slice none 0 0] 27)).heap.size := Nat.le_trans DA.size (by simp); have PS0 := p0_2.below DS; have cS00 := PS0.1; have cS01 := PS0.2.1; have cS02 := PS0.2.2; have nnS0 := Nat.ne_of_gt PS0.lt; have PS1 := p1_2.below DS; have cS10 := PS1.1; have cS11 := PS1.2.1; have cS12 := PS1.2.2; have nnS1 := Nat.ne_of_gt PS1.lt; have zb' : wA.heap.size < (wA.alloc (.cells #[.int .i64 0, .int .i64 0, .slice none 0 0] 27)).heap.size := (by simp); have zx := (Box.new wA (.int .i64 0) (.int .i64 0) (.slice none 0 0) 27).below hbS; have zt := (Thaw.new wA #[.int .i64 0, .int .i64 0, .slice none 0 0] 27).below hbS; have zl : w2.heap.size ≤ wA.heap.size := DA.size; (first | (have q0 := zx.1; have q1 := zx.2.1; have q2 := zx.2.2; have t0 := zt.2 0; have t1 := zt.2 1; have t2 := zt.2 2) | skip))
        | (go_at_call 36; refine (meet_spec (some ⟨gA, 0, none⟩) n0 n0 W0 T0 bs0 (some ⟨gB, 0, none⟩) n1 n1 W1 T1 bs1 _ (by omega) orA2.sl (by omega) orB.sl).mono ?_; rintro e wS ⟨QS, qS, dS, rfl, orS, hbS, hmS⟩; have DS := belowW DB hbS; have hbase := DB.size; have PS0 := p0_2.below DS; have cS00 := PS0.1; have cS01 := PS0.2.1; have cS02 := PS0.2.2; have nnS0 := Nat.ne_of_gt PS0.lt; have PS1 := p1_2.below DS; have cS10 := PS1.1; have cS11 := PS1.2.1; have cS12 := PS1.2.2; have nnS1 := Nat.ne_of_gt PS1.lt; (first | (have zb' := zx.lt; have zx := zx.below hbS; have zt := zt.below hbS) | skip); (first | (have q0 := zx.1; have q1 := zx.2.1; have q2 := zx.2.2; have t0 := zt.2 0; have t1 := zt.2 1; have t2 := zt.2 2) | skip))
        | (go_at_call 36; refine (meet_spec (some ⟨gA, 0, none⟩) n0 n0 W0 T0 bs0 (some ⟨gB, 0, none⟩) n1 n1 W1 T1 bs1 _ (by omega) (orA2.alloc _).sl (by omega) (orB.alloc _).sl).mono ?_; rintro e wS ⟨QS, qS, dS, rfl, orS, hbS, hmS⟩; have DS := belowW (belowA DB) hbS; have hbase : w2.heap.size ≤ (wB.alloc (.cells #[.int .i64 0, .int .i64 0, .slice none 0 0] 27)).heap.size := Nat.le_trans DB.size (by simp); have PS0 := p0_2.below DS; have cS00 := PS0.1; have cS01 := PS0.2.1; have cS02 := PS0.2.2; have nnS0 := Nat.ne_of_gt PS0.lt; have PS1 := p1_2.below DS; have cS10 := PS1.1; have cS11 := PS1.2.1; have cS12 := PS1.2.2; have nnS1 := Nat.ne_of_gt PS1.lt; have zb' : wB.heap.size < (wB.alloc (.cells #[.int .i64 0, .int .i64 0, .slice none 0 0] 27)).heap.size := (by simp); have zx := (Box.new wB (.int .i64 0) (.int .i64 0) (.slice none 0 0) 27).below hbS; have zt := (Thaw.new wB #[.int .i64 0, .int .i64 0, .slice none 0 0] 27).below hbS; have zl : w2.heap.size ≤ wB.heap.size := DB.size; (first | (have q0 := zx.1; have q1 := zx.2.1; have q2 := zx.2.2; have t0 := zt.2 0; have t1 := zt.2 1; have t2 := zt.2 2) | skip)))
    all_goals
      go_wp2_with fail
      go_meet
      first
        | (have m := meetR_early (W := combW andO W0 T0 n0 bs0 W1 T1 n1 bs1) (T := combT andO W0 T0 n0 bs0 W1 T1 n1 bs1) (q := qS) DS orS hbase hmS zx zl zb'; exact ⟨rfl, m⟩)
        | (have m := meetR_late (W := combW andO W0 T0 n0 bs0 W1 T1 n1 bs1) (T := combT andO W0 T0 n0 bs0 W1 T1 n1 bs1) (q := qS) (t := 27) DS orS hbase hmS; exact ⟨rfl, m⟩)
  case rest =>
    obtain ⟨w3, rfl⟩ : ∃ wq : World, wq = wc := ⟨wc, rfl⟩
    obtain ⟨rfl, b3x, Q3, q3, d3, rfl, lx3, bx3, or3, hb3, hm3⟩ := hcut
    clear k_p00 k_p01 k_p02 k_p10 k_p11 k_p12
    have z3 : w2.heap.size ≤ w3.heap.size := hb3.size
    have B3 := belowW B2 hb3
    have p0_3 := p0_2.below hb3
    have p1_3 := p1_2.below hb3
    have w0_3 : Own w3 (w2.heap.size) w3.heap.size 4 Q3 (combC andO W0 T0 n0 bs0 W1 T1 n1 bs1).length d3 ((combC andO W0 T0 n0 bs0 W1 T1 n1 bs1).map .bool) := or3
    clear hb3 or3 p0_2 p1_2 B2
    have k_p00 := p0_3.1
    have k_p01 := p0_3.2.1
    have k_p02 := p0_3.2.2
    have k_p10 := p1_3.1
    have k_p11 := p1_3.2.1
    have k_p12 := p1_3.2.2
    have bw0_3 := bx3
    clear bx3
    have lt3x := bw0_3.lt
    have k_bw00 := bw0_3.1
    have k_bw01 := bw0_3.2.1
    have k_bw02 := bw0_3.2.2
    go_wp2_with fail
    refine (toRegion_any A0 n0 c0 W0 T0 bs0 _ (by omega) (h0.below B3)).mono ?_; rintro e w4 ⟨g4, rfl, or4, hb4⟩
    clear k_p00 k_p01 k_p02 k_p10 k_p11 k_p12 k_bw00 k_bw01 k_bw02
    have z4 : w3.heap.size ≤ w4.heap.size := hb4.size
    have B4 := belowW B3 hb4
    have p0_4 := p0_3.below hb4
    have p1_4 := p1_3.below hb4
    have bw0_4 := bw0_3.below hb4
    have w0_4 := w0_3.below hb4
    have x0_4 : Own w4 (w3.heap.size) w4.heap.size 4 (some ⟨g4, 0, none⟩) n0 n0 (bs0.map .bool) := or4
    clear hb4 or4 p0_3 p1_3 bw0_3 w0_3 B3
    have k_p00 := p0_4.1
    have k_p01 := p0_4.2.1
    have k_p02 := p0_4.2.2
    have k_p10 := p1_4.1
    have k_p11 := p1_4.2.1
    have k_p12 := p1_4.2.2
    have k_bw00 := bw0_4.1
    have k_bw01 := bw0_4.2.1
    have k_bw02 := bw0_4.2.2
    have l_p0 := p0_4.lt
    have m_p0 := Nat.ne_of_lt l_p0
    have l_p1 := p1_4.lt
    have m_p1 := Nat.ne_of_lt l_p1
    have l_bw0 := bw0_4.lt
    have m_bw0 := Nat.ne_of_lt l_bw0
    go_wp2_with fail
    refine (toRegion_any A1 n1 c1 W1 T1 bs1 _ (by omega) (h1.below (belowA B4))).mono ?_; rintro e w5 ⟨g5, rfl, or5, hb5⟩
    clear l_p0 m_p0 l_p1 m_p1 l_bw0 m_bw0
    clear k_p00 k_p01 k_p02 k_p10 k_p11 k_p12 k_bw00 k_bw01 k_bw02
    have z5 : w4.heap.size + 1 ≤ w5.heap.size := by have h := hb5.size; simp only [World.size_alloc] at h; exact h
    have B5 := belowW (belowA B4) hb5
    have p0_5 := (p0_4.alloc _).below hb5
    have p1_5 := (p1_4.alloc _).below hb5
    have bw0_5 := (bw0_4.alloc _).below hb5
    have w0_5 := (w0_4.alloc _).below hb5
    have x0_5 := (x0_4.alloc _).below hb5
    have xx0_5 := (Box.new w4 (.int .i64 W0) (.int .i64 T0) (.slice (some ⟨g4, 0, none⟩) n0 n0) 27).below hb5
    have x1_5 : Own w5 (w4.heap.size + 1) w5.heap.size 4 (some ⟨g5, 0, none⟩) n1 n1 (bs1.map .bool) := or5.base (by simp)
    clear hb5 or5 p0_4 p1_4 bw0_4 w0_4 x0_4 B4
    have k_p00 := p0_5.1
    have k_p01 := p0_5.2.1
    have k_p02 := p0_5.2.2
    have k_p10 := p1_5.1
    have k_p11 := p1_5.2.1
    have k_p12 := p1_5.2.2
    have k_bw00 := bw0_5.1
    have k_bw01 := bw0_5.2.1
    have k_bw02 := bw0_5.2.2
    have k_xx00 := xx0_5.1
    have k_xx01 := xx0_5.2.1
    have k_xx02 := xx0_5.2.2
    have l_p0 := p0_5.lt
    have m_p0 := Nat.ne_of_lt l_p0
    have l_p1 := p1_5.lt
    have m_p1 := Nat.ne_of_lt l_p1
    have l_bw0 := bw0_5.lt
    have m_bw0 := Nat.ne_of_lt l_bw0
    have l_xx0 := xx0_5.lt
    have m_xx0 := Nat.ne_of_lt l_xx0
    go_wp2_with fail
    refine (meet_impl (some ⟨g4, 0, none⟩) n0 n0 W0 T0 bs0 (some ⟨g5, 0, none⟩) n1 n1 W1 T1 bs1 _ (by omega) (x0_5.sl.alloc _) (by omega) (x1_5.sl.alloc _)).mono ?_; rintro e w6 ⟨Q6, q6, d6, rfl, or6, hb6, hm6⟩
    clear l_p0 m_p0 l_p1 m_p1 l_bw0 m_bw0 l_xx0 m_xx0
    clear k_p00 k_p01 k_p02 k_p10 k_p11 k_p12 k_bw00 k_bw01 k_bw02 k_xx00 k_xx01 k_xx02
    have z6 : w5.heap.size + 1 ≤ w6.heap.size := by have h := hb6.size; simp only [World.size_alloc] at h; exact h
    have B6 := belowW (belowA B5) hb6
    have p0_6 := (p0_5.alloc _).below hb6
    have p1_6 := (p1_5.alloc _).below hb6
    have bw0_6 := (bw0_5.alloc _).below hb6
    have xx0_6 := (xx0_5.alloc _).below hb6
    have w0_6 := (w0_5.alloc _).below hb6
    have x0_6 := (x0_5.alloc _).below hb6
    have x1_6 := (x1_5.alloc _).below hb6
    have xx1_6 := (Box.new w5 (.int .i64 W1) (.int .i64 T1) (.slice (some ⟨g5, 0, none⟩) n1 n1) 27).below hb6
    have g0_6 : Own w6 (w5.heap.size + 1) w6.heap.size 4 Q6 (combC andO W0 T0 n0 bs0 W1 T1 n1 bs1).length d6 ((combC andO W0 T0 n0 bs0 W1 T1 n1 bs1).map .bool) := or6.base (by simp)
    clear hb6 or6 p0_5 p1_5 bw0_5 xx0_5 w0_5 x0_5 x1_5 B5
    have k_p00 := p0_6.1
    have k_p01 := p0_6.2.1
    have k_p02 := p0_6.2.2
    have k_p10 := p1_6.1
    have k_p11 := p1_6.2.1
    have k_p12 := p1_6.2.2
    have k_bw00 := bw0_6.1
    have k_bw01 := bw0_6.2.1
    have k_bw02 := bw0_6.2.2
    have k_xx00 := xx0_6.1
    have k_xx01 := xx0_6.2.1
    have k_xx02 := xx0_6.2.2
    have k_xx10 := xx1_6.1
    have k_xx11 := xx1_6.2.1
    have k_xx12 := xx1_6.2.2
    have l_p0 := p0_6.lt
    have m_p0 := Nat.ne_of_lt l_p0
    have l_p1 := p1_6.lt
    have m_p1 := Nat.ne_of_lt l_p1
    have l_bw0 := bw0_6.lt
    have m_bw0 := Nat.ne_of_lt l_bw0
    have l_xx0 := xx0_6.lt
    have m_xx0 := Nat.ne_of_lt l_xx0
    have l_xx1 := xx1_6.lt
    have m_xx1 := Nat.ne_of_lt l_xx1
    go_wp2_with fail
    refine (eqRegion_any Q6 Q3 _ _ _ _ (combW andO W0 T0 n0 bs0 W1 T1 n1 bs1) (combT andO W0 T0 n0 bs0 W1 T1 n1 bs1) (combW andO W0 T0 n0 bs0 W1 T1 n1 bs1) (combT andO W0 T0 n0 bs0 W1 T1 n1 bs1) (combC andO W0 T0 n0 bs0 W1 T1 n1 bs1) (combC andO W0 T0 n0 bs0 W1 T1 n1 bs1) _ (by omega) (g0_6.sl.alloc _) (w0_6.sl.alloc _)).mono ?_; rintro e w7 ⟨rfl, hb7⟩
    clear l_p0 m_p0 l_p1 m_p1 l_bw0 m_bw0 l_xx0 m_xx0 l_xx1 m_xx1
    clear k_p00 k_p01 k_p02 k_p10 k_p11 k_p12 k_bw00 k_bw01 k_bw02 k_xx00 k_xx01 k_xx02 k_xx10 k_xx11 k_xx12
    have z7 : w6.heap.size + 1 ≤ w7.heap.size := by have h := hb7.size; simp only [World.size_alloc] at h; exact h
    have B7 := belowW (belowA B6) hb7
    have p0_7 := (p0_6.alloc _).below hb7
    have p1_7 := (p1_6.alloc _).below hb7
    have bw0_7 := (bw0_6.alloc _).below hb7
    have xx0_7 := (xx0_6.alloc _).below hb7
    have xx1_7 := (xx1_6.alloc _).below hb7
    have w0_7 := (w0_6.alloc _).below hb7
    have x0_7 := (x0_6.alloc _).below hb7
    have x1_7 := (x1_6.alloc _).below hb7
    have g0_7 := (g0_6.alloc _).below hb7
    have bg0_7 := (Box.new w6 (.int .i64 (combW andO W0 T0 n0 bs0 W1 T1 n1 bs1)) (.int .i64 (combT andO W0 T0 n0 bs0 W1 T1 n1 bs1)) (.slice Q6 (combC andO W0 T0 n0 bs0 W1 T1 n1 bs1).length q6) 27).below hb7
    clear hb7  p0_6 p1_6 bw0_6 xx0_6 xx1_6 w0_6 x0_6 x1_6 g0_6 B6
    have k_p00 := p0_7.1
    have k_p01 := p0_7.2.1
    have k_p02 := p0_7.2.2
    have k_p10 := p1_7.1
    have k_p11 := p1_7.2.1
    have k_p12 := p1_7.2.2
    have k_bw00 := bw0_7.1
    have k_bw01 := bw0_7.2.1
    have k_bw02 := bw0_7.2.2
    have k_xx00 := xx0_7.1
    have k_xx01 := xx0_7.2.1
    have k_xx02 := xx0_7.2.2
    have k_xx10 := xx1_7.1
    have k_xx11 := xx1_7.2.1
    have k_xx12 := xx1_7.2.2
    have k_bg00 := bg0_7.1
    have k_bg01 := bg0_7.2.1
    have k_bg02 := bg0_7.2.2
    rw [regEq_self]
    go_wp2_with fail
    go_region_held3 (fun w' => w'.cell? ⟨w.heap.size, 0, none⟩ = some (.int .i64 W0) ∧ w'.cell? ⟨w.heap.size, 1, none⟩ = some (.int .i64 T0) ∧ w'.cell? ⟨w.heap.size, 2, none⟩ = some (.slice A0 n0 c0) ∧ w'.cell? ⟨w4.heap.size, 0, none⟩ = some (.int .i64 W0) ∧ w'.cell? ⟨w4.heap.size, 1, none⟩ = some (.int .i64 T0) ∧ w'.cell? ⟨w4.heap.size, 2, none⟩ = some (.slice (some ⟨g4, 0, none⟩) n0 n0))
      (first | exact ⟨p0_7.1, p0_7.2.1, p0_7.2.2, xx0_7.1, xx0_7.2.1, xx0_7.2.2⟩ | exact ⟨(p0_7.drew.below hb8).1, (p0_7.drew.below hb8).2.1, (p0_7.drew.below hb8).2.2, (xx0_7.drew.below hb8).1, (xx0_7.drew.below hb8).2.1, (xx0_7.drew.below hb8).2.2⟩ | exact ⟨((p0_7.drew.below hb8).below hb9).1, ((p0_7.drew.below hb8).below hb9).2.1, ((p0_7.drew.below hb8).below hb9).2.2, ((xx0_7.drew.below hb8).below hb9).1, ((xx0_7.drew.below hb8).below hb9).2.1, ((xx0_7.drew.below hb8).below hb9).2.2⟩)
      (first
        | (go_at_call 17; refine (toRegion_any A0 n0 c0 W0 T0 bs0 _ (by omega) (h0.below B7.drew)).mono ?_; rintro e w8 ⟨g8, rfl, or8, hb8⟩)
        | (go_at_call 19; refine (eqRegion_any _ _ n0 n0 _ _ W0 T0 W0 T0 bs0 bs0 _ (by omega) (x0_7.sl.drew.below hb8) or8.sl).mono ?_; rintro e w9 ⟨rfl, hb9⟩; rw [regEq_self]))
    have hb9' := below_step hb8 hb9 (Nat.le_refl _)
    clear hb9
    have hb9 : Below w7.heap.size w7.drew w9 := hb9'
    clear hb9' hb8 or8
    clear k_p00 k_p01 k_p02 k_p10 k_p11 k_p12 k_bw00 k_bw01 k_bw02 k_xx00 k_xx01 k_xx02 k_xx10 k_xx11 k_xx12 k_bg00 k_bg01 k_bg02
    have z9 : w7.heap.size ≤ w9.heap.size := hb9.size
    have B9 := belowW (B7.drew) hb9
    have p0_9 := p0_7.drew.below hb9
    have p1_9 := p1_7.drew.below hb9
    have bw0_9 := bw0_7.drew.below hb9
    have xx0_9 := xx0_7.drew.below hb9
    have xx1_9 := xx1_7.drew.below hb9
    have bg0_9 := bg0_7.drew.below hb9
    have w0_9 := w0_7.drew.below hb9
    have x0_9 := x0_7.drew.below hb9
    have x1_9 := x1_7.drew.below hb9
    have g0_9 := g0_7.drew.below hb9
    clear hb9  p0_7 p1_7 bw0_7 xx0_7 xx1_7 bg0_7 w0_7 x0_7 x1_7 g0_7 B7
    have k_p00 := p0_9.1
    have k_p01 := p0_9.2.1
    have k_p02 := p0_9.2.2
    have k_p10 := p1_9.1
    have k_p11 := p1_9.2.1
    have k_p12 := p1_9.2.2
    have k_bw00 := bw0_9.1
    have k_bw01 := bw0_9.2.1
    have k_bw02 := bw0_9.2.2
    have k_xx00 := xx0_9.1
    have k_xx01 := xx0_9.2.1
    have k_xx02 := xx0_9.2.2
    have k_xx10 := xx1_9.1
    have k_xx11 := xx1_9.2.1
    have k_xx12 := xx1_9.2.2
    have k_bg00 := bg0_9.1
    have k_bg01 := bg0_9.2.1
    have k_bg02 := bg0_9.2.2
    go_wp2_with fail
    go_region_held3 (fun w' => w'.cell? ⟨w.heap.size + 1, 0, none⟩ = some (.int .i64 W1) ∧ w'.cell? ⟨w.heap.size + 1, 1, none⟩ = some (.int .i64 T1) ∧ w'.cell? ⟨w.heap.size + 1, 2, none⟩ = some (.slice A1 n1 c1) ∧ w'.cell? ⟨w5.heap.size, 0, none⟩ = some (.int .i64 W1) ∧ w'.cell? ⟨w5.heap.size, 1, none⟩ = some (.int .i64 T1) ∧ w'.cell? ⟨w5.heap.size, 2, none⟩ = some (.slice (some ⟨g5, 0, none⟩) n1 n1))
      (first | exact ⟨p1_9.1, p1_9.2.1, p1_9.2.2, xx1_9.1, xx1_9.2.1, xx1_9.2.2⟩ | exact ⟨(p1_9.drew.below hb10).1, (p1_9.drew.below hb10).2.1, (p1_9.drew.below hb10).2.2, (xx1_9.drew.below hb10).1, (xx1_9.drew.below hb10).2.1, (xx1_9.drew.below hb10).2.2⟩ | exact ⟨((p1_9.drew.below hb10).below hb11).1, ((p1_9.drew.below hb10).below hb11).2.1, ((p1_9.drew.below hb10).below hb11).2.2, ((xx1_9.drew.below hb10).below hb11).1, ((xx1_9.drew.below hb10).below hb11).2.1, ((xx1_9.drew.below hb10).below hb11).2.2⟩)
      (first
        | (go_at_call 17; refine (toRegion_any A1 n1 c1 W1 T1 bs1 _ (by omega) (h1.below B9.drew)).mono ?_; rintro e w10 ⟨g10, rfl, or10, hb10⟩)
        | (go_at_call 19; refine (eqRegion_any _ _ n1 n1 _ _ W1 T1 W1 T1 bs1 bs1 _ (by omega) (x1_9.sl.drew.below hb10) or10.sl).mono ?_; rintro e w11 ⟨rfl, hb11⟩; rw [regEq_self]))
    have hb11' := below_step hb10 hb11 (Nat.le_refl _)
    clear hb11
    have hb11 : Below w9.heap.size w9.drew w11 := hb11'
    clear hb11' hb10 or10
    clear k_p00 k_p01 k_p02 k_p10 k_p11 k_p12 k_bw00 k_bw01 k_bw02 k_xx00 k_xx01 k_xx02 k_xx10 k_xx11 k_xx12 k_bg00 k_bg01 k_bg02
    have z11 : w9.heap.size ≤ w11.heap.size := hb11.size
    have B11 := belowW (B9.drew) hb11
    have p0_11 := p0_9.drew.below hb11
    have p1_11 := p1_9.drew.below hb11
    have bw0_11 := bw0_9.drew.below hb11
    have xx0_11 := xx0_9.drew.below hb11
    have xx1_11 := xx1_9.drew.below hb11
    have bg0_11 := bg0_9.drew.below hb11
    have w0_11 := w0_9.drew.below hb11
    have x0_11 := x0_9.drew.below hb11
    have x1_11 := x1_9.drew.below hb11
    have g0_11 := g0_9.drew.below hb11
    clear hb11  p0_9 p1_9 bw0_9 xx0_9 xx1_9 bg0_9 w0_9 x0_9 x1_9 g0_9 B9
    have k_p00 := p0_11.1
    have k_p01 := p0_11.2.1
    have k_p02 := p0_11.2.2
    have k_p10 := p1_11.1
    have k_p11 := p1_11.2.1
    have k_p12 := p1_11.2.2
    have k_bw00 := bw0_11.1
    have k_bw01 := bw0_11.2.1
    have k_bw02 := bw0_11.2.2
    have k_xx00 := xx0_11.1
    have k_xx01 := xx0_11.2.1
    have k_xx02 := xx0_11.2.2
    have k_xx10 := xx1_11.1
    have k_xx11 := xx1_11.2.1
    have k_xx12 := xx1_11.2.2
    have k_bg00 := bg0_11.1
    have k_bg01 := bg0_11.2.1
    have k_bg02 := bg0_11.2.2
    go_wp2_with fail
    refine (markRegion_any (some ⟨g4, 0, none⟩) _ _ _ _ _ _ bs0 (1) _ (by omega) (by omega) (by omega) x0_11).mono ?_; rintro e w12 ⟨rfl, or12, hb12⟩
    clear k_p00 k_p01 k_p02 k_p10 k_p11 k_p12 k_bw00 k_bw01 k_bw02 k_xx00 k_xx01 k_xx02 k_xx10 k_xx11 k_xx12 k_bg00 k_bg01 k_bg02
    have z12 : w11.heap.size ≤ w12.heap.size := hb12.size
    have B12 := belowG B11 hb12 x0_11 (by have := B11.size; omega)
    have p0_12 := p0_11.grown hb12 (x0_11.offBox (by have := B11.size; omega))
    have p1_12 := p1_11.grown hb12 (x0_11.offBox (by have := B11.size; omega))
    have bw0_12 := bw0_11.grown hb12 (x0_11.offBox (by have := B11.size; omega))
    have xx0_12 := xx0_11.grown hb12 (x0_11.offBox (by have := B11.size; omega))
    have xx1_12 := xx1_11.grown hb12 (x0_11.offBox (by have := B11.size; omega))
    have bg0_12 := bg0_11.grown hb12 (x0_11.offBox (by have := B11.size; omega))
    have w0_12 := w0_11.grown hb12 (Own.apart w0_11 x0_11 (by omega))
    have x1_12 := x1_11.grown hb12 (Own.apart x1_11 x0_11 (by omega))
    have g0_12 := g0_11.grown hb12 (Own.apart g0_11 x0_11 (by omega))
    clear hb12  p0_11 p1_11 bw0_11 xx0_11 xx1_11 bg0_11 w0_11 x0_11 x1_11 g0_11 B11
    have k_p00 := p0_12.1
    have k_p01 := p0_12.2.1
    have k_p02 := p0_12.2.2
    have k_p10 := p1_12.1
    have k_p11 := p1_12.2.1
    have k_p12 := p1_12.2.2
    have k_bw00 := bw0_12.1
    have k_bw01 := bw0_12.2.1
    have k_bw02 := bw0_12.2.2
    have k_xx00 := xx0_12.1
    have k_xx01 := xx0_12.2.1
    have k_xx02 := xx0_12.2.2
    have k_xx10 := xx1_12.1
    have k_xx11 := xx1_12.2.1
    have k_xx12 := xx1_12.2.2
    have k_bg00 := bg0_12.1
    have k_bg01 := bg0_12.2.1
    have k_bg02 := bg0_12.2.2
    clear or12
    go_wp2_with fail
    refine (markRegion_any (some ⟨g5, 0, none⟩) _ _ _ _ _ _ bs1 (1 + (n0 : Int)) _ (by omega) (by omega) (by omega) x1_12).mono ?_; rintro e w13 ⟨rfl, or13, hb13⟩
    clear k_p00 k_p01 k_p02 k_p10 k_p11 k_p12 k_bw00 k_bw01 k_bw02 k_xx00 k_xx01 k_xx02 k_xx10 k_xx11 k_xx12 k_bg00 k_bg01 k_bg02
    have z13 : w12.heap.size ≤ w13.heap.size := hb13.size
    have B13 := belowG B12 hb13 x1_12 (by have := B12.size; omega)
    have p0_13 := p0_12.grown hb13 (x1_12.offBox (by have := B12.size; omega))
    have p1_13 := p1_12.grown hb13 (x1_12.offBox (by have := B12.size; omega))
    have bw0_13 := bw0_12.grown hb13 (x1_12.offBox (by have := B12.size; omega))
    have xx0_13 := xx0_12.grown hb13 (x1_12.offBox (by have := B12.size; omega))
    have xx1_13 := xx1_12.grown hb13 (x1_12.offBox (by have := B12.size; omega))
    have bg0_13 := bg0_12.grown hb13 (x1_12.offBox (by have := B12.size; omega))
    have w0_13 := w0_12.grown hb13 (Own.apart w0_12 x1_12 (by omega))
    have g0_13 := g0_12.grown hb13 (Own.apart g0_12 x1_12 (by omega))
    clear hb13  p0_12 p1_12 bw0_12 xx0_12 xx1_12 bg0_12 w0_12 x1_12 g0_12 B12
    have k_p00 := p0_13.1
    have k_p01 := p0_13.2.1
    have k_p02 := p0_13.2.2
    have k_p10 := p1_13.1
    have k_p11 := p1_13.2.1
    have k_p12 := p1_13.2.2
    have k_bw00 := bw0_13.1
    have k_bw01 := bw0_13.2.1
    have k_bw02 := bw0_13.2.2
    have k_xx00 := xx0_13.1
    have k_xx01 := xx0_13.2.1
    have k_xx02 := xx0_13.2.2
    have k_xx10 := xx1_13.1
    have k_xx11 := xx1_13.2.1
    have k_xx12 := xx1_13.2.2
    have k_bg00 := bg0_13.1
    have k_bg01 := bg0_13.2.1
    have k_bg02 := bg0_13.2.2
    clear or13
    go_wp2_with fail
    refine (eqRegion_any Q6 Q3 _ _ _ _ (combW andO W0 T0 n0 bs0 W1 T1 n1 bs1) (combT andO W0 T0 n0 bs0 W1 T1 n1 bs1) (combW andO W0 T0 n0 bs0 W1 T1 n1 bs1) (combT andO W0 T0 n0 bs0 W1 T1 n1 bs1) (combC andO W0 T0 n0 bs0 W1 T1 n1 bs1) (combC andO W0 T0 n0 bs0 W1 T1 n1 bs1) _ (by omega) g0_13.sl w0_13.sl).mono ?_; rintro e w14 ⟨rfl, hb14⟩
    clear k_p00 k_p01 k_p02 k_p10 k_p11 k_p12 k_bw00 k_bw01 k_bw02 k_xx00 k_xx01 k_xx02 k_xx10 k_xx11 k_xx12 k_bg00 k_bg01 k_bg02
    have z14 : w13.heap.size ≤ w14.heap.size := hb14.size
    have B14 := belowW B13 hb14
    have p0_14 := p0_13.below hb14
    have p1_14 := p1_13.below hb14
    have bw0_14 := bw0_13.below hb14
    have xx0_14 := xx0_13.below hb14
    have xx1_14 := xx1_13.below hb14
    have bg0_14 := bg0_13.below hb14
    have w0_14 := w0_13.below hb14
    have g0_14 := g0_13.below hb14
    clear hb14  p0_13 p1_13 bw0_13 xx0_13 xx1_13 bg0_13 w0_13 g0_13 B13
    have k_p00 := p0_14.1
    have k_p01 := p0_14.2.1
    have k_p02 := p0_14.2.2
    have k_p10 := p1_14.1
    have k_p11 := p1_14.2.1
    have k_p12 := p1_14.2.2
    have k_bw00 := bw0_14.1
    have k_bw01 := bw0_14.2.1
    have k_bw02 := bw0_14.2.2
    have k_xx00 := xx0_14.1
    have k_xx01 := xx0_14.2.1
    have k_xx02 := xx0_14.2.2
    have k_xx10 := xx1_14.1
    have k_xx11 := xx1_14.2.1
    have k_xx12 := xx1_14.2.2
    have k_bg00 := bg0_14.1
    have k_bg01 := bg0_14.2.1
    have k_bg02 := bg0_14.2.2
    rw [regEq_self]
    go_wp2_with fail
    refine (markRegion_any Q6 _ _ _ _ _ _ (combC andO W0 T0 n0 bs0 W1 T1 n1 bs1) 1 _ (by omega) (by omega) (by omega) g0_14).mono ?_; rintro e w15 ⟨rfl, or15, hb15⟩
    clear k_p00 k_p01 k_p02 k_p10 k_p11 k_p12 k_bw00 k_bw01 k_bw02 k_xx00 k_xx01 k_xx02 k_xx10 k_xx11 k_xx12 k_bg00 k_bg01 k_bg02
    have z15 : w14.heap.size ≤ w15.heap.size := hb15.size
    have B15 := belowG B14 hb15 g0_14 (by have := B14.size; omega)
    have p0_15 := p0_14.grown hb15 (g0_14.offBox (by have := B14.size; omega))
    have p1_15 := p1_14.grown hb15 (g0_14.offBox (by have := B14.size; omega))
    have bw0_15 := bw0_14.grown hb15 (g0_14.offBox (by have := B14.size; omega))
    have xx0_15 := xx0_14.grown hb15 (g0_14.offBox (by have := B14.size; omega))
    have xx1_15 := xx1_14.grown hb15 (g0_14.offBox (by have := B14.size; omega))
    have bg0_15 := bg0_14.grown hb15 (g0_14.offBox (by have := B14.size; omega))
    have w0_15 := w0_14.grown hb15 (Own.apart w0_14 g0_14 (by omega))
    clear hb15  p0_14 p1_14 bw0_14 xx0_14 xx1_14 bg0_14 w0_14 g0_14 B14
    have k_p00 := p0_15.1
    have k_p01 := p0_15.2.1
    have k_p02 := p0_15.2.2
    have k_p10 := p1_15.1
    have k_p11 := p1_15.2.1
    have k_p12 := p1_15.2.2
    have k_bw00 := bw0_15.1
    have k_bw01 := bw0_15.2.1
    have k_bw02 := bw0_15.2.2
    have k_xx00 := xx0_15.1
    have k_xx01 := xx0_15.2.1
    have k_xx02 := xx0_15.2.2
    have k_xx10 := xx1_15.1
    have k_xx11 := xx1_15.2.1
    have k_xx12 := xx1_15.2.2
    have k_bg00 := bg0_15.1
    have k_bg01 := bg0_15.2.1
    have k_bg02 := bg0_15.2.2
    have g0_15 := or15
    clear or15
    go_wp2_with fail
    refine (heldRegion_any Q6 _ _ _ _ 1 _ (by omega) (by omega) (by omega) g0_15.sl).mono ?_; rintro e w16 ⟨rfl, hb16⟩
    clear k_p00 k_p01 k_p02 k_p10 k_p11 k_p12 k_bw00 k_bw01 k_bw02 k_xx00 k_xx01 k_xx02 k_xx10 k_xx11 k_xx12 k_bg00 k_bg01 k_bg02
    have z16 : w15.heap.size ≤ w16.heap.size := hb16.size
    have B16 := belowW B15 hb16
    have p0_16 := p0_15.below hb16
    have p1_16 := p1_15.below hb16
    have bw0_16 := bw0_15.below hb16
    have xx0_16 := xx0_15.below hb16
    have xx1_16 := xx1_15.below hb16
    have bg0_16 := bg0_15.below hb16
    have w0_16 := w0_15.below hb16
    have g0_16 := g0_15.below hb16
    clear hb16  p0_15 p1_15 bw0_15 xx0_15 xx1_15 bg0_15 w0_15 g0_15 B15
    have k_p00 := p0_16.1
    have k_p01 := p0_16.2.1
    have k_p02 := p0_16.2.2
    have k_p10 := p1_16.1
    have k_p11 := p1_16.2.1
    have k_p12 := p1_16.2.2
    have k_bw00 := bw0_16.1
    have k_bw01 := bw0_16.2.1
    have k_bw02 := bw0_16.2.2
    have k_xx00 := xx0_16.1
    have k_xx01 := xx0_16.2.1
    have k_xx02 := xx0_16.2.2
    have k_xx10 := xx1_16.1
    have k_xx11 := xx1_16.2.1
    have k_xx12 := xx1_16.2.2
    have k_bg00 := bg0_16.1
    have k_bg01 := bg0_16.2.1
    have k_bg02 := bg0_16.2.2
    go_wp2_with fail
    have nz0 := Nat.ne_of_gt p0_16.lt
    have nz1 := Nat.ne_of_gt p1_16.lt
    go_upto_region 31 with fail
    go_cut [15, 16] (fun s15 s16 wx => s16 = .bool (combB andO W0 T0 n0 bs0 W1 T1 n1 bs1) ∧ MeetR w16 (combW andO W0 T0 n0 bs0 W1 T1 n1 bs1) (combT andO W0 T0 n0 bs0 W1 T1 n1 bs1) (combC andO W0 T0 n0 bs0 W1 T1 n1 bs1) s15 wx)
    case first =>
      go_region_held3 (fun w' => w'.cell? ⟨w.heap.size, 0, none⟩ = some (.int .i64 W0) ∧ w'.cell? ⟨w.heap.size, 1, none⟩ = some (.int .i64 T0) ∧ w'.cell? ⟨w.heap.size, 2, none⟩ = some (.slice A0 n0 c0) ∧ w'.cell? ⟨w.heap.size + 1, 0, none⟩ = some (.int .i64 W1) ∧ w'.cell? ⟨w.heap.size + 1, 1, none⟩ = some (.int .i64 T1) ∧ w'.cell? ⟨w.heap.size + 1, 2, none⟩ = some (.slice A1 n1 c1))
        (first | exact ⟨p0_16.1, p0_16.2.1, p0_16.2.2, p1_16.1, p1_16.2.1, p1_16.2.2⟩ | go_keep)
        (first
          | (go_at_call_of 17 (Value.agg #[Value.int IntKind.i64 W0, Value.int IntKind.i64 T0, Value.slice A0 n0 c0]); refine (toRegion_any A0 n0 c0 W0 T0 bs0 _ (by omega) (h0.below (belowW B16 DB))).mono ?_; rintro e wA ⟨gA, rfl, orA, hbA⟩; have DA := belowW DB hbA; have orB2 := orB.below hbA; have PA0 := p0_16.below DA; have cA00 := PA0.1; have cA01 := PA0.2.1; have cA02 := PA0.2.2; have nnA0 := Nat.ne_of_gt PA0.lt; have PA1 := p1_16.below DA; have cA10 := PA1.1; have cA11 := PA1.2.1; have cA12 := PA1.2.2; have nnA1 := Nat.ne_of_gt PA1.lt; (first | (have zx := zx.below hbA; have zt := zt.below hbA) | skip))
          | (go_at_call_of 17 (Value.agg #[Value.int IntKind.i64 W0, Value.int IntKind.i64 T0, Value.slice A0 n0 c0]); refine (toRegion_any A0 n0 c0 W0 T0 bs0 _ (by omega) (h0.below (belowA (belowW B16 DB)))).mono ?_; rintro e wA ⟨gA, rfl, orA, hbA⟩; have DA := belowW (belowA DB) hbA; have orB2 := (orB.alloc _).below hbA; have PA0 := p0_16.below DA; have cA00 := PA0.1; have cA01 := PA0.2.1; have cA02 := PA0.2.2; have nnA0 := Nat.ne_of_gt PA0.lt; have PA1 := p1_16.below DA; have cA10 := PA1.1; have cA11 := PA1.2.1; have cA12 := PA1.2.2; have nnA1 := Nat.ne_of_gt PA1.lt; have zx := (Box.new wB (.int .i64 0) (.int .i64 0) (.slice none 0 0) 27).below hbA; have zt := (Thaw.new wB #[.int .i64 0, .int .i64 0, .slice none 0 0] 27).below hbA; have zl : w16.heap.size ≤ wB.heap.size := DB.size)
          | (go_at_call_of 17 (Value.agg #[Value.int IntKind.i64 W0, Value.int IntKind.i64 T0, Value.slice A0 n0 c0]); refine (toRegion_any A0 n0 c0 W0 T0 bs0 _ (by omega) (h0.below B16.drew)).mono ?_; rintro e wA ⟨gA, rfl, orA, hbA⟩; have DA := belowW (Below.refl _ _).drew hbA; have PA0 := p0_16.below DA; have cA00 := PA0.1; have cA01 := PA0.2.1; have cA02 := PA0.2.2; have nnA0 := Nat.ne_of_gt PA0.lt; have PA1 := p1_16.below DA; have cA10 := PA1.1; have cA11 := PA1.2.1; have cA12 := PA1.2.2; have nnA1 := Nat.ne_of_gt PA1.lt)
          | (go_at_call_of 17 (Value.agg #[Value.int IntKind.i64 W0, Value.int IntKind.i64 T0, Value.slice A0 n0 c0]); refine (toRegion_any A0 n0 c0 W0 T0 bs0 _ (by omega) (h0.below (belowA B16).drew)).mono ?_; rintro e wA ⟨gA, rfl, orA, hbA⟩; have DA := belowW (below1 _ _).drew hbA; have PA0 := p0_16.below DA; have cA00 := PA0.1; have cA01 := PA0.2.1; have cA02 := PA0.2.2; have nnA0 := Nat.ne_of_gt PA0.lt; have PA1 := p1_16.below DA; have cA10 := PA1.1; have cA11 := PA1.2.1; have cA12 := PA1.2.2; have nnA1 := Nat.ne_of_gt PA1.lt; have zx := (Box.new w16 (.int .i64 0) (.int .i64 0) (.slice none 0 0) 27).drew.below hbA; have zt := (Thaw.new w16 #[.int .i64 0, .int .i64 0, .slice none 0 0] 27).drew.below hbA; have zl : w16.heap.size ≤ w16.heap.size := Nat.le_refl _)
          | (go_at_call_of 17 (Value.agg #[Value.int IntKind.i64 W1, Value.int IntKind.i64 T1, Value.slice A1 n1 c1]); refine (toRegion_any A1 n1 c1 W1 T1 bs1 _ (by omega) (h1.below (belowW B16 DA))).mono ?_; rintro e wB ⟨gB, rfl, orB, hbB⟩; have DB := belowW DA hbB; have orA2 := orA.below hbB; have PB0 := p0_16.below DB; have cB00 := PB0.1; have cB01 := PB0.2.1; have cB02 := PB0.2.2; have nnB0 := Nat.ne_of_gt PB0.lt; have PB1 := p1_16.below DB; have cB10 := PB1.1; have cB11 := PB1.2.1; have cB12 := PB1.2.2; have nnB1 := Nat.ne_of_gt PB1.lt; (first | (have zx := zx.below hbB; have zt := zt.below hbB) | skip))
          | (go_at_call_of 17 (Value.agg #[Value.int IntKind.i64 W1, Value.int IntKind.i64 T1, Value.slice A1 n1 c1]); refine (toRegion_any A1 n1 c1 W1 T1 bs1 _ (by omega) (h1.below (belowA (belowW B16 DA)))).mono ?_; rintro e wB ⟨gB, rfl, orB, hbB⟩; have DB := belowW (belowA DA) hbB; have orA2 := (orA.alloc _).below hbB; have PB0 := p0_16.below DB; have cB00 := PB0.1; have cB01 := PB0.2.1; have cB02 := PB0.2.2; have nnB0 := Nat.ne_of_gt PB0.lt; have PB1 := p1_16.below DB; have cB10 := PB1.1; have cB11 := PB1.2.1; have cB12 := PB1.2.2; have nnB1 := Nat.ne_of_gt PB1.lt; have zx := (Box.new wA (.int .i64 0) (.int .i64 0) (.slice none 0 0) 27).below hbB; have zt := (Thaw.new wA #[.int .i64 0, .int .i64 0, .slice none 0 0] 27).below hbB; have zl : w16.heap.size ≤ wA.heap.size := DA.size)
          | (go_at_call_of 17 (Value.agg #[Value.int IntKind.i64 W1, Value.int IntKind.i64 T1, Value.slice A1 n1 c1]); refine (toRegion_any A1 n1 c1 W1 T1 bs1 _ (by omega) (h1.below B16.drew)).mono ?_; rintro e wB ⟨gB, rfl, orB, hbB⟩; have DB := belowW (Below.refl _ _).drew hbB; have PB0 := p0_16.below DB; have cB00 := PB0.1; have cB01 := PB0.2.1; have cB02 := PB0.2.2; have nnB0 := Nat.ne_of_gt PB0.lt; have PB1 := p1_16.below DB; have cB10 := PB1.1; have cB11 := PB1.2.1; have cB12 := PB1.2.2; have nnB1 := Nat.ne_of_gt PB1.lt)
          | (go_at_call_of 17 (Value.agg #[Value.int IntKind.i64 W1, Value.int IntKind.i64 T1, Value.slice A1 n1 c1]); refine (toRegion_any A1 n1 c1 W1 T1 bs1 _ (by omega) (h1.below (belowA B16).drew)).mono ?_; rintro e wB ⟨gB, rfl, orB, hbB⟩; have DB := belowW (below1 _ _).drew hbB; have PB0 := p0_16.below DB; have cB00 := PB0.1; have cB01 := PB0.2.1; have cB02 := PB0.2.2; have nnB0 := Nat.ne_of_gt PB0.lt; have PB1 := p1_16.below DB; have cB10 := PB1.1; have cB11 := PB1.2.1; have cB12 := PB1.2.2; have nnB1 := Nat.ne_of_gt PB1.lt; have zx := (Box.new w16 (.int .i64 0) (.int .i64 0) (.slice none 0 0) 27).drew.below hbB; have zt := (Thaw.new w16 #[.int .i64 0, .int .i64 0, .slice none 0 0] 27).drew.below hbB; have zl : w16.heap.size ≤ w16.heap.size := Nat.le_refl _)
          | (go_at_call 37; refine (meet_impl (some ⟨gA, 0, none⟩) n0 n0 W0 T0 bs0 (some ⟨gB, 0, none⟩) n1 n1 W1 T1 bs1 _ (by omega) orA.sl (by omega) orB2.sl).mono ?_; rintro e wS ⟨QS, qS, dS, rfl, orS, hbS, hmS⟩; have DS := belowW DA hbS; have hbase := DA.size; have PS0 := p0_16.below DS; have cS00 := PS0.1; have cS01 := PS0.2.1; have cS02 := PS0.2.2; have nnS0 := Nat.ne_of_gt PS0.lt; have PS1 := p1_16.below DS; have cS10 := PS1.1; have cS11 := PS1.2.1; have cS12 := PS1.2.2; have nnS1 := Nat.ne_of_gt PS1.lt; (first | (have zb' := zx.lt; have zx := zx.below hbS; have zt := zt.below hbS) | skip); (first | (have q0 := zx.1; have q1 := zx.2.1; have q2 := zx.2.2; have t0 := zt.2 0; have t1 := zt.2 1; have t2 := zt.2 2) | skip))
          | (go_at_call 37; refine (meet_impl (some ⟨gA, 0, none⟩) n0 n0 W0 T0 bs0 (some ⟨gB, 0, none⟩) n1 n1 W1 T1 bs1 _ (by omega) (orA.alloc _).sl (by omega) (orB2.alloc _).sl).mono ?_; rintro e wS ⟨QS, qS, dS, rfl, orS, hbS, hmS⟩; have DS := belowW (belowA DA) hbS; have hbase : w16.heap.size ≤ (wA.alloc (.cells #[.int .i64 0, .int .i64 0, .slice none 0 0] 27)).heap.size := Nat.le_trans DA.size (by simp); have PS0 := p0_16.below DS; have cS00 := PS0.1; have cS01 := PS0.2.1; have cS02 := PS0.2.2; have nnS0 := Nat.ne_of_gt PS0.lt; have PS1 := p1_16.below DS; have cS10 := PS1.1; have cS11 := PS1.2.1; have cS12 := PS1.2.2; have nnS1 := Nat.ne_of_gt PS1.lt; have zb' : wA.heap.size < (wA.alloc (.cells #[.int .i64 0, .int .i64 0, .slice none 0 0] 27)).heap.size := (by simp); have zx := (Box.new wA (.int .i64 0) (.int .i64 0) (.slice none 0 0) 27).below hbS; have zt := (Thaw.new wA #[.int .i64 0, .int .i64 0, .slice none 0 0] 27).below hbS; have zl : w16.heap.size ≤ wA.heap.size := DA.size; (first | (have q0 := zx.1; have q1 := zx.2.1; have q2 := zx.2.2; have t0 := zt.2 0; have t1 := zt.2 1; have t2 := zt.2 2) | skip))
          | (go_at_call 37; refine (meet_impl (some ⟨gA, 0, none⟩) n0 n0 W0 T0 bs0 (some ⟨gB, 0, none⟩) n1 n1 W1 T1 bs1 _ (by omega) orA2.sl (by omega) orB.sl).mono ?_; rintro e wS ⟨QS, qS, dS, rfl, orS, hbS, hmS⟩; have DS := belowW DB hbS; have hbase := DB.size; have PS0 := p0_16.below DS; have cS00 := PS0.1; have cS01 := PS0.2.1; have cS02 := PS0.2.2; have nnS0 := Nat.ne_of_gt PS0.lt; have PS1 := p1_16.below DS; have cS10 := PS1.1; have cS11 := PS1.2.1; have cS12 := PS1.2.2; have nnS1 := Nat.ne_of_gt PS1.lt; (first | (have zb' := zx.lt; have zx := zx.below hbS; have zt := zt.below hbS) | skip); (first | (have q0 := zx.1; have q1 := zx.2.1; have q2 := zx.2.2; have t0 := zt.2 0; have t1 := zt.2 1; have t2 := zt.2 2) | skip))
          | (go_at_call 37; refine (meet_impl (some ⟨gA, 0, none⟩) n0 n0 W0 T0 bs0 (some ⟨gB, 0, none⟩) n1 n1 W1 T1 bs1 _ (by omega) (orA2.alloc _).sl (by omega) (orB.alloc _).sl).mono ?_; rintro e wS ⟨QS, qS, dS, rfl, orS, hbS, hmS⟩; have DS := belowW (belowA DB) hbS; have hbase : w16.heap.size ≤ (wB.alloc (.cells #[.int .i64 0, .int .i64 0, .slice none 0 0] 27)).heap.size := Nat.le_trans DB.size (by simp); have PS0 := p0_16.below DS; have cS00 := PS0.1; have cS01 := PS0.2.1; have cS02 := PS0.2.2; have nnS0 := Nat.ne_of_gt PS0.lt; have PS1 := p1_16.below DS; have cS10 := PS1.1; have cS11 := PS1.2.1; have cS12 := PS1.2.2; have nnS1 := Nat.ne_of_gt PS1.lt; have zb' : wB.heap.size < (wB.alloc (.cells #[.int .i64 0, .int .i64 0, .slice none 0 0] 27)).heap.size := (by simp); have zx := (Box.new wB (.int .i64 0) (.int .i64 0) (.slice none 0 0) 27).below hbS; have zt := (Thaw.new wB #[.int .i64 0, .int .i64 0, .slice none 0 0] 27).below hbS; have zl : w16.heap.size ≤ wB.heap.size := DB.size; (first | (have q0 := zx.1; have q1 := zx.2.1; have q2 := zx.2.2; have t0 := zt.2 0; have t1 := zt.2 1; have t2 := zt.2 2) | skip)))
      all_goals
        go_wp2_with fail
        go_meet
        first
          | (have m := meetR_early (W := combW andO W0 T0 n0 bs0 W1 T1 n1 bs1) (T := combT andO W0 T0 n0 bs0 W1 T1 n1 bs1) (q := qS) DS orS hbase hmS zx zl zb'; exact ⟨rfl, m⟩)
          | (have m := meetR_late (W := combW andO W0 T0 n0 bs0 W1 T1 n1 bs1) (T := combT andO W0 T0 n0 bs0 W1 T1 n1 bs1) (q := qS) (t := 27) DS orS hbase hmS; exact ⟨rfl, m⟩)
    case rest =>
      obtain ⟨w17, rfl⟩ : ∃ wq : World, wq = wc := ⟨wc, rfl⟩
      obtain ⟨rfl, b17x, Q17, q17, d17, rfl, lx17, bx17, or17, hb17, hm17⟩ := hcut
      clear k_p00 k_p01 k_p02 k_p10 k_p11 k_p12 k_bw00 k_bw01 k_bw02 k_xx00 k_xx01 k_xx02 k_xx10 k_xx11 k_xx12 k_bg00 k_bg01 k_bg02
      have z17 : w16.heap.size ≤ w17.heap.size := hb17.size
      have B17 := belowW B16 hb17
      have p0_17 := p0_16.below hb17
      have p1_17 := p1_16.below hb17
      have bw0_17 := bw0_16.below hb17
      have xx0_17 := xx0_16.below hb17
      have xx1_17 := xx1_16.below hb17
      have bg0_17 := bg0_16.below hb17
      have w0_17 := w0_16.below hb17
      have g0_17 := g0_16.below hb17
      have h0_17 : Own w17 (w16.heap.size) w17.heap.size 4 Q17 (combC andO W0 T0 n0 bs0 W1 T1 n1 bs1).length d17 ((combC andO W0 T0 n0 bs0 W1 T1 n1 bs1).map .bool) := or17
      clear hb17 or17 p0_16 p1_16 bw0_16 xx0_16 xx1_16 bg0_16 w0_16 g0_16 B16
      have k_p00 := p0_17.1
      have k_p01 := p0_17.2.1
      have k_p02 := p0_17.2.2
      have k_p10 := p1_17.1
      have k_p11 := p1_17.2.1
      have k_p12 := p1_17.2.2
      have k_bw00 := bw0_17.1
      have k_bw01 := bw0_17.2.1
      have k_bw02 := bw0_17.2.2
      have k_xx00 := xx0_17.1
      have k_xx01 := xx0_17.2.1
      have k_xx02 := xx0_17.2.2
      have k_xx10 := xx1_17.1
      have k_xx11 := xx1_17.2.1
      have k_xx12 := xx1_17.2.2
      have k_bg00 := bg0_17.1
      have k_bg01 := bg0_17.2.1
      have k_bg02 := bg0_17.2.2
      have bh0_17 := bx17
      clear bx17
      have lt17x := bh0_17.lt
      have k_bh00 := bh0_17.1
      have k_bh01 := bh0_17.2.1
      have k_bh02 := bh0_17.2.2
      go_wp2_with fail
      refine (eqRegion_any Q17 Q3 _ _ _ _ (combW andO W0 T0 n0 bs0 W1 T1 n1 bs1) (combT andO W0 T0 n0 bs0 W1 T1 n1 bs1) (combW andO W0 T0 n0 bs0 W1 T1 n1 bs1) (combT andO W0 T0 n0 bs0 W1 T1 n1 bs1) (combC andO W0 T0 n0 bs0 W1 T1 n1 bs1) (combC andO W0 T0 n0 bs0 W1 T1 n1 bs1) _ (by omega) h0_17.sl w0_17.sl).mono ?_; rintro e w18 ⟨rfl, hb18⟩
      clear k_p00 k_p01 k_p02 k_p10 k_p11 k_p12 k_bw00 k_bw01 k_bw02 k_xx00 k_xx01 k_xx02 k_xx10 k_xx11 k_xx12 k_bg00 k_bg01 k_bg02 k_bh00 k_bh01 k_bh02
      have z18 : w17.heap.size ≤ w18.heap.size := hb18.size
      have B18 := belowW B17 hb18
      have p0_18 := p0_17.below hb18
      have p1_18 := p1_17.below hb18
      have bw0_18 := bw0_17.below hb18
      have xx0_18 := xx0_17.below hb18
      have xx1_18 := xx1_17.below hb18
      have bg0_18 := bg0_17.below hb18
      have bh0_18 := bh0_17.below hb18
      have w0_18 := w0_17.below hb18
      have g0_18 := g0_17.below hb18
      have h0_18 := h0_17.below hb18
      clear hb18  p0_17 p1_17 bw0_17 xx0_17 xx1_17 bg0_17 bh0_17 w0_17 g0_17 h0_17 B17
      have k_p00 := p0_18.1
      have k_p01 := p0_18.2.1
      have k_p02 := p0_18.2.2
      have k_p10 := p1_18.1
      have k_p11 := p1_18.2.1
      have k_p12 := p1_18.2.2
      have k_bw00 := bw0_18.1
      have k_bw01 := bw0_18.2.1
      have k_bw02 := bw0_18.2.2
      have k_xx00 := xx0_18.1
      have k_xx01 := xx0_18.2.1
      have k_xx02 := xx0_18.2.2
      have k_xx10 := xx1_18.1
      have k_xx11 := xx1_18.2.1
      have k_xx12 := xx1_18.2.2
      have k_bg00 := bg0_18.1
      have k_bg01 := bg0_18.2.1
      have k_bg02 := bg0_18.2.2
      have k_bh00 := bh0_18.1
      have k_bh01 := bh0_18.2.1
      have k_bh02 := bh0_18.2.2
      rw [regEq_self]
      go_wp2_with fail
      refine (heldRegion_any Q6 _ _ _ _ 1 _ (by omega) (by omega) (by omega) g0_18.sl).mono ?_; rintro e w19 ⟨rfl, hb19⟩
      clear k_p00 k_p01 k_p02 k_p10 k_p11 k_p12 k_bw00 k_bw01 k_bw02 k_xx00 k_xx01 k_xx02 k_xx10 k_xx11 k_xx12 k_bg00 k_bg01 k_bg02 k_bh00 k_bh01 k_bh02
      have z19 : w18.heap.size ≤ w19.heap.size := hb19.size
      have B19 := belowW B18 hb19
      have p0_19 := p0_18.below hb19
      have p1_19 := p1_18.below hb19
      have bw0_19 := bw0_18.below hb19
      have xx0_19 := xx0_18.below hb19
      have xx1_19 := xx1_18.below hb19
      have bg0_19 := bg0_18.below hb19
      have bh0_19 := bh0_18.below hb19
      have w0_19 := w0_18.below hb19
      have g0_19 := g0_18.below hb19
      have h0_19 := h0_18.below hb19
      clear hb19  p0_18 p1_18 bw0_18 xx0_18 xx1_18 bg0_18 bh0_18 w0_18 g0_18 h0_18 B18
      have k_p00 := p0_19.1
      have k_p01 := p0_19.2.1
      have k_p02 := p0_19.2.2
      have k_p10 := p1_19.1
      have k_p11 := p1_19.2.1
      have k_p12 := p1_19.2.2
      have k_bw00 := bw0_19.1
      have k_bw01 := bw0_19.2.1
      have k_bw02 := bw0_19.2.2
      have k_xx00 := xx0_19.1
      have k_xx01 := xx0_19.2.1
      have k_xx02 := xx0_19.2.2
      have k_xx10 := xx1_19.1
      have k_xx11 := xx1_19.2.1
      have k_xx12 := xx1_19.2.2
      have k_bg00 := bg0_19.1
      have k_bg01 := bg0_19.2.1
      have k_bg02 := bg0_19.2.2
      have k_bh00 := bh0_19.1
      have k_bh01 := bh0_19.2.1
      have k_bh02 := bh0_19.2.2
      go_wp2_with fail
      go_ret
      exact ⟨rfl, B19⟩

end Go.Proofs.Ytehfhmafmblmnaa
