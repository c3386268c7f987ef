/-
  has, step, l2Step and StepTo, both sides: what they return.
-/
import Derived.Test.YtepnhhehfkcgkaaDoorDark
import Derived.Deep.QuietTactic
import Derived.BigQuiet
namespace Go.Proofs.YtepnhhehfkcgkaaDoor
open Go.RowKit

/-- The cell beside a cell in a direction; -1 behind the edge. -/
def stepF (W T k : Nat) (way : Int) : Int :=
  if way = 1 then (if k % W + 1 < W then k + 1 else -1)
  else if way = 2 then (if k / W + 1 < T then k + W else -1)
  else if way = 3 then (if 0 < k % W then k - 1 else -1)
  else if way = 4 then (if 0 < k / W then k - W else -1)
  else -1


theorem div_facts {W k x y : Nat} (hW : 1 ≤ W) (hx : k % W = x) (hy : k / W = y) : x < W ∧ k = y * W + x := by
  have h1 := Nat.mod_lt k (show W > 0 by omega)
  have h2 := Nat.div_add_mod k W
  rw [hx, hy] at h2
  rw [hx] at h1
  exact ⟨h1, by rw [Nat.mul_comm]; omega⟩

structure StepIn (W T k x y : Nat) : Prop where
  w0 : 1 ≤ W
  w6 : W ≤ 6
  t0 : 1 ≤ T
  t6 : T ≤ 6
  k36 : k ≤ 36
  hx : k % W = x
  hy : k / W = y
  xW : x < W
  yT : y < T
  kk : k = y * W + x

theorem StepIn.cast {W T k x y : Nat} (S : StepIn W T k x y) : (k : Int) = (y : Int) * (W : Int) + (x : Int) := by rw [S.kk]; simp
theorem in_no {a lo hi : Int} (h : ¬ (lo ≤ a ∧ a ≤ hi)) : inB a lo hi = false := Bool.eq_false_iff.2 (fun h' => h (inB_iff.1 h'))
theorem mul_nb {a b : Int} (ha : 0 ≤ a) (ha' : a ≤ 7) (hb : 1 ≤ b) (hb' : b ≤ 6) : 0 ≤ a * b ∧ a * b ≤ 42 := by
  have h : b = 1 ∨ b = 2 ∨ b = 3 ∨ b = 4 ∨ b = 5 ∨ b = 6 := by omega
  rcases h with rfl | rfl | rfl | rfl | rfl | rfl <;> omega

set_option maxHeartbeats 400000 in
theorem step_1y (A : Option Addr) (n c W T k x y : Nat) (w : World) (S : StepIn W T k x y) (hc : x + 1 < W) :
    Calls Tryd.prog 34 #[.agg #[.int .i64 W, .int .i64 T, .slice A n c], .int .i64 k, .int .i64 1] w fun e w' => e = .returned (.int .i64 ((k : Int) + 1)) ∧ Below w.heap.size w w' := by
  have s1 := S.w0
  have s2 := S.w6
  have s3 := S.t0
  have s4 := S.t6
  have s5 := S.xW
  have s6 := S.yT
  have s7 := S.k36
  have e1 : inB ((x : Int) + 1) 0 ((W : Int) - 1) = true := inB_iff.2 (by omega)
  have e2 : inB (y : Int) 0 ((T : Int) - 1) = true := inB_iff.2 (by omega)
  obtain ⟨c0, c1⟩ := mul_nb (a := (y : Int)) (b := (W : Int)) (by omega) (by omega) (by omega) (by omega)
  have E : Hid ((y : Int) * (W : Int) + ((x : Int) + 1) = ((k : Int) + 1)) := by show _ = _; have := S.cast; have := Int.add_mul (y : Int) 1 (W : Int); have := Int.sub_mul (y : Int) 1 (W : Int); omega
  have b0 : 0 ≤ ((x : Int) + 1) := by omega
  have b1 : 0 ≤ (y : Int) := by omega
  clear hc
  go_enter Tryd.func34, Tryd.ntmps34
  go_wp2_with fail
  refine (xy_any A n c W k x y T _ S.w0 (by omega) S.hx S.hy).mono ?_; rintro e w1 ⟨rfl, hb1⟩
  have r1 := (Box.new w (.int .i64 W) (.int .i64 T) (.slice A n c) 24).below hb1
  have k1 := r1.1
  have k2 := r1.2.1
  have k3 := r1.2.2
  go_wp2_with (go_at_call 29; refine (in_any _ _ _ _).mono ?_; rintro e w' ⟨rfl, rfl⟩)
  go_ret
  exact ⟨ret_i E.out, belowW (below1 w _) hb1⟩
set_option maxHeartbeats 400000 in
theorem step_2y (A : Option Addr) (n c W T k x y : Nat) (w : World) (S : StepIn W T k x y) (hc : y + 1 < T) :
    Calls Tryd.prog 34 #[.agg #[.int .i64 W, .int .i64 T, .slice A n c], .int .i64 k, .int .i64 2] w fun e w' => e = .returned (.int .i64 ((k : Int) + W)) ∧ Below w.heap.size w w' := by
  have s1 := S.w0
  have s2 := S.w6
  have s3 := S.t0
  have s4 := S.t6
  have s5 := S.xW
  have s6 := S.yT
  have s7 := S.k36
  have e1 : inB (x : Int) 0 ((W : Int) - 1) = true := inB_iff.2 (by omega)
  have e2 : inB ((y : Int) + 1) 0 ((T : Int) - 1) = true := inB_iff.2 (by omega)
  obtain ⟨c0, c1⟩ := mul_nb (a := ((y : Int) + 1)) (b := (W : Int)) (by omega) (by omega) (by omega) (by omega)
  have E : Hid (((y : Int) + 1) * (W : Int) + (x : Int) = ((k : Int) + W)) := by show _ = _; have := S.cast; have := Int.add_mul (y : Int) 1 (W : Int); have := Int.sub_mul (y : Int) 1 (W : Int); omega
  have b0 : 0 ≤ (x : Int) := by omega
  have b1 : 0 ≤ ((y : Int) + 1) := by omega
  clear hc
  go_enter Tryd.func34, Tryd.ntmps34
  go_wp2_with fail
  refine (xy_any A n c W k x y T _ S.w0 (by omega) S.hx S.hy).mono ?_; rintro e w1 ⟨rfl, hb1⟩
  have r1 := (Box.new w (.int .i64 W) (.int .i64 T) (.slice A n c) 24).below hb1
  have k1 := r1.1
  have k2 := r1.2.1
  have k3 := r1.2.2
  go_wp2_with (go_at_call 29; refine (in_any _ _ _ _).mono ?_; rintro e w' ⟨rfl, rfl⟩)
  go_ret
  exact ⟨ret_i E.out, belowW (below1 w _) hb1⟩
set_option maxHeartbeats 400000 in
theorem step_3y (A : Option Addr) (n c W T k x y : Nat) (w : World) (S : StepIn W T k x y) (hc : 0 < x) :
    Calls Tryd.prog 34 #[.agg #[.int .i64 W, .int .i64 T, .slice A n c], .int .i64 k, .int .i64 3] w fun e w' => e = .returned (.int .i64 ((k : Int) - 1)) ∧ Below w.heap.size w w' := by
  have s1 := S.w0
  have s2 := S.w6
  have s3 := S.t0
  have s4 := S.t6
  have s5 := S.xW
  have s6 := S.yT
  have s7 := S.k36
  have e1 : inB ((x : Int) - 1) 0 ((W : Int) - 1) = true := inB_iff.2 (by omega)
  have e2 : inB (y : Int) 0 ((T : Int) - 1) = true := inB_iff.2 (by omega)
  obtain ⟨c0, c1⟩ := mul_nb (a := (y : Int)) (b := (W : Int)) (by omega) (by omega) (by omega) (by omega)
  have E : Hid ((y : Int) * (W : Int) + ((x : Int) - 1) = ((k : Int) - 1)) := by show _ = _; have := S.cast; have := Int.add_mul (y : Int) 1 (W : Int); have := Int.sub_mul (y : Int) 1 (W : Int); omega
  have b0 : 0 ≤ ((x : Int) - 1) := by omega
  have b1 : 0 ≤ (y : Int) := by omega
  clear hc
  go_enter Tryd.func34, Tryd.ntmps34
  go_wp2_with fail
  refine (xy_any A n c W k x y T _ S.w0 (by omega) S.hx S.hy).mono ?_; rintro e w1 ⟨rfl, hb1⟩
  have r1 := (Box.new w (.int .i64 W) (.int .i64 T) (.slice A n c) 24).below hb1
  have k1 := r1.1
  have k2 := r1.2.1
  have k3 := r1.2.2
  go_wp2_with (go_at_call 29; refine (in_any _ _ _ _).mono ?_; rintro e w' ⟨rfl, rfl⟩)
  go_ret
  exact ⟨ret_i E.out, belowW (below1 w _) hb1⟩
set_option maxHeartbeats 400000 in
theorem step_4y (A : Option Addr) (n c W T k x y : Nat) (w : World) (S : StepIn W T k x y) (hc : 0 < y) :
    Calls Tryd.prog 34 #[.agg #[.int .i64 W, .int .i64 T, .slice A n c], .int .i64 k, .int .i64 4] w fun e w' => e = .returned (.int .i64 ((k : Int) - W)) ∧ Below w.heap.size w w' := by
  have s1 := S.w0
  have s2 := S.w6
  have s3 := S.t0
  have s4 := S.t6
  have s5 := S.xW
  have s6 := S.yT
  have s7 := S.k36
  have e1 : inB (x : Int) 0 ((W : Int) - 1) = true := inB_iff.2 (by omega)
  have e2 : inB ((y : Int) - 1) 0 ((T : Int) - 1) = true := inB_iff.2 (by omega)
  obtain ⟨c0, c1⟩ := mul_nb (a := ((y : Int) - 1)) (b := (W : Int)) (by omega) (by omega) (by omega) (by omega)
  have E : Hid (((y : Int) - 1) * (W : Int) + (x : Int) = ((k : Int) - W)) := by show _ = _; have := S.cast; have := Int.add_mul (y : Int) 1 (W : Int); have := Int.sub_mul (y : Int) 1 (W : Int); omega
  have b0 : 0 ≤ (x : Int) := by omega
  have b1 : 0 ≤ ((y : Int) - 1) := by omega
  clear hc
  go_enter Tryd.func34, Tryd.ntmps34
  go_wp2_with fail
  refine (xy_any A n c W k x y T _ S.w0 (by omega) S.hx S.hy).mono ?_; rintro e w1 ⟨rfl, hb1⟩
  have r1 := (Box.new w (.int .i64 W) (.int .i64 T) (.slice A n c) 24).below hb1
  have k1 := r1.1
  have k2 := r1.2.1
  have k3 := r1.2.2
  go_wp2_with (go_at_call 29; refine (in_any _ _ _ _).mono ?_; rintro e w' ⟨rfl, rfl⟩)
  go_ret
  exact ⟨ret_i E.out, belowW (below1 w _) hb1⟩

set_option maxHeartbeats 400000 in
theorem step_1n (A : Option Addr) (n c W T k x y : Nat) (w : World) (S : StepIn W T k x y) (hc : ¬ x + 1 < W) :
    Calls Tryd.prog 34 #[.agg #[.int .i64 W, .int .i64 T, .slice A n c], .int .i64 k, .int .i64 1] w fun e w' => e = .returned (.int .i64 (-1)) ∧ Below w.heap.size w w' := by
  have s1 := S.w0
  have s2 := S.w6
  have s3 := S.t0
  have s4 := S.t6
  have s5 := S.xW
  have s6 := S.yT
  have s7 := S.k36
  have e1 : inB ((x : Int) + 1) 0 ((W : Int) - 1) = false := in_no (by omega)
  have e2 : inB (y : Int) 0 ((T : Int) - 1) = true := inB_iff.2 (by omega)
  clear hc
  go_enter Tryd.func34, Tryd.ntmps34
  go_wp2_with fail
  refine (xy_any A n c W k x y T _ S.w0 (by omega) S.hx S.hy).mono ?_; rintro e w1 ⟨rfl, hb1⟩
  have r1 := (Box.new w (.int .i64 W) (.int .i64 T) (.slice A n c) 24).below hb1
  have k1 := r1.1
  have k2 := r1.2.1
  have k3 := r1.2.2
  go_wp2_with (go_at_call 29; refine (in_any _ _ _ _).mono ?_; rintro e w' ⟨rfl, rfl⟩)
  go_ret
  exact ⟨rfl, belowW (below1 w _) hb1⟩
set_option maxHeartbeats 400000 in
theorem step_2n (A : Option Addr) (n c W T k x y : Nat) (w : World) (S : StepIn W T k x y) (hc : ¬ y + 1 < T) :
    Calls Tryd.prog 34 #[.agg #[.int .i64 W, .int .i64 T, .slice A n c], .int .i64 k, .int .i64 2] w fun e w' => e = .returned (.int .i64 (-1)) ∧ Below w.heap.size w w' := by
  have s1 := S.w0
  have s2 := S.w6
  have s3 := S.t0
  have s4 := S.t6
  have s5 := S.xW
  have s6 := S.yT
  have s7 := S.k36
  have e1 : inB (x : Int) 0 ((W : Int) - 1) = true := inB_iff.2 (by omega)
  have e2 : inB ((y : Int) + 1) 0 ((T : Int) - 1) = false := in_no (by omega)
  clear hc
  go_enter Tryd.func34, Tryd.ntmps34
  go_wp2_with fail
  refine (xy_any A n c W k x y T _ S.w0 (by omega) S.hx S.hy).mono ?_; rintro e w1 ⟨rfl, hb1⟩
  have r1 := (Box.new w (.int .i64 W) (.int .i64 T) (.slice A n c) 24).below hb1
  have k1 := r1.1
  have k2 := r1.2.1
  have k3 := r1.2.2
  go_wp2_with (go_at_call 29; refine (in_any _ _ _ _).mono ?_; rintro e w' ⟨rfl, rfl⟩)
  go_ret
  exact ⟨rfl, belowW (below1 w _) hb1⟩
set_option maxHeartbeats 400000 in
theorem step_3n (A : Option Addr) (n c W T k x y : Nat) (w : World) (S : StepIn W T k x y) (hc : ¬ 0 < x) :
    Calls Tryd.prog 34 #[.agg #[.int .i64 W, .int .i64 T, .slice A n c], .int .i64 k, .int .i64 3] w fun e w' => e = .returned (.int .i64 (-1)) ∧ Below w.heap.size w w' := by
  have s1 := S.w0
  have s2 := S.w6
  have s3 := S.t0
  have s4 := S.t6
  have s5 := S.xW
  have s6 := S.yT
  have s7 := S.k36
  have e1 : inB ((x : Int) - 1) 0 ((W : Int) - 1) = false := in_no (by omega)
  have e2 : inB (y : Int) 0 ((T : Int) - 1) = true := inB_iff.2 (by omega)
  clear hc
  go_enter Tryd.func34, Tryd.ntmps34
  go_wp2_with fail
  refine (xy_any A n c W k x y T _ S.w0 (by omega) S.hx S.hy).mono ?_; rintro e w1 ⟨rfl, hb1⟩
  have r1 := (Box.new w (.int .i64 W) (.int .i64 T) (.slice A n c) 24).below hb1
  have k1 := r1.1
  have k2 := r1.2.1
  have k3 := r1.2.2
  go_wp2_with (go_at_call 29; refine (in_any _ _ _ _).mono ?_; rintro e w' ⟨rfl, rfl⟩)
  go_ret
  exact ⟨rfl, belowW (below1 w _) hb1⟩
set_option maxHeartbeats 400000 in
theorem step_4n (A : Option Addr) (n c W T k x y : Nat) (w : World) (S : StepIn W T k x y) (hc : ¬ 0 < y) :
    Calls Tryd.prog 34 #[.agg #[.int .i64 W, .int .i64 T, .slice A n c], .int .i64 k, .int .i64 4] w fun e w' => e = .returned (.int .i64 (-1)) ∧ Below w.heap.size w w' := by
  have s1 := S.w0
  have s2 := S.w6
  have s3 := S.t0
  have s4 := S.t6
  have s5 := S.xW
  have s6 := S.yT
  have s7 := S.k36
  have e1 : inB (x : Int) 0 ((W : Int) - 1) = true := inB_iff.2 (by omega)
  have e2 : inB ((y : Int) - 1) 0 ((T : Int) - 1) = false := in_no (by omega)
  clear hc
  go_enter Tryd.func34, Tryd.ntmps34
  go_wp2_with fail
  refine (xy_any A n c W k x y T _ S.w0 (by omega) S.hx S.hy).mono ?_; rintro e w1 ⟨rfl, hb1⟩
  have r1 := (Box.new w (.int .i64 W) (.int .i64 T) (.slice A n c) 24).below hb1
  have k1 := r1.1
  have k2 := r1.2.1
  have k3 := r1.2.2
  go_wp2_with (go_at_call 29; refine (in_any _ _ _ _).mono ?_; rintro e w' ⟨rfl, rfl⟩)
  go_ret
  exact ⟨rfl, belowW (below1 w _) hb1⟩

set_option maxHeartbeats 400000 in
theorem step_no (A : Option Addr) (n c W T k x y : Nat) (way : Int) (w : World) (S : StepIn W T k x y) (h1 : way ≠ 1) (h2 : way ≠ 2) (h3 : way ≠ 3) (h4 : way ≠ 4) :
    Calls Tryd.prog 34 #[.agg #[.int .i64 W, .int .i64 T, .slice A n c], .int .i64 k, .int .i64 way] w fun e w' => e = .returned (.int .i64 (-1)) ∧ Below w.heap.size w w' := by
  have s1 := S.w0
  have s7 := S.k36
  go_enter Tryd.func34, Tryd.ntmps34
  go_wp2_with fail
  refine (xy_any A n c W k x y T _ S.w0 (by omega) S.hx S.hy).mono ?_; rintro e w1 ⟨rfl, hb1⟩
  have r1 := (Box.new w (.int .i64 W) (.int .i64 T) (.slice A n c) 24).below hb1
  go_wp2_with (go_at_call 29; refine (in_any _ _ _ _).mono ?_; rintro e w' ⟨rfl, rfl⟩)
  go_ret
  exact ⟨rfl, belowW (below1 w _) hb1⟩

theorem stepIn_of {W T k : Nat} (hW : 1 ≤ W) (hW6 : W ≤ 6) (hT : 1 ≤ T) (hT6 : T ≤ 6) (hk : k < W * T) : StepIn W T k (k % W) (k / W) := by
  obtain ⟨f1, f2⟩ := div_facts (W := W) (k := k) hW rfl rfl
  have := Nat.mul_le_mul hW6 hT6
  exact ⟨hW, hW6, hT, hT6, by omega, rfl, rfl, f1, Nat.div_lt_of_lt_mul hk, f2⟩

theorem step_any (A : Option Addr) (n c W T k : Nat) (way : Int) (w : World) (hW : 1 ≤ W) (hW6 : W ≤ 6) (hT : 1 ≤ T) (hT6 : T ≤ 6) (hk : k < W * T) :
    Calls Tryd.prog 34 #[.agg #[.int .i64 W, .int .i64 T, .slice A n c], .int .i64 k, .int .i64 way] w fun e w' => e = .returned (.int .i64 (stepF W T k way)) ∧ Below w.heap.size w w' := by
  have S := stepIn_of hW hW6 hT hT6 hk
  unfold stepF
  by_cases h1 : way = 1
  · subst h1; rw [if_pos rfl]
    split
    · exact step_1y A n c W T k _ _ w S (by assumption)
    · exact step_1n A n c W T k _ _ w S (by assumption)
  rw [if_neg h1]
  by_cases h2 : way = 2
  · subst h2; rw [if_pos rfl]
    split
    · exact step_2y A n c W T k _ _ w S (by assumption)
    · exact step_2n A n c W T k _ _ w S (by assumption)
  rw [if_neg h2]
  by_cases h3 : way = 3
  · subst h3; rw [if_pos rfl]
    split
    · exact step_3y A n c W T k _ _ w S (by assumption)
    · exact step_3n A n c W T k _ _ w S (by assumption)
  rw [if_neg h3]
  by_cases h4 : way = 4
  · subst h4; rw [if_pos rfl]
    split
    · exact step_4y A n c W T k _ _ w S (by assumption)
    · exact step_4n A n c W T k _ _ w S (by assumption)
  rw [if_neg h4]
  exact step_no A n c W T k _ _ way w S h1 h2 h3 h4

end Go.Proofs.YtepnhhehfkcgkaaDoor
