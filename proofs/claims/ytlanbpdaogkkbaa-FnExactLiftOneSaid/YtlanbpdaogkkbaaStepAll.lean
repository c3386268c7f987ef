/-
  l2Step in any direction; StepTo, both sides: what they return.
-/
import Derived.Test.YtlanbpdaogkkbaaStepTo
namespace Go.Proofs.Ytlanbpdaogkkbaa
open Go.RowKit

theorem l2Step_any (A : Option Addr) (n c W T k : Nat) (way : Int) (w : World) (hW : 1 ≤ W) (hW6 : W ≤ 6) (hT : 1 ≤ T) (hT6 : T ≤ 6) (hk : k < W * T) (hw : inB way 1 4 = true) :
    Calls Try.prog 46 #[.agg #[.int .i64 W, .int .i64 T, .slice A n c], .int .i64 k, .int .i64 way] w fun e w' => e = .returned (.int .i64 (stepF W T k way)) ∧ Below w.heap.size w w' := by
  have S := stepIn_of hW hW6 hT hT6 hk
  have hb := inB_iff.1 hw
  unfold stepF
  by_cases h1 : way = 1
  · subst h1; rw [if_pos rfl]
    split
    · exact l2Step_1y A n c W T k _ _ w S (by assumption)
    · exact l2Step_1n A n c W T k _ _ w S (by assumption)
  rw [if_neg h1]
  by_cases h2 : way = 2
  · subst h2; rw [if_pos rfl]
    split
    · exact l2Step_2y A n c W T k _ _ w S (by assumption)
    · exact l2Step_2n A n c W T k _ _ w S (by assumption)
  rw [if_neg h2]
  by_cases h3 : way = 3
  · subst h3; rw [if_pos rfl]
    split
    · exact l2Step_3y A n c W T k _ _ w S (by assumption)
    · exact l2Step_3n A n c W T k _ _ w S (by assumption)
  rw [if_neg h3]
  have h4 : way = 4 := by omega
  subst h4; rw [if_pos rfl]
  split
  · exact l2Step_4y A n c W T k _ _ w S (by assumption)
  · exact l2Step_4n A n c W T k _ _ w S (by assumption)

def stepToF (W T : Int) (n : Nat) (bs : List Bool) (x way : Int) : Int := if validB W T n bs then (if inB x 0 ((n : Int) - 1) then stepF W.toNat T.toNat x.toNat way else -1) else -1

theorem stepF_no {W T k : Nat} {way : Int} (h : inB way 1 4 = false) : stepF W T k way = -1 := by
  have h' : ¬ (1 ≤ way ∧ way ≤ 4) := fun h2 => by rw [inB_iff.2 h2] at h; cases h
  unfold stepF
  rw [if_neg (by omega), if_neg (by omega), if_neg (by omega), if_neg (by omega)]


set_option maxHeartbeats 400000 in
theorem stepTo_spec (A : Option Addr) (n c : Nat) (W T : Int) (bs : List Bool) (x y : Int) (w : World) (hn : n ≤ 1048576) (h : Sl w A n (bs.map .bool)) (_hx : I64 x) (_hy : I64 y) :
    Calls Try.prog 50 #[.agg #[.int .i64 W, .int .i64 T, .slice A n c], .int .i64 x, .int .i64 y] w fun e w' => e = .returned (.int .i64 (stepToF W T n bs x y)) ∧ Below w.heap.size w w' := by
  have hl := h.1
  rw [List.length_map] at hl
  by_cases hv : validB W T n bs = true
  · obtain ⟨W, T, rfl, rfl, V⟩ := valid_of hv hl
    clear hl
    by_cases hi : inB x 0 ((n : Int) - 1) = true
    · by_cases hj : inB y 1 4 = true
      · have b := inB_iff.1 hi
        obtain ⟨k, rfl⟩ := Int.eq_ofNat_of_zero_le b.1
        have E : Hid (stepToF W T n bs k y = stepF W T k y) := by show _ = _; rw [stepToF, if_pos hv, if_pos hi]; rfl
        have hk : k < W * T := by rw [← V.size]; omega
        have HK := Lib.hid hk
        clear b hk
        go_enter Try.func50, Try.ntmps50
        go_wp2_with fail
        refine (valid_spec A n c W T bs _ (by omega) (h.alloc _)).mono ?_; rintro e w1 ⟨rfl, hb1⟩
        have r1 := (Box.new w (.int .i64 W) (.int .i64 T) (.slice A n c) 28).below hb1
        have B1 := belowW (below1 w _) hb1
        have k1 := r1.1
        have k2 := r1.2.1
        have k3 := r1.2.2
        go_wp2_with (go_at_call 45; refine (l1In_any _ _ _ _).mono ?_; rintro e w' ⟨rfl, rfl⟩)
        refine (l2Step_any A n c W T k y _ V.w0 V.w1 V.t0 V.t1 HK.out hj).mono ?_; rintro e w3 ⟨rfl, hb3⟩
        go_wp2_with fail
        go_ret
        exact ⟨ret_i E.out.symm, belowW B1 hb3⟩
      · have hj' : inB y 1 4 = false := by simpa using hj
        have E : Hid (stepToF W T n bs x y = -1) := by show _ = _; rw [stepToF, if_pos hv, if_pos hi, stepF_no hj']
        clear hj
        go_enter Try.func50, Try.ntmps50
        go_wp2_with fail
        refine (valid_spec A n c W T bs _ (by omega) (h.alloc _)).mono ?_; rintro e w1 ⟨rfl, hb1⟩
        have r1 := (Box.new w (.int .i64 W) (.int .i64 T) (.slice A n c) 28).below hb1
        have B1 := belowW (below1 w _) hb1
        have k1 := r1.1
        have k2 := r1.2.1
        have k3 := r1.2.2
        go_wp2_with (go_at_call 45; refine (l1In_any _ _ _ _).mono ?_; rintro e w' ⟨rfl, rfl⟩)
        go_ret
        exact ⟨ret_i E.out.symm, B1⟩
    · have E : Hid (stepToF W T n bs x y = -1) := by show _ = _; rw [stepToF, if_pos hv, if_neg hi]
      have hi' : inB x 0 ((n : Int) - 1) = false := by simpa using hi
      clear hi
      go_enter Try.func50, Try.ntmps50
      go_wp2_with fail
      refine (valid_spec A n c W T bs _ (by omega) (h.alloc _)).mono ?_; rintro e w1 ⟨rfl, hb1⟩
      have r1 := (Box.new w (.int .i64 W) (.int .i64 T) (.slice A n c) 28).below hb1
      have B1 := belowW (below1 w _) hb1
      have k1 := r1.1
      have k2 := r1.2.1
      have k3 := r1.2.2
      go_wp2_with (go_at_call 45; refine (l1In_any _ _ _ _).mono ?_; rintro e w' ⟨rfl, rfl⟩)
      go_ret
      exact ⟨ret_i E.out.symm, B1⟩
  · have E : Hid (stepToF W T n bs x y = -1) := by show _ = _; rw [stepToF, if_neg hv]
    have hv' : validB W T n bs = false := by simpa using hv
    clear hv hl
    go_enter Try.func50, Try.ntmps50
    go_wp2_with fail
    refine (valid_spec A n c W T bs _ (by omega) (h.alloc _)).mono ?_; rintro e w1 ⟨rfl, hb1⟩
    go_wp2_with fail
    go_ret
    exact ⟨ret_i E.out.symm, belowW (below1 w _) hb1⟩


end Go.Proofs.Ytlanbpdaogkkbaa
