/-
  The law FnStepTo: its walk.
-/
import Derived.Test.YtfilbcnhbadbbaaDrawSt
import Derived.Test.YtfilbcnhbadbbaaStepAll
import Derived.Test.YtfilbcnhbadbbaaStepBack
namespace Go.Proofs.Ytfilbcnhbadbbaa
open Go.RowKit

theorem stepTo_facts {W T : Int} {n : Nat} {bs : List Bool} {x y : Int} (hl : bs.length = n) (h : ¬ stepToF W T n bs x y < 0) :
    ∃ j : Nat, stepToF W T n bs x y = j ∧ j < n ∧ (j : Int) ≠ x ∧ 1 ≤ y ∧ y ≤ 4 ∧ stepToF W T n bs j (backF y) = x := by
  rw [stepToF] at h ⊢
  split at h
  · rename_i hv
    split at h
    · rename_i hi
      obtain ⟨W, T, rfl, rfl, V⟩ := valid_of hv hl
      have b := inB_iff.1 hi
      obtain ⟨k, rfl⟩ := Int.eq_ofNat_of_zero_le b.1
      rw [Int.toNat_natCast, Int.toNat_natCast, Int.toNat_natCast] at h
      obtain ⟨j, hj⟩ := Int.eq_ofNat_of_zero_le (show 0 ≤ stepF W T k y by omega)
      obtain ⟨s1, s2, s3⟩ := step_back V.w0 (by rw [← V.size]; omega) hj
      have hway : inB y 1 4 = true := by
        cases hy : inB y 1 4 with
        | true => rfl
        | false => rw [stepF_no hy] at hj; omega
      have hy := inB_iff.1 hway
      refine ⟨j, ?_, by rw [V.size]; exact s3, by omega, hy.1, hy.2, ?_⟩
      · rw [if_pos hv, if_pos hi, Int.toNat_natCast, Int.toNat_natCast, Int.toNat_natCast]; exact hj
      · rw [stepToF, if_pos hv, if_pos (inB_iff.2 ⟨by omega, by have := V.size; omega⟩), Int.toNat_natCast, Int.toNat_natCast, Int.toNat_natCast]; exact s1
    · omega
  · omega
theorem stepTo_neg {W T : Int} {n : Nat} {bs : List Bool} {x y : Int} (hl : bs.length = n) (h : stepToF W T n bs x y < 0) : stepToF W T n bs x y = -1 := by
  rw [stepToF] at h ⊢
  split
  · rename_i hv
    rw [if_pos hv] at h
    split
    · rename_i hi
      rw [if_pos hi] at h
      obtain ⟨W, T, rfl, rfl, V⟩ := valid_of hv hl
      have b := inB_iff.1 hi
      obtain ⟨k, rfl⟩ := Int.eq_ofNat_of_zero_le b.1
      rw [Int.toNat_natCast, Int.toNat_natCast, Int.toNat_natCast] at h ⊢
      have := (stepF_bound (way := y) V.w0 (show k < W * T by rw [← V.size]; omega)).1
      omega
    · rfl
  · rfl

set_option maxHeartbeats 1000000 in
theorem law_FnStepTo (A : Option Addr) (n c : Nat) (us : List Int) (w : World) (hn : n ≤ 9223372036854775807 ∧ n ≤ c) (h : Sl w A n (us.map (.int .u8))) (hu : ∀ u ∈ us, 0 ≤ u ∧ u ≤ 255) :
    Calls Try.prog 3 #[.slice A n c] w fun e w' => e = .returned (.bool true) ∧ Below w.heap.size w w' := by
  have hn1 := hn.1
  by_cases hbig : 1048576 < n
  · go_enter Try.func3, Try.ntmps3
    go_wp2_with fail
    go_ret
    exact ⟨rfl, Below.refl _ _⟩
  go_enter Try.func3, Try.ntmps3
  go_wp2_with fail
  refine (drawSt_any A n c us _ hn h hu).mono ?_; rintro e w1 ⟨W, T, cs, x, y, D, d, hcs, hx, hy, rfl, hown, hb1⟩
  go_wp2_with fail
  have x1 := Box.new w1 (.int .i64 W) (.int .i64 T) (.slice D cs.length d) 25
  have B1 := belowA (o := .cells #[.int .i64 W, .int .i64 T, .slice D cs.length d] 25) hb1
  have s1 := hown.sl.alloc (.cells #[.int .i64 W, .int .i64 T, .slice D cs.length d] 25)
  have hx' : I64 x := ⟨by omega, by omega⟩
  have hy' : I64 y := ⟨by omega, by omega⟩
  refine (stepTo_impl D cs.length d W T cs x y _ (by omega) s1 hx' hy').mono ?_; rintro e w2 ⟨rfl, hb2⟩
  have x2 := x1.below hb2
  have B2 := belowW B1 hb2
  have s2 := s1.below hb2
  clear x1 B1 s1 hb2
  have k1 := x2.1
  have k2 := x2.2.1
  have k3 := x2.2.2
  go_wp2_with fail
  refine (stepTo_spec D cs.length d W T cs x y _ (by omega) s2 hx' hy').mono ?_; rintro e w3 ⟨rfl, hb3⟩
  have x3 := x2.below hb3
  have B3 := belowW B2 hb3
  have s3 := s2.below hb3
  clear x2 B2 s2 hb3 k1 k2 k3
  have k1 := x3.1
  have k2 := x3.2.1
  have k3 := x3.2.2
  by_cases hv : stepToF W T cs.length cs x y < 0
  · rw [stepTo_neg rfl hv]
    clear hv
    go_wp2_with fail
    refine (alive_any _).mono ?_; rintro e w4 ⟨rfl, hb4⟩
    go_wp2_with fail
    go_ret
    exact ⟨rfl, belowW B3 hb4⟩
  · obtain ⟨j, e1, hj, hne, y1, y4, e2⟩ := stepTo_facts rfl hv
    rw [e1]
    have E2 := Lib.hid e2
    clear hv e1 e2
    have hj' : I64 (j : Int) := ⟨by omega, by omega⟩
    have hb' : I64 (backF y) := ⟨by unfold backF; omega, by unfold backF; omega⟩
    have i1 : IntKind.i64.wrap (y + 1) = y + 1 := IntWalk.i64_in _ (by omega)
    have i2 : Int.tmod (y + 1) 4 = (y + 1) % 4 := Int.tmod_eq_emod_of_nonneg (by omega)
    have i3 : IntKind.i64.wrap ((y + 1) % 4) = (y + 1) % 4 := IntWalk.i64_in _ (by omega)
    have i4 : IntKind.i64.wrap ((y + 1) % 4 + 1) = backF y := IntWalk.i64_in _ (by omega)
    have d1 : ((j : Int) != x) = true := by simpa using hne
    have d2 : decide ((j : Int) < (cs.length : Int)) = true := decide_eq_true (by omega)
    have d3 : decide ((j : Int) < 0) = false := decide_eq_false (by omega)
    go_wp2_with fail
    refine (stepTo_impl D cs.length d W T cs j (backF y) _ (by omega) s3 hj' hb').mono ?_; rintro e w4 ⟨rfl, hb4⟩
    rw [E2.out]
    have x4 := x3.below hb4
    clear x3 k1 k2 k3
    have k1 := x4.1
    have k2 := x4.2.1
    have k3 := x4.2.2
    go_wp2_with fail
    go_ret
    exact ⟨ret_b (by simp), belowW B3 hb4⟩

end Go.Proofs.Ytfilbcnhbadbbaa
