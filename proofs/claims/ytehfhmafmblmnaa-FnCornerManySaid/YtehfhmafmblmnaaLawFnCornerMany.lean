/-
  The law FnCornerMany: its walk.
-/
import Derived.Test.YtehfhmafmblmnaaDrawC
import Derived.Test.YtehfhmafmblmnaaTurnI
namespace Go.Proofs.Ytehfhmafmblmnaa
open Go.RowKit

theorem cnt_set (l : List Bool) (i : Nat) (x : Bool) : cnt (l.set i x) ≤ cnt l + (if x then 1 else 0) := by
  induction l generalizing i with
  | nil => simp [cnt]
  | cons a l ih =>
    cases i with
    | zero => cases a <;> cases x <;> simp [cnt]
    | succ i => have := ih i; cases a <;> cases x <;> simp [cnt] at this ⊢ <;> omega

theorem cnt_put (n : Nat) (to : Nat → Nat) (bs : List Bool) (k : Nat) : cnt (putL n to bs k) ≤ cnt (bs.take k) := by
  induction k with
  | zero => simp [putL, cnt, List.count_replicate]
  | succ k ih =>
    rw [putL]
    refine Nat.le_trans (cnt_set _ _ _) ?_
    cases hx : bs[k]? with
    | none =>
      rw [List.take_of_length_le (by have := List.getElem?_eq_none_iff.1 hx; omega)]
      rw [List.take_of_length_le (List.getElem?_eq_none_iff.1 hx)] at ih
      simpa using ih
    | some x =>
      rw [take_snoc hx, cnt_snoc]
      simp only [Option.getD_some]
      omega

theorem turn_valid {W T n : Nat} {bs : List Bool} (V : Valid W T n bs) : Valid T W n (putL n (turnT W T) bs n) :=
  ⟨V.t0, V.t1, V.w0, V.w1, by rw [V.size, Nat.mul_comm], putL_len _ _ _ _, Nat.le_trans (cnt_put _ _ _ _) (by rw [List.take_of_length_le (by rw [V.len]; exact Nat.le_refl _)]; exact V.many)⟩

set_option maxHeartbeats 1000000 in
theorem law_FnCornerMany (A : Option Addr) (n c : Nat) (us : List Int) (w : World) (hn : n ≤ 9223372036854775807 ∧ n ≤ c) (h : Sl w A n (us.map (.int .u8))) (hu : ∀ u ∈ us, 0 ≤ u ∧ u ≤ 255) :
    Calls Try.prog 5 #[.slice A n c] w fun e w' => e = .returned (.bool true) ∧ Below w.heap.size w w' := by
  have hn1 := hn.1
  by_cases hbig : 1048576 < n
  · go_enter Try.func5, Try.ntmps5
    go_wp2_with fail
    go_ret
    exact ⟨rfl, Below.refl _ _⟩
  go_enter Try.func5, Try.ntmps5
  go_wp2_with fail
  refine (drawCM_any A n c us _ hn h hu).mono ?_; rintro e w1 ⟨W, T, cs, hcs, D, d, rfl, hown, hb1, -⟩
  go_wp2_with fail
  have x1 := Box.new w1 (.int .i64 W) (.int .i64 T) (.slice D cs.length d) 27
  have B1 := belowA (o := .cells #[.int .i64 W, .int .i64 T, .slice D cs.length d] 27) hb1
  have s1 := hown.sl.alloc (.cells #[.int .i64 W, .int .i64 T, .slice D cs.length d] 27)
  have hl := hown.sl.1
  rw [List.length_map] at hl
  by_cases hv : validB W T cs.length cs = true
  · obtain ⟨W, T, rfl, rfl, V⟩ := valid_of hv hl
    have e1 : cornerF (W : Int) (T : Int) cs.length cs = ((W : Int) + 1) * ((T : Int) + 1) := by rw [cornerF, if_pos hv]
    obtain ⟨e2, e3, e4⟩ := turn_yes hv
    have V2 := turn_valid V
    have e5 : cornerF (T : Int) (W : Int) cs.length (putL cs.length (turnT W T) cs cs.length) = ((W : Int) + 1) * ((T : Int) + 1) := by rw [cornerF, if_pos V2.ok, Int.mul_comm]
    have E6 : Hid (((W : Int) + 1) * ((T : Int) + 1) = (cs.length : Int) + (W : Int) + (T : Int) + 1) := by
      show _ = _
      rw [show ((cs.length : Nat) : Int) = (W : Int) * (T : Int) by rw [V.size]; simp, Int.add_mul, Int.mul_add]; omega
    obtain ⟨b1, b2⟩ := corner_bd V.w1 V.t1
    have n36 := V.n36
    have HV := Lib.hid hv
    clear hv hl
    refine (corner_impl D cs.length d W T cs _ (by omega) s1).mono ?_; rintro e w2 ⟨rfl, hb2⟩
    have x2 := x1.below hb2
    have B2 := belowW B1 hb2
    have s2 := s1.below hb2
    clear x1 B1 s1 hb2
    have k1 := x2.1
    have k2 := x2.2.1
    have k3 := x2.2.2
    rw [e1]
    go_wp2_with fail
    refine (corner_spec D cs.length d W T cs _ (by omega) s2).mono ?_; rintro e w3 ⟨rfl, hb3⟩
    have x3 := x2.below hb3
    have B3 := belowW B2 hb3
    have s3 := s2.below hb3
    clear x2 B2 s2 hb3 k1 k2 k3
    have k1 := x3.1
    have k2 := x3.2.1
    have k3 := x3.2.2
    rw [e1]
    go_wp2_with fail
    refine (turn_impl D cs.length d W T cs _ (by omega) s3).mono ?_; rintro e w4 ⟨D4, d4, rfl, o4, hb4, -⟩
    have x4 := x3.below hb4
    have B4 := belowW B3 hb4
    clear x3 B3 s3 hb4 k1 k2 k3
    rw [e4, putL_len] at o4
    rw [e2, e3, e4, putL_len]
    go_wp2_with fail
    refine (corner_impl D4 cs.length d4 T W (putL cs.length (turnT W T) cs cs.length) _ (by omega) o4.sl).mono ?_; rintro e w5 ⟨rfl, hb5⟩
    rw [e5]
    have x5 := x4.below hb5
    have B5 := belowW B4 hb5
    have v1 := V.w1
    have v3 := V.t1
    clear x4 B4 hb5 o4 e1 e2 e3 e4 e5
    have k1 := x5.1
    have k2 := x5.2.1
    have k3 := x5.2.2
    have e6 := E6.out
    go_wp2_with fail
    go_ret
    exact ⟨ret_b (by simp), B5⟩
  · have e1 : cornerF W T cs.length cs = -1 := by rw [cornerF, if_neg hv]
    have hv' : validB W T cs.length cs = false := by simpa using hv
    clear hv hl
    refine (corner_impl D cs.length d W T cs _ (by omega) s1).mono ?_; rintro e w2 ⟨rfl, hb2⟩
    have x2 := x1.below hb2
    have B2 := belowW B1 hb2
    have s2 := s1.below hb2
    clear x1 B1 s1 hb2
    have k1 := x2.1
    have k2 := x2.2.1
    have k3 := x2.2.2
    rw [e1]
    go_wp2_with fail
    refine (corner_spec D cs.length d W T cs _ (by omega) s2).mono ?_; rintro e w3 ⟨rfl, hb3⟩
    have x3 := x2.below hb3
    have B3 := belowW B2 hb3
    have s3 := s2.below hb3
    clear x2 B2 s2 hb3 k1 k2 k3
    have k1 := x3.1
    have k2 := x3.2.1
    have k3 := x3.2.2
    rw [e1]
    go_wp2_with fail
    refine (valid_impl D cs.length d W T cs _ (by omega) s3).mono ?_; rintro e w4 ⟨rfl, hb4⟩
    rw [hv']
    go_wp2_with fail
    refine (alive_any _).mono ?_; rintro e w5 ⟨rfl, hb5⟩
    go_wp2_with fail
    go_ret
    exact ⟨rfl, belowW (belowW B3 hb4) hb5⟩

end Go.Proofs.Ytehfhmafmblmnaa
