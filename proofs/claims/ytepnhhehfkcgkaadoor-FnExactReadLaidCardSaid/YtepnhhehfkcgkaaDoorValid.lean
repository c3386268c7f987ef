/-
  many, l1Count and RegionValid, both sides: what they return.
-/
import Derived.Test.YtepnhhehfkcgkaaDoorLawB
namespace Go.Proofs.YtepnhhehfkcgkaaDoor
open Go.RowKit

def cnt (bs : List Bool) : Nat := bs.count true
theorem cnt_le (bs : List Bool) : cnt bs ≤ bs.length := List.count_le_length
theorem cnt_snoc (bs : List Bool) (x : Bool) : cnt (bs ++ [x]) = cnt bs + (if x then 1 else 0) := by cases x <;> simp [cnt]

set_option maxHeartbeats 400000 in
theorem many_any (A : Option Addr) (n c : Nat) (bs : List Bool) (w : World) (hn : n ≤ 9223372036854775807) (h : Sl w A n (bs.map .bool)) :
    Calls Tryd.prog 39 #[.slice A n c] w fun e w' => e = .returned (.int .i64 (cnt bs)) ∧ w = w' := by
  have hl := h.1
  rw [List.length_map] at hl
  have HL := Lib.hid hl
  clear hl
  go_enter Tryd.func39, Tryd.ntmps39
  go_wp2
  go_loop [3, 8] (fun s i => ∃ k : Nat, k ≤ n ∧ i = .int .i64 k ∧ s = .int .i64 (cnt (bs.take k))) (fun _ i => n - (intOf i).toNat)
  case atStart => exact ⟨0, Nat.zero_le _, rfl, rfl⟩
  case round =>
    obtain ⟨k, hk, rfl, rfl⟩ := hrel
    have hb : cnt (bs.take k) ≤ k := Nat.le_trans (cnt_le _) (List.length_take_le _ _)
    by_cases hlt : k < n
    · obtain ⟨b, off, x, rfl, hx, hc⟩ := h.atB hlt
      have HX := Lib.hid hx
      clear hx
      cases x
      · go_wp2
        go_round
        case rel => exact ⟨k + 1, by omega, by go_num, by rw [take_snoc HX.out, cnt_snoc]; go_num⟩
        case measure => simp [intOf]; omega
      · go_wp2
        go_round
        case rel => exact ⟨k + 1, by omega, by go_num, by rw [take_snoc HX.out, cnt_snoc]; go_num⟩
        case measure => simp [intOf]; omega
    · have e : k = n := by omega
      subst e
      go_wp2
      go_ret
      exact ⟨ret_i (by rw [List.take_of_length_le (by rw [HL.out]; exact Nat.le_refl _)]), rfl⟩
set_option maxHeartbeats 400000 in
theorem l1Count_any (A : Option Addr) (n c : Nat) (bs : List Bool) (w : World) (hn : n ≤ 9223372036854775807) (h : Sl w A n (bs.map .bool)) :
    Calls Tryd.prog 37 #[.slice A n c] w fun e w' => e = .returned (.int .i64 (cnt bs)) ∧ w = w' := by
  have hl := h.1
  rw [List.length_map] at hl
  have HL := Lib.hid hl
  clear hl
  go_enter Tryd.func37, Tryd.ntmps37
  go_wp2
  go_loop [3, 4] (fun s i => ∃ k : Nat, k ≤ n ∧ i = .int .i64 k ∧ s = .int .i64 (cnt (bs.take k))) (fun _ i => n - (intOf i).toNat)
  case atStart => exact ⟨0, Nat.zero_le _, rfl, rfl⟩
  case round =>
    obtain ⟨k, hk, rfl, rfl⟩ := hrel
    have hb : cnt (bs.take k) ≤ k := Nat.le_trans (cnt_le _) (List.length_take_le _ _)
    by_cases hlt : k < n
    · obtain ⟨b, off, x, rfl, hx, hc⟩ := h.atB hlt
      have HX := Lib.hid hx
      clear hx
      cases x
      · go_wp2
        go_round
        case rel => exact ⟨k + 1, by omega, by go_num, by rw [take_snoc HX.out, cnt_snoc]; go_num⟩
        case measure => simp [intOf]; omega
      · go_wp2
        go_round
        case rel => exact ⟨k + 1, by omega, by go_num, by rw [take_snoc HX.out, cnt_snoc]; go_num⟩
        case measure => simp [intOf]; omega
    · have e : k = n := by omega
      subst e
      go_wp2
      go_ret
      exact ⟨ret_i (by rw [List.take_of_length_le (by rw [HL.out]; exact Nat.le_refl _)]), rfl⟩

def validB (W T : Int) (n : Nat) (bs : List Bool) : Bool := inB W 1 6 && (inB T 1 6 && (decide ((n : Int) = W * T) && decide (cnt bs ≤ 24)))

theorem mul_bd {W T : Int} (h1 : 1 ≤ W) (h2 : W ≤ 6) (h3 : 1 ≤ T) (h4 : T ≤ 6) : 0 ≤ W * T ∧ W * T ≤ 36 := by
  have a : W = 1 ∨ W = 2 ∨ W = 3 ∨ W = 4 ∨ W = 5 ∨ W = 6 := by omega
  rcases a with rfl | rfl | rfl | rfl | rfl | rfl <;> omega

set_option maxHeartbeats 400000 in
theorem valid_impl (A : Option Addr) (n c : Nat) (W T : Int) (bs : List Bool) (w : World) (hn : n ≤ 9223372036854775807) (h : Sl w A n (bs.map .bool)) :
    Calls Tryd.prog 31 #[.agg #[.int .i64 W, .int .i64 T, .slice A n c]] w fun e w' => e = .returned (.bool (validB W T n bs)) ∧ Below w.heap.size w w' := by
  by_cases h1 : inB W 1 6 = true
  · by_cases h2 : inB T 1 6 = true
    · have b1 := inB_iff.1 h1
      have b2 := inB_iff.1 h2
      obtain ⟨b3, b4⟩ := mul_bd b1.1 b1.2 b2.1 b2.2
      by_cases h3 : (n : Int) = W * T
      · have e3 : ((n : Int) == W * T) = true := by simpa using h3
        by_cases h4 : cnt bs ≤ 24
        · have E : Hid (validB W T n bs = true) := by show _ = true; simp [validB, h1, h2, h3, h4]
          have e4 : ((cnt bs : Nat) : Int) ≤ 24 := by omega
          clear h3 h4 b1 b2
          go_enter Tryd.func31, Tryd.ntmps31
          go_wp2_with (first | (go_at_call 29; refine (in_any _ _ _ _).mono ?_; rintro e w' ⟨rfl, rfl⟩) | (go_at_call 39; refine (many_any A n c bs _ hn (h.alloc _)).mono ?_; rintro e w' ⟨rfl, rfl⟩))
          go_ret
          exact ⟨ret_b E.out.symm, below1 _ _⟩
        · have E : Hid (validB W T n bs = false) := by show _ = false; simp [validB, h4]
          have e4 : ¬ ((cnt bs : Nat) : Int) ≤ 24 := by omega
          clear h3 h4 b1 b2
          go_enter Tryd.func31, Tryd.ntmps31
          go_wp2_with (first | (go_at_call 29; refine (in_any _ _ _ _).mono ?_; rintro e w' ⟨rfl, rfl⟩) | (go_at_call 39; refine (many_any A n c bs _ hn (h.alloc _)).mono ?_; rintro e w' ⟨rfl, rfl⟩))
          go_ret
          exact ⟨ret_b (by rw [E.out]; exact decide_eq_false (by omega)), below1 _ _⟩
      · have E : Hid (validB W T n bs = false) := by show _ = false; simp [validB, h3]
        have e3 : ((n : Int) == W * T) = false := by simpa using h3
        clear h3 b1 b2
        go_enter Tryd.func31, Tryd.ntmps31
        go_wp2_with (first | (go_at_call 29; refine (in_any _ _ _ _).mono ?_; rintro e w' ⟨rfl, rfl⟩))
        go_ret
        exact ⟨ret_b E.out.symm, below1 _ _⟩
    · have E : Hid (validB W T n bs = false) := by show _ = false; simp [validB, h2]
      have e2 : inB T 1 6 = false := by simpa using h2
      clear h2
      go_enter Tryd.func31, Tryd.ntmps31
      go_wp2_with (first | (go_at_call 29; refine (in_any _ _ _ _).mono ?_; rintro e w' ⟨rfl, rfl⟩))
      go_ret
      exact ⟨ret_b E.out.symm, below1 _ _⟩
  · have E : Hid (validB W T n bs = false) := by show _ = false; simp [validB, h1]
    have e1 : inB W 1 6 = false := by simpa using h1
    clear h1
    go_enter Tryd.func31, Tryd.ntmps31
    go_wp2_with (first | (go_at_call 29; refine (in_any _ _ _ _).mono ?_; rintro e w' ⟨rfl, rfl⟩))
    go_ret
    exact ⟨ret_b E.out.symm, below1 _ _⟩
set_option maxHeartbeats 400000 in
theorem valid_spec (A : Option Addr) (n c : Nat) (W T : Int) (bs : List Bool) (w : World) (hn : n ≤ 9223372036854775807) (h : Sl w A n (bs.map .bool)) :
    Calls Tryd.prog 26 #[.agg #[.int .i64 W, .int .i64 T, .slice A n c]] w fun e w' => e = .returned (.bool (validB W T n bs)) ∧ Below w.heap.size w w' := by
  by_cases h1 : inB W 1 6 = true
  · by_cases h2 : inB T 1 6 = true
    · have b1 := inB_iff.1 h1
      have b2 := inB_iff.1 h2
      obtain ⟨b3, b4⟩ := mul_bd b1.1 b1.2 b2.1 b2.2
      by_cases h3 : (n : Int) = W * T
      · have e3 : ((n : Int) == W * T) = true := by simpa using h3
        by_cases h4 : cnt bs ≤ 24
        · have E : Hid (validB W T n bs = true) := by show _ = true; simp [validB, h1, h2, h3, h4]
          have e4 : ((cnt bs : Nat) : Int) ≤ 24 := by omega
          clear h3 h4 b1 b2
          go_enter Tryd.func26, Tryd.ntmps26
          go_wp2_with (first | (go_at_call 36; refine (l1In_any _ _ _ _).mono ?_; rintro e w' ⟨rfl, rfl⟩) | (go_at_call 37; refine (l1Count_any A n c bs _ hn (h.alloc _)).mono ?_; rintro e w' ⟨rfl, rfl⟩))
          go_ret
          exact ⟨ret_b E.out.symm, below1 _ _⟩
        · have E : Hid (validB W T n bs = false) := by show _ = false; simp [validB, h4]
          have e4 : ¬ ((cnt bs : Nat) : Int) ≤ 24 := by omega
          clear h3 h4 b1 b2
          go_enter Tryd.func26, Tryd.ntmps26
          go_wp2_with (first | (go_at_call 36; refine (l1In_any _ _ _ _).mono ?_; rintro e w' ⟨rfl, rfl⟩) | (go_at_call 37; refine (l1Count_any A n c bs _ hn (h.alloc _)).mono ?_; rintro e w' ⟨rfl, rfl⟩))
          go_ret
          exact ⟨ret_b (by rw [E.out]; exact decide_eq_false (by omega)), below1 _ _⟩
      · have E : Hid (validB W T n bs = false) := by show _ = false; simp [validB, h3]
        have e3 : ((n : Int) == W * T) = false := by simpa using h3
        clear h3 b1 b2
        go_enter Tryd.func26, Tryd.ntmps26
        go_wp2_with (first | (go_at_call 36; refine (l1In_any _ _ _ _).mono ?_; rintro e w' ⟨rfl, rfl⟩))
        go_ret
        exact ⟨ret_b E.out.symm, below1 _ _⟩
    · have E : Hid (validB W T n bs = false) := by show _ = false; simp [validB, h2]
      have e2 : inB T 1 6 = false := by simpa using h2
      clear h2
      go_enter Tryd.func26, Tryd.ntmps26
      go_wp2_with (first | (go_at_call 36; refine (l1In_any _ _ _ _).mono ?_; rintro e w' ⟨rfl, rfl⟩))
      go_ret
      exact ⟨ret_b E.out.symm, below1 _ _⟩
  · have E : Hid (validB W T n bs = false) := by show _ = false; simp [validB, h1]
    have e1 : inB W 1 6 = false := by simpa using h1
    clear h1
    go_enter Tryd.func26, Tryd.ntmps26
    go_wp2_with (first | (go_at_call 36; refine (l1In_any _ _ _ _).mono ?_; rintro e w' ⟨rfl, rfl⟩))
    go_ret
    exact ⟨ret_b E.out.symm, below1 _ _⟩

/-- What a valid region is, in natural numbers. -/
structure Valid (W T n : Nat) (bs : List Bool) : Prop where
  w0 : 1 ≤ W
  w1 : W ≤ 6
  t0 : 1 ≤ T
  t1 : T ≤ 6
  size : n = W * T
  len : bs.length = n
  many : cnt bs ≤ 24

theorem valid_of {W T : Int} {n : Nat} {bs : List Bool} (h : validB W T n bs = true) (hl : bs.length = n) : ∃ W' T' : Nat, W = W' ∧ T = T' ∧ Valid W' T' n bs := by
  simp only [validB, Bool.and_eq_true, decide_eq_true_eq] at h
  obtain ⟨h1, h2, h3, h4⟩ := h
  have b1 := inB_iff.1 h1
  have b2 := inB_iff.1 h2
  obtain ⟨W', rfl⟩ := Int.eq_ofNat_of_zero_le (show 0 ≤ W by omega)
  obtain ⟨T', rfl⟩ := Int.eq_ofNat_of_zero_le (show 0 ≤ T by omega)
  refine ⟨W', T', rfl, rfl, ⟨by omega, by omega, by omega, by omega, ?_, hl, h4⟩⟩
  exact_mod_cast h3
theorem Valid.ok {W T n : Nat} {bs : List Bool} (h : Valid W T n bs) : validB W T n bs = true := by
  have e : ((n : Nat) : Int) = (W : Int) * T := by rw [h.size]; simp
  simp only [validB, Bool.and_eq_true, decide_eq_true_eq]
  exact ⟨inB_iff.2 ⟨by have := h.w0; omega, by have := h.w1; omega⟩, inB_iff.2 ⟨by have := h.t0; omega, by have := h.t1; omega⟩, e, h.many⟩
theorem Valid.n36 {W T n : Nat} {bs : List Bool} (h : Valid W T n bs) : n ≤ 36 := by
  have := h.size; have := Nat.mul_le_mul h.w1 h.t1; omega

end Go.Proofs.YtepnhhehfkcgkaaDoor
