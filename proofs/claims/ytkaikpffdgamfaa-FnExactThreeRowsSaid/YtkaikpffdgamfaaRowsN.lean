/-
  TwoRows and ThreeRows, both sides: what they return.
-/
import Derived.Test.YtkaikpffdgamfaaBase
namespace Go.Proofs.Ytkaikpffdgamfaa
open Go.RowKit

def fibP : Nat → Int × Int
  | 0 => (1, 1)
  | n + 1 => ((fibP n).2, wrap64 ((fibP n).1 + (fibP n).2))

set_option maxHeartbeats 400000 in
theorem two_impl (n : Nat) (w : World) (h : n ≤ 60) :
    Calls Try.prog 16 #[.int .i64 n] w fun e w' => e = .returned (.int .i64 (fibP n).1) ∧ w = w' := by
  have hin : inB n 0 60 = true := inB_true (by omega) (by omega)
  go_enter Try.func16, Try.ntmps16
  go_wp2_with (go_at_call 45; refine (in_any _ _ _ _).mono ?_; rintro e w' ⟨rfl, rfl⟩)
  go_loop [3, 4, 9] (fun a b i => ∃ k : Nat, k ≤ n ∧ i = .int .i64 k ∧ a = .int .i64 (fibP k).1 ∧ b = .int .i64 (fibP k).2) (fun _ _ i => n - (intOf i).toNat)
  case atStart => exact ⟨0, Nat.zero_le _, rfl, rfl, rfl⟩
  case round =>
    obtain ⟨k, hk, rfl, rfl, rfl⟩ := hrel
    by_cases hlt : k < n
    · go_wp2
      go_round
      case rel => exact ⟨k + 1, by omega, by go_num, rfl, rfl⟩
      case measure => simp [intOf]; omega
    · have e : k = n := by omega
      subst e
      go_wp2
      go_ret
      exact ⟨rfl, rfl⟩

set_option maxHeartbeats 400000 in
theorem two_spec (n : Nat) (w : World) (h : n ≤ 60) :
    Calls Try.prog 15 #[.int .i64 n] w fun e w' => e = .returned (.int .i64 (fibP n).1) ∧ w = w' := by
  have hin : inB n 0 60 = true := inB_true (by omega) (by omega)
  go_enter Try.func15, Try.ntmps15
  go_wp2_with (go_at_call 44; refine (l1In_any _ _ _ _).mono ?_; rintro e w' ⟨rfl, rfl⟩)
  go_loop [3, 4, 5, 6] (fun a b i _ => ∃ k : Nat, k ≤ n ∧ i = .int .i64 (k + 1 : Nat) ∧ a = .int .i64 (fibP k).1 ∧ b = .int .i64 (fibP k).2 ∧ (k + 1 ≤ n ∨ k = 0)) (fun _ _ i _ => n - (intOf i).toNat)
  case atStart => exact ⟨0, Nat.zero_le _, rfl, rfl, rfl, .inr rfl⟩
  case round =>
    obtain ⟨k, hk, rfl, rfl, rfl, hx⟩ := hrel
    by_cases hlt : k + 1 < n
    · go_wp2
      go_round
      case rel => exact ⟨k + 1, by omega, by go_num, rfl, rfl, .inl (by omega)⟩
      case measure => simp [intOf]; omega
    · go_wp2
      go_ret
      refine ⟨ret_i ?_, rfl⟩
      rcases Nat.lt_or_ge 0 n with h0 | h0
      · have e : n = k + 1 := by omega
        rw [e]; rfl
      · have e : n = 0 := by omega
        have e2 : k = 0 := by omega
        rw [e, e2]; rfl

theorem two_impl_no (n : Int) (w : World) (h : ¬ (0 ≤ n ∧ n ≤ 60)) :
    Calls Try.prog 16 #[.int .i64 n] w fun e w' => e = .returned (.int .i64 (-1)) ∧ w = w' := by
  have hin : inB n 0 60 = false := inB_false h
  go_enter Try.func16, Try.ntmps16
  go_wp2_with (go_at_call 45; refine (in_any _ _ _ _).mono ?_; rintro e w' ⟨rfl, rfl⟩)
  go_ret
  exact ⟨rfl, rfl⟩
theorem two_spec_no (n : Int) (w : World) (h : ¬ (0 ≤ n ∧ n ≤ 60)) :
    Calls Try.prog 15 #[.int .i64 n] w fun e w' => e = .returned (.int .i64 (-1)) ∧ w = w' := by
  have hin : inB n 0 60 = false := inB_false h
  go_enter Try.func15, Try.ntmps15
  go_wp2_with (go_at_call 44; refine (l1In_any _ _ _ _).mono ?_; rintro e w' ⟨rfl, rfl⟩)
  go_ret
  exact ⟨rfl, rfl⟩

theorem law_two (n : Int) (w : World) :
    Calls Try.prog 4 #[.int .i64 n] w fun e w' => e = .returned (.bool true) ∧ w = w' := by
  by_cases h : 0 ≤ n ∧ n ≤ 60
  · obtain ⟨m, rfl⟩ := Int.eq_ofNat_of_zero_le h.1
    have hm : m ≤ 60 := by omega
    clear h
    go_enter Try.func4, Try.ntmps4
    go_wp2_with (first | (go_at_call 16; refine (two_impl m _ hm).mono ?_; rintro e w' ⟨rfl, rfl⟩) | (go_at_call 15; refine (two_spec m _ hm).mono ?_; rintro e w' ⟨rfl, rfl⟩))
    go_ret
    exact ⟨rfl, rfl⟩
  · have H := Lib.hid h
    clear h
    go_enter Try.func4, Try.ntmps4
    go_wp2_with (first | (go_at_call 16; refine (two_impl_no _ _ H.out).mono ?_; rintro e w' ⟨rfl, rfl⟩) | (go_at_call 15; refine (two_spec_no _ _ H.out).mono ?_; rintro e w' ⟨rfl, rfl⟩))
    go_ret
    exact ⟨rfl, rfl⟩

def triP : Nat → Int × Int
  | 0 => (1, 3)
  | n + 1 => ((triP n).2, wrap64 (wrap64 (4 * (triP n).2) - (triP n).1))
def triQ : Nat → Int × Int
  | 0 => (1, 1)
  | n + 1 => ((triQ n).2, wrap64 (wrap64 (4 * (triQ n).2) - (triQ n).1))
theorem wrap64_3 : wrap64 (wrap64 (4 * 1) - 1) = 3 := by decide +kernel
theorem triQ_succ (n : Nat) : triQ (n + 1) = triP n := by
  induction n with
  | zero => show (_, _) = _; rw [show (triQ 0).2 = 1 from rfl, show (triQ 0).1 = 1 from rfl, wrap64_3]; rfl
  | succ n ih => rw [triQ, ih]; rfl
theorem triQ_snd (n : Nat) : (triQ n).2 = (triP n).1 := by
  cases n with
  | zero => rfl
  | succ n => rw [triQ_succ]; rfl

set_option maxHeartbeats 400000 in
theorem three_impl (n m : Nat) (w : World) (h : n ≤ 40) (hm : n = m + m) :
    Calls Try.prog 18 #[.int .i64 n] w fun e w' => e = .returned (.int .i64 (triP m).1) ∧ w = w' := by
  have hin : inB n 0 40 = true := inB_true (by omega) (by omega)
  have hmod : ((n : Int) % 2 == 1) = false := beq_eq_false_iff_ne.2 (by omega)
  have hquo : (n : Int) / 2 = (m : Int) := by omega
  have HM := Lib.hid hm
  clear hm
  go_enter Try.func18, Try.ntmps18
  go_wp2_with (go_at_call 45; refine (in_any _ _ _ _).mono ?_; rintro e w' ⟨rfl, rfl⟩)
  clear hquo hmod hin
  go_loop [3, 4, 15] (fun a b i => ∃ k : Nat, k ≤ m ∧ i = .int .i64 k ∧ a = .int .i64 (triP k).1 ∧ b = .int .i64 (triP k).2) (fun _ _ i => m - (intOf i).toNat)
  case atStart => exact ⟨0, Nat.zero_le _, rfl, rfl, rfl⟩
  case round =>
    obtain ⟨k, hk, rfl, rfl, rfl⟩ := hrel
    have hb : m ≤ 40 := by have := HM.out; omega
    by_cases hlt : k < m
    · go_wp2
      go_round
      case rel => exact ⟨k + 1, by omega, by go_num, rfl, rfl⟩
      case measure => simp [intOf]; omega
    · have e : k = m := by omega
      subst e
      go_wp2
      go_ret
      exact ⟨rfl, rfl⟩

set_option maxHeartbeats 400000 in
theorem three_spec (n m : Nat) (w : World) (h : n ≤ 40) (hm : n = m + m) :
    Calls Try.prog 17 #[.int .i64 n] w fun e w' => e = .returned (.int .i64 (triP m).1) ∧ w = w' := by
  have hin : inB n 0 40 = true := inB_true (by omega) (by omega)
  have hmod : ((n : Int) % 2 == 1) = false := beq_eq_false_iff_ne.2 (by omega)
  have HM := Lib.hid hm
  clear hm
  go_enter Try.func17, Try.ntmps17
  go_wp2_with (go_at_call 44; refine (l1In_any _ _ _ _).mono ?_; rintro e w' ⟨rfl, rfl⟩)
  clear hmod hin
  go_loop [3, 4, 5, 6] (fun a b i _ => ∃ k : Nat, k + k ≤ n ∧ i = .int .i64 (k + k : Nat) ∧ a = .int .i64 (triQ k).1 ∧ b = .int .i64 (triQ k).2) (fun _ _ i _ => n - (intOf i).toNat)
  case atStart => exact ⟨0, Nat.zero_le _, rfl, rfl, rfl⟩
  case round =>
    obtain ⟨k, hk, rfl, rfl, rfl⟩ := hrel
    by_cases hlt : k + k < n
    · go_wp2
      go_round
      case rel => exact ⟨k + 1, by have := HM.out; omega, by go_num, rfl, rfl⟩
      case measure => simp [intOf]; omega
    · go_wp2
      go_ret
      have e : k = m := by have := HM.out; omega
      exact ⟨ret_i (by rw [e, triQ_snd]), rfl⟩

theorem three_impl_odd (n : Nat) (w : World) (h : n ≤ 40) (hm : n % 2 = 1) :
    Calls Try.prog 18 #[.int .i64 n] w fun e w' => e = .returned (.int .i64 0) ∧ w = w' := by
  have hin : inB n 0 40 = true := inB_true (by omega) (by omega)
  have hmod : ((n : Int) % 2 == 1) = true := beq_iff_eq.2 (by omega)
  clear hm
  go_enter Try.func18, Try.ntmps18
  go_wp2_with (go_at_call 45; refine (in_any _ _ _ _).mono ?_; rintro e w' ⟨rfl, rfl⟩)
  go_ret
  exact ⟨rfl, rfl⟩
theorem three_spec_odd (n : Nat) (w : World) (h : n ≤ 40) (hm : n % 2 = 1) :
    Calls Try.prog 17 #[.int .i64 n] w fun e w' => e = .returned (.int .i64 0) ∧ w = w' := by
  have hin : inB n 0 40 = true := inB_true (by omega) (by omega)
  have hmod : ((n : Int) % 2 == 1) = true := beq_iff_eq.2 (by omega)
  clear hm
  go_enter Try.func17, Try.ntmps17
  go_wp2_with (go_at_call 44; refine (l1In_any _ _ _ _).mono ?_; rintro e w' ⟨rfl, rfl⟩)
  go_ret
  exact ⟨rfl, rfl⟩
theorem three_impl_no (n : Int) (w : World) (h : ¬ (0 ≤ n ∧ n ≤ 40)) :
    Calls Try.prog 18 #[.int .i64 n] w fun e w' => e = .returned (.int .i64 (-1)) ∧ w = w' := by
  have hin : inB n 0 40 = false := inB_false h
  clear h
  go_enter Try.func18, Try.ntmps18
  go_wp2_with (go_at_call 45; refine (in_any _ _ _ _).mono ?_; rintro e w' ⟨rfl, rfl⟩)
  go_ret
  exact ⟨rfl, rfl⟩
theorem three_spec_no (n : Int) (w : World) (h : ¬ (0 ≤ n ∧ n ≤ 40)) :
    Calls Try.prog 17 #[.int .i64 n] w fun e w' => e = .returned (.int .i64 (-1)) ∧ w = w' := by
  have hin : inB n 0 40 = false := inB_false h
  clear h
  go_enter Try.func17, Try.ntmps17
  go_wp2_with (go_at_call 44; refine (l1In_any _ _ _ _).mono ?_; rintro e w' ⟨rfl, rfl⟩)
  go_ret
  exact ⟨rfl, rfl⟩

theorem law_three_of (n : Int) (v : Int) (w : World) (h1 : ∀ w, Calls Try.prog 18 #[.int .i64 n] w fun e w' => e = .returned (.int .i64 v) ∧ w = w') (h2 : ∀ w, Calls Try.prog 17 #[.int .i64 n] w fun e w' => e = .returned (.int .i64 v) ∧ w = w') :
    Calls Try.prog 5 #[.int .i64 n] w fun e w' => e = .returned (.bool true) ∧ w = w' := by
  have H1 := Lib.hid h1
  have H2 := Lib.hid h2
  clear h1 h2
  go_enter Try.func5, Try.ntmps5
  go_wp2_with (first | (go_at_call 18; refine (H1.out _).mono ?_; rintro e w' ⟨rfl, rfl⟩) | (go_at_call 17; refine (H2.out _).mono ?_; rintro e w' ⟨rfl, rfl⟩))
  go_ret
  exact ⟨rfl, rfl⟩

theorem law_three (n : Int) (w : World) :
    Calls Try.prog 5 #[.int .i64 n] w fun e w' => e = .returned (.bool true) ∧ w = w' := by
  by_cases h : 0 ≤ n ∧ n ≤ 40
  · obtain ⟨m, rfl⟩ := Int.eq_ofNat_of_zero_le h.1
    by_cases h2 : m % 2 = 1
    · exact law_three_of _ _ _ (fun w => three_impl_odd m w (by omega) h2) (fun w => three_spec_odd m w (by omega) h2)
    · exact law_three_of _ _ _ (fun w => three_impl m (m / 2) w (by omega) (by omega)) (fun w => three_spec m (m / 2) w (by omega) (by omega))
  · exact law_three_of _ _ _ (fun w => three_impl_no n w h) (fun w => three_spec_no n w h)

theorem law_constants (w : World) : Calls Try.prog 3 #[] w fun e w' => e = .returned (.bool true) ∧ w = w' := by
  go_enter Try.func3, Try.ntmps3
  go_wp2
  go_ret
  exact ⟨rfl, rfl⟩

theorem law_two' (n : Int) (w : World) (_h : I64 n) : Calls Try.prog 4 #[.int .i64 n] w fun e w' => e = .returned (.bool true) ∧ Below w.heap.size w w' :=
  (law_two n w).mono fun _ _ ⟨he, hw⟩ => ⟨he, by subst hw; exact Below.refl _ _⟩
theorem law_three' (n : Int) (w : World) (_h : I64 n) : Calls Try.prog 5 #[.int .i64 n] w fun e w' => e = .returned (.bool true) ∧ Below w.heap.size w w' :=
  (law_three n w).mono fun _ _ ⟨he, hw⟩ => ⟨he, by subst hw; exact Below.refl _ _⟩
theorem law_constants' (w : World) : Calls Try.prog 3 #[] w fun e w' => e = .returned (.bool true) ∧ Below w.heap.size w w' :=
  (law_constants w).mono fun _ _ ⟨he, hw⟩ => ⟨he, by subst hw; exact Below.refl _ _⟩
end Go.Proofs.Ytkaikpffdgamfaa
