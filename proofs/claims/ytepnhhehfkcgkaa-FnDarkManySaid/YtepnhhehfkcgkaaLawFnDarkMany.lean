/-
  The law FnDarkMany: its walk.
-/
import Derived.Test.YtepnhhehfkcgkaaDrawD
import Derived.Test.YtepnhhehfkcgkaaTurnI
import Derived.Test.YtepnhhehfkcgkaaScal
import Derived.Test.YtepnhhehfkcgkaaFlipP
namespace Go.Proofs.Ytepnhhehfkcgkaa
open Go.RowKit

theorem cntS_set (l : List Bool) (i : Nat) (x : Bool) : cnt (l.set i x) ≤ cnt l + (if x then 1 else 0) := by
  induction l generalizing i with
  | nil => simp [cnt]
  | cons a l ih =>
    cases i with
    | zero => cases a <;> cases x <;> simp [cnt]
    | succ i => have := ih i; cases a <;> cases x <;> simp [cnt] at this ⊢ <;> omega
theorem cntS_put (n : Nat) (to : Nat → Nat) (bs : List Bool) (k : Nat) : cnt (putL n to bs k) ≤ cnt (bs.take k) := by
  induction k with
  | zero => simp [putL, cnt, List.count_replicate]
  | succ k ih =>
    rw [putL]
    refine Nat.le_trans (cntS_set _ _ _) ?_
    cases hx : bs[k]? with
    | none =>
      rw [List.take_of_length_le (by have := List.getElem?_eq_none_iff.1 hx; omega)]
      rw [List.take_of_length_le (List.getElem?_eq_none_iff.1 hx)] at ih
      simpa using ih
    | some x =>
      rw [take_snoc hx, cnt_snoc]
      simp only [Option.getD_some]
      omega
theorem flip_valid {W T n : Nat} {bs : List Bool} (V : Valid W T n bs) : Valid W T n (putL n (flipT W T) bs n) :=
  ⟨V.w0, V.w1, V.t0, V.t1, V.size, putL_len _ _ _ _, Nat.le_trans (cntS_put _ _ _ _) (by rw [List.take_of_length_le (by rw [V.len]; exact Nat.le_refl _)]; exact V.many)⟩

set_option maxHeartbeats 1000000 in
theorem law_FnDarkMany (A : Option Addr) (n c : Nat) (us : List Int) (w : World) (hn : n ≤ 9223372036854775807 ∧ n ≤ c) (h : Sl w A n (us.map (.int .u8))) (hu : ∀ u ∈ us, 0 ≤ u ∧ u ≤ 255) :
    Calls Try.prog 5 #[.slice A n c] w fun e w' => e = .returned (.bool true) ∧ Below w.heap.size w w' := by
  have hn1 := hn.1
  by_cases hbig : 1048576 < n
  · go_enter Try.func5, Try.ntmps5
    go_wp2_with fail
    go_ret
    exact ⟨rfl, Below.refl _ _⟩
  go_enter Try.func5, Try.ntmps5
  go_wp2_with fail
  refine (drawDM_any A n c us _ hn h hu).mono ?_; rintro e w1 ⟨W, T, cs, hcs, D, d, d0, rfl, hown, hb1, -⟩
  go_wp2_with fail
  have x1 := Box.new w1 (.int .i64 W) (.int .i64 T) (.slice D cs.length d) 34
  have B1 := belowA (o := .cells #[.int .i64 W, .int .i64 T, .slice D cs.length d] 34) hb1
  have s1 := hown.sl.alloc (.cells #[.int .i64 W, .int .i64 T, .slice D cs.length d] 34)
  have hl := hown.sl.1
  rw [List.length_map] at hl
  by_cases hv : validB W T cs.length cs = true
  · obtain ⟨W, T, rfl, rfl, V⟩ := valid_of hv hl
    have e1 : darkF (W : Int) (T : Int) cs.length cs = darkN W cs cs.length := by rw [darkF, if_pos hv]; rfl
    obtain ⟨e2, e3, e4⟩ := flip_yes hv
    have V2 := flip_valid V
    have e5 : darkF (W : Int) (T : Int) cs.length (putL cs.length (flipT W T) cs cs.length) = darkN W (putL cs.length (flipT W T) cs cs.length) cs.length := by rw [darkF, if_pos V2.ok]; rfl
    have e6 : cellsF (W : Int) (T : Int) cs.length cs = cnt cs := by rw [cellsF, if_pos hv]
    obtain ⟨p1, p2⟩ := dark_mirror (W := W) (T := T) (bs := cs) V.w0 V.size rfl
    obtain ⟨dn, hdn⟩ : ∃ dn, darkN W cs cs.length = dn := ⟨_, rfl⟩
    obtain ⟨dx, hdx⟩ : ∃ dx, darkN W (putL cs.length (flipT W T) cs cs.length) cs.length = dx := ⟨_, rfl⟩
    obtain ⟨cc, hcc⟩ : ∃ cc, cnt cs = cc := ⟨_, rfl⟩
    have n36 := V.n36
    have b1 : dn ≤ 36 := by rw [← hdn]; exact Nat.le_trans (darkN_le _ _ _) n36
    have b2 : dx ≤ 36 := by rw [← hdx]; exact Nat.le_trans (darkN_le _ _ _) n36
    have b3 : cc ≤ 36 := by rw [← hcc]; exact Nat.le_trans (cnt_le _) n36
    rw [hdn] at e1 p1 p2
    rw [hdx] at e5 p1 p2
    rw [hcc] at e6 p1
    have v0 := V.w0
    have v1 := V.w1
    have P1' := Lib.hid p1
    have P2' := Lib.hid p2
    have HV := Lib.hid hv
    clear hv hl p1 p2 hdn hdx hcc
    refine (dark_impl D cs.length d W T cs _ (by omega) s1).mono ?_; rintro e w2 ⟨rfl, hb2⟩
    have x2 := x1.below hb2
    have B2 := belowW B1 hb2
    have s2 := s1.below hb2
    clear x1 B1 s1 hb2
    have k1 := x2.1
    have k2 := x2.2.1
    have k3 := x2.2.2
    rw [e1]
    go_wp2_with fail
    refine (dark_spec D cs.length d W T cs _ (by omega) s2).mono ?_; rintro e w3 ⟨rfl, hb3⟩
    have x3 := x2.below hb3
    have B3 := belowW B2 hb3
    have s3 := s2.below hb3
    clear x2 B2 s2 hb3 k1 k2 k3
    have k1 := x3.1
    have k2 := x3.2.1
    have k3 := x3.2.2
    rw [e1]
    go_wp2_with fail
    refine (flip_impl D cs.length d W T cs _ (by omega) s3).mono ?_; rintro e w4 ⟨D4, d4, d40, rfl, o4, hb4, -⟩
    have x4 := x3.below hb4
    have B4 := belowW B3 hb4
    have s4 := s3.below hb4
    clear x3 B3 s3 hb4 k1 k2 k3
    rw [e4, putL_len] at o4
    rw [e2, e3, e4, putL_len]
    go_wp2_with fail
    refine (dark_impl D4 cs.length d4 W T (putL cs.length (flipT W T) cs cs.length) _ (by omega) o4.sl).mono ?_; rintro e w5 ⟨rfl, hb5⟩
    rw [e5]
    have x5 := x4.below hb5
    have B5 := belowW B4 hb5
    have s5 := s4.below hb5
    clear x4 B4 s4 hb5 o4
    have k1 := x5.1
    have k2 := x5.2.1
    have k3 := x5.2.2
    go_wp2_with fail
    refine (cells_impl D cs.length d W T cs _ (by omega) s5).mono ?_; rintro e w6 ⟨rfl, hb6⟩
    rw [e6]
    have x6 := x5.below hb6
    have B6 := belowW B5 hb6
    clear x5 B5 s5 hb6 k1 k2 k3 e1 e2 e3 e4 e5 e6
    have k1 := x6.1
    have k2 := x6.2.1
    have k3 := x6.2.2
    by_cases hW2 : W % 2 = 0
    · have q1 : (((W : Int) % 2) == 0) = true := by rw [beq_iff_eq]; omega
      have q2 : ((dx : Int) == (cc : Int) - (dn : Int)) = true := by rw [beq_iff_eq]; have := P1'.out hW2; omega
      clear hW2
      go_wp2_with fail
      go_ret
      exact ⟨rfl, B6⟩
    · have q1 : (((W : Int) % 2) == 0) = false := by rw [beq_eq_false_iff_ne]; omega
      have q3 : (((W : Int) % 2) == 1) = true := by rw [beq_iff_eq]; omega
      have q2 : ((dx : Int) == (dn : Int)) = true := by rw [beq_iff_eq]; have := P2'.out hW2; omega
      clear hW2
      go_wp2_with fail
      go_ret
      exact ⟨rfl, B6⟩
  · have e1 : darkF W T cs.length cs = -1 := by rw [darkF, if_neg hv]
    clear hv hl
    refine (dark_impl D cs.length d W T cs _ (by omega) s1).mono ?_; rintro e w2 ⟨rfl, hb2⟩
    have x2 := x1.below hb2
    have B2 := belowW B1 hb2
    have s2 := s1.below hb2
    clear x1 B1 s1 hb2
    have k1 := x2.1
    have k2 := x2.2.1
    have k3 := x2.2.2
    rw [e1]
    go_wp2_with fail
    refine (dark_spec D cs.length d W T cs _ (by omega) s2).mono ?_; rintro e w3 ⟨rfl, hb3⟩
    have B3 := belowW B2 hb3
    rw [e1]
    clear k1 k2 k3 x2
    go_wp2_with fail
    refine (alive_any _).mono ?_; rintro e w5 ⟨rfl, hb5⟩
    go_wp2_with fail
    go_ret
    exact ⟨rfl, belowW B3 hb5⟩

end Go.Proofs.Ytepnhhehfkcgkaa
