/-
  RegionMeet of the reference: what it returns.
-/
import Derived.Test.YtehfhmafmblmnaaCombS
namespace Go.Proofs.Ytehfhmafmblmnaa
open Go.RowKit
attribute [local go_sem ↓] Go.wp_at_zero Go.wp_at_succ

set_option maxHeartbeats 1600000 in
theorem meet_spec_ok (A : Option Addr) (m c : Nat) (W T : Nat) (xs : List Bool) (B : Option Addr) (d : Nat) (ys : List Bool) (w : World) (h : Sl w A m (xs.map .bool)) (h' : Sl w B m (ys.map .bool)) (V : Valid W T m xs) (V' : Valid W T m ys) :
    Calls Try.prog 36 #[.agg #[.int .i64 W, .int .i64 T, .slice A m c], .agg #[.int .i64 W, .int .i64 T, .slice B m d]] w fun e w' => OutRB w w' e (combW andO W T m xs W T m ys) (combT andO W T m xs W T m ys) (combC andO W T m xs W T m ys) (combB andO W T m xs W T m ys) := by
  have s0 := ((h.alloc (.cells #[.int .i64 W, .int .i64 T, .slice A m c] 27)).alloc (.cells #[.int .i64 W, .int .i64 T, .slice B m d] 27)).alloc (.cells #[.int .i64 0, .int .i64 0, .slice none 0 0] 27)
  have HV := Lib.hid V.ok
  have HV' := Lib.hid V'.ok
  have HL := Lib.hid V.len
  have HL' := Lib.hid V'.len
  have n36 := V.n36
  go_enter Try.func36, Try.ntmps36
  go_wp2_with fail
  refine (valid_spec A m c W T xs _ (by omega) s0).mono ?_; rintro e w1 ⟨rfl, hb1⟩
  rw [HV.out]
  have R1 := PR2.of hb1
  clear hb1 s0
  have k1 := R1.X.1
  have k2 := R1.X.2.1
  have k3 := R1.X.2.2
  have k4 := R1.Y.1
  have k5 := R1.Y.2.1
  have k6 := R1.Y.2.2
  go_wp2_with fail
  refine (valid_spec B m d W T ys _ (by omega) (h'.below R1.B)).mono ?_; rintro e w2 ⟨rfl, hb2⟩
  rw [HV'.out]
  have R2 := R1.below hb2
  clear hb2 R1 k1 k2 k3 k4 k5 k6
  have k1 := R2.X.1
  have k2 := R2.X.2.1
  have k3 := R2.X.2.2
  have k4 := R2.Y.1
  have k5 := R2.Y.2.1
  have k6 := R2.Y.2.2
  go_wp2_with fail
  go_loopg [7] m (fun gk i wr => ∃ (k : Nat) (D : Option Addr) (q : Nat), k ≤ m ∧ gk = m - k ∧ i = .int .i64 k ∧ Own wr (w2.heap.size + 1) wr.heap.size 4 D k q (((zipB andO xs ys).take k).map .bool) ∧ Box wr w2.heap.size (.int .i64 W) (.int .i64 T) (.slice D k q) ∧ Thaw wr w2.heap.size ∧ PR2 w (.int .i64 W) (.int .i64 T) (.slice A m c) (.int .i64 W) (.int .i64 T) (.slice B m d) wr)
  case atStart => exact ⟨0, none, 0, Nat.zero_le _, rfl, rfl, own_nil _ _ _ _, Box.new _ _ _ _ _, Thaw.new _ _ _, R2.alloc _⟩
  case round =>
    have z2 := R2.z
    clear R2 k1 k2 k3 k4 k5 k6
    obtain ⟨k, D, q, hk, rfl, rfl, hown, hx, ht, R⟩ := hrel
    have k1 := R.X.1
    have k2 := R.X.2.1
    have k3 := R.X.2.2
    have k4 := R.Y.1
    have k5 := R.Y.2.1
    have k6 := R.Y.2.2
    by_cases hlt : k < m
    · obtain ⟨b, off, z, rfl, hz, hc⟩ := (h.below R.B).atB hlt
      obtain ⟨b', off', z', rfl, hz', hc'⟩ := (h'.below R.B).atB hlt
      have HZ := Lib.hid hz
      have HZ' := Lib.hid hz'
      clear hz hz'
      have p2 : (0 : Int) ≤ (k : Int) := by omega
      have p3 : (k : Int) < (m : Int) := by omega
      have q3 := hx.2.2
      have hl1 := ht.1
      have hne1 := Nat.ne_of_lt hl1
      go_wp2_with fail
      cases z
      · first | go_region_law (first | (refine step_append1 (by rfl) (.tmp 44) (.tmp 57) 22 (by rfl) 4 (.bool false) 1 Try.underlying22 Try.infoBool rfl (hown.alloc (.cells #[.bool false] 4)).drew (by rfl) wr.heap.size (.bool false) (by rfl) (cell0_new _ _ _) (by rfl) (by omega) (by omega) (by simp; omega) ?_; intro D' q' w4 hown4 hg4 hn4; have hx4 := (hx.alloc (.cells #[.bool false] 4)).drew.grown hg4 (hown.offBox (.inl (Nat.lt_succ_self _))); have ht4 := (ht.alloc (.cells #[.bool false] 4)).drew.grown hg4 (hown.offBox (.inl (Nat.lt_succ_self _))); have q4 := hx4.2.2; have f4 := ht4.2 2) | fail) | fail
        all_goals
          go_wp2_with fail
          have AF := after_one hown hx ht R (zip_take HZ.out HZ'.out) rfl hown4 hg4 z2
          obtain ⟨D5, q5, o5, x5, t5, R5⟩ := AF
          go_roundg (m - (k + 1))
          case measure => omega
          case rel => exact ⟨k + 1, _, _, by omega, rfl, by go_num, o5, x5, t5, R5⟩
      · first | go_region_law (first | (refine step_append1 (by rfl) (.tmp 44) (.tmp 57) 22 (by rfl) 4 (.bool false) 1 Try.underlying22 Try.infoBool rfl (hown.alloc (.cells #[.bool z'] 4)).drew (by rfl) wr.heap.size (.bool z') (by rfl) (cell0_new _ _ _) (by rfl) (by omega) (by omega) (by simp; omega) ?_; intro D' q' w4 hown4 hg4 hn4; have hx4 := (hx.alloc (.cells #[.bool z'] 4)).drew.grown hg4 (hown.offBox (.inl (Nat.lt_succ_self _))); have ht4 := (ht.alloc (.cells #[.bool z'] 4)).drew.grown hg4 (hown.offBox (.inl (Nat.lt_succ_self _))); have q4 := hx4.2.2; have f4 := ht4.2 2) | fail) | fail
        all_goals
          go_wp2_with fail
          have AF := after_one hown hx ht R (zip_take HZ.out HZ'.out) rfl hown4 hg4 z2
          obtain ⟨D5, q5, o5, x5, t5, R5⟩ := AF
          go_roundg (m - (k + 1))
          case measure => omega
          case rel => exact ⟨k + 1, _, _, by omega, rfl, by go_num, o5, x5, t5, R5⟩
    · have e : k = m := by omega
      subst e
      rw [List.take_of_length_le (by rw [zip_len HL.out HL'.out]; exact Nat.le_refl _)] at hown
      have hne : w2.heap.size ≠ w.heap.size + 2 := by omega
      have E : Hid (combB andO W T k xs W T k ys = true) := by show _ = _; rw [combB, HV.out, HV'.out, meet_valid HV.out]; simp
      have q1 := hx.1
      have q2 := hx.2.1
      have q3 := hx.2.2
      have f1 := R.T.2 0
      have f2 := R.T.2 1
      have f3 := R.T.2 2
      have c4 := R.R.1
      have c5 := R.R.2.1
      have c6 := R.R.2.2
      go_wp2_with fail
      obtain ⟨e1, e2, e3⟩ := comb_yes E.out
      rw [e1, e2, e3, E.out]
      exact bodyPost_ret (v := .tuple #[.agg #[.int .i64 W, .int .i64 T, .slice D k q], .bool true]) (by simp [results, Try.results36, go_sem, c4, c5, c6]) rfl (OutRB.mk (zip_len HL.out HL'.out) (by omega) (PR2.own hown rfl (by omega) (Nat.le_refl _) _ _ _) (R.fin _ _ _))

set_option maxHeartbeats 400000 in
theorem meet_spec (A : Option Addr) (n c : Nat) (W T : Int) (xs : List Bool) (B : Option Addr) (m d : Nat) (W' T' : Int) (ys : List Bool) (w : World) (hn : n ≤ 1048576) (h : Sl w A n (xs.map .bool)) (hm : m ≤ 1048576) (h' : Sl w B m (ys.map .bool)) :
    Calls Try.prog 36 #[.agg #[.int .i64 W, .int .i64 T, .slice A n c], .agg #[.int .i64 W', .int .i64 T', .slice B m d]] w fun e w' => OutRB w w' e (combW andO W T n xs W' T' m ys) (combT andO W T n xs W' T' m ys) (combC andO W T n xs W' T' m ys) (combB andO W T n xs W' T' m ys) := by
  have hl := h.1
  rw [List.length_map] at hl
  have hl' := h'.1
  rw [List.length_map] at hl'
  have s0 := ((h.alloc (.cells #[.int .i64 W, .int .i64 T, .slice A n c] 27)).alloc (.cells #[.int .i64 W', .int .i64 T', .slice B m d] 27)).alloc (.cells #[.int .i64 0, .int .i64 0, .slice none 0 0] 27)
  by_cases hv : validB W T n xs = true
  · have HV := Lib.hid hv
    by_cases hv' : validB W' T' m ys = true
    · have HV' := Lib.hid hv'
      by_cases hw : W = W'
      · subst hw
        by_cases ht : T = T'
        · subst ht
          obtain ⟨W, T, rfl, rfl, V⟩ := valid_of hv hl
          obtain ⟨W2, T2, e2, e3, V'⟩ := valid_of hv' hl'
          have ew : W2 = W := by omega
          have et : T2 = T := by omega
          subst ew et
          have em : m = n := by rw [V.size, V'.size]
          subst em
          exact meet_spec_ok A m c W2 T2 xs B d ys w h h' V V'
        · have E : combB andO W T n xs W T' m ys = false := by rw [combB, decide_eq_false ht]; simp
          obtain ⟨e1, e2, e3⟩ := comb_no E
          rw [e1, e2, e3, E]
          have hne : (T != T') = true := by simpa using ht
          have hnw : (W != W) = false := by simp
          clear hv hv' hl hl' e1 e2 e3 E ht
          go_enter Try.func36, Try.ntmps36
          go_wp2_with fail
          refine (valid_spec A n c W T xs _ (by omega) s0).mono ?_; rintro e w1 ⟨rfl, hb1⟩
          rw [HV.out]
          have R1 := PR2.of hb1
          clear hb1 s0
          have k1 := R1.X.1
          have k2 := R1.X.2.1
          have k3 := R1.X.2.2
          have k4 := R1.Y.1
          have k5 := R1.Y.2.1
          have k6 := R1.Y.2.2
          go_wp2_with fail
          refine (valid_spec B m d W T' ys _ (by omega) (h'.below R1.B)).mono ?_; rintro e w2 ⟨rfl, hb2⟩
          rw [HV'.out]
          have R2 := R1.below hb2
          clear hb2 R1 k1 k2 k3 k4 k5 k6
          have k1 := R2.X.1
          have k2 := R2.X.2.1
          have k3 := R2.X.2.2
          have k4 := R2.Y.1
          have k5 := R2.Y.2.1
          have k6 := R2.Y.2.2
          have f1 := R2.T.2 0
          have f2 := R2.T.2 1
          have f3 := R2.T.2 2
          have q4 := R2.R.1
          have q5 := R2.R.2.1
          have q6 := R2.R.2.2
          go_wp2_with fail
          exact bodyPost_ret (v := .tuple #[.agg #[.int .i64 0, .int .i64 0, .slice none 0 0], .bool false]) (by simp [results, Try.results36, go_sem, q4, q5, q6]) rfl (outRB_zero w (R2.fin _ _ _))
      · have E : combB andO W T n xs W' T' m ys = false := by rw [combB, decide_eq_false hw]; simp
        obtain ⟨e1, e2, e3⟩ := comb_no E
        rw [e1, e2, e3, E]
        have hne : (W != W') = true := by simpa using hw
        clear hv hv' hl hl' e1 e2 e3 E hw
        go_enter Try.func36, Try.ntmps36
        go_wp2_with fail
        refine (valid_spec A n c W T xs _ (by omega) s0).mono ?_; rintro e w1 ⟨rfl, hb1⟩
        rw [HV.out]
        have R1 := PR2.of hb1
        clear hb1 s0
        have k1 := R1.X.1
        have k2 := R1.X.2.1
        have k3 := R1.X.2.2
        have k4 := R1.Y.1
        have k5 := R1.Y.2.1
        have k6 := R1.Y.2.2
        go_wp2_with fail
        refine (valid_spec B m d W' T' ys _ (by omega) (h'.below R1.B)).mono ?_; rintro e w2 ⟨rfl, hb2⟩
        rw [HV'.out]
        have R2 := R1.below hb2
        clear hb2 R1 k1 k2 k3 k4 k5 k6
        have k1 := R2.X.1
        have k2 := R2.X.2.1
        have k3 := R2.X.2.2
        have k4 := R2.Y.1
        have k5 := R2.Y.2.1
        have k6 := R2.Y.2.2
        have f1 := R2.T.2 0
        have f2 := R2.T.2 1
        have f3 := R2.T.2 2
        have q4 := R2.R.1
        have q5 := R2.R.2.1
        have q6 := R2.R.2.2
        go_wp2_with fail
        exact bodyPost_ret (v := .tuple #[.agg #[.int .i64 0, .int .i64 0, .slice none 0 0], .bool false]) (by simp [results, Try.results36, go_sem, q4, q5, q6]) rfl (outRB_zero w (R2.fin _ _ _))
    · have hvf : validB W' T' m ys = false := by simpa using hv'
      have E : combB andO W T n xs W' T' m ys = false := by rw [combB, hvf]; simp
      obtain ⟨e1, e2, e3⟩ := comb_no E
      rw [e1, e2, e3, E]
      have HV' := Lib.hid hvf
      clear hv hv' hvf hl hl' e1 e2 e3 E
      go_enter Try.func36, Try.ntmps36
      go_wp2_with fail
      refine (valid_spec A n c W T xs _ (by omega) s0).mono ?_; rintro e w1 ⟨rfl, hb1⟩
      rw [HV.out]
      have R1 := PR2.of hb1
      clear hb1 s0
      have k1 := R1.X.1
      have k2 := R1.X.2.1
      have k3 := R1.X.2.2
      have k4 := R1.Y.1
      have k5 := R1.Y.2.1
      have k6 := R1.Y.2.2
      go_wp2_with fail
      refine (valid_spec B m d W' T' ys _ (by omega) (h'.below R1.B)).mono ?_; rintro e w2 ⟨rfl, hb2⟩
      rw [HV'.out]
      have R2 := R1.below hb2
      clear hb2 R1 k1 k2 k3 k4 k5 k6
      have f1 := R2.T.2 0
      have f2 := R2.T.2 1
      have f3 := R2.T.2 2
      have q4 := R2.R.1
      have q5 := R2.R.2.1
      have q6 := R2.R.2.2
      go_wp2_with fail
      exact bodyPost_ret (v := .tuple #[.agg #[.int .i64 0, .int .i64 0, .slice none 0 0], .bool false]) (by simp [results, Try.results36, go_sem, q4, q5, q6]) rfl (outRB_zero w (R2.fin _ _ _))
  · have hvf : validB W T n xs = false := by simpa using hv
    have E : combB andO W T n xs W' T' m ys = false := by rw [combB, hvf]; simp
    obtain ⟨e1, e2, e3⟩ := comb_no E
    rw [e1, e2, e3, E]
    have HV := Lib.hid hvf
    clear hv hvf hl hl' e1 e2 e3 E
    go_enter Try.func36, Try.ntmps36
    go_wp2_with fail
    refine (valid_spec A n c W T xs _ (by omega) s0).mono ?_; rintro e w1 ⟨rfl, hb1⟩
    rw [HV.out]
    have R2 := PR2.of hb1
    clear hb1 s0
    have f1 := R2.T.2 0
    have f2 := R2.T.2 1
    have f3 := R2.T.2 2
    have q4 := R2.R.1
    have q5 := R2.R.2.1
    have q6 := R2.R.2.2
    go_wp2_with fail
    exact bodyPost_ret (v := .tuple #[.agg #[.int .i64 0, .int .i64 0, .slice none 0 0], .bool false]) (by simp [results, Try.results36, go_sem, q4, q5, q6]) rfl (outRB_zero w (R2.fin _ _ _))

end Go.Proofs.Ytehfhmafmblmnaa
