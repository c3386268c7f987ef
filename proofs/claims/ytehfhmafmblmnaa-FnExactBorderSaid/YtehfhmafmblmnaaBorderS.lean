/-
  Border of the reference: what it returns.
-/
import Derived.Test.YtehfhmafmblmnaaBorder
import Derived.Test.YtehfhmafmblmnaaLawB
namespace Go.Proofs.Ytehfhmafmblmnaa
open Go.RowKit
attribute [local go_sem ↓] Go.wp_at_zero Go.wp_at_succ

theorem onB_lt {bs : List Bool} {i : Nat} {W T : Nat} (h : bs.length = W * T) (hi : W * T ≤ i) : (bs[i]?).getD false = false := by
  rw [List.getElem?_eq_none (by omega)]; rfl
theorem at_side {W T k x y : Nat} {bs : List Bool} (S : StepIn W T k x y) :
    atB W T bs ((x : Int) + 1) y = !(sideB W T bs k 1) ∧ atB W T bs x ((y : Int) + 1) = !(sideB W T bs k 2) ∧ atB W T bs ((x : Int) - 1) y = !(sideB W T bs k 3) ∧ atB W T bs x ((y : Int) - 1) = !(sideB W T bs k 4) := by
  have s1 := S.w0
  have s2 := S.w6
  have s3 := S.t0
  have s4 := S.t6
  have s5 := S.xW
  have s6 := S.yT
  have hk := S.cast
  have m1 := Int.add_mul (y : Int) 1 (W : Int)
  have m2 := Int.sub_mul (y : Int) 1 (W : Int)
  have iny : inB (y : Int) 0 ((T : Int) - 1) = true := inB_iff.2 (by omega)
  have inx : inB (x : Int) 0 ((W : Int) - 1) = true := inB_iff.2 (by omega)
  refine ⟨?_, ?_, ?_, ?_⟩
  · unfold atB sideB stepF
    rw [if_pos rfl, S.hx, iny, Bool.true_and]
    by_cases hc : x + 1 < W
    · rw [if_pos hc, inB_iff.2 (by omega), Bool.true_and, decide_eq_false (by omega), Bool.false_or, Bool.not_not, show ((y : Int) * W + (x + 1)) = (k : Int) + 1 by omega]
    · rw [if_neg hc, in_no (by omega)]; rfl
  · unfold atB sideB stepF
    rw [if_neg (by omega), if_pos rfl, S.hy, inx, Bool.true_and]
    by_cases hc : y + 1 < T
    · rw [if_pos hc, inB_iff.2 (by omega), Bool.true_and, decide_eq_false (by omega), Bool.false_or, Bool.not_not, show (((y : Int) + 1) * W + x) = (k : Int) + W by omega]
    · rw [if_neg hc, in_no (by omega)]; rfl
  · unfold atB sideB stepF
    rw [if_neg (by omega), if_neg (by omega), if_pos rfl, S.hx, iny, Bool.true_and]
    by_cases hc : 0 < x
    · have : 1 ≤ (k : Int) := by have := (mul_nb (a := (y : Int)) (b := (W : Int)) (by omega) (by omega) (by omega) (by omega)).1; omega
      rw [if_pos hc, inB_iff.2 (by omega), Bool.true_and, decide_eq_false (by omega), Bool.false_or, Bool.not_not, show ((y : Int) * W + (x - 1)) = (k : Int) - 1 by omega]
    · rw [if_neg hc, in_no (by omega)]; rfl
  · unfold atB sideB stepF
    rw [if_neg (by omega), if_neg (by omega), if_neg (by omega), if_pos rfl, S.hy, inx, Bool.true_and]
    by_cases hc : 0 < y
    · have h5 : ((W : Int)) ≤ (k : Int) := by
        have : 1 * W ≤ y * W := Nat.mul_le_mul_right _ hc
        have := S.kk
        omega
      rw [if_pos hc, inB_iff.2 (by omega), Bool.true_and, decide_eq_false (by omega), Bool.false_or, Bool.not_not, show (((y : Int) - 1) * W + x) = (k : Int) - W by omega]
    · rw [if_neg hc, in_no (by omega)]; rfl

/-- The four neighbours, as the reference lists them. -/
def nearL (W T : Nat) (bs : List Bool) (k : Nat) : List Bool := [!(sideB W T bs k 1), !(sideB W T bs k 2), !(sideB W T bs k 3), !(sideB W T bs k 4)]
theorem nearL_get {W T : Nat} {bs : List Bool} {k q : Nat} (h : q < 4) : (nearL W T bs k)[q]? = some (!(sideB W T bs k ((q : Int) + 1))) := by
  have : q = 0 ∨ q = 1 ∨ q = 2 ∨ q = 3 := by omega
  rcases this with rfl | rfl | rfl | rfl <;> rfl

theorem near_own {W T k x y : Nat} {bs : List Bool} {w : World} {base top g : Nat} {t : TypeId} (a1 : atB W T bs ((x : Int) + 1) y = !(sideB W T bs k 1)) (a2 : atB W T bs x ((y : Int) + 1) = !(sideB W T bs k 2)) (a3 : atB W T bs ((x : Int) - 1) y = !(sideB W T bs k 3)) (a4 : atB W T bs x ((y : Int) - 1) = !(sideB W T bs k 4))
    (o : Own w base top t (some ⟨g, 0, none⟩) 4 4 (#[Value.bool (atB W T bs ((x : Int) + 1) y), .bool (atB W T bs x ((y : Int) + 1)), .bool (atB W T bs ((x : Int) - 1) y), .bool (atB W T bs x ((y : Int) - 1))] : Array Value).toList) : Own w base top t (some ⟨g, 0, none⟩) 4 4 ((nearL W T bs k).map .bool) := by
  rw [a1, a2, a3, a4] at o
  exact o

set_option maxRecDepth 100000 in
set_option maxHeartbeats 2000000 in
theorem border_spec (A : Option Addr) (n c : Nat) (W T : Int) (bs : List Bool) (w : World) (hn : n ≤ 1048576) (h : Sl w A n (bs.map .bool)) :
    Calls Try.prog 34 #[.agg #[.int .i64 W, .int .i64 T, .slice A n c]] w fun e w' => e = .returned (.int .i64 (brdF W T n bs)) ∧ Below w.heap.size w w' := by
  have hl := h.1
  rw [List.length_map] at hl
  by_cases hv : validB W T n bs = true
  · obtain ⟨W, T, rfl, rfl, V⟩ := valid_of hv hl
    have E : Hid (brdF W T n bs = brdN W T bs n) := by show _ = _; rw [brdF, if_pos hv]; rfl
    have HV := Lib.hid hv
    have HL := Lib.hid hl
    have n36 := V.n36
    have v0 := V.w0
    have v1 := V.w1
    have v2 := V.t0
    have v3 := V.t1
    have hW1 : (1 : Int) ≤ (W : Int) := by omega
    have hW0 : W ≠ 0 := by omega
    have hz0 : ((W : Int) == 0) = false := beq_eq_false_iff_ne.2 (by omega)
    clear hl hv
    go_enter Try.func34, Try.ntmps34
    go_wp2_with fail
    refine (valid_spec A n c W T bs _ (by omega) (h.alloc _)).mono ?_; rintro e w1 ⟨rfl, hb1⟩
    rw [HV.out]
    have R1 := P1.of hb1
    clear hb1
    have k1 := R1.X.1
    have k2 := R1.X.2.1
    have k3 := R1.X.2.2
    go_wp2_with fail
    go_loopg [3, 4, 5, 6, 7, 8] n (fun gk s i _ _ _ _ wr => ∃ k : Nat, k ≤ n ∧ gk = n - k ∧ i = .int .i64 k ∧ s = .int .i64 (brdN W T bs k) ∧ P1 w (.int .i64 W) (.int .i64 T) (.slice A n c) wr)
    case atStart => exact ⟨0, Nat.zero_le _, rfl, rfl, rfl, R1⟩
    case round =>
      clear R1 k1 k2 k3
      obtain ⟨k, hk, rfl, rfl, rfl, R⟩ := hrel
      have hbd := brdN_le W T bs k
      have k1 := R.X.1
      have k2 := R.X.2.1
      have k3 := R.X.2.2
      by_cases hlt : k < n
      · have hkWT : k < W * T := by rw [← V.size]; exact hlt
        have S := stepIn_of v0 v1 v2 v3 hkWT
        obtain ⟨x, hxx⟩ : ∃ x, k % W = x := ⟨_, rfl⟩
        obtain ⟨y, hyy⟩ : ∃ y, k / W = y := ⟨_, rfl⟩
        rw [hxx, hyy] at S
        obtain ⟨i1, i2, i3, i4, i5, i6, i7⟩ := S.i64
        obtain ⟨a1, a2, a3, a4⟩ := at_side (bs := bs) S
        have HA1 := Lib.hid a1
        have HA2 := Lib.hid a2
        have HA3 := Lib.hid a3
        have HA4 := Lib.hid a4
        have q1 := S.xW
        have q2 := S.yT
        have HK := Lib.hid hkWT
        clear i1 i2 i3 S a1 a2 a3 a4 hxx hyy hkWT i4 i5
        have p2 : (0 : Int) ≤ (k : Int) := by omega
        have u1 : IntKind.i64.wrap ((x : Int) + 1) = (x : Int) + 1 := IntWalk.i64_in _ (by omega)
        have u2 : IntKind.i64.wrap ((y : Int) + 1) = (y : Int) + 1 := IntWalk.i64_in _ (by omega)
        have u3 : IntKind.i64.wrap ((x : Int) - 1) = (x : Int) - 1 := IntWalk.i64_in _ (by omega)
        have u4 : IntKind.i64.wrap ((y : Int) - 1) = (y : Int) - 1 := IntWalk.i64_in _ (by omega)
        have nz := Nat.ne_of_gt R.X.lt
        go_upto_region 9 with fail
        rw [i6]
        clear i6 i7
        go_cut [7] (fun s7 wx => ∃ g : Nat, s7 = .slice (some ⟨g, 0, none⟩) 4 4 ∧ Own wx (w.heap.size + 1) wx.heap.size 4 (some ⟨g, 0, none⟩) 4 4 ((nearL W T bs k).map .bool) ∧ P1 w (.int .i64 W) (.int .i64 T) (.slice A n c) wx)
        case first =>
          have R := R.drew
          go_region_held3 (fun w' => w'.cell? ⟨w.heap.size, 0, none⟩ = some (.int .i64 W) ∧ w'.cell? ⟨w.heap.size, 1, none⟩ = some (.int .i64 T) ∧ w'.cell? ⟨w.heap.size, 2, none⟩ = some (.slice A n c))
            (first | exact ⟨k1, k2, k3⟩ | go_keep)
            (first
              | (go_at_call 75; refine (l1At_any A n c W T bs _ _ _ V (h.below R.B) ⟨by omega, by omega⟩ ⟨by omega, by omega⟩).mono ?_; rintro e wq ⟨rfl, hbq⟩; have R := R.below hbq; have c0 := R.X.1; have c1 := R.X.2.1; have c2 := R.X.2.2; have nq := Nat.ne_of_gt R.X.lt)
              | fail)
          all_goals
            go_wp2_with fail
            go_meet
            have o := Own.made (w := wq) (base := w.heap.size + 1) (e := 4) (cs := #[.bool (atB W T bs ((x : Int) + 1) y), .bool (atB W T bs x ((y : Int) + 1)), .bool (atB W T bs ((x : Int) - 1) y), .bool (atB W T bs x ((y : Int) - 1))]) (n := 4) R.z (by unfold maxLen; omega) rfl
            exact ⟨wq.heap.size, rfl, near_own HA1.out HA2.out HA3.out HA4.out (o.top (by simp)), R.alloc _⟩
        case rest =>
          clear R k1 k2 k3 u1 u2 u3 u4 nz
          obtain ⟨g, rfl, own, R⟩ := hcut
          have hg := own.2 g 0 rfl
          obtain ⟨b, off, z, rfl, hz, -⟩ := (h.below R.B).atB hlt
          have HZ := Lib.hid hz
          clear hz
          have k1 := R.X.1
          have k2 := R.X.2.1
          have k3 := R.X.2.2
          go_wp2_with fail
          cases z
          · go_loopg [3, 8] 1 (fun gk s side wx => wc = wx ∧ gk = 1 ∧ side = .int .i64 0 ∧ s = .int .i64 (brdN W T bs k))
            case atStart => exact ⟨rfl, rfl, rfl, rfl⟩
            case round =>
              obtain ⟨rfl, rfl, rfl, rfl⟩ := hrel
              obtain ⟨b', off', z', hA, hz', hc⟩ := (h.below R.B).atB hlt
              injection hA with hA
              injection hA with hA1 hA2 _
              subst hA1 hA2
              rw [HZ.out] at hz'
              injection hz' with hz'
              subst hz'
              go_wp2_with fail
              go_roundg (n - (k + 1))
              case measure => omega
              case rel => exact ⟨k + 1, by omega, rfl, by go_num, by rw [brdN, HZ.out]; rfl, R⟩
          · go_loopg [3, 8] 4 (fun gk s side wx => wc = wx ∧ ∃ q : Nat, q ≤ 4 ∧ gk = 4 - q ∧ side = .int .i64 q ∧ s = .int .i64 ((brdN W T bs k : Int) + (sidesN W T bs k q : Int)))
            case atStart => exact ⟨rfl, 0, by omega, rfl, rfl, by rw [sidesN]; simp⟩
            case round =>
              obtain ⟨rfl, q, hq, rfl, rfl, rfl⟩ := hrel
              have hsd := sidesN_le W T bs k q
              by_cases hq4 : q < 4
              · obtain ⟨b', off', z', hA, hz', hc⟩ := (h.below R.B).atB hlt
                injection hA with hA
                injection hA with hA1 hA2 _
                subst hA1 hA2
                rw [HZ.out] at hz'
                injection hz' with hz'
                subst hz'
                obtain ⟨b3, off3, v, hA, hv, hc3⟩ := own.sl.at_ hq4
                injection hA with hA
                injection hA with hA1 hA2 _
                subst hA1 hA2
                rw [List.getElem?_map, nearL_get hq4] at hv
                obtain rfl : v = .bool (!(sideB W T bs k ((q : Int) + 1))) := by simpa using hv.symm
                rw [Nat.zero_add] at hc3
                clear hv
                cases hsb : sideB W T bs k ((q : Int) + 1)
                · rw [hsb] at hc3
                  have HB := Lib.hid hsb
                  clear hsb
                  go_wp2_with fail
                  go_roundg (4 - (q + 1))
                  case measure => omega
                  case rel => exact ⟨rfl, q + 1, by omega, rfl, by go_num, by rw [sidesN, HB.out]; rfl⟩
                · rw [hsb] at hc3
                  have HB := Lib.hid hsb
                  clear hsb
                  go_wp2_with fail
                  go_roundg (4 - (q + 1))
                  case measure => omega
                  case rel => exact ⟨rfl, q + 1, by omega, rfl, by go_num, by rw [sidesN, HB.out, if_pos rfl]; go_num⟩
              · have e : q = 4 := by omega
                subst e
                go_wp2_with fail
                go_roundg (n - (k + 1))
                case measure => omega
                case rel => exact ⟨k + 1, by omega, rfl, by go_num, by rw [brdN, HZ.out, Option.getD_some, if_pos rfl]; go_num, R⟩
      · have e : k = n := by omega
        subst e
        go_wp2_with fail
        go_ret
        exact ⟨ret_i E.out.symm, R.B⟩
  · have E : Hid (brdF W T n bs = -1) := by show _ = _; rw [brdF, if_neg hv]
    have hv' : validB W T n bs = false := by simpa using hv
    clear hv hl
    go_enter Try.func34, Try.ntmps34
    go_wp2_with fail
    refine (valid_spec A n c W T bs _ (by omega) (h.alloc _)).mono ?_; rintro e w1 ⟨rfl, hb1⟩
    go_wp2_with fail
    go_ret
    exact ⟨ret_i E.out.symm, belowW (below1 w _) hb1⟩

end Go.Proofs.Ytehfhmafmblmnaa
