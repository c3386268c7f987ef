/-
  Border, both sides: what it returns.
-/
import Derived.Test.YtehfhmafmblmnaaStepTo
import Derived.Test.YtehfhmafmblmnaaAt
import Derived.Test.YtehfhmafmblmnaaMem2
import Derived.Test.YtehfhmafmblmnaaP1
import Derived.Deep.RegionHeld3
import Derived.Deep.DeepCutAuto
import Derived.Deep.LoopGhost
import Derived.Deep.DrawnRows
import Derived.Outline
namespace Go.Proofs.Ytehfhmafmblmnaa
open Go.RowKit
attribute [local go_sem ↓] Go.wp_at_zero Go.wp_at_succ

/-- Has cell k no cell of the region on a side? -/
def sideB (W T : Nat) (bs : List Bool) (k : Nat) (way : Int) : Bool := decide (stepF W T k way < 0) || !((bs[(stepF W T k way).toNat]?).getD false)
def sidesN (W T : Nat) (bs : List Bool) (k : Nat) : Nat → Nat
  | 0 => 0
  | q + 1 => sidesN W T bs k q + (if sideB W T bs k ((q : Int) + 1) then 1 else 0)
def brdN (W T : Nat) (bs : List Bool) : Nat → Nat
  | 0 => 0
  | k + 1 => brdN W T bs k + (if (bs[k]?).getD false then sidesN W T bs k 4 else 0)
theorem sidesN_le (W T : Nat) (bs : List Bool) (k : Nat) : ∀ q, sidesN W T bs k q ≤ q
  | 0 => Nat.le_refl _
  | q + 1 => by have := sidesN_le W T bs k q; rw [sidesN]; split <;> omega
theorem brdN_le (W T : Nat) (bs : List Bool) : ∀ k, brdN W T bs k ≤ 4 * k
  | 0 => Nat.le_refl _
  | k + 1 => by have := brdN_le W T bs k; have := sidesN_le W T bs k 4; rw [brdN]; split <;> omega
def brdF (W T : Int) (n : Nat) (bs : List Bool) : Int := if validB W T n bs then brdN W.toNat T.toNat bs n else -1

set_option maxHeartbeats 1000000 in
theorem border_impl (A : Option Addr) (n c : Nat) (W T : Int) (bs : List Bool) (w : World) (hn : n ≤ 1048576) (h : Sl w A n (bs.map .bool)) :
    Calls Try.prog 35 #[.agg #[.int .i64 W, .int .i64 T, .slice A n c]] w fun e w' => e = .returned (.int .i64 (brdF W T n bs)) ∧ Below w.heap.size w w' := by
  have hl := h.1
  rw [List.length_map] at hl
  by_cases hv : validB W T n bs = true
  · obtain ⟨W, T, rfl, rfl, V⟩ := valid_of hv hl
    have E : Hid (brdF W T n bs = brdN W T bs n) := by show _ = _; rw [brdF, if_pos hv]; rfl
    have HV := Lib.hid hv
    have HL := Lib.hid hl
    have n36 := V.n36
    have v0 := V.w0
    have v1 := V.w1
    have v2 := V.t0
    have v3 := V.t1
    clear hl hv
    go_enter Try.func35, Try.ntmps35
    go_wp2_with fail
    refine (valid_impl A n c W T bs _ (by omega) (h.alloc _)).mono ?_; rintro e w1 ⟨rfl, hb1⟩
    rw [HV.out]
    have R1 := P1.of hb1
    clear hb1
    have k1 := R1.X.1
    have k2 := R1.X.2.1
    have k3 := R1.X.2.2
    go_wp2_with fail
    go_loopw [3, 4, 5, 6, 7, 14] (fun s _ _ _ _ i wr => ∃ k : Nat, k ≤ n ∧ i = .int .i64 k ∧ s = .int .i64 (brdN W T bs k) ∧ P1 w (.int .i64 W) (.int .i64 T) (.slice A n c) wr) (fun _ _ _ _ _ i _ => n - (intOf i).toNat)
    case atStart => exact ⟨0, Nat.zero_le _, rfl, rfl, R1⟩
    case round =>
      clear R1 k1 k2 k3
      obtain ⟨k, hk, rfl, rfl, R⟩ := hrel
      have hbd := brdN_le W T bs k
      have k1 := R.X.1
      have k2 := R.X.2.1
      have k3 := R.X.2.2
      by_cases hlt : k < n
      · have hkWT : k < W * T := by rw [← V.size]; exact hlt
        obtain ⟨b, off, x, rfl, hx, hc⟩ := (h.below R.B).atB hlt
        have HX := Lib.hid hx
        have HK := Lib.hid hkWT
        clear hx hkWT
        cases x
        · go_wp2_with fail
          go_loopw [3, 6, 7] (fun s way _ wr => way = .int .i64 1 ∧ s = .int .i64 (brdN W T bs k) ∧ P1 w (.int .i64 W) (.int .i64 T) (.slice (some ⟨b, off, none⟩) n c) wr) (fun _ _ _ _ => 0)
          case atStart => exact ⟨rfl, rfl, R⟩
          case round =>
            obtain ⟨rfl, rfl, R⟩ := hrel
            go_wp2_with fail
            go_roundw
            case rel => exact ⟨k + 1, by omega, by go_num, by rw [brdN, HX.out]; rfl, R⟩
            case measure => simp [intOf]; omega
        · go_wp2_with fail
          go_loopw [3, 6, 7] (fun s way _ wr => ∃ q : Nat, q ≤ 4 ∧ way = .int .i64 ((q : Int) + 1) ∧ s = .int .i64 ((brdN W T bs k : Int) + (sidesN W T bs k q : Int)) ∧ P1 w (.int .i64 W) (.int .i64 T) (.slice (some ⟨b, off, none⟩) n c) wr) (fun _ way _ _ => (5 - intOf way).toNat)
          case atStart => exact ⟨0, by omega, rfl, by rw [sidesN]; simp, R⟩
          case round =>
            clear R k1 k2 k3 hc
            obtain ⟨q, hq, rfl, rfl, R⟩ := hrel
            have hsd := sidesN_le W T bs k q
            have k1 := R.X.1
            have k2 := R.X.2.1
            have k3 := R.X.2.2
            by_cases hq4 : q < 4
            · go_wp2_with fail
              refine (step_any (some ⟨b, off, none⟩) n c W T k ((q : Int) + 1) _ v0 v1 v2 v3 HK.out).mono ?_; rintro e w2 ⟨rfl, hb2⟩
              have R2 := R.below hb2
              clear hb2 R k1 k2 k3
              have k1 := R2.X.1
              have k2 := R2.X.2.1
              have k3 := R2.X.2.2
              obtain ⟨t, ht⟩ : ∃ t, stepF W T k ((q : Int) + 1) = t := ⟨_, rfl⟩
              obtain ⟨t1, t2⟩ := stepF_bound (way := (q : Int) + 1) v0 HK.out
              rw [ht] at t1 t2
              rw [ht]
              have HT := Lib.hid ht
              clear ht
              have hsz := V.size
              by_cases ht0 : t < 0
              · clear t2 hsz
                go_wp2_with fail
                go_roundw
                case rel => exact ⟨q + 1, by omega, by go_num, by rw [sidesN, sideB, HT.out, decide_eq_true ht0, Bool.true_or, if_pos rfl]; go_num, R2⟩
                case measure => simp [intOf]; omega
              · obtain ⟨j, rfl⟩ := Int.eq_ofNat_of_zero_le (show 0 ≤ t by omega)
                have hj : j < n := by rw [hsz]; omega
                clear t2 hsz
                obtain ⟨b2, off2, y, hA, hy, hc2⟩ := (h.below R2.B).atB hj
                injection hA with hA
                injection hA with hA1 hA2 _
                subst hA1 hA2
                have HY := Lib.hid hy
                clear hy
                cases y
                · go_wp2_with fail
                  go_roundw
                  case rel => exact ⟨q + 1, by omega, by go_num, by rw [sidesN, sideB, HT.out, Int.toNat_natCast, HY.out]; simp; go_num, R2⟩
                  case measure => simp [intOf]; omega
                · go_wp2_with fail
                  go_roundw
                  case rel => exact ⟨q + 1, by omega, by go_num, by rw [sidesN, sideB, HT.out, Int.toNat_natCast, HY.out, decide_eq_false (show ¬ ((j : Int) < 0) by omega)]; simp, R2⟩
                  case measure => simp [intOf]; omega
            · have e : q = 4 := by omega
              subst e
              go_wp2_with fail
              go_roundw
              case rel => exact ⟨k + 1, by omega, by go_num, by rw [brdN, HX.out, Option.getD_some, if_pos rfl]; go_num, R⟩
              case measure => simp [intOf]; omega
      · have e : k = n := by omega
        subst e
        go_wp2_with fail
        go_ret
        exact ⟨ret_i E.out.symm, R.B⟩
  · have E : Hid (brdF W T n bs = -1) := by show _ = _; rw [brdF, if_neg hv]
    have hv' : validB W T n bs = false := by simpa using hv
    clear hv hl
    go_enter Try.func35, Try.ntmps35
    go_wp2_with fail
    refine (valid_impl A n c W T bs _ (by omega) (h.alloc _)).mono ?_; rintro e w1 ⟨rfl, hb1⟩
    go_wp2_with fail
    go_ret
    exact ⟨ret_i E.out.symm, belowW (below1 w _) hb1⟩

end Go.Proofs.Ytehfhmafmblmnaa
