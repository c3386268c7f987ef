/-
  RegionText of the reference: what it returns.
-/
import Derived.Test.YtepnhhehfkcgkaaDoorTextP
import Derived.Test.YtepnhhehfkcgkaaDoorAt
import Derived.Test.YtepnhhehfkcgkaaDoorP1
import Derived.Deep.LoopGhost
namespace Go.Proofs.YtepnhhehfkcgkaaDoor
open Go.RowKit

theorem at_on {W T x y : Nat} (bs : List Bool) (hx : x < W) (hy : y < T) : atB W T bs (x : Int) (y : Int) = onR bs (y * W + x) := by
  have h1 : inB (x : Int) 0 ((W : Int) - 1) = true := inB_iff.2 ⟨by omega, by omega⟩
  have h2 : inB (y : Int) 0 ((T : Int) - 1) = true := inB_iff.2 ⟨by omega, by omega⟩
  rw [atB, h1, h2, show ((y : Int) * W + x).toNat = y * W + x by exact_mod_cast rfl]; rfl
theorem str_snoc (x : List UInt8) (u : UInt8) : (⟨x.toArray⟩ : ByteArray) ++ ⟨#[u]⟩ = ⟨(x ++ [u]).toArray⟩ := by
  apply ByteArray.ext; simp

theorem str_add (w : World) {x y : List UInt8} {u : UInt8} (hx : x.length ≤ 1000) (hy : x ++ [u] = y) : (Op.stringOp .add ⟨x.toArray⟩ ⟨#[u]⟩).run Tryd.prog w = .ok (.string ⟨y.toArray⟩) w := by
  subst hy
  have h0 : (ByteArray.mk x.toArray).size = x.length := by show x.toArray.size = _; simp
  have h1 : (ByteArray.mk #[u]).size = 1 := rfl
  rw [run_string_add_sum w _ _ (by rw [h0, h1]; omega), str_snoc]
theorem text_small (f : Nat → UInt8) {W T k j : Nat} (hW : W ≤ 6) (hT : T ≤ 6) (hk : k ≤ T) (hj : j ≤ W) : (textA f W T k ++ rowL f W (T - 1 - k) j).length ≤ 1000 := by
  have h1 := textA_len f W T k
  have h2 : k * (W + 1) ≤ 6 * 7 := Nat.mul_le_mul (by omega) (by omega)
  rw [List.length_append, rowL_len]; omega

set_option maxRecDepth 100000 in
set_option maxHeartbeats 4000000 in
theorem rtext_spec (A : Option Addr) (n c : Nat) (W T : Int) (bs : List Bool) (w : World) (hn : n ≤ 1048576) (h : Sl w A n (bs.map .bool)) :
    Calls Tryd.prog 16 #[.agg #[.int .i64 W, .int .i64 T, .slice A n c]] w fun e w' => e = .returned (.string ⟨(rtextF W T n bs).toArray⟩) ∧ Below w.heap.size w w' := by
  have hl := h.1
  rw [List.length_map] at hl
  by_cases hv : validB W T n bs = true
  · obtain ⟨W, T, rfl, rfl, V⟩ := valid_of hv hl
    have n36 := V.n36
    have v0 := V.w0
    have v1 := V.w1
    have v2 := V.t0
    have v3 := V.t1
    have HV := Lib.hid hv
    have E : Hid (rtextF W T n bs = textL (signR bs) W T) := by show _ = _; rw [rtextF, if_pos hv]; rfl
    rw [E.out]
    clear hl hv
    go_enter Tryd.func16, Tryd.ntmps16
    go_wp2_with fail
    go_loopg [3, 4, 5] (T + 1) (fun gk s3 s4 _ wx => ∃ k : Nat, k ≤ T ∧ gk = T - k + 1 ∧ s3 = .string ⟨(textA (signR bs) W T k).toArray⟩ ∧ s4 = .int .i64 ((T : Int) - 1 - k) ∧ P1 w (.int .i64 W) (.int .i64 T) (.slice A n c) wx)
    case atStart => exact ⟨0, Nat.zero_le _, rfl, rfl, by go_num, P1.new _ _ _ _ _⟩
    case round =>
      obtain ⟨k, hk, rfl, rfl, rfl, R⟩ := hrel
      obtain ⟨wo, hwo⟩ : ∃ wo, wo = wr := ⟨_, rfl⟩
      subst hwo
      have k1 := R.X.1
      have k2 := R.X.2.1
      have k3 := R.X.2.2
      by_cases hkT : k < T
      · go_wp2_with (go_at_call 26; go_loud (refine (valid_spec A n c W T bs _ (by omega) (h.below R.B)).mono ?_; rintro e w1 ⟨rfl, hb1⟩; rw [HV.out]))
        have R1 := R.below hb1
        clear hb1 R k1 k2 k3
        go_loopg [3, 5] (W + 1) (fun gk s3 s5 wx => ∃ j : Nat, j ≤ W ∧ gk = W - j + 1 ∧ s3 = .string ⟨(textA (signR bs) W T k ++ rowL (signR bs) W (T - 1 - k) j).toArray⟩ ∧ s5 = .int .i64 j ∧ P1 w (.int .i64 W) (.int .i64 T) (.slice A n c) wx)
        case atStart => exact ⟨0, Nat.zero_le _, rfl, by simp [rowL], rfl, R1⟩
        case round =>
          obtain ⟨j, hj, rfl, rfl, rfl, R⟩ := hrel
          have k1 := R.X.1
          have k2 := R.X.2.1
          have k3 := R.X.2.2
          obtain ⟨tx, htx⟩ : ∃ tx, textA (signR bs) W T k ++ rowL (signR bs) W (T - 1 - k) j = tx := ⟨_, rfl⟩
          have HSM := Lib.hid (htx ▸ text_small (signR bs) (k := k) (T := T) v1 v3 hk hj)
          by_cases hjW : j < W
          · have ey : (T : Int) - 1 - k = ((T - 1 - k : Nat) : Int) := by omega
            have hat := at_on bs hjW (show T - 1 - k < T by omega)
            rw [← ey] at hat
            have HAT := Lib.hid hat
            have HTX := Lib.hid htx
            rw [htx]
            clear ey hat htx
            go_wp2_with fail
            refine (l1At_any A n c W T bs j ((T : Int) - 1 - k) _ V (h.below R.B) ⟨by omega, by omega⟩ ⟨by omega, by omega⟩).mono ?_; rintro e w2 ⟨rfl, hb2⟩
            rw [HAT.out]
            have R2 := R.below hb2
            clear hb2 k1 k2 k3
            have k1 := R2.X.1
            have k2 := R2.X.2.1
            have k3 := R2.X.2.2
            cases hz : onR bs ((T - 1 - k) * W + j)
            · have HZ := Lib.hid hz
              have hadd := str_add w2 (u := 46) HSM.out (y := textA (signR bs) W T k ++ rowL (signR bs) W (T - 1 - k) (j + 1)) (by rw [rowL_succ, ← List.append_assoc, HTX.out, signR, hz]; rfl)
              clear hz
              go_wp2_with fail
              go_roundg (W - (j + 1) + 1)
              case measure => omega
              case rel => exact ⟨j + 1, by omega, rfl, rfl, by go_num, R2⟩
            · have HZ := Lib.hid hz
              have hadd := str_add w2 (u := 35) HSM.out (y := textA (signR bs) W T k ++ rowL (signR bs) W (T - 1 - k) (j + 1)) (by rw [rowL_succ, ← List.append_assoc, HTX.out, signR, hz]; rfl)
              clear hz
              go_wp2_with fail
              go_roundg (W - (j + 1) + 1)
              case measure => omega
              case rel => exact ⟨j + 1, by omega, rfl, rfl, by go_num, R2⟩
          · have ej : j = W := by omega
            subst ej
            have HTX := Lib.hid htx
            rw [htx]
            clear htx
            by_cases hlast : k + 1 < T
            · have hadd := str_add wr (u := 47) HSM.out (y := textA (signR bs) j T (k + 1)) (by rw [textA, HTX.out, if_pos hlast])
              go_wp2_with fail
              go_roundg (T - (k + 1) + 1)
              case measure => omega
              case rel => exact ⟨k + 1, by omega, rfl, rfl, by go_num, R⟩
            · have HS : Hid (tx = textA (signR bs) j T (k + 1)) := by
                show _ = _; rw [textA, HTX.out, if_neg hlast, List.append_nil]
              go_wp2_with fail
              go_roundg (T - (k + 1) + 1)
              case measure => omega
              case rel => exact ⟨k + 1, by omega, rfl, by rw [← HS.out], by go_num, R⟩
      · have ek : k = T := by omega
        subst ek
        go_wp2_with fail
        go_ret
        exact ⟨rfl, R.B⟩
  · have hv' : validB W T n bs = false := by simpa using hv
    have E : Hid (rtextF W T n bs = []) := by show _ = _; rw [rtextF, if_neg hv]
    have HV := Lib.hid hv'
    rw [E.out]
    clear hl hv hv'
    by_cases hy : 0 ≤ wrap64 (T - 1)
    · go_enter Tryd.func16, Tryd.ntmps16
      go_wp2_with fail
      go_loopg [3, 4, 5] 0 (fun gk s3 s4 _ wx => gk = 0 ∧ s3 = .string ⟨#[]⟩ ∧ s4 = .int .i64 (wrap64 (T - 1)) ∧ P1 w (.int .i64 W) (.int .i64 T) (.slice A n c) wx)
      case atStart => exact ⟨rfl, rfl, rfl, P1.new _ _ _ _ _⟩
      case round =>
        obtain ⟨rfl, rfl, rfl, R⟩ := hrel
        have k1 := R.X.1
        have k2 := R.X.2.1
        have k3 := R.X.2.2
        go_wp2_with (go_at_call 26; refine (valid_spec A n c W T bs _ (by omega) (h.below R.B)).mono ?_; rintro e w1 ⟨rfl, hb1⟩; rw [HV.out])
        go_ret
        exact ⟨rfl, belowW R.B hb1⟩
    · go_enter Tryd.func16, Tryd.ntmps16
      go_wp2_with fail
      go_loopg [3, 4, 5] 0 (fun gk s3 s4 _ wx => gk = 0 ∧ s3 = .string ⟨#[]⟩ ∧ s4 = .int .i64 (wrap64 (T - 1)) ∧ P1 w (.int .i64 W) (.int .i64 T) (.slice A n c) wx)
      case atStart => exact ⟨rfl, rfl, rfl, P1.new _ _ _ _ _⟩
      case round =>
        obtain ⟨rfl, rfl, rfl, R⟩ := hrel
        go_wp2_with fail
        go_ret
        exact ⟨rfl, R.B⟩
end Go.Proofs.YtepnhhehfkcgkaaDoor
