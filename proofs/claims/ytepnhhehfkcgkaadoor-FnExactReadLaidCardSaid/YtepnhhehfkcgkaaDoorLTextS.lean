/-
  LaidText of the reference: what it returns.
-/
import Derived.Test.YtepnhhehfkcgkaaDoorLTextP
import Derived.Test.YtepnhhehfkcgkaaDoorTextS
namespace Go.Proofs.YtepnhhehfkcgkaaDoor
open Go.RowKit

set_option maxRecDepth 100000 in
set_option maxHeartbeats 4000000 in
theorem ltext_spec (A : Option Addr) (n c : Nat) (W T : Int) (bs : List Bool) (B : Option Addr) (m d : Nat) (zs : List Int) (w : World) (hn : n ≤ 1048576) (h : Sl w A n (bs.map .bool)) (hm : m ≤ 1048576) (h' : Sl w B m (zs.map (.int .i64))) (hz : ∀ z ∈ zs, I64 z) :
    Calls Tryd.prog 22 #[.agg #[.int .i64 W, .int .i64 T, .slice A n c], .slice B m d] w fun e w' => e = .returned (.string ⟨(ltextF W T n bs m zs).toArray⟩) ∧ Below w.heap.size w w' := by
  have hl := h.1
  rw [List.length_map] at hl
  have HZ0 := Lib.hid hz
  clear hz
  by_cases hv : laidB W T n bs m zs = true
  · have E0 : ltextF W T n bs m zs = textL (signL bs zs) W.toNat T.toNat := by rw [ltextF, if_pos hv]
    obtain ⟨W, T, rfl, rfl, V, rfl, hla⟩ := laid_of' hv hl
    have E : Hid (ltextF W T m bs m zs = textL (signL bs zs) W T) := E0
    have HV := Lib.hid hv
    have HLA := Lib.hid hla
    rw [E.out]
    clear hl hv E0 hla
    have n36 := V.n36
    have v0 := V.w0
    have v1 := V.w1
    have v2 := V.t0
    have v3 := V.t1
    have HVS := Lib.hid V.size
    obtain ⟨f, hf⟩ : ∃ f, signL bs zs = f := ⟨_, rfl⟩
    have HF := Lib.hid hf
    rw [hf]
    clear hf
    go_enter Tryd.func22, Tryd.ntmps22
    go_wp2_with fail
    go_loopg [5, 6, 7, 8] (T + 1) (fun gk s5 s6 _ _ wx => ∃ k : Nat, k ≤ T ∧ gk = T - k + 1 ∧ s5 = .string ⟨(textA f W T k).toArray⟩ ∧ s6 = .int .i64 ((T : Int) - 1 - k) ∧ P1 w (.int .i64 W) (.int .i64 T) (.slice A m c) wx)
    case atStart => exact ⟨0, Nat.zero_le _, rfl, rfl, by go_num, P1.new _ _ _ _ _⟩
    case round =>
      obtain ⟨k, hk, rfl, rfl, rfl, R⟩ := hrel
      obtain ⟨wo, hwo⟩ : ∃ wo, wo = wr := ⟨_, rfl⟩
      subst hwo
      have k1 := R.X.1
      have k2 := R.X.2.1
      have k3 := R.X.2.2
      by_cases hkT : k < T
      · obtain ⟨y, hy⟩ : ∃ y, T - 1 - k = y := ⟨_, rfl⟩
        have ey : (T : Int) - 1 - k = (y : Int) := by omega
        have HY := Lib.hid hy
        have HEY := Lib.hid ey
        have hyT : y < T := by omega
        rw [ey]
        clear hy ey
        go_wp2_with (go_at_call 32; refine (laid_spec A m c W T bs B m d zs _ (by omega) (h.below R.B) (by omega) (h'.below R.B) HZ0.out).mono ?_; rintro e w1 ⟨rfl, hb1⟩; rw [HV.out])
        have R1 := R.below hb1
        clear hb1 R k1 k2 k3
        go_loopg [5, 7, 8] (W + 1) (fun gk s5 s7 _ wx => ∃ j : Nat, j ≤ W ∧ gk = W - j + 1 ∧ s5 = .string ⟨(textA f W T k ++ rowL f W y j).toArray⟩ ∧ s7 = .int .i64 j ∧ P1 w (.int .i64 W) (.int .i64 T) (.slice A m c) wx)
        case atStart => exact ⟨0, Nat.zero_le _, rfl, by simp [rowL], rfl, R1⟩
        case round =>
          clear R1
          obtain ⟨j, hj, rfl, rfl, rfl, R⟩ := hrel
          have k1 := R.X.1
          have k2 := R.X.2.1
          have k3 := R.X.2.2
          obtain ⟨tx, htx⟩ : ∃ tx, textA f W T k ++ rowL f W y j = tx := ⟨_, rfl⟩
          have HSM := Lib.hid (htx ▸ HY.out ▸ text_small f (k := k) (T := T) v1 v3 hk hj)
          have HTX := Lib.hid htx
          rw [htx]
          clear htx
          by_cases hjW : j < W
          · have hij := at_index hjW hyT
            have c2 : (y : Int) * (W : Int) + (j : Int) < (m : Int) := by rw [HVS.out]; exact_mod_cast hij
            have c1 : (0 : Int) ≤ (y : Int) * (W : Int) := by exact_mod_cast Nat.zero_le (y * W)
            have c3 : ((y : Int) * (W : Int) + (j : Int)).toNat = y * W + j := by exact_mod_cast rfl
            have hkn : y * W + j < m := by rw [HVS.out]; exact hij
            obtain ⟨b, off, x, rfl, hx, hc⟩ := (h.below R.B).atB hkn
            obtain ⟨b2, off2, z, rfl, hz, hc2⟩ := (h'.below R.B).atI hkn
            have hw := lays_way hkn HLA.out
            have he := ent_of hz
            rw [he] at hw
            have HX := Lib.hid (onR_of hx)
            have HE := Lib.hid he
            clear hx hz he hij hkn
            cases x
            · have hadd := str_add wr (u := 46) HSM.out (y := textA f W T k ++ rowL f W y (j + 1)) (by rw [rowL_succ, ← List.append_assoc, HTX.out, ← HF.out, signL_off HX.out])
              clear hw
              go_wp2_with fail
              go_roundg (W - (j + 1) + 1)
              case measure => omega
              case rel => exact ⟨j + 1, by omega, rfl, rfl, by go_num, R⟩
            · have HG : Hid (f (y * W + j) = signZ z) := by show _ = _; rw [← HF.out, signL_on HX.out HE.out]
              have h5 := five hw
              have lb := World.block_lt_of_cell? wr _ hc2
              have mb := Nat.ne_of_lt lb
              clear hw HE HX
              rcases h5 with rfl | rfl | rfl | rfl | rfl
              · have hadd : ∀ wx : World, (Op.stringOp .add ⟨tx.toArray⟩ ⟨#[35]⟩).run Tryd.prog wx = .ok (.string ⟨(textA f W T k ++ rowL f W y (j + 1)).toArray⟩) wx := fun wx => str_add wx (u := 35) HSM.out (y := textA f W T k ++ rowL f W y (j + 1)) (by rw [rowL_succ, ← List.append_assoc, HTX.out, HG.out]; rfl)
                go_wp2_with fail
                go_roundg (W - (j + 1) + 1)
                case measure => omega
                case rel => exact ⟨j + 1, by omega, rfl, rfl, by go_num, R.alloc _⟩
              · have hadd : ∀ wx : World, (Op.stringOp .add ⟨tx.toArray⟩ ⟨#[101]⟩).run Tryd.prog wx = .ok (.string ⟨(textA f W T k ++ rowL f W y (j + 1)).toArray⟩) wx := fun wx => str_add wx (u := 101) HSM.out (y := textA f W T k ++ rowL f W y (j + 1)) (by rw [rowL_succ, ← List.append_assoc, HTX.out, HG.out]; rfl)
                go_wp2_with fail
                go_roundg (W - (j + 1) + 1)
                case measure => omega
                case rel => exact ⟨j + 1, by omega, rfl, rfl, by go_num, R.alloc _⟩
              · have hadd : ∀ wx : World, (Op.stringOp .add ⟨tx.toArray⟩ ⟨#[110]⟩).run Tryd.prog wx = .ok (.string ⟨(textA f W T k ++ rowL f W y (j + 1)).toArray⟩) wx := fun wx => str_add wx (u := 110) HSM.out (y := textA f W T k ++ rowL f W y (j + 1)) (by rw [rowL_succ, ← List.append_assoc, HTX.out, HG.out]; rfl)
                go_wp2_with fail
                go_roundg (W - (j + 1) + 1)
                case measure => omega
                case rel => exact ⟨j + 1, by omega, rfl, rfl, by go_num, R.alloc _⟩
              · have hadd : ∀ wx : World, (Op.stringOp .add ⟨tx.toArray⟩ ⟨#[119]⟩).run Tryd.prog wx = .ok (.string ⟨(textA f W T k ++ rowL f W y (j + 1)).toArray⟩) wx := fun wx => str_add wx (u := 119) HSM.out (y := textA f W T k ++ rowL f W y (j + 1)) (by rw [rowL_succ, ← List.append_assoc, HTX.out, HG.out]; rfl)
                go_wp2_with fail
                go_roundg (W - (j + 1) + 1)
                case measure => omega
                case rel => exact ⟨j + 1, by omega, rfl, rfl, by go_num, R.alloc _⟩
              · have hadd : ∀ wx : World, (Op.stringOp .add ⟨tx.toArray⟩ ⟨#[115]⟩).run Tryd.prog wx = .ok (.string ⟨(textA f W T k ++ rowL f W y (j + 1)).toArray⟩) wx := fun wx => str_add wx (u := 115) HSM.out (y := textA f W T k ++ rowL f W y (j + 1)) (by rw [rowL_succ, ← List.append_assoc, HTX.out, HG.out]; rfl)
                go_wp2_with fail
                go_roundg (W - (j + 1) + 1)
                case measure => omega
                case rel => exact ⟨j + 1, by omega, rfl, rfl, by go_num, R.alloc _⟩
          · have ej : j = W := by omega
            subst ej
            by_cases hlast : k + 1 < T
            · have hadd := str_add wr (u := 47) HSM.out (y := textA f j T (k + 1)) (by rw [textA, HY.out, HTX.out, if_pos hlast])
              have hy0 : 0 < y := by have := HEY.out; omega
              go_wp2_with fail
              go_roundg (T - (k + 1) + 1)
              case measure => omega
              case rel => exact ⟨k + 1, by omega, rfl, rfl, by rw [show (T : Int) - 1 - ((k + 1 : Nat) : Int) = (y : Int) - 1 by have := HEY.out; omega], R⟩
            · have HS : Hid (tx = textA f j T (k + 1)) := by
                show _ = _; rw [textA, HY.out, HTX.out, if_neg hlast, List.append_nil]
              have hy0 : (y : Int) ≤ 0 := by have := HEY.out; omega
              go_wp2_with fail
              go_roundg (T - (k + 1) + 1)
              case measure => omega
              case rel => exact ⟨k + 1, by omega, rfl, by rw [← HS.out], by rw [show (T : Int) - 1 - ((k + 1 : Nat) : Int) = (y : Int) - 1 by have := HEY.out; omega], R⟩
      · have ek : k = T := by omega
        subst ek
        go_wp2_with fail
        go_ret
        exact ⟨rfl, R.B⟩
  · have hv' : laidB W T n bs m zs = false := by simpa using hv
    have E : Hid (ltextF W T n bs m zs = []) := by show _ = _; rw [ltextF, if_neg hv]
    have HV := Lib.hid hv'
    rw [E.out]
    clear hl hv hv'
    by_cases hy : 0 ≤ wrap64 (T - 1)
    · go_enter Tryd.func22, Tryd.ntmps22
      go_wp2_with fail
      go_loopg [5, 6, 7, 8] 0 (fun gk s5 s6 _ _ wx => gk = 0 ∧ s5 = .string ⟨#[]⟩ ∧ s6 = .int .i64 (wrap64 (T - 1)) ∧ P1 w (.int .i64 W) (.int .i64 T) (.slice A n c) wx)
      case atStart => exact ⟨rfl, rfl, rfl, P1.new _ _ _ _ _⟩
      case round =>
        obtain ⟨rfl, rfl, rfl, R⟩ := hrel
        have k1 := R.X.1
        have k2 := R.X.2.1
        have k3 := R.X.2.2
        go_wp2_with (go_at_call 32; refine (laid_spec A n c W T bs B m d zs _ hn (h.below R.B) hm (h'.below R.B) HZ0.out).mono ?_; rintro e w1 ⟨rfl, hb1⟩; rw [HV.out])
        go_ret
        exact ⟨rfl, belowW R.B hb1⟩
    · go_enter Tryd.func22, Tryd.ntmps22
      go_wp2_with fail
      go_loopg [5, 6, 7, 8] 0 (fun gk s5 s6 _ _ wx => gk = 0 ∧ s5 = .string ⟨#[]⟩ ∧ s6 = .int .i64 (wrap64 (T - 1)) ∧ P1 w (.int .i64 W) (.int .i64 T) (.slice A n c) wx)
      case atStart => exact ⟨rfl, rfl, rfl, P1.new _ _ _ _ _⟩
      case round =>
        obtain ⟨rfl, rfl, rfl, R⟩ := hrel
        go_wp2_with fail
        go_ret
        exact ⟨rfl, R.B⟩
end Go.Proofs.YtepnhhehfkcgkaaDoor
