/-
  HolesMany of the program: what it returns.
-/
import Derived.Test.YtepnhhehfkcgkaaHolW
import Derived.Test.YtepnhhehfkcgkaaP1
import Derived.Test.YtepnhhehfkcgkaaApp
import Derived.Deep.LoopGhost
import Derived.Deep.OwnRows
import Derived.Deep.RegionHeld3
import Derived.RegionTactic
import Derived.BigRegion
import Derived.Deep.DeepCutAuto
import Derived.Laws.EntriesVeiled
namespace Go.Proofs.Ytepnhhehfkcgkaa
open Go.RowKit
open Ho (frH nbH Out cntR Root)

/-- How many holes. -/
noncomputable def holN (W T : Nat) (bs : List Bool) : Int := (cntR (frH W T bs) (nbH W) ((W + 2) * (T + 2)) : Nat) - 1
noncomputable def holF (W T : Int) (n : Nat) (bs : List Bool) : Int := if validB W T n bs then holN W.toNat T.toNat bs else -1

set_option maxRecDepth 100000 in
set_option maxHeartbeats 4000000 in
theorem holes_any (A : Option Addr) (n c W T : Nat) (bs : List Bool) (w : World) (V : Valid W T n bs) (h : Sl w A n (bs.map .bool)) :
    Calls Try.prog 68 #[.agg #[.int .i64 W, .int .i64 T, .slice A n c]] w fun e w' => e = .returned (.int .i64 (holN W T bs)) ∧ Below w.heap.size w w' := by
  have v0 := V.w0
  have v1 := V.w1
  have v2 := V.t0
  have v3 := V.t1
  obtain ⟨ww, hw⟩ : ∃ ww, ww = W + 2 := ⟨_, rfl⟩
  obtain ⟨tt, ht⟩ : ∃ tt, tt = T + 2 := ⟨_, rfl⟩
  obtain ⟨N, hN⟩ : ∃ N, N = ww * tt := ⟨_, rfl⟩
  have hN64 : N ≤ 64 := by rw [hN]; exact Nat.mul_le_mul (show ww ≤ 8 by omega) (show tt ≤ 8 by omega)
  have hmk := run_make_row' (P := Try.prog) 32 4 (.bool false) 1 Try.underlying32 Try.infoBool rfl .i64 .i64 N (by omega) (by omega)
  have hmf : ∀ (fn : Fn) (first cap : Array Value) (w : World), (Instr.makeFunc fn first cap).run Try.prog w = .ok (.func fn first cap) w := fun _ _ _ _ => rfl
  have hmulI : (ww : Int) * (tt : Int) = (N : Int) := by rw [hN]; push_cast; rfl
  have hwI : (W : Int) + 2 = (ww : Int) := by omega
  have htI : (T : Int) + 2 = (tt : Int) := by omega
  obtain ⟨w0, hw0⟩ : ∃ w0, w0 = w.alloc (.cells #[.int .i64 W, .int .i64 T, .slice A n c] 34) := ⟨_, rfl⟩
  have R0 : P1 w (.int .i64 W) (.int .i64 T) (.slice A n c) w0 := by rw [hw0]; exact P1.new _ _ _ _ _
  have z0 : w0.heap.size = w.heap.size + 1 := by rw [hw0]; simp
  have k1 := R0.X.1
  have k2 := R0.X.2.1
  have k3 := R0.X.2.2
  have HW0 := Lib.hid hw0
  have HWW := Lib.hid hw
  have HTT := Lib.hid ht
  have HNN := Lib.hid hN
  have ww8 : 3 ≤ ww ∧ ww ≤ 8 := by omega
  have tt8 : 3 ≤ tt ∧ tt ≤ 8 := by omega
  clear hw0 hw ht hN
  go_enter Try.func68, Try.ntmps68
  go_upto_region 1 with fail
  rw [← HW0.out]
  go_cut [3, 4] (fun s3 s4 wx => ∃ bw bt, s3 = .pointer (some ⟨bw, 0, none⟩) ∧ s4 = .pointer (some ⟨bt, 0, none⟩) ∧ wx.cell? ⟨bw, 0, none⟩ = some (.int .i64 ww) ∧ wx.cell? ⟨bt, 0, none⟩ = some (.int .i64 tt) ∧ w.heap.size < bw ∧ w.heap.size < bt ∧ P1 w (.int .i64 W) (.int .i64 T) (.slice A n c) wx)
  case first =>
    go_region
    all_goals
      go_wp2_with fail
      go_meet
    · refine ⟨w.heap.size + 1, w.heap.size + 1 + 1, rfl, rfl, ?_, ?_, by omega, by omega, ((R0.alloc _).alloc _).drew⟩
      · have e1 : (w0.alloc (.cells #[.int .i64 ww] 3)).cell? ⟨w.heap.size + 1, 0, none⟩ = some (.int .i64 ww) := by have := cell0_new w0 (.int .i64 ww) 3; rw [z0] at this; exact this
        exact (World.cell?_of_block (w := w0.alloc (.cells #[.int .i64 ww] 3)) ((below1 (w0.alloc (.cells #[.int .i64 ww] 3)) (.cells #[.int .i64 tt] 3)).block (w.heap.size + 1) (by simp; omega))).trans e1
      · have := cell0_new (w0.alloc (.cells #[.int .i64 ww] 3)) (.int .i64 tt) 3
        rw [World.size_alloc, z0] at this; exact this
    · refine ⟨w.heap.size + 1 + 1, w.heap.size + 1, rfl, rfl, ?_, ?_, by omega, by omega, ((R0.alloc _).alloc _).drew⟩
      · have := cell0_new (w0.alloc (.cells #[.int .i64 tt] 3)) (.int .i64 ww) 3
        rw [World.size_alloc, z0] at this; exact this
      · have e1 : (w0.alloc (.cells #[.int .i64 tt] 3)).cell? ⟨w.heap.size + 1, 0, none⟩ = some (.int .i64 tt) := by have := cell0_new w0 (.int .i64 tt) 3; rw [z0] at this; exact this
        exact (World.cell?_of_block (w := w0.alloc (.cells #[.int .i64 tt] 3)) ((below1 (w0.alloc (.cells #[.int .i64 tt] 3)) (.cells #[.int .i64 ww] 3)).block (w.heap.size + 1) (by simp; omega))).trans e1
  case rest =>
    obtain ⟨bw, bt, rfl, rfl, c1, c2, b1, b2, R⟩ := hcut
    have l1 : bw < wc.heap.size := World.block_lt_of_cell? wc _ c1
    have l2 : bt < wc.heap.size := World.block_lt_of_cell? wc _ c2
    have l3 := R.X.lt
    have q1 : bt ≠ wc.heap.size := by omega
    have q2 : bt ≠ wc.heap.size + 1 := by omega
    have q3 : bt ≠ wc.heap.size + 1 + 1 := by omega
    have q4 : bw ≠ wc.heap.size := by omega
    have q5 : bw ≠ wc.heap.size + 1 := by omega
    have q6 : bw ≠ wc.heap.size + 1 + 1 := by omega
    have hA : ∀ b off, A = some ⟨b, off, none⟩ → b < w.heap.size := fun b off hA => by
      obtain ⟨b', off', hA', hlt⟩ := h.block (by have := V.size; have := Nat.mul_pos V.w0 V.t0; omega)
      rw [hA'] at hA; injection hA with hA; injection hA with h1 _ _; omega
    obtain ⟨fv, hfv⟩ : ∃ fv : Value, fv = .func (.func 87) #[] #[.pointer (some ⟨bw, 0, none⟩), .pointer (some ⟨bt, 0, none⟩), .pointer (some ⟨wc.heap.size + 1, 0, none⟩), .pointer (some ⟨w.heap.size, 0, none⟩), .pointer (some ⟨wc.heap.size + 1 + 1, 0, none⟩)] := ⟨_, rfl⟩
    have HFV := Lib.hid hfv
    have I0 : ∀ wx, wx = ((wc.alloc (.cells (madeCells #[.bool false] N) 4)).alloc (.cells #[.slice (some ⟨wc.heap.size, 0, none⟩) N N] 32)).alloc (.cells #[fv] 82) →
        HI bw bt (wc.heap.size + 1) w.heap.size (wc.heap.size + 1 + 1) wc.heap.size N W T ww tt N A n c bs wc.heap.size (wc.heap.size + 1) (List.replicate N false) wx ∧ Below w.heap.size w wx ∧ wc.heap.size < wx.heap.size := by
      intro wx hwx
      have BB : Below wc.heap.size wc wx := by rw [hwx]; exact belowA (belowA (below1 wc _))
      have M0 := Own.made (w := wc) (base := wc.heap.size) (e := 4) (cs := madeCells #[.bool false] N) (n := N) (Nat.le_refl _) (by unfold maxLen; omega) (by rw [← Array.length_toList, toList_madeCells_one, List.length_replicate])
      rw [toList_madeCells_one] at M0
      refine ⟨⟨(BB.cell l1).trans c1, (BB.cell l2).trans c2, ?_, R.X.below BB, ?_, ?_, (h.below R.B).below BB, ⟨by omega, by omega, by omega, by omega, by omega⟩, fun b off e => by have := hA b off e; omega⟩, belowW R.B BB, by rw [hwx]; simp; omega⟩
      · rw [hwx]
        have := cell0_new (wc.alloc (.cells (madeCells #[.bool false] N) 4)) (.slice (some ⟨wc.heap.size, 0, none⟩) N N) 32
        rw [World.size_alloc] at this
        exact (World.cell?_of_block ((below1 _ _).block (wc.heap.size + 1) (by simp))).trans this
      · rw [hwx, ← HFV.out]
        have := cell0_new ((wc.alloc (.cells (madeCells #[.bool false] N) 4)).alloc (.cells #[.slice (some ⟨wc.heap.size, 0, none⟩) N N] 32)) fv 82
        rw [World.size_alloc, World.size_alloc] at this
        exact this
      · rw [hwx, List.map_replicate]
        exact ((M0.alloc _).alloc _)
    have HI0 := Lib.hid I0
    clear R0 k1 k2 k3 I0 hfv hA
    go_upto_region 6 with fail
    rw [← HFV.out]
    obtain ⟨w5, hw5⟩ : ∃ w5, ((wc.alloc (.cells (madeCells #[.bool false] N) 4)).alloc (.cells #[.slice (some ⟨wc.heap.size, 0, none⟩) N N] 32)).alloc (.cells #[fv] 82) = w5 := ⟨_, rfl⟩
    obtain ⟨I5, B5, z5⟩ := HI0.out w5 hw5.symm
    rw [hw5]
    have HSY := Lib.hid (show ∀ k j, nbH W k j = true → nbH W j k = true from fun k j => Ho.nb_symm)
    have o1 : w.heap.size < wc.heap.size := l3
    clear hw5 HI0 hmk hmf R c1 c2 l1 l2 q1 q2 q3 q4 q5 q6
    obtain ⟨bm, hbm⟩ : ∃ bm, wc.heap.size + 1 = bm := ⟨_, rfl⟩
    obtain ⟨bk, hbk⟩ : ∃ bk, wc.heap.size + 1 + 1 = bk := ⟨_, rfl⟩
    rw [hbk] at I5
    rw [hbm] at I5
    have OUT0 := Lib.hid (show Out (frH W T bs) (nbH W) (0 * ww) (List.replicate N false) by rw [Nat.zero_mul]; exact Ho.Out.start (fun i => by unfold Til.on; rw [List.getElem?_replicate]; split <;> rfl))
    rw [hbk, hbm]
    clear hbk hbm
    have kt := I5.t0
    go_wp2_with fail
    clear kt
    go_loopg [7, 8, 9, 22, 26] tt (fun gk s7 _ _ s22 _ wx => ∃ (yy : Nat) (m : List Bool), yy ≤ tt ∧ gk = tt - yy ∧ s22 = .int .i64 yy ∧ s7 = .int .i64 ((cntR (frH W T bs) (nbH W) (yy * ww) : Nat) - 1) ∧ Out (frH W T bs) (nbH W) (yy * ww) m ∧ m.length = N ∧ HI bw bt bm w.heap.size bk wc.heap.size N W T ww tt N A n c bs wc.heap.size bm m wx ∧ Below w.heap.size w wx ∧ wc.heap.size < wx.heap.size)
    case atStart => exact ⟨0, List.replicate N false, Nat.zero_le _, rfl, rfl, by rw [Nat.zero_mul]; rfl, OUT0.out, by simp, I5, B5, z5⟩
    case round =>
      clear I5 B5 OUT0 z5
      obtain ⟨yy, m, hy, rfl, rfl, rfl, hout, hml, I, B, zx⟩ := hrel
      have HOUT := Lib.hid hout
      have HML := Lib.hid hml
      have HCC := Lib.hid (Ho.cntR_le (frH W T bs) (nbH W) (yy * ww))
      clear hout hml
      have k1 := I.w0
      by_cases hyt : yy < tt
      · go_wp2_with fail
        go_loopg [7, 9, 26] ww (fun gk s7 _ s26 wx => ∃ (xx : Nat) (m : List Bool), xx ≤ ww ∧ gk = ww - xx ∧ s26 = .int .i64 xx ∧ s7 = .int .i64 ((cntR (frH W T bs) (nbH W) (yy * ww + xx) : Nat) - 1) ∧ Out (frH W T bs) (nbH W) (yy * ww + xx) m ∧ m.length = N ∧ HI bw bt bm w.heap.size bk wc.heap.size N W T ww tt N A n c bs wc.heap.size bm m wx ∧ Below w.heap.size w wx ∧ wc.heap.size < wx.heap.size)
        case atStart => exact ⟨0, m, Nat.zero_le _, rfl, rfl, by rw [Nat.add_zero], by rw [Nat.add_zero]; exact HOUT.out, HML.out, I, B, zx⟩
        case round =>
          clear I B zx k1
          obtain ⟨xx, m, hx, rfl, rfl, rfl, hout, hml, I, B, zx⟩ := hrel
          by_cases hxt : xx < ww
          · have hkN : yy * ww + xx < N := by rw [HNN.out]; exact at_index hxt hyt
            have hxy := Til.cell_xy (W := ww) (x := xx) (y := yy) hxt
            obtain ⟨k, hk⟩ : ∃ k, yy * ww + xx = k := ⟨_, rfl⟩
            rw [hk] at hkN hxy hout
            have hk1 : yy * ww + (xx + 1) = k + 1 := by omega
            obtain ⟨p, hp⟩ : ∃ p, yy * ww = p := ⟨_, rfl⟩
            have hmulP : (yy : Int) * (ww : Int) = (p : Int) := by rw [← hp]; push_cast; rfl
            have hpk : (p : Int) + (xx : Int) = (k : Int) := by rw [← hk, ← hp]; push_cast; rfl
            have hpb : p ≤ 64 := by omega
            have ex : ((k % (W + 2) : Nat) : Int) = (xx : Int) := by rw [← HWW.out, hxy.1]
            have ey : ((k / (W + 2) : Nat) : Int) = (yy : Int) := by rw [← HWW.out, hxy.2]
            have g1 : (0 : Int) ≤ (k : Int) := by omega
            have g2 : (k : Int) < (N : Int) := by omega
            have hg : m[k]? = some (m[k]'(by rw [hml]; exact hkN)) := List.getElem?_eq_getElem _
            obtain ⟨b, hb⟩ : ∃ b, m[k]'(by rw [hml]; exact hkN) = b := ⟨_, rfl⟩
            rw [hb] at hg
            have cm := I.M.cellB hg
            have honk : Til.on m k = b := by unfold Til.on; rw [hg]; rfl
            obtain ⟨av, hav⟩ : ∃ av, atB W T bs ((xx : Int) - 1) ((yy : Int) - 1) = av := ⟨_, rfl⟩
            have hfr : frH W T bs k = !av := by rw [Ho.frH, decide_eq_true (by rw [← HWW.out, ← HTT.out, ← HNN.out]; exact hkN), Bool.true_and, ex, ey, hav]
            have hcc := Ho.cntR_le (frH W T bs) (nbH W) k
            obtain ⟨cc, hcce⟩ : ∃ cc, cntR (frH W T bs) (nbH W) k = cc := ⟨_, rfl⟩
            rw [hcce] at hcc
            rw [hk, hcce]
            have HK1 := Lib.hid hk1
            have HCE := Lib.hid hcce
            have HAV := Lib.hid hav
            have HFR := Lib.hid hfr
            have HON := Lib.hid honk
            have HOUT := Lib.hid hout
            have HML := Lib.hid hml
            have HEX := Lib.hid ex
            have HEY := Lib.hid ey
            have k1 := I.w0
            have k2 := I.t0
            have k3 := I.m0
            have k4 := I.X.1
            have k5 := I.X.2.1
            have k6 := I.X.2.2
            have k7 := I.K
            clear hk hxy hp ex ey hg hb honk hav hfr hcce hout hml hk1
            have hskip : (frH W T bs k = false ∨ Til.on m k = true) → Out (frH W T bs) (nbH W) (k + 1) m ∧ cntR (frH W T bs) (nbH W) (k + 1) = cc := fun hc => by
              obtain ⟨h1, h2⟩ := HOUT.out.skip HSY.out hc
              exact ⟨h1, by rw [Ho.cntR_no h2, HCE.out]⟩
            have HSK := Lib.hid hskip
            clear hskip
            cases b
            · cases av
              · go_wp2_with (first
                  | (go_at_call 87; refine (hol_walk bw bt bm w.heap.size bk wc.heap.size N W T ww tt N A n c bs V HWW.out HTT.out HNN.out wc.heap.size bm _ m (xx : Int) (yy : Int) w1 rfl HML.out ⟨by omega, by omega⟩ ⟨by omega, by omega⟩ I1).mono ?_; rintro e w2 ⟨m2, rfl, hp2, I2, G2⟩)
                  | (go_at_call 88; refine (at_any A n c W T bs ((xx : Int) - 1) ((yy : Int) - 1) _ V I.S ⟨by omega, by omega⟩ ⟨by omega, by omega⟩).mono ?_; rintro e w1 ⟨rfl, hb1⟩; rw [HAV.out]; have I1 := I.keep hb1; have B1 := belowW B hb1; have z1 := hb1.size; have j7 := I1.K))
                have hff : frH W T bs k = true := by rw [HFR.out]; rfl
                obtain ⟨h1, h2⟩ := hp2.2.1 k hkN HEX.out HEY.out hff
                obtain ⟨h3, h4⟩ := HOUT.out.walk HSY.out hff HON.out h1 h2
                have B2 : Below w.heap.size w w2 := B1.grown G2 B1.size (fun j hj => by simp at hj; omega)
                have HR1 := Lib.hid (show cntR (frH W T bs) (nbH W) (k + 1) = cc + 1 by rw [Ho.cntR_yes h4, HCE.out])
                have HR2 := Lib.hid h3
                have z2 := G2.size
                have hm2 := h1.len
                clear h1 h2 h3 h4 hp2
                go_roundg (ww - (xx + 1))
                case measure => omega
                case rel => exact ⟨xx + 1, m2, by omega, rfl, by go_num, by rw [HK1.out, HR1.out]; go_num, by rw [HK1.out]; exact HR2.out, by rw [hm2, HML.out], I2, B2, by omega⟩
              · have hs := HSK.out (.inl (by rw [HFR.out]; rfl))
                have HS := Lib.hid hs
                clear hs
                go_wp2_with (go_at_call 88; refine (at_any A n c W T bs ((xx : Int) - 1) ((yy : Int) - 1) _ V I.S ⟨by omega, by omega⟩ ⟨by omega, by omega⟩).mono ?_; rintro e w1 ⟨rfl, hb1⟩; rw [HAV.out]; have I1 := I.keep hb1; have B1 := belowW B hb1; have z1 := hb1.size)
                go_roundg (ww - (xx + 1))
                case measure => omega
                case rel => exact ⟨xx + 1, m, by omega, rfl, by go_num, by rw [HK1.out, HS.out.2], by rw [HK1.out]; exact HS.out.1, HML.out, I1, B1, by omega⟩
            · have hs := HSK.out (.inr HON.out)
              have HS := Lib.hid hs
              clear hs
              go_wp2_with fail
              go_roundg (ww - (xx + 1))
              case measure => omega
              case rel => exact ⟨xx + 1, m, by omega, rfl, by go_num, by rw [HK1.out, HS.out.2], by rw [HK1.out]; exact HS.out.1, HML.out, I, B, zx⟩
          · have e : xx = ww := by omega
            subst e
            have e2 : yy * xx + xx = (yy + 1) * xx := by rw [Nat.succ_mul]
            have HE2 := Lib.hid e2
            have HOUT := Lib.hid hout
            clear e2 hout
            go_wp2_with fail
            go_roundg (tt - (yy + 1))
            case measure => omega
            case rel => exact ⟨yy + 1, m, by omega, rfl, by go_num, by rw [HE2.out], by rw [← HE2.out]; exact HOUT.out, hml, I, B, zx⟩
      · have e : yy = tt := by omega
        subst e
        have E : Hid (((cntR (frH W T bs) (nbH W) (yy * ww) : Nat) : Int) - 1 = holN W T bs) := by show _ = _; rw [holN, ← HWW.out, ← HTT.out, Nat.mul_comm]
        go_wp2_with fail
        go_ret
        exact ⟨ret_i E.out, B⟩

set_option maxHeartbeats 1000000 in
theorem holes_impl (A : Option Addr) (n c : Nat) (W T : Int) (bs : List Bool) (w : World) (hn : n ≤ 1048576) (h : Sl w A n (bs.map .bool)) :
    Calls Try.prog 33 #[.agg #[.int .i64 W, .int .i64 T, .slice A n c]] w fun e w' => e = .returned (.int .i64 (holF W T n bs)) ∧ Below w.heap.size w w' := by
  have hl := h.1
  rw [List.length_map] at hl
  by_cases hv : validB W T n bs = true
  · obtain ⟨W, T, rfl, rfl, V⟩ := valid_of hv hl
    have E : Hid (holF W T n bs = holN W T bs) := by show _ = _; rw [holF, if_pos hv]; rfl
    have HV := Lib.hid hv
    clear hl hv
    go_enter Try.func33, Try.ntmps33
    go_wp2_with fail
    refine (valid_impl A n c W T bs _ (by omega) (h.alloc _)).mono ?_; rintro e w1 ⟨rfl, hb1⟩
    rw [HV.out]
    have R1 := P1.of hb1
    clear hb1
    have k1 := R1.X.1
    have k2 := R1.X.2.1
    have k3 := R1.X.2.2
    go_wp2_with fail
    refine (holes_any A n c W T bs _ V (h.below R1.B)).mono ?_; rintro e w2 ⟨rfl, hb2⟩
    go_wp2_with fail
    go_ret
    exact ⟨ret_i E.out.symm, belowW R1.B hb2⟩
  · have E : Hid (holF W T n bs = -1) := by show _ = _; rw [holF, if_neg hv]
    have hv' : validB W T n bs = false := by simpa using hv
    have HV := Lib.hid hv'
    clear hl hv hv'
    go_enter Try.func33, Try.ntmps33
    go_wp2_with fail
    refine (valid_impl A n c W T bs _ (by omega) (h.alloc _)).mono ?_; rintro e w1 ⟨rfl, hb1⟩
    rw [HV.out]
    have R1 := P1.of hb1
    go_wp2_with fail
    go_ret
    exact ⟨ret_i E.out.symm, R1.B⟩

end Go.Proofs.Ytepnhhehfkcgkaa
