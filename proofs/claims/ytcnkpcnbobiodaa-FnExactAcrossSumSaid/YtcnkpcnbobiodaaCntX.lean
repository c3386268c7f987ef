/-
  The closure that counts with a memory: its walk.
-/
import Derived.Test.YtcnkpcnbobiodaaCntW
import Derived.Test.YtcnkpcnbobiodaaStep
import Derived.Test.YtcnkpcnbobiodaaP1
namespace Go.Proofs.Ytcnkpcnbobiodaa
open Go.RowKit
open Til (on to cntA avC cov2 keyU valK oneW)

set_option maxRecDepth 100000 in
set_option maxHeartbeats 4000000 in
theorem walk_any (Bm br bk bw W T : Nat) (A : Option Addr) (n c : Nat) (bs : List Bool) (V : Valid W T n bs) : ∀ (rem k : Nat) (A' : Option Addr) (c' N : Nat) (cov : List Bool) (w : World), k + rem = n → WI Bm br bk bw W T A n c bs N w → Sl w A' n (cov.map .bool) → (∀ b off, A' = some ⟨b, off, none⟩ → b ≠ Bm) → n ≤ c' → N + 2 ^ rem ≤ 1099511627776 →
    Calls Try.prog 90 #[.slice A' n c', .int .i64 k, .pointer (some ⟨br, 0, none⟩), .pointer (some ⟨bk, 0, none⟩), .pointer (some ⟨bw, 0, none⟩)] w fun e w' => e = .returned (.int .i64 (cntA W T rem k (avC bs cov))) ∧ (∃ N', N' + 1 ≤ N + 2 ^ rem ∧ WI Bm br bk bw W T A n c bs N' w') ∧ w.grownBy w' (some Bm) := by
  have n36 := V.n36
  have v0 := V.w0
  have v1 := V.w1
  have v2 := V.t0
  have v3 := V.t1
  have HVS := Lib.hid V.size
  have HVL := Lib.hid V.len
  intro rem
  induction rem using Nat.strongRecOn with
  | ind rem ih =>
  intro k A' c' N cov w hkn I hS hA' hc' hN
  have hlc := hS.1
  rw [List.length_map] at hlc
  have HLC := Lib.hid hlc
  have HIH := Lib.hid ih
  have HN := Lib.hid hN
  have hrem : rem = n - k := by omega
  have HREM := Lib.hid hrem
  clear hlc ih hN hrem
  go_enter Try.func90, Try.ntmps90
  go_wp2_with fail
  go_loopg [1] (n - k) (fun gk i wr => ∃ j : Nat, k ≤ j ∧ j ≤ n ∧ gk = n - j ∧ i = .int .i64 j ∧ Skip bs cov k j ∧ WI Bm br bk bw W T A n c bs N wr ∧ Sl wr A' n (cov.map .bool) ∧ w.grownBy wr (some Bm))
  case atStart => exact ⟨k, Nat.le_refl _, hkn ▸ Nat.le_add_right _ _, rfl, rfl, fun i h1 h2 => by omega, I, hS, grown_refl _ _⟩
  case round =>
    clear I hS
    obtain ⟨j, hkj, hj, rfl, rfl, hsk, I, hS, hg⟩ := hrel
    have HSK := Lib.hid hsk
    clear hsk
    obtain ⟨wo, hwo⟩ : ∃ wo, wo = wr := ⟨_, rfl⟩
    subst hwo
    have k1 := I.X.1
    have k2 := I.X.2.1
    have k3 := I.X.2.2
    by_cases hlt : j < n
    · obtain ⟨b, off, x, rfl, hx, hc1⟩ := I.S.atB hlt
      obtain ⟨b2, off2, y, rfl, hy, hc2⟩ := hS.atB hlt
      have HX := Lib.hid hx
      have HY := Lib.hid hy
      clear hx hy
      cases x
      · have hj0 : on (avC bs cov) j = false := by rw [Til.on_avC, on_of HX.out]; rfl
        have HJ0 := Lib.hid hj0
        clear hj0
        go_wp2_with fail
        go_roundg (n - (j + 1))
        case measure => omega
        case rel => exact ⟨j + 1, by omega, by omega, rfl, by go_num, HSK.out.succ HJ0.out, I, hS, hg⟩
      · cases y
        · have hopen : on (avC bs cov) j = true := by rw [Til.on_avC, on_of HX.out, on_of HY.out]; rfl
          have HOPEN := Lib.hid hopen
          clear hopen
          obtain ⟨i0, hi0, hz0, hz1, hz2⟩ := info_parts Try.infoU8
          go_wp2_with (first
            | (at_make; refine wpList_make_own _ rfl _ _ 74 rfl wo.heap.size 5 i0 (.int .u8 0) 1 Try.underlying74 hi0 hz0 hz1 .i64 .i64 ((n : Int) + 1) (n + 1) rfl rfl (by omega) (by rw [hz2]; omega) (by unfold maxLen; omega) (Nat.le_refl _) ?_; intro w1 hown1 hg1; have O1 := Own.mk hown1)
            | (at_builtin; refine wpList_append1 rfl (.tmp 46) (.tmp 49) 74 rfl 5 (.int .u8 0) 1 Try.underlying74 Try.infoU8 rfl (O1.alloc _) rfl w1.heap.size _ rfl (cell0_new _ _ _) rfl (by omega) (by omega) (by simp; have := hg1.size; omega) ?_; intro A2 q2 w2 O2 hg2 hn2))
          have B2 : Below wo.heap.size wo w2 := belowG (belowA ((Below.refl _ wo).grown hg1 (Nat.le_refl _) (fun _ h => by cases h))) hg2 (O1.alloc _) (Nat.le_refl _)
          have E2 : ([] ++ [Value.int .u8 (j : Int)]) = ((keyU j cov).take 1).map byteV := key_take0 (by omega)
          rw [E2] at O2
          have dS := drop_sl hS (show j ≤ n by omega)
          rw [← List.map_drop] at dS
          clear hown1 O1 hg1 hg2 hn2 E2 hc1 hc2 k1 k2 k3
          go_loopg [8, 10, 55] (n - j) (fun gk kv _ iv wx => ∃ (i : Nat) (A3 : Option Addr) (q3 : Nat), i ≤ n - j ∧ gk = n - j - i ∧ iv = .int .i64 i ∧ kv = .slice A3 (1 + i) q3 ∧ Own wx wo.heap.size wx.heap.size 5 A3 (1 + i) q3 (((keyU j cov).take (1 + i)).map byteV) ∧ Below wo.heap.size wo wx)
          case atStart => exact ⟨0, A2, q2, Nat.zero_le _, rfl, rfl, rfl, O2, B2⟩
          case round =>
            clear O2 B2
            obtain ⟨i, A3, q3, hi, rfl, rfl, rfl, O3, B3⟩ := hrel
            obtain ⟨wp, hwp⟩ : ∃ wp, wp = wr := ⟨_, rfl⟩
            subst hwp
            by_cases hil : i < n - j
            · obtain ⟨b3, off3, y, hA3, hy, hc3⟩ := (dS.below B3).atB hil
              injection hA3 with hA3
              injection hA3 with hA31 hA32 _
              subst hA31 hA32
              have HK := Lib.hid (key_get hy)
              clear hy
              cases y
              · go_wp2_with (at_builtin; refine wpList_append1 rfl _ _ 74 rfl 5 (.int .u8 0) 1 Try.underlying74 Try.infoU8 rfl (O3.alloc _) rfl wp.heap.size _ rfl (cell0_new _ _ _) rfl (by omega) (by omega) (by simp; have := B3.size; omega) ?_; intro A4 q4 w4 O4 hg4 hn4)
                have B4 := belowG (belowA B3) hg4 (O3.alloc _) (Nat.le_refl _)
                rw [key_snoc (v := 48) HK.out rfl] at O4
                go_roundg (n - j - (i + 1))
                case measure => omega
                case rel => exact ⟨i + 1, A4, q4, by omega, rfl, by go_num, rfl, O4, B4⟩
              · go_wp2_with (at_builtin; refine wpList_append1 rfl _ _ 74 rfl 5 (.int .u8 0) 1 Try.underlying74 Try.infoU8 rfl (O3.alloc _) rfl wp.heap.size _ rfl (cell0_new _ _ _) rfl (by omega) (by omega) (by simp; have := B3.size; omega) ?_; intro A4 q4 w4 O4 hg4 hn4)
                have B4 := belowG (belowA B3) hg4 (O3.alloc _) (Nat.le_refl _)
                rw [key_snoc (v := 49) HK.out rfl] at O4
                go_roundg (n - j - (i + 1))
                case measure => omega
                case rel => exact ⟨i + 1, A4, q4, by omega, rfl, by go_num, rfl, O4, B4⟩
            · have ei : i = n - j := by omega
              subst ei
              rw [List.take_of_length_le (by rw [key_len]; have := HLC.out; omega)] at O3
              obtain ⟨g3, rfl, hg3, -⟩ := O3.form (by omega)
              have I3 := I.below B3
              have hS3 := hS.below B3
              obtain ⟨D, hm, hi⟩ := I3.M
              have hcv := key_convert O3 (by rw [key_len]; have := HLC.out; omega)
              have hkey := key_of (keyU j cov) (by rw [key_len]; have := HLC.out; unfold maxLen; omega)
              have k4 := I3.K
              have lBm := hm.lt
              have lWo := I.M.elim fun D h => h.1.lt
              have HVK := Lib.hid (Til.valK_key (W := W) (T := T) (cell := j) (cov := cov) (bs := bs) (by omega) (by rw [HLC.out, HVL.out]))
              have HONE := Lib.hid (Til.cntA_one (W := W) (T := T) hlt HVL.out HLC.out HOPEN.out)
              obtain ⟨P, hP⟩ : ∃ P, 2 ^ (n - (j + 1)) = P := ⟨_, rfl⟩
              obtain ⟨Q, hQ⟩ : ∃ Q, 2 ^ rem = Q := ⟨_, rfl⟩
              have hPQ : 2 * P ≤ Q := by
                rw [← hP, ← hQ, HREM.out]
                have : 2 ^ (n - j) ≤ 2 ^ (n - k) := Nat.pow_le_pow_right (by omega) (by omega)
                rw [show n - j = (n - (j + 1)) + 1 by omega, Nat.pow_succ] at this
                omega
              have hNQ : N + Q ≤ 1099511627776 := by rw [← hQ]; exact HN.out
              have hP1 : 1 ≤ P := by rw [← hP]; exact Nat.pow_pos (by omega)
              have HP := Lib.hid hP
              have HQ := Lib.hid hQ
              clear hP hQ hi0 hz0 hz1 hz2
              cases hh : Go.Maps.has D (.string (keyU j cov))
              · go_wp2_with (at_lookup; refine wpList_lookup_own_ok_int _ rfl _ _ 73 rfl 9 3 .i64 Try.keyed Try.underlying73 Try.underlying3 (Try.zeroInt _) Bm N D rfl hm _ _ rfl hkey ?_; intro cv hat hwc)
                have I4 := I3.below (below1 wp (.cells #[.int .i64 1, .int .i64 2] 3))
                have S4 := hS3.alloc (.cells #[.int .i64 1, .int .i64 2] 3)
                have O4 := (O3.alloc (.cells #[.int .i64 1, .int .i64 2] 3)).top (top' := wp.heap.size + 1) (by omega)
                have Z4 : Sl (wp.alloc (.cells #[.int .i64 1, .int .i64 2] 3)) (some ⟨wp.heap.size, 0, none⟩) 2 ([(1 : Int), 2].map (.int .i64)) := (Own.made (w := wp) (base := wp.heap.size) (e := 3) (cs := #[.int .i64 1, .int .i64 2]) (n := 2) (Nat.le_refl _) (by unfold maxLen; omega) rfl).sl
                have G4 : w.grownBy (wp.alloc (.cells #[.int .i64 1, .int .i64 2] 3)) (some Bm) := grown_trans hg (grown_below (B3.alloc B3.size _) (some Bm))
                have nB : wp.heap.size ≠ Bm := by omega
                clear hm hi hat hh hcv k4 I3 hS3 O3 hwc
                go_loopg [13, 15, 16, 17, 78] 2 (fun gk nv _ _ _ iv wx => ∃ (i N' : Nat), i ≤ 2 ∧ gk = 2 - i ∧ iv = .int .i64 i ∧ nv = .int .i64 (sumW (oneW W T n bs cov j) i) ∧ N' + i ≤ N + i * P ∧ WI Bm br bk bw W T (some ⟨b, off, none⟩) n c bs N' wx ∧ Sl wx (some ⟨b2, off2, none⟩) n (cov.map .bool) ∧ Own wx wo.heap.size (wp.heap.size + 1) 5 (some ⟨g3, 0, none⟩) (1 + (n - j)) q3 ((keyU j cov).map byteV) ∧ Sl wx (some ⟨wp.heap.size, 0, none⟩) 2 ([(1 : Int), 2].map (.int .i64)) ∧ w.grownBy wx (some Bm))
                case atStart => exact ⟨0, N, by omega, rfl, rfl, rfl, by omega, I4, S4, O4, Z4, G4⟩
                case round =>
                  clear I4 S4 O4 Z4 G4 B3
                  obtain ⟨i, N', hi2, rfl, rfl, rfl, hN', I5, S5, O5, Z5, G5⟩ := hrel
                  have k1 := I5.X.1
                  have k2 := I5.X.2.1
                  have k3 := I5.X.2.2
                  by_cases hi3 : i < 2
                  · obtain ⟨b4, off4, way, hA4, hway, hc4⟩ := Z5.atI hi3
                    injection hA4 with hA4
                    injection hA4 with hA41 hA42 _
                    subst hA41 hA42
                    have hwi : way = ((i + 1 : Nat) : Int) := by
                      rcases (show i = 0 ∨ i = 1 by omega) with rfl | rfl
                      · simpa using hway.symm
                      · simpa using hway.symm
                    obtain ⟨wq, hwq⟩ : ∃ wq, wq = wr := ⟨_, rfl⟩
                    subst hwq
                    have HKJ := Lib.hid (show j < W * T by rw [← HVS.out]; exact hlt)
                    have HWI := Lib.hid hwi
                    have hc4' : wq.cell? ⟨wp.heap.size, i, none⟩ = some (.int .i64 way) := by simpa using hc4
                    have hSWb := sumW_le (f := oneW W T n bs cov j) (p := 68719476736) (fun v => Nat.le_trans (Til.oneW_le W T n bs cov j v) (pow36 (by omega))) i (by omega)
                    have hPi : N' + P ≤ N + Q := by rcases (show i = 0 ∨ i = 1 by omega) with rfl | rfl <;> omega
                    have hPi2 : N' + i + P ≤ N + (i + 1) * P := by rw [Nat.add_mul, Nat.one_mul]; omega
                    clear hc4 hway hwi
                    go_wp2_with fail
                    refine (step_any (some ⟨b, off, none⟩) n c W T j way _ v0 v1 v2 v3 HKJ.out).mono ?_; rintro e w6 ⟨rfl, hb6⟩
                    have I6 := I5.below hb6
                    have S6 := S5.below hb6
                    have O6 := O5.below hb6
                    have Z6 := Z5.below hb6
                    have G6 := grown_trans G5 (grown_below hb6 (some Bm))
                    obtain ⟨t, ht⟩ : ∃ t, stepF W T j way = t := ⟨_, rfl⟩
                    obtain ⟨t1, t2⟩ := stepF_bound (way := way) v0 HKJ.out
                    rw [ht] at t1 t2
                    rw [ht]
                    have HT := Lib.hid ht
                    clear ht hb6 I5 S5 O5 Z5 G5 k1 k2 k3 hc4'
                    have k1 := I6.X.1
                    have k2 := I6.X.2.1
                    have k3 := I6.X.2.2
                    by_cases ht0 : t < 0
                    · have hone : Hid (oneW W T n bs cov j way = 0) := by show _ = _; rw [oneW, to, HT.out, decide_eq_false (by omega)]; rfl
                      have hd : decide ((0 : Int) ≤ t) = false := decide_eq_false (by omega)
                      clear t2
                      go_wp2_with fail
                      go_roundg (2 - (i + 1))
                      case measure => omega
                      case rel => exact ⟨i + 1, N', by omega, rfl, by go_num, by rw [sumW, ← HWI.out, hone.out, Nat.add_zero], by omega, I6, S6, O6, Z6, G6⟩
                    · obtain ⟨jj, rfl⟩ := Int.eq_ofNat_of_zero_le (show 0 ≤ t by omega)
                      have hjj : jj < n := by have := HVS.out; omega
                      have hd : decide ((0 : Int) ≤ (jj : Int)) = true := decide_eq_true (by omega)
                      have j0 : (0 : Int) ≤ (jj : Int) := by omega
                      have j1 : (jj : Int) < (n : Int) := by omega
                      obtain ⟨b7, off7, xx, hA7, hxx, hc7⟩ := I6.S.atB hjj
                      injection hA7 with hA7
                      injection hA7 with hA71 hA72 _
                      subst hA71 hA72
                      obtain ⟨b8, off8, yy, hA8, hyy, hc8⟩ := S6.atB hjj
                      injection hA8 with hA8
                      injection hA8 with hA81 hA82 _
                      subst hA81 hA82
                      have hTO : to W T (avC bs cov) j way = (xx && !yy) := by
                        rw [to, HT.out, decide_eq_true (show (0 : Int) ≤ (jj : Int) by omega), Int.toNat_natCast, Bool.true_and, Til.on_avC, on_of hxx, on_of hyy]
                      have HTO := Lib.hid hTO
                      clear hTO hxx hyy t1 t2 ht0
                      have hno : (xx && !yy) = false → oneW W T n bs cov j way = 0 := by intro h; rw [oneW, HTO.out, h]; rfl
                      have HNO := Lib.hid hno
                      clear hno
                      cases xx
                      · go_wp2_with fail
                        go_roundg (2 - (i + 1))
                        case measure => omega
                        case rel => exact ⟨i + 1, N', by omega, rfl, by go_num, by rw [sumW, ← HWI.out, HNO.out rfl, Nat.add_zero], by omega, I6, S6, O6, Z6, G6⟩
                      · cases yy
                        · have hyes : oneW W T n bs cov j way = cntA W T (n - (j + 1)) (j + 1) (avC bs (cov2 cov j jj)) := by rw [oneW, HTO.out, HT.out]; rfl
                          obtain ⟨r, hr⟩ : ∃ r, cntA W T (n - (j + 1)) (j + 1) (avC bs (cov2 cov j jj)) = r := ⟨_, rfl⟩
                          have hrb : r ≤ 68719476736 := by rw [← hr]; exact Nat.le_trans (Til.cntA_le _ _ _ _ _) (pow36 (by omega))
                          rw [hr] at hyes
                          have HYES := Lib.hid hyes
                          have HR := Lib.hid hr
                          clear hyes hr
                          go_wp2_with fail
                          refine (sclone_bool (some ⟨b2, off2, none⟩) n c' _ _ (by omega) S6 (bools_one cov)).mono ?_; rintro e w7 ⟨A7, c7, rfl, O7, hb7, hc7'⟩
                          obtain ⟨g7, rfl, g71, -⟩ := O7.form (by omega)
                          have f1 := O7.frozen j
                          obtain ⟨u1, c1⟩ := O7.cellAt hlt
                          have O8 := O7.stored j hlt (.bool true)
                          have f2 := O8.frozen jj
                          obtain ⟨u2, c2⟩ := O8.cellAt hjj
                          have O9 := O8.stored jj hjj (.bool true)
                          rw [← List.map_set, ← List.map_set] at O9
                          have B9 := (hb7.setCell (p := ⟨g7, j, none⟩) g71 (.bool true)).setCell (p := ⟨g7, jj, none⟩) g71 (.bool true)
                          have I9 := I6.below B9
                          have S9 := S6.below B9
                          have OK9 := O6.below B9
                          have Z9 := Z6.below B9
                          have G9 := grown_trans G6 (grown_below B9 (some Bm))
                          have k5 := I9.F
                          have lB6 : Bm < w6.heap.size := by obtain ⟨D6, hm6, _⟩ := I6.M; exact hm6.lt
                          have HCALL := HIH.out (n - (j + 1)) (by have := HREM.out; omega) (j + 1) (some ⟨g7, 0, none⟩) c7 N' (cov2 cov j jj) _ (by omega) I9 O9.sl (fun b off hA => by injection hA with hA; injection hA with h1 _ _; omega) hc7' (by rw [HP.out]; omega)
                          rw [HR.out, Int.natCast_add, Int.natCast_one] at HCALL
                          have HC := Lib.hid HCALL
                          clear HCALL
                          go_wp2_with fail
                          refine HC.out.mono ?_; rintro e w10 ⟨rfl, ⟨N2, hN2, I10⟩, hg10⟩
                          have S10 := S9.grown hg10 (fun b off hA => by have := hA' b off hA; simpa using this)
                          have O10 := OK9.grown hg10 (fun b off hA => by have := (OK9.2 b off hA).1; simp; omega)
                          have Z10 := Z9.grown hg10 (fun b off hA => by injection hA with hA; injection hA with h1 _ _; simp; omega)
                          have G10 := grown_trans G9 hg10
                          rw [HP.out] at hN2
                          clear hc7 hc8 k1 k2 k3 f1 f2 c1 c2 O7 O8 O9 B9 I9 S9 OK9 Z9 G9 I6 S6 O6 Z6 G6 hb7 k5
                          go_wp2_with fail
                          go_roundg (2 - (i + 1))
                          case measure => omega
                          case rel => exact ⟨i + 1, N2, by omega, rfl, by go_num, by rw [sumW, ← HWI.out, HYES.out]; go_num, by omega, I10, S10, O10, Z10, G10⟩
                        · go_wp2_with fail
                          go_roundg (2 - (i + 1))
                          case measure => omega
                          case rel => exact ⟨i + 1, N', by omega, rfl, by go_num, by rw [sumW, ← HWI.out, HNO.out rfl, Nat.add_zero], by omega, I6, S6, O6, Z6, G6⟩
                  · obtain rfl : i = 2 := by omega
                    have hcv := key_convert O5 (by rw [key_len]; have := HLC.out; omega)
                    have k4 := I5.K
                    obtain ⟨D2, hm2, hI2⟩ := I5.M
                    have hSW := sumW_two (HONE.out)
                    have hwf : (Lit.int .i64 (sumW (oneW W T n bs cov j) 2 : Nat)).wf = true := WalkArith.wf_i64 (by have hb : sumW (oneW W T n bs cov j) 2 ≤ 68719476736 := by { rw [hSW]; exact Nat.le_trans (Til.cntA_le _ _ _ _ _) (pow36 (by omega)) }; omega)
                    have HSW := Lib.hid hSW
                    clear hSW
                    go_wp2_with (at_mapUpdate; refine wpList_mapUpdate_own _ rfl _ _ _ 73 rfl 9 3 Try.keyed Try.underlying73 _ Bm N' _ rfl hm2 (by unfold maxLen; omega) _ _ _ rfl rfl hkey _ [] (plainElem_int Try.underlying3 hwf) ?_; intro w10 hm10 hg10)
                    go_ret
                    have hV : sumW (oneW W T n bs cov j) 2 = valK W T bs (keyU j cov) := by rw [HSW.out, HVK.out, HVL.out]
                    rw [hV] at hm10
                    refine ⟨ret_i ?_, ⟨N' + 1, by have := HQ.out; omega, I5.put hg10 hm10 (hI2.put _)⟩, grown_trans G5 hg10⟩
                    rw [HSW.out, HREM.out, HSK.out.cnt hkj hj]
              · go_wp2_with (at_lookup; refine wpList_lookup_own_ok_int _ rfl _ _ 73 rfl 9 3 .i64 Try.keyed Try.underlying73 Try.underlying3 (Try.zeroInt _) Bm N D rfl hm _ _ rfl hkey ?_; intro cv hat hwc)
                go_ret
                refine ⟨ret_i ?_, ⟨N, by have := HQ.out; omega, I3⟩, grown_trans hg (grown_below B3 (some Bm))⟩
                have hv := hi.2 _ hh
                rw [hat] at hv
                injection hv with hv
                injection hv with _ hv
                rw [hv, HVK.out, HVL.out, HREM.out, HSK.out.cnt hkj hj]
        · have hj0 : on (avC bs cov) j = false := by rw [Til.on_avC, on_of HX.out, on_of HY.out]; rfl
          have HJ0 := Lib.hid hj0
          clear hj0
          go_wp2_with fail
          go_roundg (n - (j + 1))
          case measure => omega
          case rel => exact ⟨j + 1, by omega, by omega, rfl, by go_num, HSK.out.succ HJ0.out, I, hS, hg⟩
    · have e : j = n := by omega
      subst e
      go_wp2_with fail
      go_ret
      refine ⟨ret_i ?_, ⟨N, by have := Nat.pow_pos (n := rem) (show 0 < 2 by omega); omega, I⟩, hg⟩
      rw [HREM.out, HSK.out.cnt hkj (Nat.le_refl _), Nat.sub_self]; rfl

end Go.Proofs.Ytcnkpcnbobiodaa
