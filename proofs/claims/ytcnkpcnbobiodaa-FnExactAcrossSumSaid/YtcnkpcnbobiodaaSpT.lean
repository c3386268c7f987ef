/-
  TilingsMany of the reference: what it returns.
-/
import Derived.Test.YtcnkpcnbobiodaaStT
import Derived.Test.YtcnkpcnbobiodaaTot
import Derived.Test.YtcnkpcnbobiodaaValid
import Derived.Test.YtcnkpcnbobiodaaLayS
import Derived.Deep.LoopGhost
import Derived.Deep.DeepCutAuto
import Derived.RegionTactic
import Derived.IntWalk
import Derived.BigRegion
import Derived.Deep.RegionHeld3
import Derived.Deep.QuietTactic
import Derived.BigQuiet
namespace Go.Proofs.Ytcnkpcnbobiodaa
open Go.RowKit
open Til (on cntA runP stepP options keysOk waysP)

set_option maxRecDepth 100000 in
set_option maxHeartbeats 8000000 in
theorem til_many_spec (A : Option Addr) (n c : Nat) (W T : Int) (bs : List Bool) (w : World) (hn : n ≤ 1048576) (h : Sl w A n (bs.map .bool)) :
    Calls Try.prog 15 #[.agg #[.int .i64 W, .int .i64 T, .slice A n c]] w fun e w' => e = .returned (.int .i64 (tilF W T n bs)) ∧ Below w.heap.size w w' := by
  have hl := h.1
  rw [List.length_map] at hl
  by_cases hv : validB W T n bs = true
  · obtain ⟨W, T, rfl, rfl, V⟩ := valid_of hv hl
    have E : Hid (tilF W T n bs = (cntA W T n 0 bs : Nat)) := by show _ = _; rw [tilF, if_pos hv]; rfl
    have HV := Lib.hid hv
    have HVS := Lib.hid V.size
    have HVL := Lib.hid V.len
    have n36 := V.n36
    have v0 := V.w0
    have v1 := V.w1
    have v2 := V.t0
    have v3 := V.t1
    have h64 : 2 ^ W ≤ 64 := Nat.le_trans (Nat.pow_le_pow_right (by omega) v1) (by decide)
    have H64 := Lib.hid h64
    clear hl hv h64
    go_enter Try.func15, Try.ntmps15
    go_wp2_with fail
    refine (valid_spec A n c W T bs _ (by omega) (h.alloc _)).mono ?_; rintro e w1 ⟨rfl, hb1⟩
    rw [HV.out]
    have R1 := P1.of hb1
    clear hb1
    have k1 := R1.X.1
    have k2 := R1.X.2.1
    have k3 := R1.X.2.2
    go_wp2_with fail
    have R3 := (R1.alloc (.cells #[.int .i64 0] 3)).alloc (.cells #[.int .i64 1] 3)
    have S3 : Sl ((w1.alloc (.cells #[.int .i64 0] 3)).alloc (.cells #[.int .i64 1] 3)) (some ⟨w1.heap.size, 0, none⟩) (runP W T bs 0).length (ints (keysI (runP W T bs 0))) := ((Own.made (w := w1) (base := w1.heap.size) (e := 3) (cs := #[.int .i64 0]) (n := 1) (Nat.le_refl _) (by unfold maxLen; omega) rfl).sl).alloc _
    have Y3 : Sl ((w1.alloc (.cells #[.int .i64 0] 3)).alloc (.cells #[.int .i64 1] 3)) (some ⟨w1.heap.size + 1, 0, none⟩) (runP W T bs 0).length (ints (valsI (runP W T bs 0))) := by
      have := (Own.made (w := w1.alloc (.cells #[.int .i64 0] 3)) (base := w1.heap.size) (e := 3) (cs := #[.int .i64 1]) (n := 1) (by simp) (by unfold maxLen; omega) rfl).sl
      simpa [ints, keysI, valsI, runP] using this
    go_loopg [3, 4, 5, 6, 7, 8, 9, 10, 11, 12, 13, 14, 15, 100] n (fun gk s3 s4 s5 _ _ _ _ _ _ _ _ _ _ _ wx => ∃ (k : Nat) (SA WA : Option Addr) (sq wq : Nat), k ≤ n ∧ gk = n - k ∧ s5 = .int .i64 k ∧ s3 = .slice SA (runP W T bs k).length sq ∧ s4 = .slice WA (runP W T bs k).length wq ∧ P1 w (.int .i64 W) (.int .i64 T) (.slice A n c) wx ∧ Sl wx SA (runP W T bs k).length (ints (keysI (runP W T bs k))) ∧ Sl wx WA (runP W T bs k).length (ints (valsI (runP W T bs k))) ∧ (∀ b off, SA = some ⟨b, off, none⟩ → b < wx.heap.size) ∧ (∀ b off, WA = some ⟨b, off, none⟩ → b < wx.heap.size))
    case atStart => exact ⟨0, _, _, 1, 1, Nat.zero_le _, rfl, rfl, rfl, rfl, R3, S3, Y3, fun b off hA => by injection hA with hA; injection hA with h1 _ _; simp; omega, fun b off hA => by injection hA with hA; injection hA with h1 _ _; simp; omega⟩
    case round =>
      clear R1 R3 S3 Y3 k1 k2 k3
      obtain ⟨k, SA, WA, sq, wq, hk, rfl, rfl, rfl, rfl, R, S, Y, s1, s2⟩ := hrel
      obtain ⟨wo, hwo⟩ : ∃ wo, wo = wr := ⟨_, rfl⟩
      subst hwo
      have k1 := R.X.1
      have k2 := R.X.2.1
      have k3 := R.X.2.2
      obtain ⟨l, hl⟩ : ∃ l, runP W T bs k = l := ⟨_, rfl⟩
      rw [hl] at S Y
      rw [hl]
      have HL := Lib.hid hl
      have HKO := Lib.hid (show keysOk (2 ^ W) l by rw [← hl]; exact Til.keys_run v0 k)
      have hwk := Til.ways_run (W := W) (T := T) (bs := bs) k
      rw [hl] at hwk
      have hlen : l.length ≤ 64 := by have := Til.keys_len HKO.out; have := H64.out; omega
      clear hl
      by_cases hlt : k < n
      · have hwk2 : waysP l ≤ 68719476736 := Nat.le_trans hwk (pow36 (by omega))
        have HWK := Lib.hid hwk2
        clear hwk hwk2
        have T0 : St w W T n c A wo.heap.size SA WA l (some ⟨wo.heap.size, 0, none⟩) (some ⟨wo.heap.size + 1, 0, none⟩) 0 0 [] [] ((wo.alloc (.cells #[] 3)).alloc (.cells #[] 3)) := by
          have o1 := own_empty wo
          have o2 := own_empty (wo.alloc (.cells #[] 3))
          rw [World.size_alloc] at o2
          refine ⟨(R.alloc _).alloc _, (S.alloc _).alloc _, (Y.alloc _).alloc _, s1, s2, ?_, ?_, ?_, R.z, by simp; omega⟩
          · exact (o1.alloc _).top (by simp)
          · exact (o2.base (by omega)).top (by simp)
          · intro b off hA; injection hA with hA; injection hA with h1 _ _; simp; omega
        go_wp2_with fail
        go_loopg [6, 7, 8, 9, 10, 11, 12, 13, 14, 15, 100] l.length (fun gk s6 s7 s8 _ _ _ _ _ _ _ _ wx => ∃ (p : Nat) (NA MA : Option Addr) (qn qm : Nat), p ≤ l.length ∧ gk = l.length - p ∧ s8 = .int .i64 p ∧ s6 = .slice NA (accP W T bs k l p).length qn ∧ s7 = .slice MA (accP W T bs k l p).length qm ∧ St w W T n c A wo.heap.size SA WA l NA MA qn qm (keysI (accP W T bs k l p)) (valsI (accP W T bs k l p)) wx)
        case atStart => exact ⟨0, _, _, 0, 0, Nat.zero_le _, rfl, rfl, rfl, rfl, T0⟩
        case round =>
          clear T0 R S Y k1 k2 k3
          obtain ⟨p, NA, MA, qn, qm, hp, rfl, rfl, rfl, rfl, T1⟩ := hrel
          obtain ⟨wp, hwp⟩ : ∃ wp, wp = wr := ⟨_, rfl⟩
          subst hwp
          obtain ⟨acc, hacc⟩ : ∃ acc, accP W T bs k l p = acc := ⟨_, rfl⟩
          rw [hacc] at T1
          rw [hacc]
          have HACC := Lib.hid hacc
          have k1 := T1.R.X.1
          have k2 := T1.R.X.2.1
          have k3 := T1.R.X.2.2
          clear hacc
          by_cases hpl : p < l.length
          · obtain ⟨b, off, x, rfl, hx, hc⟩ := (h.below T1.R.B).atB hlt
            obtain ⟨b2, off2, sv, rfl, hs, hc2⟩ := T1.S.atI hpl
            obtain ⟨s, v, hsv⟩ : ∃ s v, l[p]? = some (s, v) := ⟨_, _, List.getElem?_eq_getElem hpl⟩
            have es : sv = (s : Int) := by
              rw [keysI, List.getElem?_map, hsv] at hs
              simpa using hs.symm
            subst es
            have HX := Lib.hid hx
            have HSV := Lib.hid hsv
            have hs64 : s < 2 ^ W := HKO.out.2 _ (List.mem_of_getElem? hsv)
            have HS64 := Lib.hid hs64
            have hs64' : s < 64 := Nat.lt_of_lt_of_le hs64 H64.out
            clear hx hs hsv hs64
            go_upto_region 15 with fail
            go_cut [11] (fun s11 wx => ∃ (OA : Option Addr) (oq : Nat), s11 = .slice OA 0 oq ∧ Own wx wp.heap.size wx.heap.size 3 OA 0 oq [] ∧ St w W T n c (some ⟨b, off, none⟩) wo.heap.size (some ⟨b2, off2, none⟩) WA l NA MA qn qm (keysI acc) (valsI acc) wx ∧ wp.heap.size ≤ wx.heap.size)
            case first =>
              go_wp2_with fail
              go_meet
              exact ⟨_, 0, rfl, (own_empty wp).top (by simp), T1.alloc _, by simp⟩
            case rest =>
              have NB := T1.N.2
              have MB := T1.M.2
              have ZB := T1.zb
              clear T1 k1 k2 k3 hc hc2
              obtain ⟨OA, oq, rfl, O1, T2, hz2⟩ := hcut
              rename_i hK
              refine hK _ _ ?_
              refine wp_seq_k ?_
              intro K2 hK2
              obtain ⟨wa, hwa⟩ : ∃ wa, wa = wc := ⟨_, rfl⟩
              subst hwa
              have k1 := T2.R.X.1
              have k2 := T2.R.X.2.1
              have k3 := T2.R.X.2.2
              go_cut [10, 11] (fun _ s11 wx => ∃ (OA : Option Addr) (oq : Nat), s11 = .slice OA (options W T bs k s).length oq ∧ Own wx wp.heap.size wx.heap.size 3 OA (options W T bs k s).length oq (ints (optI W T bs k s)) ∧ St w W T n c (some ⟨b, off, none⟩) wo.heap.size (some ⟨b2, off2, none⟩) WA l NA MA qn qm (keysI acc) (valsI acc) wx)
              case first =>
                as_aux_lemma =>
                  have hk36 : k < W * T := by rw [← HVS.out]; exact hlt
                  have HKW := Lib.hid hk36
                  clear hk36
                  by_cases hcv : s % 2 = 1
                  · have hopt : options W T bs k s = [s / 2] := by rw [options, hcv]; rfl
                    have HOPT := Lib.hid hopt
                    have hcv2 : (((s : Int) % 2) == 1) = true := by rw [beq_iff_eq]; omega
                    clear hopt hcv
                    go_wp2_with (at_builtin; refine wpList_append1 rfl _ _ 33 rfl 3 (.int .i64 0) 8 Try.underlying33 Try.infoInt rfl (O1.alloc _) rfl wa.heap.size _ rfl (cell0_new _ _ _) rfl (by omega) (by omega) (by simp; omega) ?_; intro A4 q4 w4 O4 hg4 hn4)
                    go_meet
                    exact opt_end HOPT.out rfl T2 O1 NB MB ZB hg4 O4 (by omega)
                  · have hcv2 : (((s : Int) % 2) == 1) = false := by rw [beq_eq_false_iff_ne]; omega
                    have HCV := Lib.hid (show (s % 2 == 1) = false by rw [beq_eq_false_iff_ne]; exact hcv)
                    clear hcv
                    cases x
                    · have hopt : options W T bs k s = [s / 2] := by rw [options, HCV.out, on_of HX.out]; rfl
                      have HOPT := Lib.hid hopt
                      clear hopt
                      have hc := ((h.below T2.R.B)).cellB HX.out
                      go_wp2_with (at_builtin; refine wpList_append1 rfl _ _ 33 rfl 3 (.int .i64 0) 8 Try.underlying33 Try.infoInt rfl (O1.alloc _) rfl wa.heap.size _ rfl (cell0_new _ _ _) rfl (by omega) (by omega) (by simp; omega) ?_; intro A4 q4 w4 O4 hg4 hn4)
                      go_meet
                      exact opt_end HOPT.out rfl T2 O1 NB MB ZB hg4 O4 (by omega)
                    · have hc := ((h.below T2.R.B)).cellB HX.out
                      go_wp2_with fail
                      refine (l2Step_any (some ⟨b, off, none⟩) n c W T k 1 _ v0 v1 v2 v3 HKW.out (by rfl)).mono ?_; rintro e w4 ⟨rfl, hb4⟩
                      have T4 := T2.below hb4
                      have O4 := (O1.below hb4).top hb4.size
                      clear T2 O1 k1 k2 k3
                      have k1 := T4.R.X.1
                      have k2 := T4.R.X.2.1
                      have k3 := T4.R.X.2.2
                      go_wp2_with fail
                      refine (l2Step_any (some ⟨b, off, none⟩) n c W T k 2 _ v0 v1 v2 v3 HKW.out (by rfl)).mono ?_; rintro e w5 ⟨rfl, hb5⟩
                      have T5 := T4.below hb5
                      have O5 := (O4.below hb5).top hb5.size
                      have hz5 := Nat.le_trans hz2 (Nat.le_trans hb4.size hb5.size)
                      clear T4 O4 k1 k2 k3
                      have k1 := T5.R.X.1
                      have k2 := T5.R.X.2.1
                      have k3 := T5.R.X.2.2
                      obtain ⟨t1, ht1⟩ : ∃ t1, stepF W T k 1 = t1 := ⟨_, rfl⟩
                      obtain ⟨t2, ht2⟩ : ∃ t2, stepF W T k 2 = t2 := ⟨_, rfl⟩
                      obtain ⟨b11, b12⟩ := stepF_bound (way := 1) v0 HKW.out
                      obtain ⟨b21, b22⟩ := stepF_bound (way := 2) v0 HKW.out
                      rw [ht1] at b11 b12
                      rw [ht2] at b21 b22
                      rw [ht1, ht2]
                      have HT1 := Lib.hid ht1
                      have HT2 := Lib.hid ht2
                      clear ht1 ht2
                      obtain ⟨f1, hf1⟩ : ∃ f1, (Til.to W T bs k 1 && (s / 2 % 2 == 0)) = f1 := ⟨_, rfl⟩
                      have HF1 := Lib.hid hf1
                      clear hf1
                      go_upto_region 18 with fail
                      go_cut [66] (fun s66 wx => s66 = .bool f1 ∧ wx = w5)
                      case first =>
                        have hs0 : ((s : Int) / 2 % 2 == 0) = (s / 2 % 2 == 0) := by rw [Bool.eq_iff_iff, beq_iff_eq, beq_iff_eq]; omega
                        have HS0 := Lib.hid hs0
                        by_cases h0 : t1 < 0
                        · have hd : decide ((0 : Int) ≤ t1) = false := decide_eq_false (by omega)
                          have hf : f1 = false := by rw [← HF1.out, Til.to, HT1.out, hd]; rfl
                          subst hf
                          clear b12 hs0
                          go_wp2_with fail
                          go_meet
                          exact ⟨rfl, rfl⟩
                        · obtain ⟨j1, rfl⟩ := Int.eq_ofNat_of_zero_le (show 0 ≤ t1 by omega)
                          have hj1 : j1 < n := by have := HVS.out; omega
                          have hd : decide ((0 : Int) ≤ (j1 : Int)) = true := decide_eq_true (by omega)
                          have p0 : (0 : Int) ≤ (j1 : Int) := by omega
                          have p1 : (j1 : Int) < (n : Int) := by omega
                          obtain ⟨b7, off7, y, hA7, hy, hc7⟩ := (h.below T5.R.B).atB hj1
                          injection hA7 with hA7
                          injection hA7 with hA71 hA72 _
                          subst hA71 hA72
                          have hfy : f1 = (y && (s / 2 % 2 == 0)) := by rw [← HF1.out, Til.to, HT1.out, hd, Int.toNat_natCast, on_of hy]; rfl
                          have HFY := Lib.hid hfy
                          clear hfy hy hs0 b11 b12 h0
                          cases y
                          · have hf : f1 = false := HFY.out
                            subst hf
                            go_wp2_with fail
                            go_meet
                            exact ⟨rfl, rfl⟩
                          · cases hm : (s / 2 % 2 == 0)
                            · have hf : f1 = false := by rw [HFY.out, hm]; rfl
                              have hm2 : ((s : Int) / 2 % 2 == 0) = false := by rw [HS0.out, hm]
                              subst hf
                              clear hm
                              go_wp2_with fail
                              go_meet
                              exact ⟨rfl, rfl⟩
                            · have hf : f1 = true := by rw [HFY.out, hm]; rfl
                              have hm2 : ((s : Int) / 2 % 2 == 0) = true := by rw [HS0.out, hm]
                              subst hf
                              clear hm
                              go_wp2_with fail
                              go_meet
                              exact ⟨rfl, rfl⟩
                      case rest =>
                        obtain ⟨rfl, rfl⟩ := hcut
                        obtain ⟨f2, hf2⟩ : ∃ f2, (Til.to W T bs k 2 && (s / 2 ^ W % 2 == 0)) = f2 := ⟨_, rfl⟩
                        have hopt : options W T bs k s = (if f1 then [s / 2 + 1] else []) ++ (if f2 then [s / 2 + 2 ^ (W - 1)] else []) := by rw [options, HCV.out, on_of HX.out, HF1.out, hf2]; rfl
                        obtain ⟨dd, PP, hdd, hPP, hdl, hPl, hd2, hsh1, hsh2, hwr⟩ := sh_facts v0 v1 hs64'
                        rw [hdd] at hf2
                        rw [hPP] at hopt
                        have HOPT := Lib.hid hopt
                        have HF2 := Lib.hid hf2
                        clear hf2 hdd hPP hopt
                        cases f1
                        · go_upto_region 20 with fail
                          go_cut [89] (fun s89 wx => s89 = .bool f2 ∧ wx = wc)
                          case first =>
                            have hs0 : ((dd : Int) % 2 == 0) = (dd % 2 == 0) := by rw [Bool.eq_iff_iff, beq_iff_eq, beq_iff_eq]; omega
                            have HS0 := Lib.hid hs0
                            by_cases h0 : t2 < 0
                            · have hd : decide ((0 : Int) ≤ t2) = false := decide_eq_false (by omega)
                              have hf : f2 = false := by rw [← HF2.out, Til.to, HT2.out, hd]; rfl
                              subst hf
                              clear b22 hs0
                              go_wp2_with fail
                              go_meet
                              exact ⟨rfl, rfl⟩
                            · obtain ⟨j2, rfl⟩ := Int.eq_ofNat_of_zero_le (show 0 ≤ t2 by omega)
                              have hj2 : j2 < n := by have := HVS.out; omega
                              have hd : decide ((0 : Int) ≤ (j2 : Int)) = true := decide_eq_true (by omega)
                              have p0 : (0 : Int) ≤ (j2 : Int) := by omega
                              have p1 : (j2 : Int) < (n : Int) := by omega
                              obtain ⟨b7, off7, y, hA7, hy, hc7⟩ := (h.below T5.R.B).atB hj2
                              injection hA7 with hA7
                              injection hA7 with hA71 hA72 _
                              subst hA71 hA72
                              have hfy : f2 = (y && (dd % 2 == 0)) := by rw [← HF2.out, Til.to, HT2.out, hd, Int.toNat_natCast, on_of hy]; rfl
                              have HFY := Lib.hid hfy
                              clear hfy hy hs0 b21 b22 h0
                              cases y
                              · have hf : f2 = false := HFY.out
                                subst hf
                                go_wp2_with fail
                                go_meet
                                exact ⟨rfl, rfl⟩
                              · cases hm : (dd % 2 == 0)
                                · have hf : f2 = false := by rw [HFY.out, hm]; rfl
                                  have hm2 : ((dd : Int) % 2 == 0) = false := by rw [HS0.out, hm]
                                  subst hf
                                  clear hm
                                  go_wp2_with fail
                                  go_meet
                                  exact ⟨rfl, rfl⟩
                                · have hf : f2 = true := by rw [HFY.out, hm]; rfl
                                  have hm2 : ((dd : Int) % 2 == 0) = true := by rw [HS0.out, hm]
                                  subst hf
                                  clear hm
                                  go_wp2_with fail
                                  go_meet
                                  exact ⟨rfl, rfl⟩
                          case rest =>
                            obtain ⟨rfl, rfl⟩ := hcut
                            cases f2
                            · go_wp2_with fail
                              go_meet
                              exact opt_fin0 (L := []) HOPT.out rfl rfl T5 O5
                            · go_wp2_with (at_builtin; refine wpList_append1 rfl _ _ 33 rfl 3 (.int .i64 0) 8 Try.underlying33 Try.infoInt rfl (O5.alloc _) rfl wc.heap.size _ rfl (cell0_new _ _ _) rfl (by omega) (by omega) (by simp; omega) ?_; intro A8 q8 w8 O8 hg8 hn8)
                              go_meet
                              exact opt_fin1 (L := []) HOPT.out (by simp) rfl T5 O5 NB MB ZB hg8 O8
                        · go_upto_region 20 with (at_builtin; refine wpList_append1 rfl _ _ 33 rfl 3 (.int .i64 0) 8 Try.underlying33 Try.infoInt rfl (O5.alloc _) rfl wc.heap.size _ rfl (cell0_new _ _ _) rfl (by omega) (by omega) (by simp; omega) ?_; intro A6 q6 w6 O6 hg6 hn6)
                          have T6 := T5.opt O5 NB MB ZB hg6
                          replace O6 : Own w6 wp.heap.size w6.heap.size 3 A6 1 q6 (ints [(s : Int) / 2 + 1]) := O6
                          have hz6 := hg6.size
                          simp only [World.size_alloc] at hz6
                          have k1 := T6.R.X.1
                          have k2 := T6.R.X.2.1
                          have k3 := T6.R.X.2.2
                          clear T5 O5 hg6 hn6
                          go_cut [89] (fun s89 wx => s89 = .bool f2 ∧ wx = w6)
                          case first =>
                            have hs0 : ((dd : Int) % 2 == 0) = (dd % 2 == 0) := by rw [Bool.eq_iff_iff, beq_iff_eq, beq_iff_eq]; omega
                            have HS0 := Lib.hid hs0
                            by_cases h0 : t2 < 0
                            · have hd : decide ((0 : Int) ≤ t2) = false := decide_eq_false (by omega)
                              have hf : f2 = false := by rw [← HF2.out, Til.to, HT2.out, hd]; rfl
                              subst hf
                              clear b22 hs0
                              go_wp2_with fail
                              go_meet
                              exact ⟨rfl, rfl⟩
                            · obtain ⟨j2, rfl⟩ := Int.eq_ofNat_of_zero_le (show 0 ≤ t2 by omega)
                              have hj2 : j2 < n := by have := HVS.out; omega
                              have hd : decide ((0 : Int) ≤ (j2 : Int)) = true := decide_eq_true (by omega)
                              have p0 : (0 : Int) ≤ (j2 : Int) := by omega
                              have p1 : (j2 : Int) < (n : Int) := by omega
                              obtain ⟨b7, off7, y, hA7, hy, hc7⟩ := (h.below T6.R.B).atB hj2
                              injection hA7 with hA7
                              injection hA7 with hA71 hA72 _
                              subst hA71 hA72
                              have hfy : f2 = (y && (dd % 2 == 0)) := by rw [← HF2.out, Til.to, HT2.out, hd, Int.toNat_natCast, on_of hy]; rfl
                              have HFY := Lib.hid hfy
                              clear hfy hy hs0 b21 b22 h0
                              cases y
                              · have hf : f2 = false := HFY.out
                                subst hf
                                go_wp2_with fail
                                go_meet
                                exact ⟨rfl, rfl⟩
                              · cases hm : (dd % 2 == 0)
                                · have hf : f2 = false := by rw [HFY.out, hm]; rfl
                                  have hm2 : ((dd : Int) % 2 == 0) = false := by rw [HS0.out, hm]
                                  subst hf
                                  clear hm
                                  go_wp2_with fail
                                  go_meet
                                  exact ⟨rfl, rfl⟩
                                · have hf : f2 = true := by rw [HFY.out, hm]; rfl
                                  have hm2 : ((dd : Int) % 2 == 0) = true := by rw [HS0.out, hm]
                                  subst hf
                                  clear hm
                                  go_wp2_with fail
                                  go_meet
                                  exact ⟨rfl, rfl⟩
                          case rest =>
                            obtain ⟨rfl, rfl⟩ := hcut
                            cases f2
                            · go_wp2_with fail
                              go_meet
                              exact opt_fin0 (L := [(s : Int) / 2 + 1]) HOPT.out (by simp) rfl T6 O6
                            · go_wp2_with (at_builtin; refine wpList_append1 rfl _ _ 33 rfl 3 (.int .i64 0) 8 Try.underlying33 Try.infoInt rfl (O6.alloc _) rfl wc.heap.size _ rfl (cell0_new _ _ _) rfl (by omega) (by omega) (by simp; omega) ?_; intro A8 q8 w8 O8 hg8 hn8)
                              go_meet
                              exact opt_fin1 (L := [(s : Int) / 2 + 1]) HOPT.out (by simp) rfl T6 O6 NB MB ZB hg8 O8
              case rest =>
                as_aux_lemma =>
                  clear O1 T2 k1 k2 k3
                  obtain ⟨OA, oq, rfl, O1, T2⟩ := hcut
                  obtain ⟨os, hos⟩ : ∃ os, options W T bs k s = os := ⟨_, rfl⟩
                  have HOS := Lib.hid hos
                  rw [optI, hos] at O1
                  rw [hos]
                  have ol2 : os.length ≤ 2 := by rw [← hos]; exact options_len W T bs k s
                  clear hos
                  have OB : ∀ b off, OA = some ⟨b, off, none⟩ → b < wc.heap.size ∧ some b ≠ NA.map (·.block) ∧ some b ≠ MA.map (·.block) := fun b off hA => by
                    have := O1.2 b off hA
                    exact ⟨this.2, (own_lt T2.N NB this.1), (own_lt T2.M MB this.1)⟩
                  go_wp2_with fail
                  have OS := O1.sl
                  go_loopg [6, 7, 14, 15] os.length (fun gk s6 s7 s14 _ wx => ∃ (j : Nat) (NA MA : Option Addr) (qn qm : Nat), j ≤ os.length ∧ gk = os.length - j ∧ s14 = .int .i64 j ∧ s6 = .slice NA (accJ W T bs k l p s v j).length qn ∧ s7 = .slice MA (accJ W T bs k l p s v j).length qm ∧ St w W T n c (some ⟨b, off, none⟩) wo.heap.size (some ⟨b2, off2, none⟩) WA l NA MA qn qm (keysI (accJ W T bs k l p s v j)) (valsI (accJ W T bs k l p s v j)) wx ∧ Sl wx OA os.length (ints (os.map fun (o : Nat) => (o : Int))) ∧ (∀ b off, OA = some ⟨b, off, none⟩ → b < wx.heap.size ∧ some b ≠ NA.map (·.block) ∧ some b ≠ MA.map (·.block)))
                  case atStart => exact ⟨0, NA, MA, qn, qm, Nat.zero_le _, rfl, rfl, by rw [accJ_zero, HACC.out], by rw [accJ_zero, HACC.out], by rw [accJ_zero, HACC.out]; exact T2, OS, OB⟩
                  case round =>
                    clear O1 T2 OS OB NB MB
                    obtain ⟨j, NA, MA, qn, qm, hj, rfl, rfl, rfl, rfl, T2, OS, OB⟩ := hrel
                    obtain ⟨wj, hwj⟩ : ∃ wj, wj = wr := ⟨_, rfl⟩
                    subst hwj
                    obtain ⟨ac2, hac2⟩ : ∃ ac2, accJ W T bs k l p s v j = ac2 := ⟨_, rfl⟩
                    have AK : keysOk (2 ^ W) ac2 := by rw [← hac2]; exact accJ_keys v0 HKO.out.2 HS64.out j
                    have alen : ac2.length ≤ 64 := Nat.le_trans (Til.keys_len AK) H64.out
                    rw [hac2] at T2
                    rw [hac2]
                    have HAC2 := Lib.hid hac2
                    clear hac2 AK
                    by_cases hjo : j < os.length
                    · obtain ⟨b3, off3, ov, rfl, ho, hc3⟩ := OS.atI hjo
                      obtain ⟨o, hoo⟩ : ∃ o, os[j]? = some o := ⟨_, List.getElem?_eq_getElem hjo⟩
                      have eo : ov = (o : Int) := by rw [List.getElem?_map, hoo] at ho; simpa using ho.symm
                      subst eo
                      have HSUC := Lib.hid (accJ_succ (W := W) (T := T) (bs := bs) (k := k) (l := l) (p := p) (s := s) (v := v) (j := j) (o := o) (by rw [HOS.out]; exact hoo))
                      have hways := accJ_ways (W := W) (T := T) (bs := bs) (k := k) (j := j + 1) HSV.out
                      rw [HSUC.out, HAC2.out] at hways
                      have hways2 : waysP (Til.insP o v ac2) ≤ 137438953472 := by have := HWK.out; omega
                      have HWS := Lib.hid hways2
                      have HOO := Lib.hid hoo
                      clear ho hoo hways hways2
                      obtain ⟨b4, off4, wv, hWA, hwv, -⟩ := T2.Y.atI hpl
                      have ewv : wv = (v : Int) := by rw [valsI, List.getElem?_map, HSV.out] at hwv; simpa using hwv.symm
                      subst ewv
                      subst hWA
                      clear hwv
                      go_wp2_with fail
                      go_loopg [15] ac2.length (fun gk s15 wx => ∃ i : Nat, i ≤ ac2.length ∧ gk = ac2.length - i ∧ s15 = .int .i64 i ∧ (∀ k, k < i → ∀ p, ac2[k]? = some p → p.1 ≠ o) ∧ St w W T n c (some ⟨b, off, none⟩) wo.heap.size (some ⟨b2, off2, none⟩) (some ⟨b4, off4, none⟩) l NA MA qn qm (keysI ac2) (valsI ac2) wx ∧ Sl wx (some ⟨b3, off3, none⟩) os.length (ints (os.map fun (o : Nat) => (o : Int))) ∧ b3 < wx.heap.size)
                      case atStart => exact ⟨0, Nat.zero_le _, rfl, rfl, fun k hk => absurd hk (Nat.not_lt_zero k), T2, OS, (OB b3 off3 rfl).1⟩
                      case round =>
                        clear T2 OS hc3
                        obtain ⟨i, hi, rfl, rfl, hno, T2, OS, hb3⟩ := hrel
                        obtain ⟨wi, hwi⟩ : ∃ wi, wi = wr := ⟨_, rfl⟩
                        subst hwi
                        have HNO := Lib.hid hno
                        clear hno
                        have N2 := T2.N
                        have M2 := T2.M
                        rw [keys_len'] at N2
                        rw [vals_len'] at M2
                        obtain ⟨b6, off6, wv, hWA, hwv, hc6⟩ := T2.Y.atI hpl
                        injection hWA with hWA
                        injection hWA with hWA1 hWA2 _
                        subst hWA1 hWA2
                        have ewv : wv = (v : Int) := by rw [valsI, List.getElem?_map, HSV.out] at hwv; simpa using hwv.symm
                        subst ewv
                        obtain ⟨b7, off7, ov, hOA, hov, hc7⟩ := OS.atI hjo
                        injection hOA with hOA
                        injection hOA with hOA1 hOA2 _
                        subst hOA1 hOA2
                        have eov : ov = (o : Int) := by
                          have := HOO.out
                          rw [List.getElem?_map, this] at hov; simpa using hov.symm
                        subst eov
                        clear hwv hov
                        by_cases hil : i < ac2.length
                        · obtain ⟨gN, rfl, -, -⟩ := N2.form (by omega)
                          obtain ⟨gM, rfl, hgM, -⟩ := M2.form (by omega)
                          obtain ⟨a, u, hau⟩ : ∃ a u, ac2[i]? = some (a, u) := ⟨_, _, List.getElem?_eq_getElem hil⟩
                          have hc8 := N2.cellI (show (keysI ac2)[i]? = some (a : Int) by rw [keysI, List.getElem?_map, hau]; rfl)
                          have hc9 := M2.cellI (show (valsI ac2)[i]? = some (u : Int) by rw [valsI, List.getElem?_map, hau]; rfl)
                          have HAU := Lib.hid hau
                          clear hau
                          by_cases hao : a = o
                          · subst hao
                            obtain ⟨e1, e2⟩ := keys_hit (w := v) HNO.out HAU.out
                            have hub : u + v ≤ 137438953472 := by
                              have h1 := HWS.out
                              have h2 : (Til.insP a v ac2)[i]? = some (a, u + v) := by rw [ins_hit HNO.out HAU.out, List.getElem?_set_self (by omega)]
                              exact Nat.le_trans (waysP_get h2) h1
                            have HLN := Lib.hid (show (Til.insP a v ac2).length = ac2.length by rw [ins_hit HNO.out HAU.out, List.length_set])
                            have E1 := Lib.hid e1
                            have E2 := Lib.hid e2
                            have HB := Lib.hid OB
                            clear e1 e2 OB
                            go_wp2_with fail
                            go_quiet (fail)
                            have T3 := T2.drewN nq
                            have OS3 := OS.drewN nq
                            obtain ⟨wy, hwy⟩ : ∃ wy, wy = wi.drewN nq := ⟨_, rfl⟩
                            have hzy : wy.heap.size = wi.heap.size := by rw [hwy]; rfl
                            rw [← hwy] at T3 OS3
                            rw [← hwy]
                            clear T2 OS N2 M2 hc6 hc7 hc8 hc9 hwy
                            have M3 := T3.M
                            rw [vals_len'] at M3
                            have hc9 := M3.cellI (show (valsI ac2)[i]? = some (u : Int) by rw [valsI, List.getElem?_map, HAU.out]; rfl)
                            have hc10 := T3.Y.cellI (show (valsI l)[p]? = some (v : Int) by rw [valsI, List.getElem?_map, HSV.out]; rfl)
                            have hf9 := M3.frozen i
                            have T4 := (T3.setM i (by rw [vals_len']; exact hil) ((u : Int) + v)).drew
                            rw [← E1.out, ← E2.out] at T4
                            have OS4 := OS3.setFar (p := ⟨gM, i, none⟩) (fun b off hA e => (HB.out b off hA).2.2 (by rw [show b = gM from e]; rfl)) (.int .i64 ((u : Int) + v))
                            have HB4 := Lib.hid (show ∀ b off, (some ⟨b3, off3, none⟩ : Option Addr) = some ⟨b, off, none⟩ → b < (wy.setCell ⟨gM, i, none⟩ (.int .i64 ((u : Int) + v))).heap.size ∧ some b ≠ (some (⟨gN, 0, none⟩ : Addr)).map (·.block) ∧ some b ≠ (some (⟨gM, 0, none⟩ : Addr)).map (·.block) from fun b off hA => by
                              have h1 := HB.out b off hA
                              have h2 : b < wi.heap.size := by injection hA with hA; injection hA with hA _ _; omega
                              exact ⟨by rw [World.size_setCell]; omega, h1.2.1, h1.2.2⟩)
                            clear T3 OS3 M3
                            go_upto_region 33 with fail
                            go_region
                            all_goals
                              go_wp2_with fail
                              go_roundg (os.length - (j + 1))
                              case measure => omega
                              case rel => exact ⟨j + 1, some ⟨gN, 0, none⟩, some ⟨gM, 0, none⟩, qn, qm, by omega, rfl, by go_num, by rw [HSUC.out, HAC2.out, HLN.out], by rw [HSUC.out, HAC2.out, HLN.out], by rw [HSUC.out, HAC2.out]; exact T4, OS4, HB4.out⟩
                          · have hab : ((a : Int) != (o : Int)) = true := by rw [bne_iff_ne]; omega
                            have HAO := Lib.hid hao
                            clear hao
                            go_wp2_with fail
                            go_quiet (fail)
                            go_wp2_with fail
                            go_roundg (ac2.length - (i + 1))
                            case measure => omega
                            case rel => exact ⟨i + 1, by omega, rfl, by go_num, fun k hk p hp => by
                              by_cases e : k = i
                              · subst e
                                rw [HAU.out] at hp
                                injection hp with hp
                                subst hp
                                exact HAO.out
                              · exact HNO.out k (by omega) p hp, T2.drewN _, OS.drewN _, hb3⟩
                        · obtain rfl : i = ac2.length := by omega
                          go_wp2_with fail
                          go_quiet (fail)
                          have hfar5 : ∀ b off, (some ⟨b3, off3, none⟩ : Option Addr) = some ⟨b, off, none⟩ → some b ≠ NA.map (·.block) := fun b off hA => (OB b off hA).2.1
                          go_upto_region 33 with (first
                            | (at_builtin; refine wpList_append1 rfl (.tmp 142) (.tmp 147) 33 rfl 3 (.int .i64 0) 8 Try.underlying33 Try.infoInt rfl ((N2.drewN _).alloc _) rfl wi.heap.size _ rfl (cell0_new _ _ _) rfl (by omega) (by omega) (by simp; have := T2.zb; omega) ?_; intro NA' qn' w5 O5 hg5 hn5; have T5 := (T2.drewN _).pushN (grown_alloc hg5) (by rw [keys_len']; exact O5) hn5 (by simp); have M5 := T5.M; rw [vals_len'] at M5)
                            | (at_builtin; refine wpList_append1 rfl (.tmp 149) (.tmp 150) 33 rfl 3 (.int .i64 0) 8 Try.underlying33 Try.infoInt rfl (M5.alloc _) rfl w5.heap.size _ rfl (cell0_new _ _ _) rfl (by omega) (by omega) (by simp; have := T5.zb; omega) ?_; intro MA' qm' w6 O6 hg6 hn6))
                          have T6 := T5.pushM (grown_alloc hg6) (by rw [vals_len']; exact O6) hn6 (by simp)
                          have OS6 := (OS.drewN nq).grown (grown_alloc hg5) hfar5
                          have OS7 := OS6.grown (grown_alloc hg6) (fun b off hA => (OB b off hA).2.2)
                          have hb5 := hg5.size
                          have hb6 := hg6.size
                          simp only [World.size_alloc] at hb5 hb6
                          have hb7 : (wi.drewN nq).heap.size = wi.heap.size := rfl
                          have M6 := T6.M
                          rw [List.length_append, vals_len'] at M6
                          obtain ⟨gM, hgMe, hgM, -⟩ := M6.form (Nat.succ_pos _)
                          subst hgMe
                          have hc9 := M6.cellI (k := ac2.length) (x := 0) (by rw [List.getElem?_append_right (by rw [vals_len']; exact Nat.le_refl _), vals_len', Nat.sub_self]; rfl)
                          have hf9 := M6.frozen ac2.length
                          have hc10 := T6.Y.cellI (show (valsI l)[p]? = some (v : Int) by rw [valsI, List.getElem?_map, HSV.out]; rfl)
                          have T7 := (T6.setM ac2.length (by rw [List.length_append, vals_len']; exact Nat.lt_succ_self _) (v : Int)).drew
                          have OS8 := OS7.setFar (p := ⟨gM, ac2.length, none⟩) (fun b off hA e => near_ne hn6 (by have h2 : b < wi.heap.size := by { injection hA with hA; injection hA with hA _ _; omega }; simp; omega) (OB b off hA).2.2 (by rw [show b = gM from e]; rfl)) (.int .i64 (v : Int))
                          obtain ⟨e1, e2⟩ := keys_miss (o := o) (w := v) HNO.out
                          rw [show (valsI ac2 ++ [(0 : Int)]).set ac2.length (v : Int) = valsI ac2 ++ [(v : Int)] by rw [List.set_append_right _ _ (by rw [vals_len']; exact Nat.le_refl _), vals_len', Nat.sub_self]; rfl, ← e1, ← e2] at T7
                          have E1 := Lib.hid e1
                          have HLN := Lib.hid (show (Til.insP o v ac2).length = ac2.length + 1 by rw [ins_miss HNO.out, List.length_append]; rfl)
                          have hvb : v ≤ 137438953472 := by
                            refine Nat.le_trans (waysP_get (l := Til.insP o v ac2) (i := ac2.length) (s := o) ?_) HWS.out
                            rw [ins_miss HNO.out, List.getElem?_append_right (Nat.le_refl _), Nat.sub_self]; rfl
                          have OB8 : ∀ b off, (some ⟨b3, off3, none⟩ : Option Addr) = some ⟨b, off, none⟩ → b < (w6.setCell ⟨gM, ac2.length, none⟩ (.int .i64 (v : Int))).heap.size ∧ some b ≠ NA'.map (·.block) ∧ some b ≠ (some (⟨gM, 0, none⟩ : Addr)).map (·.block) := fun b off hA => by
                            have h1 := OB b off hA
                            have h2 : b < wi.heap.size := by injection hA with hA; injection hA with hA _ _; omega
                            exact ⟨by rw [World.size_setCell]; omega, near_ne hn5 (by simp; omega) h1.2.1, near_ne hn6 (by simp; omega) h1.2.2⟩
                          have HB8 := Lib.hid OB8
                          clear e1 e2 hn5 hn6 hg5 hg6 O5 O6 T5 M5 T6 M6 OS OS6 OS7 T2 N2 M2 hc6 hc7 hfar5 OB8
                          go_region
                          all_goals
                            go_wp2_with fail
                            go_roundg (os.length - (j + 1))
                            case measure => omega
                            case rel => exact ⟨j + 1, NA', some ⟨gM, 0, none⟩, qn', qm', by omega, rfl, by go_num, by rw [HSUC.out, HAC2.out, HLN.out], by rw [HSUC.out, HAC2.out, HLN.out], by rw [HSUC.out, HAC2.out]; exact T7, OS8, HB8.out⟩
                    · obtain rfl : j = os.length := by omega
                      have hfin : ac2 = accP W T bs k l (p + 1) := by rw [accP_succ HSV.out, HOS.out, HAC2.out]
                      go_wp2_with fail
                      go_roundg (l.length - (p + 1))
                      case measure => omega
                      case rel => exact ⟨p + 1, NA, MA, qn, qm, by omega, rfl, by go_num, by rw [← hfin], by rw [← hfin], by rw [← hfin]; exact T2⟩
          · obtain rfl : p = l.length := by omega
            have hfin : runP W T bs (k + 1) = acc := by rw [runP, HL.out, ← HACC.out, accP_all]
            go_wp2_with fail
            go_roundg (n - (k + 1))
            case measure => omega
            case rel => exact ⟨k + 1, NA, MA, qn, qm, by omega, rfl, by go_num, by rw [hfin], by rw [hfin], T1.R, by rw [hfin]; have := T1.N.sl; rwa [keys_len'] at this, by rw [hfin]; have := T1.M.sl; rwa [vals_len'] at this, fun b off hA => (T1.N.2 b off hA).2, fun b off hA => (T1.M.2 b off hA).2⟩
      · obtain rfl : k = n := by omega
        have hwk2 : waysP l ≤ 68719476736 := Nat.le_trans hwk (pow36 (by omega))
        have HWK := Lib.hid hwk2
        clear hwk hwk2
        go_wp2_with fail
        go_loopg [16, 17] l.length (fun gk s16 s17 wx => wo = wx ∧ ∃ i : Nat, i ≤ l.length ∧ gk = l.length - i ∧ s17 = .int .i64 i ∧ s16 = .int .i64 (Til.valP (fun s => if s = 0 then 1 else 0) (l.take i) : Nat))
        case atStart => exact ⟨rfl, 0, Nat.zero_le _, rfl, rfl, rfl⟩
        case round =>
          obtain ⟨rfl, i, hi, rfl, rfl, rfl⟩ := hrel
          have hsb : Til.valP (fun s => if s = 0 then 1 else 0) (l.take i) ≤ 68719476736 := Nat.le_trans (sumZ_le _) (Nat.le_trans (waysP_take l i) HWK.out)
          by_cases hil : i < l.length
          · obtain ⟨s, v, hsv⟩ : ∃ s v, l[i]? = some (s, v) := ⟨_, _, List.getElem?_eq_getElem hil⟩
            obtain ⟨b, off, x, rfl, hx, hc1⟩ := S.atI hil
            obtain ⟨b2, off2, y, rfl, hy, hc2⟩ := Y.atI hil
            have ex : x = (s : Int) := by rw [keysI, List.getElem?_map, hsv] at hx; simpa using hx.symm
            have ey : y = (v : Int) := by rw [valsI, List.getElem?_map, hsv] at hy; simpa using hy.symm
            subst ex ey
            have hvb : v ≤ 68719476736 := Nat.le_trans (waysP_get hsv) HWK.out
            have HT := Lib.hid (take_snoc hsv)
            clear hx hy hsv
            by_cases hs0 : s = 0
            · subst hs0
              go_wp2_with fail
              go_roundg (l.length - (i + 1))
              case measure => omega
              case rel => exact ⟨rfl, i + 1, by omega, rfl, by go_num, by rw [HT.out, valP_snoc]; first | go_num | simp⟩
            · have hs1 : ((s : Int) == 0) = false := by rw [beq_eq_false_iff_ne]; omega
              have HS0 := Lib.hid hs0
              clear hs0
              go_wp2_with fail
              go_roundg (l.length - (i + 1))
              case measure => omega
              case rel => exact ⟨rfl, i + 1, by omega, rfl, by go_num, by rw [HT.out, valP_snoc, if_neg HS0.out]; go_num⟩
          · obtain rfl : i = l.length := by omega
            go_wp2_with fail
            go_ret
            exact ⟨ret_i (by rw [E.out, List.take_length, ← HL.out, Til.run_total v0 HVL.out]), R.B⟩
  · have E : Hid (tilF W T n bs = -1) := by show _ = _; rw [tilF, if_neg hv]
    have hv' : validB W T n bs = false := by simpa using hv
    have HV := Lib.hid hv'
    clear hv hv' hl
    go_enter Try.func15, Try.ntmps15
    go_wp2_with fail
    refine (valid_spec A n c W T bs _ (by omega) (h.alloc _)).mono ?_; rintro e w1 ⟨rfl, hb1⟩
    rw [HV.out]
    go_wp2_with fail
    go_ret
    exact ⟨ret_i E.out.symm, belowW (below1 w _) hb1⟩

end Go.Proofs.Ytcnkpcnbobiodaa
