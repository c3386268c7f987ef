/-
  PartsProduct, both sides: what it returns.
-/
import Derived.Test.YtcnkpcnbobiodaaProdP
import Derived.Test.YtcnkpcnbobiodaaPRegS
import Derived.Test.YtcnkpcnbobiodaaSpT
namespace Go.Proofs.Ytcnkpcnbobiodaa
open Go.RowKit

theorem prod_step_no {W T n k : Nat} {bs : List Bool} (h : (Parts.lab (partL W T bs) k == (k : Int)) = false) : prodL W T n bs (k + 1) = prodL W T n bs k := by rw [prodL, h]; rfl
theorem prod_step_yes {W T n k : Nat} {bs : List Bool} (h : (Parts.lab (partL W T bs) k == (k : Int)) = true) : prodL W T n bs (k + 1) = wrap64 (prodL W T n bs k * (Til.cntA W T n 0 (pregL (partL W T bs) k n) : Nat)) := by rw [prodL, h]; rfl

set_option maxRecDepth 100000 in
set_option maxHeartbeats 4000000 in
theorem prod_impl (A : Option Addr) (n c : Nat) (W T : Int) (bs : List Bool) (w : World) (hn : n ≤ 1048576) (h : Sl w A n (bs.map .bool)) :
    Calls Try.prog 22 #[.agg #[.int .i64 W, .int .i64 T, .slice A n c]] w fun e w' => e = .returned (.int .i64 (prodF W T n bs)) ∧ Below w.heap.size w w' := by
  have hl := h.1
  rw [List.length_map] at hl
  by_cases hv : validB W T n bs = true
  · obtain ⟨W, T, rfl, rfl, V⟩ := valid_of hv hl
    have n36 := V.n36
    have HV := Lib.hid hv
    have E : Hid (prodF W T n bs = prodL W T n bs n) := by show _ = _; rw [prodF, if_pos hv]; rfl
    clear hl hv
    go_enter Try.func22, Try.ntmps22
    go_wp2_with fail
    refine (valid_impl A n c W T bs _ (by omega) (h.alloc _)).mono ?_; rintro e w1 ⟨rfl, hb1⟩
    rw [HV.out]
    have R1 := P1.of hb1
    clear hb1
    have k1 := R1.X.1
    have k2 := R1.X.2.1
    have k3 := R1.X.2.2
    go_wp2_with fail
    go_loopg [3, 4, 5, 6, 13] n (fun gk s3 _ _ _ s13 wx => ∃ k : Nat, k ≤ n ∧ gk = n - k ∧ s13 = .int .i64 k ∧ s3 = .int .i64 (prodL W T n bs k) ∧ P1 w (.int .i64 W) (.int .i64 T) (.slice A n c) wx)
    case atStart => exact ⟨0, Nat.zero_le _, rfl, rfl, rfl, R1⟩
    case round =>
      clear R1 k1 k2 k3
      obtain ⟨k, hk, rfl, rfl, rfl, R⟩ := hrel
      have k1 := R.X.1
      have k2 := R.X.2.1
      have k3 := R.X.2.2
      by_cases hlt : k < n
      · obtain ⟨g, hg⟩ : ∃ g, (Parts.lab (partL W T bs) k == (k : Int)) = g := ⟨_, rfl⟩
        have hpt := part_there V hlt
        rw [hg] at hpt
        have HP := Lib.hid hpt
        have HG := Lib.hid hg
        obtain ⟨pv, hpv⟩ : ∃ pv, prodL W T n bs k = pv := ⟨_, rfl⟩
        rw [hpv]
        have HPV := Lib.hid hpv
        clear hpt hg hpv
        go_wp2_with fail
        refine (preg_impl A n c W T bs k _ hn (h.below R.B) ⟨by omega, by omega⟩).mono ?_; rintro e w3 ⟨D, d, d0, rfl, own, hb3, hle⟩
        have R3 := R.below hb3
        rw [HP.out]
        clear R k1 k2 k3 hb3
        cases g
        · have HS := Lib.hid (prod_step_no (n := n) HG.out)
          go_wp2_with fail
          go_roundg (n - (k + 1))
          case measure => omega
          case rel => exact ⟨k + 1, by omega, rfl, by go_num, by rw [HS.out, HPV.out], R3.alloc _⟩
        · have HS := Lib.hid (prod_step_yes (n := n) HG.out)
          obtain ⟨e1, e2, e3⟩ := preg_yes HP.out
          rw [Int.toNat_natCast, Int.toNat_natCast] at e3
          rw [e3, pregL_len] at own
          rw [e1, e2, e3, pregL_len]
          have V2 := preg_valid V (k : Int)
          have x3 := Box.new w3 (.int .i64 W) (.int .i64 T) (.slice D n d) 27
          have j1 := x3.1
          have j2 := x3.2.1
          have j3 := x3.2.2
          clear e1 e2 e3
          go_wp2_with fail
          refine (total_any D n d W T (pregL (partL W T bs) k n) _ V2 (own.sl.alloc _)).mono ?_; rintro e w4 ⟨rfl, hb4⟩
          have R4 := (R3.alloc (.cells #[.int .i64 W, .int .i64 T, .slice D n d] 27)).below hb4
          clear x3 j1 j2 j3 R3 own hb4
          go_wp2_with fail
          go_roundg (n - (k + 1))
          case measure => omega
          case rel => exact ⟨k + 1, by omega, rfl, by go_num, by rw [HS.out, HPV.out] <;> rfl, R4⟩
      · obtain rfl : k = n := by omega
        go_wp2_with fail
        go_ret
        exact ⟨ret_i E.out.symm, R.B⟩
  · have E : Hid (prodF W T n bs = -1) := by show _ = _; rw [prodF, if_neg hv]
    have hv' : validB W T n bs = false := by simpa using hv
    have HV := Lib.hid hv'
    clear hv hv' hl
    go_enter Try.func22, Try.ntmps22
    go_wp2_with fail
    refine (valid_impl A n c W T bs _ (by omega) (h.alloc _)).mono ?_; rintro e w1 ⟨rfl, hb1⟩
    rw [HV.out]
    go_wp2_with fail
    go_ret
    exact ⟨ret_i E.out.symm, belowW (below1 w _) hb1⟩

set_option maxRecDepth 100000 in
set_option maxHeartbeats 4000000 in
theorem prod_spec (A : Option Addr) (n c : Nat) (W T : Int) (bs : List Bool) (w : World) (hn : n ≤ 1048576) (h : Sl w A n (bs.map .bool)) :
    Calls Try.prog 21 #[.agg #[.int .i64 W, .int .i64 T, .slice A n c]] w fun e w' => e = .returned (.int .i64 (prodF W T n bs)) ∧ Below w.heap.size w w' := by
  have hl := h.1
  rw [List.length_map] at hl
  by_cases hv : validB W T n bs = true
  · obtain ⟨W, T, rfl, rfl, V⟩ := valid_of hv hl
    have n36 := V.n36
    have HV := Lib.hid hv
    have E : Hid (prodF W T n bs = prodL W T n bs n) := by show _ = _; rw [prodF, if_pos hv]; rfl
    have EF : Hid (partsF W T n bs = partL W T bs) := by show _ = _; rw [partsF, if_pos hv]; rfl
    have HLE := Lib.hid (show (partL W T bs).length = n by rw [partL, partAt_len]; exact V.size.symm)
    clear hl hv
    go_enter Try.func21, Try.ntmps21
    go_wp2_with fail
    refine (valid_spec A n c W T bs _ (by omega) (h.alloc _)).mono ?_; rintro e w1 ⟨rfl, hb1⟩
    rw [HV.out]
    have R1 := P1.of hb1
    clear hb1
    have k1 := R1.X.1
    have k2 := R1.X.2.1
    have k3 := R1.X.2.2
    go_wp2_with fail
    refine (partsOf_spec A n c W T bs _ hn (h.below R1.B)).mono ?_; rintro e w2 ⟨P, d, d0, rfl, ownP, hb2, -⟩
    have R2 := R1.below hb2
    rw [EF.out, HLE.out] at ownP
    rw [EF.out, HLE.out]
    have sP := ownP.sl
    clear hb2 R1 k1 k2 k3 ownP
    go_wp2_with fail
    go_loopg [3, 5, 6, 7] n (fun gk s3 s13 _ _ wx => ∃ k : Nat, k ≤ n ∧ gk = n - k ∧ s13 = .int .i64 k ∧ s3 = .int .i64 (prodL W T n bs k) ∧ P1 w (.int .i64 W) (.int .i64 T) (.slice A n c) wx ∧ Sl wx P n ((partL W T bs).map (.int .i64)))
    case atStart => exact ⟨0, Nat.zero_le _, rfl, rfl, rfl, R2, sP⟩
    case round =>
      clear R2 sP
      obtain ⟨k, hk, rfl, rfl, rfl, R, sP⟩ := hrel
      have k1 := R.X.1
      have k2 := R.X.2.1
      have k3 := R.X.2.2
      by_cases hlt : k < n
      · obtain ⟨bp, offp, z, rfl, hz, hc⟩ := sP.atI hlt
        obtain ⟨g, hg⟩ : ∃ g, (z == (k : Int)) = g := ⟨_, rfl⟩
        have hg2 : (Parts.lab (partL W T bs) k == (k : Int)) = g := by rw [lab_get hz]; exact hg
        have hpt := part_there V hlt
        rw [hg2] at hpt
        have HP := Lib.hid hpt
        have HG := Lib.hid hg2
        obtain ⟨pv, hpv⟩ : ∃ pv, prodL W T n bs k = pv := ⟨_, rfl⟩
        rw [hpv]
        have HPV := Lib.hid hpv
        clear hpt hg2 hpv hz
        cases g
        · have HS := Lib.hid (prod_step_no (n := n) HG.out)
          go_wp2_with fail
          go_roundg (n - (k + 1))
          case measure => omega
          case rel => exact ⟨k + 1, by omega, rfl, by go_num, by rw [HS.out, HPV.out], R, sP⟩
        · have HS := Lib.hid (prod_step_yes (n := n) HG.out)
          go_wp2_with fail
          refine (preg_spec A n c W T bs k _ hn (h.below R.B) ⟨by omega, by omega⟩).mono ?_; rintro e w3 ⟨D, d, d0, rfl, own, hb3, hle⟩
          have R3 := R.below hb3
          have sP3 := sP.below hb3
          rw [HP.out]
          clear R k1 k2 k3 hb3 sP hc
          obtain ⟨e1, e2, e3⟩ := preg_yes HP.out
          rw [Int.toNat_natCast, Int.toNat_natCast] at e3
          rw [e3, pregL_len] at own
          rw [e1, e2, e3, pregL_len]
          have V2 := preg_valid V (k : Int)
          have HTV := Lib.hid (show tilF W T n (pregL (partL W T bs) k n) = (Til.cntA W T n 0 (pregL (partL W T bs) k n) : Nat) by rw [tilF, if_pos V2.ok]; rfl)
          have x3 := Box.new w3 (.int .i64 W) (.int .i64 T) (.slice D n d) 27
          have j1 := x3.1
          have j2 := x3.2.1
          have j3 := x3.2.2
          clear e1 e2 e3
          go_wp2_with fail
          refine (til_many_spec D n d W T (pregL (partL W T bs) k n) _ hn (own.sl.alloc _)).mono ?_; rintro e w4 ⟨rfl, hb4⟩
          rw [HTV.out]
          have R4 := (R3.alloc (.cells #[.int .i64 W, .int .i64 T, .slice D n d] 27)).below hb4
          have sP4 := (sP3.alloc (.cells #[.int .i64 W, .int .i64 T, .slice D n d] 27)).below hb4
          clear x3 j1 j2 j3 R3 own hb4 sP3
          go_wp2_with fail
          go_roundg (n - (k + 1))
          case measure => omega
          case rel => exact ⟨k + 1, by omega, rfl, by go_num, by rw [HS.out, HPV.out] <;> rfl, R4, sP4⟩
      · obtain rfl : k = n := by omega
        go_wp2_with fail
        go_ret
        exact ⟨ret_i E.out.symm, R.B⟩
  · have E : Hid (prodF W T n bs = -1) := by show _ = _; rw [prodF, if_neg hv]
    have hv' : validB W T n bs = false := by simpa using hv
    have HV := Lib.hid hv'
    clear hv hv' hl
    go_enter Try.func21, Try.ntmps21
    go_wp2_with fail
    refine (valid_spec A n c W T bs _ (by omega) (h.alloc _)).mono ?_; rintro e w1 ⟨rfl, hb1⟩
    rw [HV.out]
    go_wp2_with fail
    go_ret
    exact ⟨ret_i E.out.symm, belowW (below1 w _) hb1⟩

end Go.Proofs.Ytcnkpcnbobiodaa
