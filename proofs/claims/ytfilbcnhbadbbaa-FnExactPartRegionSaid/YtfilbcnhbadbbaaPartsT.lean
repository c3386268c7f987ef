/-
  PartsOf and PartsMany of the reference, for every region: what they return.
-/
import Derived.Test.YtfilbcnhbadbbaaPartsS
namespace Go.Proofs.Ytfilbcnhbadbbaa
open Go.RowKit

theorem partsOf_spec (A : Option Addr) (n c : Nat) (W T : Int) (bs : List Bool) (w : World) (hn : n ≤ 1048576) (h : Sl w A n (bs.map .bool)) :
    Calls Try.prog 41 #[.agg #[.int .i64 W, .int .i64 T, .slice A n c]] w fun e w' => OutL w w' e (partsF W T n bs) := by
  have hl := h.1
  rw [List.length_map] at hl
  by_cases hv : validB W T n bs = true
  · obtain ⟨W, T, rfl, rfl, V⟩ := valid_of hv hl
    have E : partsF W T n bs = partL W T bs := by rw [partsF, if_pos hv]; rfl
    rw [E]
    exact partsOf_spec_ok A n c W T bs w V h
  · have hv' : validB W T n bs = false := by simpa using hv
    have E : partsF W T n bs = [] := by rw [partsF, hv']; rfl
    rw [E]
    have HV := Lib.hid hv'
    have o0 : Own ((w.alloc (.cells #[.int .i64 W, .int .i64 T, .slice A n c] 25)).alloc (.cells #[] 3)) (w.heap.size + 1) (w.heap.size + 2) 3 (some ⟨w.heap.size + 1, 0, none⟩) 0 0 [] := by
      simpa using Own.made (w := w.alloc (.cells #[.int .i64 W, .int .i64 T, .slice A n c] 25)) (base := w.heap.size + 1) (e := 3) (cs := #[]) (n := 0) (by simp) (by unfold maxLen; omega) rfl
    clear hv hv' hl E
    go_enter Try.func41, Try.ntmps41
    go_wp2_with fail
    refine (valid_spec A n c W T bs _ (by omega) ((h.alloc _).alloc _)).mono ?_; rintro e w1 ⟨rfl, hb1⟩
    rw [HV.out]
    have o1 := (o0.below hb1).top (show w.heap.size + 2 ≤ w1.heap.size by have := hb1.size; simpa using this)
    go_wp2_with fail
    go_ret
    exact OutL.mk rfl (by omega) (by simpa using o1.base (show w.heap.size ≤ w.heap.size + 1 by omega)) (belowW (belowA (below1 w _)) hb1)

set_option maxHeartbeats 400000 in
theorem partsMany_spec (A : Option Addr) (n c : Nat) (W T : Int) (bs : List Bool) (w : World) (hn : n ≤ 1048576) (h : Sl w A n (bs.map .bool)) :
    Calls Try.prog 39 #[.agg #[.int .i64 W, .int .i64 T, .slice A n c]] w fun e w' => e = .returned (.int .i64 (partsManyF W T n bs)) ∧ Below w.heap.size w w' := by
  have hl := h.1
  rw [List.length_map] at hl
  by_cases hv : validB W T n bs = true
  · obtain ⟨W, T, rfl, rfl, V⟩ := valid_of hv hl
    have E : Hid (partsManyF W T n bs = ownN (partL W T bs) n) := by show _ = _; rw [partsManyF, if_pos hv]; rfl
    have HV := Lib.hid hv
    have hlen : (partL W T bs).length = n := by rw [partL, partAt_len]; exact V.size.symm
    have n36 := V.n36
    clear hl hv
    go_enter Try.func39, Try.ntmps39
    go_wp2_with fail
    refine (valid_spec A n c W T bs _ (by omega) (h.alloc _)).mono ?_; rintro e w1 ⟨rfl, hb1⟩
    rw [HV.out]
    have R1 := P1.of hb1
    clear hb1
    have k1 := R1.X.1
    have k2 := R1.X.2.1
    have k3 := R1.X.2.2
    go_wp2_with fail
    refine (partsOf_spec_ok A n c W T bs _ V (h.below R1.B)).mono ?_; rintro e w2 ⟨D, d, d0, rfl, own, hb2, hm⟩
    have B2 := belowW R1.B hb2
    rw [hlen] at own
    rw [hlen]
    have HLE := Lib.hid hlen
    clear hb2 hm hlen R1 k1 k2 k3
    go_wp2_with fail
    go_loop [3, 5] (fun s i => ∃ k : Nat, k ≤ n ∧ i = .int .i64 k ∧ s = .int .i64 (ownN (partL W T bs) k)) (fun _ i => n - (intOf i).toNat)
    case atStart => exact ⟨0, Nat.zero_le _, rfl, rfl⟩
    case round =>
      obtain ⟨k, hk, rfl, rfl⟩ := hrel
      have hb := ownN_le (partL W T bs) k
      by_cases hlt : k < n
      · obtain ⟨b, off, z, rfl, hz, hc⟩ := own.sl.atI hlt
        have HZ := Lib.hid (lab_get hz)
        clear hz
        cases hzk : (z == ((k : Nat) : Int))
        · have HE := Lib.hid hzk
          go_wp2_with fail
          go_round
          case rel => exact ⟨k + 1, by omega, by go_num, by rw [ownN, HZ.out, HE.out]; rfl⟩
          case measure => simp [intOf]; omega
        · obtain rfl : z = (k : Int) := by simpa using hzk
          clear hzk
          go_wp2_with fail
          go_round
          case rel => exact ⟨k + 1, by omega, by go_num, by rw [ownN, HZ.out, beq_self_eq_true, if_pos rfl]; go_num⟩
          case measure => simp [intOf]; omega
      · have e : k = n := by omega
        subst e
        go_wp2_with fail
        go_ret
        exact ⟨ret_i E.out.symm, B2⟩
  · have hv' : validB W T n bs = false := by simpa using hv
    have E : Hid (partsManyF W T n bs = -1) := by show _ = _; rw [partsManyF, hv']; rfl
    have HV := Lib.hid hv'
    clear hv hv' hl
    go_enter Try.func39, Try.ntmps39
    go_wp2_with fail
    refine (valid_spec A n c W T bs _ (by omega) (h.alloc _)).mono ?_; rintro e w1 ⟨rfl, hb1⟩
    rw [HV.out]
    go_wp2_with fail
    go_ret
    exact ⟨ret_i E.out.symm, belowW (below1 w _) hb1⟩


end Go.Proofs.Ytfilbcnhbadbbaa
