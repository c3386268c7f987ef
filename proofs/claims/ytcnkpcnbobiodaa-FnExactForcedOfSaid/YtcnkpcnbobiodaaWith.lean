/-
  TilingsWith, both sides: what it returns.
-/
import Derived.Test.YtcnkpcnbobiodaaTilA
import Derived.Test.YtcnkpcnbobiodaaTot
import Derived.Test.YtcnkpcnbobiodaaLess
import Derived.Test.YtcnkpcnbobiodaaStepAll
import Derived.Test.YtcnkpcnbobiodaaSpT
namespace Go.Proofs.Ytcnkpcnbobiodaa
open Go.RowKit

/-- How many tilings have a domino. -/
def withF (W T : Int) (n : Nat) (bs : List Bool) (x y : Int) : Int :=
  if validB W T n bs then (if freeB W.toNat T.toNat n bs (List.replicate n 0) x y then ((Til.cntA W.toNat T.toNat n 0 (lessL bs [x.toNat, (stepF W.toNat T.toNat x.toNat y).toNat]) : Nat) : Int) else 0) else -1

theorem ent_zero (n i : Nat) : ent (List.replicate n 0) i = 0 := by unfold ent; rw [List.getElem?_replicate]; split <;> rfl
theorem with_cnt {W T n k j : Nat} {bs : List Bool} {way : Int} (_hn : bs.length = n) (hk : k < n) (hs : stepF W T k way = (j : Int)) (hj : j < n) (h1 : 1 ≤ way) :
    Til.cntA W T n 0 (Til.avL bs (layL W T (List.replicate n 0) k way)) = Til.cntA W T n 0 (lessL bs [k, (stepF W T k way).toNat]) := by
  refine Til.cntA_eq fun i _ => ?_
  have hb := backF_bd way
  rw [Til.on_avL, on_lessL, Til.ent_layL (by simpa using hk) hs (by simpa using hj), hs, Int.toNat_natCast, ent_zero]
  by_cases e1 : i = j
  · subst e1
    rw [if_pos rfl, show (backF way == 0) = false by rw [beq_eq_false_iff_ne]; omega]
    simp
  · rw [if_neg e1]
    by_cases e2 : i = k
    · subst e2
      rw [if_pos rfl, show (way == 0) = false by rw [beq_eq_false_iff_ne]; omega]
      simp
    · rw [if_neg e2]
      simp [e1, e2]

set_option maxHeartbeats 2000000 in
theorem with_impl (A : Option Addr) (n c : Nat) (W T : Int) (bs : List Bool) (x y : Int) (w : World) (hn : n ≤ 1048576) (h : Sl w A n (bs.map .bool)) (hx : I64 x) (_hy : I64 y) :
    Calls Try.prog 20 #[.agg #[.int .i64 W, .int .i64 T, .slice A n c], .int .i64 x, .int .i64 y] w fun e w' => e = .returned (.int .i64 (withF W T n bs x y)) ∧ Below w.heap.size w w' := by
  have hl := h.1
  rw [List.length_map] at hl
  by_cases hv : validB W T n bs = true
  · obtain ⟨W, T, rfl, rfl, V⟩ := valid_of hv hl
    have n36 := V.n36
    have HV := Lib.hid hv
    have hmk := run_make_row' (P := Try.prog) 33 3 (.int .i64 0) 8 Try.underlying33 Try.infoInt rfl .i64 .i64 n (by omega) (by omega)
    cases hf : freeB W T n bs (List.replicate n 0) x y
    · have E : Hid (withF W T n bs x y = 0) := by show _ = _; rw [withF, if_pos hv, Int.toNat_natCast, Int.toNat_natCast, hf]; rfl
      have HF := Lib.hid hf
      clear hl hv hf
      go_enter Try.func20, Try.ntmps20
      go_wp2_with fail
      refine (valid_impl A n c W T bs _ (by omega) (h.alloc _)).mono ?_; rintro e w1 ⟨rfl, hb1⟩
      rw [HV.out]
      have R1 := P1.of hb1
      clear hb1
      have k1 := R1.X.1
      have k2 := R1.X.2.1
      have k3 := R1.X.2.2
      have l1 := R1.X.lt
      have l2 := Nat.ne_of_lt l1
      go_wp2_with fail
      refine (free_any A n c W T bs (some ⟨w1.heap.size, 0, none⟩) n (List.replicate n 0) x y _ V ((h.below R1.B).alloc _) (zeros_sl n36) hx).mono ?_; rintro e w2 ⟨rfl, hb2⟩
      rw [HF.out]
      go_wp2_with fail
      go_ret
      exact ⟨ret_i E.out.symm, belowW (belowA R1.B) hb2⟩
    · have hf' := hf
      rw [freeB, Bool.and_eq_true] at hf'
      obtain ⟨hi, hf'⟩ := hf'
      have b := inB_iff.1 hi
      obtain ⟨k, rfl⟩ := Int.eq_ofNat_of_zero_le b.1
      have hk : k < n := by omega
      obtain ⟨j, hs, hj, w0, w4⟩ := free_step V hk hf'
      have E : Hid (withF W T n bs k y = (Til.cntA W T n 0 (lessL bs [k, (stepF W T k y).toNat]) : Nat)) := by show _ = _; rw [withF, if_pos hv, Int.toNat_natCast, Int.toNat_natCast, hf, if_pos rfl]; rfl
      have HC := Lib.hid (with_cnt (W := W) (T := T) V.len hk hs hj w0)
      have HS := Lib.hid hs
      have HF := Lib.hid hf
      clear hl hv hf hf' hi b hs
      go_enter Try.func20, Try.ntmps20
      go_wp2_with fail
      refine (valid_impl A n c W T bs _ (by omega) (h.alloc _)).mono ?_; rintro e w1 ⟨rfl, hb1⟩
      rw [HV.out]
      have R1 := P1.of hb1
      clear hb1
      have k1 := R1.X.1
      have k2 := R1.X.2.1
      have k3 := R1.X.2.2
      have l1 := R1.X.lt
      have l2 := Nat.ne_of_lt l1
      go_wp2_with fail
      have sz := zeros_sl (w := w1) n36
      have R2 := R1.alloc (.cells (madeCells #[.int .i64 0] n) 3)
      refine (free_any A n c W T bs (some ⟨w1.heap.size, 0, none⟩) n (List.replicate n 0) k y _ V (h.below R2.B) sz hx).mono ?_; rintro e w2 ⟨rfl, hb2⟩
      rw [HF.out]
      have R3 := R2.below hb2
      have sz3 := sz.below hb2
      have s3 := h.below R3.B
      clear hb2 sz R2 R1 k1 k2 k3
      have k1 := R3.X.1
      have k2 := R3.X.2.1
      have k3 := R3.X.2.2
      go_wp2_with fail
      go_region_held3 (fun w' => w'.cell? ⟨w.heap.size, 0, none⟩ = some (.int .i64 W) ∧ w'.cell? ⟨w.heap.size, 1, none⟩ = some (.int .i64 T) ∧ w'.cell? ⟨w.heap.size, 2, none⟩ = some (.slice A n c))
        (first | exact ⟨k1, k2, k3⟩ | go_keep)
        (first
          | (go_at_call 57; refine (count_any A n c W T bs D q (layL W T (List.replicate n 0) k y) _ V (h.below R4.B) (by have s := own.sl; rw [Til.layL_len, List.length_replicate] at s; exact s)).mono ?_; rintro e w5 ⟨rfl, hb5⟩; have R5 := R4.below hb5; have r1 := R5.X.1; have r2 := R5.X.2.1; have r3 := R5.X.2.2)
          | (go_at_call 58; refine (lay_any A n c W T bs (some ⟨w1.heap.size, 0, none⟩) n (List.replicate n 0) k j y _ V sz3.drew hk HS.out hj w0 w4).mono ?_; rintro e w4' ⟨D, q, q0, rfl, own, hb4, hle⟩; have R4 := R3.drew.below hb4; have q1 := R4.X.1; have q2 := R4.X.2.1; have q3 := R4.X.2.2; rw [Til.layL_len, List.length_replicate])
          | fail)
      all_goals go_wp2_with fail
      go_ret
      exact ⟨ret_i (by rw [E.out, HC.out]), R5.B⟩
  · have E : Hid (withF W T n bs x y = -1) := by show _ = _; rw [withF, if_neg hv]
    have hv' : validB W T n bs = false := by simpa using hv
    have HV := Lib.hid hv'
    clear hv hv' hl
    go_enter Try.func20, Try.ntmps20
    go_wp2_with fail
    refine (valid_impl A n c W T bs _ (by omega) (h.alloc _)).mono ?_; rintro e w1 ⟨rfl, hb1⟩
    rw [HV.out]
    go_wp2_with fail
    go_ret
    exact ⟨ret_i E.out.symm, belowW (below1 w _) hb1⟩

set_option maxHeartbeats 2000000 in
theorem with_spec (A : Option Addr) (n c : Nat) (W T : Int) (bs : List Bool) (x y : Int) (w : World) (hn : n ≤ 1048576) (h : Sl w A n (bs.map .bool)) (hx : I64 x) (hy : I64 y) :
    Calls Try.prog 19 #[.agg #[.int .i64 W, .int .i64 T, .slice A n c], .int .i64 x, .int .i64 y] w fun e w' => e = .returned (.int .i64 (withF W T n bs x y)) ∧ Below w.heap.size w w' := by
  have hl := h.1
  rw [List.length_map] at hl
  by_cases hv : validB W T n bs = true
  · obtain ⟨W, T, rfl, rfl, V⟩ := valid_of hv hl
    have n36 := V.n36
    have HV := Lib.hid hv
    have E : withF W T n bs x y = (if freeB W T n bs (List.replicate n 0) x y then ((Til.cntA W T n 0 (lessL bs [x.toNat, (stepF W T x.toNat y).toNat]) : Nat) : Int) else 0) := by rw [withF, if_pos hv]; rfl
    obtain ⟨t, ht⟩ : ∃ t, stepToF W T n bs x y = t := ⟨_, rfl⟩
    obtain ⟨V1, hV1⟩ : ∃ V1, withF W T n bs x y = V1 := ⟨_, rfl⟩
    rw [hV1] at E
    rw [hV1]
    have HE := Lib.hid E
    clear E hV1
    have hnone : t < 0 → V1 = 0 := by
      intro h0
      rw [HE.out]
      have hf : freeB W T n bs (List.replicate n 0) x y = false := by
        rw [stepToF, if_pos hv] at ht
        rw [freeB]
        cases hi : inB x 0 ((n : Int) - 1)
        · rfl
        · rw [hi, if_pos rfl, Int.toNat_natCast, Int.toNat_natCast] at ht
          rw [freeK, ht, decide_eq_false (by omega)]; rfl
      rw [hf]; rfl
    have HNONE := Lib.hid hnone
    have hsome : 0 ≤ t → ∃ k j : Nat, x = (k : Int) ∧ t = (j : Int) ∧ k < n ∧ j < n ∧ V1 = (if onR bs k && onR bs j then ((Til.cntA W T n 0 (lessL bs [k, j]) : Nat) : Int) else 0) := by
      intro h0
      rw [stepToF, if_pos hv] at ht
      cases hi : inB x 0 ((n : Int) - 1)
      · rw [hi] at ht
        have : t = -1 := by rw [← ht]; rfl
        omega
      · rw [hi, if_pos rfl, Int.toNat_natCast, Int.toNat_natCast] at ht
        have b := inB_iff.1 hi
        obtain ⟨k, rfl⟩ := Int.eq_ofNat_of_zero_le b.1
        rw [Int.toNat_natCast] at ht
        have hk : k < n := by omega
        obtain ⟨t1, t2⟩ := stepF_bound (way := y) V.w0 (show k < W * T by rw [← V.size]; exact hk)
        obtain ⟨j, rfl⟩ := Int.eq_ofNat_of_zero_le h0
        have hj : j < n := by have := V.size; omega
        refine ⟨k, j, rfl, rfl, hk, hj, ?_⟩
        rw [HE.out, freeB, hi, Int.toNat_natCast, freeK, ht, Int.toNat_natCast, ent_zero, ent_zero]
        simp
    have HSOME := Lib.hid hsome
    have HT := Lib.hid ht
    clear hl hv hnone hsome ht
    go_enter Try.func19, Try.ntmps19
    go_wp2_with fail
    refine (valid_spec A n c W T bs _ (by omega) (h.alloc _)).mono ?_; rintro e w1 ⟨rfl, hb1⟩
    rw [HV.out]
    have R1 := P1.of hb1
    clear hb1
    have k1 := R1.X.1
    have k2 := R1.X.2.1
    have k3 := R1.X.2.2
    go_wp2_with fail
    refine (stepTo_spec A n c W T bs x y _ hn (h.below R1.B) hx hy).mono ?_; rintro e w2 ⟨rfl, hb2⟩
    rw [HT.out]
    have R2 := R1.below hb2
    clear R1 hb2 k1 k2 k3
    have k1 := R2.X.1
    have k2 := R2.X.2.1
    have k3 := R2.X.2.2
    by_cases h0 : t < 0
    · have hd : decide (t < 0) = true := decide_eq_true h0
      have e := HNONE.out h0
      subst e
      go_wp2_with fail
      go_ret
      exact ⟨rfl, R2.B⟩
    · obtain ⟨k, j, rfl, rfl, hk, hj, eV⟩ := HSOME.out (by omega)
      have hd : decide ((j : Int) < 0) = false := decide_eq_false (by omega)
      have j0 : (0 : Int) ≤ (j : Int) := by omega
      have j1 : (j : Int) < (n : Int) := by omega
      have i0 : (0 : Int) ≤ (k : Int) := by omega
      have i1 : (k : Int) < (n : Int) := by omega
      obtain ⟨b, off, p, rfl, hp, hc1⟩ := (h.below R2.B).atB hk
      obtain ⟨b2, off2, q, hA, hq, hc2⟩ := (h.below R2.B).atB hj
      injection hA with hA
      injection hA with hA1 hA2 _
      subst hA1 hA2
      rw [onR_of hp, onR_of hq] at eV
      have EV := Lib.hid eV
      clear eV hp hq h0
      cases p
      · have e : V1 = 0 := EV.out
        subst e
        go_wp2_with fail
        go_ret
        exact ⟨rfl, R2.B⟩
      · cases q
        · have e : V1 = 0 := EV.out
          subst e
          go_wp2_with fail
          go_ret
          exact ⟨rfl, R2.B⟩
        · have e : V1 = (Til.cntA W T n 0 (lessL bs [k, j]) : Nat) := EV.out
          have VL := less_valid V [k, j]
          have HVL := Lib.hid (show tilF W T n (lessL bs [k, j]) = (Til.cntA W T n 0 (lessL bs [k, j]) : Nat) by rw [tilF, if_pos VL.ok]; rfl)
          have HEV := Lib.hid e
          clear e
          go_wp2_with fail
          have sk : Sl (w2.alloc (.cells #[.int .i64 k, .int .i64 j] 3)) (some ⟨w2.heap.size, 0, none⟩) 2 (([k, j].map fun (k : Nat) => (k : Int)).map (.int .i64)) := (Own.made (w := w2) (base := w2.heap.size) (e := 3) (cs := #[.int .i64 k, .int .i64 j]) (n := 2) (Nat.le_refl _) (by unfold maxLen; omega) rfl).sl
          refine (less_any (some ⟨b, off, none⟩) n c W T bs (some ⟨w2.heap.size, 0, none⟩) 2 2 [k, j] _ V ((h.below R2.B).alloc _) sk (by intro i hi; simp at hi; omega) (by omega)).mono ?_; rintro e w3 ⟨D, dq, d0, rfl, own, hb3, hle⟩
          have B3 := belowW (belowA R2.B) hb3
          rw [lessL_len, V.len] at own
          rw [lessL_len, V.len]
          go_wp2_with fail
          refine (til_many_spec D n dq W T (lessL bs [k, j]) _ hn own.sl).mono ?_; rintro e w4 ⟨rfl, hb4⟩
          rw [HVL.out]
          go_wp2_with fail
          go_ret
          exact ⟨ret_i HEV.out.symm, belowW B3 hb4⟩
  · have E : Hid (withF W T n bs x y = -1) := by show _ = _; rw [withF, if_neg hv]
    have hv' : validB W T n bs = false := by simpa using hv
    have HV := Lib.hid hv'
    clear hv hv' hl
    go_enter Try.func19, Try.ntmps19
    go_wp2_with fail
    refine (valid_spec A n c W T bs _ (by omega) (h.alloc _)).mono ?_; rintro e w1 ⟨rfl, hb1⟩
    rw [HV.out]
    go_wp2_with fail
    go_ret
    exact ⟨ret_i E.out.symm, belowW (below1 w _) hb1⟩

end Go.Proofs.Ytcnkpcnbobiodaa
