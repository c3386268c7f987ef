/-
  AcrossMany and AcrossSum of the program: what they return.
-/
import Derived.Test.YtcnkpcnbobiodaaAcrQ
import Derived.Test.YtcnkpcnbobiodaaLawM
namespace Go.Proofs.Ytcnkpcnbobiodaa
open Go.RowKit

def acrV (W T : Int) (n : Nat) (bs : List Bool) (x : Int) : Bool := validB W T n bs && inB x 1 (W - 1)
def acrF (W T : Int) (n : Nat) (bs : List Bool) (x s : Int) : Int := if acrV W T n bs x && inB s 0 ((2 ^ T.toNat : Nat) - 1) then ((acrM W.toNat T.toNat n bs x.toNat s.toNat : Nat) : Int) else -1
def acrG (W T : Int) (n : Nat) (bs : List Bool) (x : Int) : Int := if acrV W T n bs x then ((Til.cntA W.toNat T.toNat n 0 bs : Nat) : Int) else -1
theorem shl_pow {T : Nat} (hT : T ≤ 6) : wrap64 ((2 : Int) ^ T) = ((2 ^ T : Nat) : Int) := by
  have h1 : 2 ^ T ≤ 2 ^ 6 := Nat.pow_le_pow_right (by omega) hT
  have h0 : 0 < 2 ^ T := Nat.pow_pos (by omega)
  have e : ((2 : Int) ^ T) = ((2 ^ T : Nat) : Int) := by push_cast; rfl
  rw [e, IntWalk.wrap64_in _ ⟨by omega, by omega⟩]

theorem lined_any (A : Option Addr) (n c : Nat) (W T : Int) (bs : List Bool) (x : Int) (w : World) (hn : n ≤ 1048576) (h : Sl w A n (bs.map .bool)) :
    Calls Try.prog 84 #[.agg #[.int .i64 W, .int .i64 T, .slice A n c], .int .i64 x] w fun e w' => e = .returned (.bool (acrV W T n bs x)) ∧ Below w.heap.size w w' := by
  have hl := h.1
  rw [List.length_map] at hl
  by_cases hv : validB W T n bs = true
  · obtain ⟨W, T, rfl, rfl, V⟩ := valid_of hv hl
    have v0 := V.w0
    have v1 := V.w1
    have HV := Lib.hid hv
    have E : Hid (acrV W T n bs x = inB x 1 ((W : Int) - 1)) := by show _ = _; rw [acrV, hv, Bool.true_and]
    clear hl hv
    go_enter Try.func84, Try.ntmps84
    go_wp2_with fail
    refine (valid_impl A n c W T bs _ (by omega) (h.alloc _)).mono ?_; rintro e w1 ⟨rfl, hb1⟩
    rw [HV.out]
    have R1 := P1.of hb1
    have k1 := R1.X.1
    clear hb1
    go_wp2_with (go_at_call 83; refine (in_any _ _ _ _).mono ?_; rintro e w' ⟨rfl, rfl⟩)
    go_ret
    exact ⟨ret_b E.out.symm, R1.B⟩
  · have hv' : validB W T n bs = false := by simpa using hv
    have HV := Lib.hid hv'
    have E : Hid (acrV W T n bs x = false) := by show _ = _; rw [acrV, hv', Bool.false_and]
    clear hl hv hv'
    go_enter Try.func84, Try.ntmps84
    go_wp2_with fail
    refine (valid_impl A n c W T bs _ (by omega) (h.alloc _)).mono ?_; rintro e w1 ⟨rfl, hb1⟩
    rw [HV.out]
    have R1 := P1.of hb1
    go_wp2_with fail
    go_ret
    exact ⟨ret_b E.out.symm, R1.B⟩
theorem acrV_parts {W T : Int} {n : Nat} {bs : List Bool} {x : Int} (h : acrV W T n bs x = true) (hl : bs.length = n) : ∃ W' T' c : Nat, W = W' ∧ T = T' ∧ x = c ∧ Valid W' T' n bs ∧ 1 ≤ c ∧ c < W' := by
  rw [acrV, Bool.and_eq_true] at h
  obtain ⟨W', T', rfl, rfl, V⟩ := valid_of h.1 hl
  have b := inB_iff.1 h.2
  obtain ⟨c, rfl⟩ := Int.eq_ofNat_of_zero_le (show 0 ≤ x by omega)
  exact ⟨W', T', c, rfl, rfl, rfl, V, by omega, by omega⟩

set_option maxRecDepth 100000 in
set_option maxHeartbeats 4000000 in
theorem acr_impl (A : Option Addr) (n c : Nat) (W T : Int) (bs : List Bool) (x s : Int) (w : World) (hn : n ≤ 1048576) (h : Sl w A n (bs.map .bool)) (_hx : I64 x) (hs : I64 s) :
    Calls Try.prog 44 #[.agg #[.int .i64 W, .int .i64 T, .slice A n c], .int .i64 x, .int .i64 s] w fun e w' => e = .returned (.int .i64 (acrF W T n bs x s)) ∧ Below w.heap.size w w' := by
  have hl := h.1
  rw [List.length_map] at hl
  cases hv : acrV W T n bs x
  · have E : Hid (acrF W T n bs x s = -1) := by show _ = _; rw [acrF, hv]; rfl
    have HV := Lib.hid hv
    clear hl hv
    go_enter Try.func44, Try.ntmps44
    go_wp2_with fail
    refine (lined_any A n c W T bs x _ hn (h.alloc _)).mono ?_; rintro e w1 ⟨rfl, hb1⟩
    rw [HV.out]
    have R1 := P1.of hb1
    go_wp2_with fail
    go_ret
    exact ⟨ret_i E.out.symm, R1.B⟩
  · have HV := Lib.hid hv
    obtain ⟨W, T, col, rfl, rfl, rfl, V, hc1, hc2⟩ := acrV_parts hv hl
    have n36 := V.n36
    have v3 := V.t1
    have hp : 2 ^ T ≤ 64 := Nat.le_trans (Nat.pow_le_pow_right (by omega) v3) (by decide)
    have hp0 : 0 < 2 ^ T := Nat.pow_pos (by omega)
    obtain ⟨P, hP⟩ : ∃ P, 2 ^ T = P := ⟨_, rfl⟩
    have hshl : wrap64 ((2 : Int) ^ T) = (P : Int) := by rw [← hP]; exact shl_pow v3
    have EF : acrF W T n bs col s = if inB s 0 ((P : Nat) - 1) then ((acrM W T n bs col s.toNat : Nat) : Int) else -1 := by rw [acrF, hv, Bool.true_and, Int.toNat_natCast, Int.toNat_natCast, Int.toNat_natCast, hP]
    rw [hP] at hp hp0
    have HEF := Lib.hid EF
    clear hl hv EF
    go_enter Try.func44, Try.ntmps44
    go_wp2_with fail
    refine (lined_any A n c W T bs col _ hn (h.alloc _)).mono ?_; rintro e w1 ⟨rfl, hb1⟩
    rw [HV.out]
    have R1 := P1.of hb1
    clear hb1
    have k1 := R1.X.1
    have k2 := R1.X.2.1
    have k3 := R1.X.2.2
    go_wp2_with fail
    refine (in_any _ _ _ _).mono ?_; rintro e w2 ⟨rfl, rfl⟩
    cases hi : inB s 0 ((P : Int) - 1)
    · have E : Hid (acrF W T n bs col s = -1) := by show _ = _; rw [HEF.out, hi]; rfl
      clear hi
      go_wp2_with fail
      go_ret
      exact ⟨ret_i E.out.symm, R1.B⟩
    · have bd := inB_iff.1 hi
      obtain ⟨q, rfl⟩ := Int.eq_ofNat_of_zero_le bd.1
      have E : Hid (acrF W T n bs col q = (acrM W T n bs col q : Nat)) := by show _ = _; rw [HEF.out, hi, if_pos rfl, Int.toNat_natCast]
      clear hi bd
      go_wp2_with fail
      refine (tilings_any A n c W T bs _ V (h.below R1.B)).mono ?_; rintro e w2 ⟨C, c2, c0, gs, rfl, hL, hb2, hm, hmem⟩
      have R2 := R1.below hb2
      have HB := Lib.hid (bare_mem V)
      have HM := Lib.hid (hL.mx (fun t ht => by have := hmem t ht; omega))
      obtain ⟨ms, hms⟩ : ∃ ms, bare W T n bs = ms := ⟨_, rfl⟩
      have E2 : Hid (acrM W T n bs col q = ms.countP (fun t => acrN W t col T == q)) := by show _ = _; rw [acrM, hms]
      rw [hms] at HM HB
      rw [hms]
      have hml : ms.length ≤ 68719476736 := by rw [← hms]; exact bare_le V
      clear R1 k1 k2 k3 hb2 hL hmem hm hms
      go_wp2_with fail
      go_loopg [7, 9, 26] ms.length (fun gk s7 _ s26 wx => ∃ k : Nat, k ≤ ms.length ∧ gk = ms.length - k ∧ s26 = .int .i64 k ∧ s7 = .int .i64 ((ms.take k).countP (fun t => acrN W t col T == q) : Nat) ∧ Below w2.heap.size w2 wx ∧ P1 w (.int .i64 W) (.int .i64 T) (.slice A n c) wx)
      case atStart => exact ⟨0, Nat.zero_le _, rfl, rfl, by simp, Below.refl _ _, R2⟩
      case round =>
        clear R2
        obtain ⟨k, hk, rfl, rfl, rfl, B, R⟩ := hrel
        have k1 := R.X.1
        have k2 := R.X.2.1
        have k3 := R.X.2.2
        have hcp := List.countP_le_length (p := fun t => acrN W t col T == q) (l := ms.take k)
        rw [List.length_take] at hcp
        by_cases hlt : k < ms.length
        · obtain ⟨row, b, off, r, cc, hrow, rfl, hc, hsr, -⟩ := (HM.out.below B).at_ hlt
          have hrl := HB.out row (List.mem_of_getElem? hrow)
          rw [hrl] at hc hsr
          have HROW := Lib.hid hrow
          have p0 : (0 : Int) ≤ (k : Int) := by omega
          have p1 : (k : Int) < (ms.length : Int) := by omega
          obtain ⟨cp, hcpe⟩ : ∃ cp, (ms.take k).countP (fun t => acrN W t col T == q) = cp := ⟨_, rfl⟩
          have HCP := Lib.hid hcpe
          rw [hcpe] at hcp
          rw [hcpe]
          clear hrow hcpe
          go_wp2_with fail
          refine (across_any A n c W T bs r cc row col _ V hsr hc1 hc2).mono ?_; rintro e w3 ⟨rfl, hb3⟩
          have R3 := R.below hb3
          have B3 := belowW B hb3
          obtain ⟨an, han⟩ : ∃ an, acrN W row col T = an := ⟨_, rfl⟩
          have HAN := Lib.hid han
          rw [han]
          clear han
          by_cases he : an = q
          · have hb : ((an : Int) == (q : Int)) = true := by rw [he]; simp
            have HN := Lib.hid (show (ms.take (k + 1)).countP (fun t => acrN W t col T == q) = cp + 1 by rw [take_snoc HROW.out, List.countP_append, HCP.out, List.countP_cons_of_pos (by rw [HAN.out, he]; simp)]; rfl)
            go_wp2_with fail
            go_roundg (ms.length - (k + 1))
            case measure => omega
            case rel => exact ⟨k + 1, by omega, rfl, by go_num, by rw [HN.out]; go_num, B3, R3⟩
          · have hb : ((an : Int) == (q : Int)) = false := by rw [beq_eq_false_iff_ne]; omega
            have HN := Lib.hid (show (ms.take (k + 1)).countP (fun t => acrN W t col T == q) = cp by rw [take_snoc HROW.out, List.countP_append, HCP.out, List.countP_cons_of_neg (by rw [HAN.out, beq_iff_eq]; exact he)]; rfl)
            clear he
            go_wp2_with fail
            go_roundg (ms.length - (k + 1))
            case measure => omega
            case rel => exact ⟨k + 1, by omega, rfl, by go_num, by rw [HN.out], B3, R3⟩
        · have e : k = ms.length := by omega
          subst e
          have et : ms.take ms.length = ms := List.take_length
          rw [et]
          go_wp2_with fail
          go_ret
          exact ⟨ret_i (by rw [E.out, E2.out]), R.B⟩

set_option maxHeartbeats 1000000 in
theorem acrSum_impl (A : Option Addr) (n c : Nat) (W T : Int) (bs : List Bool) (x : Int) (w : World) (hn : n ≤ 1048576) (h : Sl w A n (bs.map .bool)) (_hx : I64 x) :
    Calls Try.prog 46 #[.agg #[.int .i64 W, .int .i64 T, .slice A n c], .int .i64 x] w fun e w' => e = .returned (.int .i64 (acrG W T n bs x)) ∧ Below w.heap.size w w' := by
  have hl := h.1
  rw [List.length_map] at hl
  cases hv : acrV W T n bs x
  · have E : Hid (acrG W T n bs x = -1) := by show _ = _; rw [acrG, hv]; rfl
    have HV := Lib.hid hv
    clear hl hv
    go_enter Try.func46, Try.ntmps46
    go_wp2_with fail
    refine (lined_any A n c W T bs x _ hn (h.alloc _)).mono ?_; rintro e w1 ⟨rfl, hb1⟩
    rw [HV.out]
    have R1 := P1.of hb1
    go_wp2_with fail
    go_ret
    exact ⟨ret_i E.out.symm, R1.B⟩
  · have HV := Lib.hid hv
    have E0 := hv
    obtain ⟨W, T, col, rfl, rfl, rfl, V, hc1, hc2⟩ := acrV_parts hv hl
    have E : Hid (acrG W T n bs col = (Til.cntA W T n 0 bs : Nat)) := by show _ = _; rw [acrG, hv]; rfl
    clear hl hv E0
    go_enter Try.func46, Try.ntmps46
    go_wp2_with fail
    refine (lined_any A n c W T bs col _ hn (h.alloc _)).mono ?_; rintro e w1 ⟨rfl, hb1⟩
    rw [HV.out]
    have R1 := P1.of hb1
    clear hb1
    have k1 := R1.X.1
    have k2 := R1.X.2.1
    have k3 := R1.X.2.2
    go_wp2_with fail
    refine (total_any A n c W T bs _ V (h.below R1.B)).mono ?_; rintro e w2 ⟨rfl, hb2⟩
    go_wp2_with fail
    go_ret
    exact ⟨ret_i E.out.symm, belowW R1.B hb2⟩

end Go.Proofs.Ytcnkpcnbobiodaa
