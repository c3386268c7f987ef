/-
  back, lays and LaidOk, both sides: what they return.
-/
import Derived.Test.YtepnhhehfkcgkaaDoorStepTo
import Derived.Test.YtepnhhehfkcgkaaDoorStepAll
import Derived.Test.YtepnhhehfkcgkaaDoorLawI
import Derived.Test.YtepnhhehfkcgkaaDoorP1
import Derived.Deep.RegionHeld3
import Derived.Deep.LoopGhost
import Derived.Outline
namespace Go.Proofs.YtepnhhehfkcgkaaDoor
open Go.RowKit

/-- The opposite direction. -/
def backF (z : Int) : Int := (z + 1) % 4 + 1
theorem backF_bd (z : Int) : 1 ≤ backF z ∧ backF z ≤ 4 := by unfold backF; omega

theorem back_any (z : Int) (w : World) (_h0 : 1 ≤ z) (_h1 : z ≤ 4) : Calls Tryd.prog 35 #[.int .i64 z] w fun e w' => e = .returned (.int .i64 (backF z)) ∧ w' = w := by
  go_enter Tryd.func35, Tryd.ntmps35
  go_wp2_with fail
  go_ret
  exact ⟨rfl, rfl⟩
theorem l2Back_any (z : Int) (w : World) (_h0 : 1 ≤ z) (_h1 : z ≤ 4) : Calls Tryd.prog 41 #[.int .i64 z] w fun e w' => e = .returned (.int .i64 (backF z)) ∧ w' = w := by
  go_enter Tryd.func41, Tryd.ntmps41
  go_wp2_with fail
  go_ret
  exact ⟨rfl, rfl⟩

/-- An entry of a list of ints, or nought. -/
def ent (zs : List Int) (k : Nat) : Int := (zs[k]?).getD 0
theorem ent_of {zs : List Int} {k : Nat} {x : Int} (h : zs[k]? = some x) : ent zs k = x := by rw [ent, h]; rfl
def onR (bs : List Bool) (k : Nat) : Bool := (bs[k]?).getD false
theorem onR_of {bs : List Bool} {k : Nat} {x : Bool} (h : bs[k]? = some x) : onR bs k = x := by rw [onR, h]; rfl
/-- Is the entry of one cell right? -/
def laysOne (W T : Nat) (bs : List Bool) (zs : List Int) (k : Nat) : Bool :=
  ent zs k == 0 || (decide (0 ≤ stepF W T k (ent zs k)) && (onR bs k && (onR bs (stepF W T k (ent zs k)).toNat && (ent zs (stepF W T k (ent zs k)).toNat == backF (ent zs k)))))
def laysAll (W T : Nat) (bs : List Bool) (zs : List Int) : Nat → Bool
  | 0 => true
  | k + 1 => laysAll W T bs zs k && laysOne W T bs zs k
theorem laysAll_no {W T : Nat} {bs : List Bool} {zs : List Int} {k n : Nat} (hk : k < n) (h : laysOne W T bs zs k = false) : laysAll W T bs zs n = false := by
  induction n with
  | zero => omega
  | succ n ih =>
    rw [laysAll]
    by_cases e : k = n
    · subst e; rw [h, Bool.and_false]
    · rw [ih (by omega), Bool.false_and]
theorem laysAll_one {W T : Nat} {bs : List Bool} {zs : List Int} {k n : Nat} (hk : k < n) (h : laysAll W T bs zs n = true) : laysOne W T bs zs k = true := by
  cases ho : laysOne W T bs zs k with
  | true => rfl
  | false => rw [laysAll_no hk ho] at h; cases h
def laidB (W T : Int) (n : Nat) (bs : List Bool) (m : Nat) (zs : List Int) : Bool := validB W T n bs && (decide (m = n) && laysAll W.toNat T.toNat bs zs n)

set_option maxRecDepth 100000 in
set_option maxHeartbeats 2000000 in
theorem lays_any (A : Option Addr) (n c W T : Nat) (bs : List Bool) (B : Option Addr) (m d : Nat) (zs : List Int) (w : World) (V : Valid W T n bs) (h : Sl w A n (bs.map .bool)) (hm : m ≤ 1048576) (h' : Sl w B m (zs.map (.int .i64))) :
    Calls Tryd.prog 25 #[.agg #[.int .i64 W, .int .i64 T, .slice A n c], .slice B m d] w fun e w' => e = .returned (.bool (decide (m = n) && laysAll W T bs zs n)) ∧ Below w.heap.size w w' := by
  have n36 := V.n36
  have v0 := V.w0
  have v1 := V.w1
  have v2 := V.t0
  have v3 := V.t1
  by_cases hmn : m = n
  · subst hmn
    have hne : ((m : Int) != m) = false := by simp
    rw [decide_eq_true rfl, Bool.true_and]
    go_enter Tryd.func25, Tryd.ntmps25
    go_wp2_with fail
    go_loopg [5, 6, 7, 16] m (fun gk _ _ _ i wr => ∃ k : Nat, k ≤ m ∧ gk = m - k ∧ i = .int .i64 k ∧ laysAll W T bs zs k = true ∧ P1 w (.int .i64 W) (.int .i64 T) (.slice A m c) wr)
    case atStart => exact ⟨0, Nat.zero_le _, rfl, rfl, rfl, P1.new _ _ _ _ _⟩
    case round =>
      obtain ⟨k, hk, rfl, rfl, hall, R⟩ := hrel
      have HA := Lib.hid hall
      clear hall hne
      have k1 := R.X.1
      have k2 := R.X.2.1
      have k3 := R.X.2.2
      by_cases hlt : k < m
      · have hkWT : k < W * T := by rw [← V.size]; exact hlt
        have HK := Lib.hid hkWT
        have hsz := Lib.hid V.size
        obtain ⟨b, off, x, rfl, hx, hc⟩ := (h.below R.B).atB hlt
        obtain ⟨b2, off2, z, rfl, hz, hc2⟩ := (h'.below R.B).atI hlt
        have HX := Lib.hid hx
        have HZ := Lib.hid hz
        clear hx hz hkWT
        by_cases hz0 : z = 0
        · subst hz0
          go_wp2_with fail
          go_roundg (m - (k + 1))
          case measure => omega
          case rel => exact ⟨k + 1, by omega, rfl, by go_num, by rw [laysAll, HA.out, laysOne, ent_of HZ.out]; rfl, R⟩
        · have hzb : (z == 0) = false := by simpa using hz0
          clear hz0
          go_wp2_with fail
          refine (step_any (some ⟨b, off, none⟩) m c W T k z _ v0 v1 v2 v3 HK.out).mono ?_; rintro e w2 ⟨rfl, hb2⟩
          have R2 := R.below hb2
          clear hb2 R k1 k2 k3 hc hc2
          have k1 := R2.X.1
          have k2 := R2.X.2.1
          have k3 := R2.X.2.2
          obtain ⟨t, ht⟩ : ∃ t, stepF W T k z = t := ⟨_, rfl⟩
          obtain ⟨t1, t2⟩ := stepF_bound (way := z) v0 HK.out
          rw [ht] at t1 t2
          rw [ht]
          have HT := Lib.hid ht
          have hz14 : 0 ≤ t → 1 ≤ z ∧ z ≤ 4 := by
            intro h0
            have : inB z 1 4 = true := by
              cases hi : inB z 1 4 with
              | true => rfl
              | false => rw [stepF_no hi] at ht; omega
            exact inB_iff.1 this
          have HZ14 := Lib.hid hz14
          have p2 : (0 : Int) ≤ (k : Int) := by omega
          have p3 : (k : Int) < (m : Int) := by omega
          have one0 : ∀ v : Bool, (decide (0 ≤ t) && (x && (onR bs t.toNat && (ent zs t.toNat == backF z)))) = v → laysOne W T bs zs k = v := by
            intro v hv
            rw [laysOne, ent_of HZ.out, HT.out, onR_of HX.out, hzb, Bool.false_or]; exact hv
          have ONE := Lib.hid one0
          clear ht hz14 one0
          obtain ⟨b', off', x', hA, hx', hc⟩ := (h.below R2.B).atB hlt
          injection hA with hA
          injection hA with hA1 hA2 _
          subst hA1 hA2
          obtain rfl : x' = x := by have := HX.out; rw [this] at hx'; injection hx' with hx'; exact hx'.symm
          obtain ⟨b3, off3, z', hA, hz', hc2⟩ := (h'.below R2.B).atI hlt
          injection hA with hA
          injection hA with hA1 hA2 _
          subst hA1 hA2
          obtain rfl : z' = z := by have := HZ.out; rw [this] at hz'; injection hz' with hz'; exact hz'.symm
          clear hx' hz'
          by_cases ht0 : t < 0
          · have hd : decide (t < 0) = true := decide_eq_true ht0
            have NO := Lib.hid (laysAll_no hlt (ONE.out false (by rw [decide_eq_false (by omega)]; rfl)))
            clear t2
            go_wp2_with fail
            go_quiet (fail)
            go_wp2_with fail
            go_ret
            exact ⟨ret_b NO.out.symm, below_drewN R2.B _⟩
          · obtain ⟨j, rfl⟩ := Int.eq_ofNat_of_zero_le (show 0 ≤ t by omega)
            have hj : j < m := by have := hsz.out; omega
            have hd : decide ((j : Int) < 0) = false := decide_eq_false ht0
            have hd1 : decide ((0 : Int) ≤ (j : Int)) = true := decide_eq_true (by omega)
            have j0 : (0 : Int) ≤ (j : Int) := by omega
            have j1 : (j : Int) < (m : Int) := by omega
            obtain ⟨z1, z4⟩ := HZ14.out j0
            obtain ⟨b4, off4, y, hA, hy, hc3⟩ := (h.below R2.B).atB hj
            injection hA with hA
            injection hA with hA1 hA2 _
            subst hA1 hA2
            obtain ⟨b5, off5, u, hA, hu, hc4⟩ := (h'.below R2.B).atI hj
            injection hA with hA
            injection hA with hA1 hA2 _
            subst hA1 hA2
            have HY := Lib.hid hy
            have HU := Lib.hid hu
            clear hy hu t1 t2 ht0
            have ONE2 : ∀ v : Bool, (x' && (y && (u == backF z'))) = v → laysOne W T bs zs k = v := by
              intro v hv
              refine ONE.out v ?_
              rw [hd1, Int.toNat_natCast, onR_of HY.out, ent_of HU.out, Bool.true_and]; exact hv
            have HONE := Lib.hid ONE2
            clear ONE2 ONE
            cases x'
            · have NO := Lib.hid (laysAll_no hlt (HONE.out false rfl))
              clear hd1
              go_wp2_with fail
              go_quiet (fail)
              go_wp2_with fail
              go_ret
              exact ⟨ret_b NO.out.symm, below_drewN R2.B _⟩
            · cases y
              · have NO := Lib.hid (laysAll_no hlt (HONE.out false rfl))
                clear hd1
                go_wp2_with fail
                go_quiet (fail)
                go_wp2_with fail
                go_ret
                exact ⟨ret_b NO.out.symm, below_drewN R2.B _⟩
              · cases hub : (u == backF z')
                · have NO := Lib.hid (laysAll_no hlt (HONE.out false (by rw [hub]; rfl)))
                  have hub' : (u != backF z') = true := by rw [bne, hub]; rfl
                  clear hd1 hub
                  go_wp2_with fail
                  go_quiet ((go_at_call 35; exact Calls.quiet_of_same (back_any _ _ z1 z4)))
                  go_wp2_with fail
                  go_ret
                  exact ⟨ret_b NO.out.symm, below_drewN R2.B _⟩
                · have YES := Lib.hid (HONE.out true (by rw [hub]; rfl))
                  have hub' : (u != backF z') = false := by rw [bne, hub]; rfl
                  clear hd1 hub
                  go_wp2_with fail
                  go_quiet ((go_at_call 35; exact Calls.quiet_of_same (back_any _ _ z1 z4)))
                  go_wp2_with fail
                  go_roundg (m - (k + 1))
                  case measure => omega
                  case rel => exact ⟨k + 1, by omega, rfl, by go_num, by rw [laysAll, HA.out, YES.out]; rfl, R2.drewN _⟩
      · have e : k = m := by omega
        subst e
        go_wp2_with fail
        go_ret
        exact ⟨ret_b HA.out.symm, R.B⟩
  · have hne : ((m : Int) != n) = true := by rw [bne_iff_ne]; omega
    rw [decide_eq_false hmn, Bool.false_and]
    clear hmn
    go_enter Tryd.func25, Tryd.ntmps25
    go_wp2_with fail
    go_ret
    exact ⟨rfl, below1 _ _⟩

end Go.Proofs.YtepnhhehfkcgkaaDoor
