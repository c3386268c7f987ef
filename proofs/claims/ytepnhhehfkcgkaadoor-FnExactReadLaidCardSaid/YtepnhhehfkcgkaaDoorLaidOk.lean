/-
  LaidOk, both sides: what it returns.
-/
import Derived.Test.YtepnhhehfkcgkaaDoorLaid
namespace Go.Proofs.YtepnhhehfkcgkaaDoor
open Go.RowKit

theorem laid_no {W T : Int} {n m : Nat} {bs : List Bool} {zs : List Int} (h : validB W T n bs = false) : laidB W T n bs m zs = false := by rw [laidB, h]; rfl
theorem laid_eq {W T n m : Nat} {bs : List Bool} {zs : List Int} (h : validB W T n bs = true) : laidB W T n bs m zs = (decide (m = n) && laysAll W T bs zs n) := by rw [laidB, h]; rfl

set_option maxRecDepth 100000 in
set_option maxHeartbeats 2000000 in
theorem laid_spec (A : Option Addr) (n c : Nat) (W T : Int) (bs : List Bool) (B : Option Addr) (m d : Nat) (zs : List Int) (w : World) (hn : n ≤ 1048576) (h : Sl w A n (bs.map .bool)) (hm : m ≤ 1048576) (h' : Sl w B m (zs.map (.int .i64))) (_hz : ∀ z ∈ zs, I64 z) :
    Calls Tryd.prog 32 #[.agg #[.int .i64 W, .int .i64 T, .slice A n c], .slice B m d] w fun e w' => e = .returned (.bool (laidB W T n bs m zs)) ∧ Below w.heap.size w w' := by
  have hl := h.1
  rw [List.length_map] at hl
  by_cases hv : validB W T n bs = true
  · obtain ⟨W, T, rfl, rfl, V⟩ := valid_of hv hl
    have E := Lib.hid (laid_eq (m := m) (zs := zs) hv)
    have HV := Lib.hid hv
    clear hl hv
    have n36 := V.n36
    have v0 := V.w0
    have v1 := V.w1
    have v2 := V.t0
    have v3 := V.t1
    by_cases hmn : m = n
    · subst hmn
      rw [E.out, decide_eq_true rfl, Bool.true_and]
      have hne : ((m : Int) != m) = false := by simp
      go_enter Tryd.func32, Tryd.ntmps32
      go_wp2_with fail
      refine (valid_spec A m c W T bs _ (by omega) (h.alloc _)).mono ?_; rintro e w1 ⟨rfl, hb1⟩
      rw [HV.out]
      have R1 := P1.of hb1
      clear hb1
      have k1 := R1.X.1
      have k2 := R1.X.2.1
      have k3 := R1.X.2.2
      go_wp2_with fail
      go_loopg [5, 6] m (fun gk i _ wr => ∃ k : Nat, k ≤ m ∧ gk = m - k ∧ i = .int .i64 k ∧ laysAll W T bs zs k = true ∧ P1 w (.int .i64 W) (.int .i64 T) (.slice A m c) wr)
      case atStart => exact ⟨0, Nat.zero_le _, rfl, rfl, rfl, R1⟩
      case round =>
        clear R1 k1 k2 k3
        obtain ⟨k, hk, rfl, rfl, hall, R⟩ := hrel
        have HA := Lib.hid hall
        clear hall hne
        have k1 := R.X.1
        have k2 := R.X.2.1
        have k3 := R.X.2.2
        by_cases hlt : k < m
        · have hkWT : k < W * T := by rw [← V.size]; exact hlt
          have HK := Lib.hid hkWT
          have hsz := Lib.hid V.size
          obtain ⟨b, off, x, rfl, hx, hc⟩ := (h.below R.B).atB hlt
          obtain ⟨b2, off2, z, rfl, hz, hc2⟩ := (h'.below R.B).atI hlt
          have HX := Lib.hid hx
          have HZ := Lib.hid hz
          clear hx hz hkWT
          by_cases hz0 : z = 0
          · subst hz0
            go_wp2_with fail
            go_roundg (m - (k + 1))
            case measure => omega
            case rel => exact ⟨k + 1, by omega, rfl, by go_num, by rw [laysAll, HA.out, laysOne, ent_of HZ.out]; rfl, R⟩
          · have hzb : (z == 0) = false := by simpa using hz0
            have one0 : ∀ v : Bool, (decide (0 ≤ stepF W T k z) && (x && (onR bs (stepF W T k z).toNat && (ent zs (stepF W T k z).toNat == backF z)))) = v → laysOne W T bs zs k = v := by
              intro v hv
              rw [laysOne, ent_of HZ.out, onR_of HX.out, hzb, Bool.false_or]; exact hv
            have ONE := Lib.hid one0
            clear hz0 one0
            cases hi : inB z 1 4
            · have NO := Lib.hid (laysAll_no hlt (ONE.out false (by rw [stepF_no hi]; rfl)))
              have HI := Lib.hid hi
              clear hi
              go_wp2_with fail
              refine (l1In_any z 1 4 _).mono ?_; rintro e w2 ⟨rfl, rfl⟩
              rw [HI.out]
              go_wp2_with fail
              go_ret
              exact ⟨ret_b NO.out.symm, R.B⟩
            · have HI := Lib.hid hi
              obtain ⟨z1, z4⟩ := inB_iff.1 hi
              clear hi
              cases x
              · have NO := Lib.hid (laysAll_no hlt (ONE.out false (by rw [Bool.false_and, Bool.and_false])))
                go_wp2_with fail
                refine (l1In_any z 1 4 _).mono ?_; rintro e w2 ⟨rfl, rfl⟩
                rw [HI.out]
                go_wp2_with fail
                go_ret
                exact ⟨ret_b NO.out.symm, R.B⟩
              · have p2 : (0 : Int) ≤ (k : Int) := by omega
                have p3 : (k : Int) < (m : Int) := by omega
                go_wp2_with fail
                refine (l1In_any z 1 4 _).mono ?_; rintro e w2 ⟨rfl, rfl⟩
                rw [HI.out]
                go_wp2_with fail
                go_region_held3 (fun w' => w'.cell? ⟨w.heap.size, 0, none⟩ = some (.int .i64 W) ∧ w'.cell? ⟨w.heap.size, 1, none⟩ = some (.int .i64 T) ∧ w'.cell? ⟨w.heap.size, 2, none⟩ = some (.slice (some ⟨b, off, none⟩) m c) ∧ w'.cell? ⟨b2, off2 + k, none⟩ = some (.int .i64 z))
                  (first | exact ⟨k1, k2, k3, hc2⟩ | go_keep)
                  (first
                    | (go_at_call 40; refine (l2Step_any (some ⟨b, off, none⟩) m c W T k z _ v0 v1 v2 v3 HK.out HI.out).mono ?_; rintro e w3 ⟨rfl, hb3⟩; have R3 := R.drew.below hb3; have q1 := R3.X.1; have q2 := R3.X.2.1; have q3 := R3.X.2.2; obtain ⟨b6, off6, z', hA6, hz6, q4⟩ := (h'.below R3.B).atI hlt; injection hA6 with hA6; injection hA6 with hA7 hA8 _; subst hA7 hA8; obtain rfl : z' = z := by (have := HZ.out; rw [this] at hz6; injection hz6 with hz6; exact hz6.symm))
                    | fail)
                clear R k1 k2 k3 hc hc2 q1 q2 q3 q4 hz6
                have k1 := R3.X.1
                have k2 := R3.X.2.1
                have k3 := R3.X.2.2
                obtain ⟨t, ht⟩ : ∃ t, stepF W T k z' = t := ⟨_, rfl⟩
                obtain ⟨t1, t2⟩ := stepF_bound (way := z') v0 HK.out
                rw [ht] at t1 t2
                rw [ht]
                have HT := Lib.hid ht
                clear ht
                obtain ⟨b3, off3, z2, hA, hz', hc2⟩ := (h'.below R3.B).atI hlt
                injection hA with hA
                injection hA with hA1 hA2 _
                subst hA1 hA2
                obtain rfl : z2 = z' := by have := HZ.out; rw [this] at hz'; injection hz' with hz'; exact hz'.symm
                clear hz'
                by_cases ht0 : t < 0
                · have hd : decide (t < 0) = true := decide_eq_true ht0
                  have NO := Lib.hid (laysAll_no hlt (ONE.out false (by rw [HT.out, decide_eq_false (by omega)]; rfl)))
                  clear t2
                  go_wp2_with fail
                  go_quiet (fail)
                  go_wp2_with fail
                  go_ret
                  exact ⟨ret_b NO.out.symm, below_drewN R3.B _⟩
                · obtain ⟨j, rfl⟩ := Int.eq_ofNat_of_zero_le (show 0 ≤ t by omega)
                  have hj : j < m := by have := hsz.out; omega
                  have hd : decide ((j : Int) < 0) = false := decide_eq_false ht0
                  have hd1 : decide ((0 : Int) ≤ (j : Int)) = true := decide_eq_true (by omega)
                  have j0 : (0 : Int) ≤ (j : Int) := by omega
                  have j1 : (j : Int) < (m : Int) := by omega
                  obtain ⟨b4, off4, y, hA, hy, hc3⟩ := (h.below R3.B).atB hj
                  injection hA with hA
                  injection hA with hA1 hA2 _
                  subst hA1 hA2
                  obtain ⟨b5, off5, u, hA, hu, hc4⟩ := (h'.below R3.B).atI hj
                  injection hA with hA
                  injection hA with hA1 hA2 _
                  subst hA1 hA2
                  have HY := Lib.hid hy
                  have HU := Lib.hid hu
                  clear hy hu t1 t2 ht0
                  have ONE2 : ∀ v : Bool, (y && (u == backF z2)) = v → laysOne W T bs zs k = v := by
                    intro v hv
                    refine ONE.out v ?_
                    rw [HT.out, hd1, Int.toNat_natCast, onR_of HY.out, ent_of HU.out, Bool.true_and, Bool.true_and]; exact hv
                  have HONE := Lib.hid ONE2
                  clear ONE2 ONE
                  cases y
                  · have NO := Lib.hid (laysAll_no hlt (HONE.out false rfl))
                    clear hd1
                    go_wp2_with fail
                    go_quiet (fail)
                    go_wp2_with fail
                    go_ret
                    exact ⟨ret_b NO.out.symm, below_drewN R3.B _⟩
                  · cases hub : (u == backF z2)
                    · have NO := Lib.hid (laysAll_no hlt (HONE.out false (by rw [hub]; rfl)))
                      have hub' : (u != backF z2) = true := by rw [bne, hub]; rfl
                      clear hd1 hub
                      go_wp2_with fail
                      go_quiet ((go_at_call 41; exact Calls.quiet_of_same (l2Back_any _ _ z1 z4)))
                      go_wp2_with fail
                      go_ret
                      exact ⟨ret_b NO.out.symm, below_drewN R3.B _⟩
                    · have YES := Lib.hid (HONE.out true (by rw [hub]; rfl))
                      have hub' : (u != backF z2) = false := by rw [bne, hub]; rfl
                      clear hd1 hub
                      go_wp2_with fail
                      go_quiet ((go_at_call 41; exact Calls.quiet_of_same (l2Back_any _ _ z1 z4)))
                      go_wp2_with fail
                      go_roundg (m - (k + 1))
                      case measure => omega
                      case rel => exact ⟨k + 1, by omega, rfl, by go_num, by rw [laysAll, HA.out, YES.out]; rfl, R3.drewN _⟩
        · have e : k = m := by omega
          subst e
          go_wp2_with fail
          go_ret
          exact ⟨ret_b HA.out.symm, R.B⟩
    · have hne : ((m : Int) != n) = true := by rw [bne_iff_ne]; omega
      rw [E.out, decide_eq_false hmn, Bool.false_and]
      clear hmn
      go_enter Tryd.func32, Tryd.ntmps32
      go_wp2_with fail
      refine (valid_spec A n c W T bs _ (by omega) (h.alloc _)).mono ?_; rintro e w1 ⟨rfl, hb1⟩
      rw [HV.out]
      have R1 := P1.of hb1
      clear hb1
      have k1 := R1.X.1
      have k2 := R1.X.2.1
      have k3 := R1.X.2.2
      go_wp2_with fail
      go_ret
      exact ⟨rfl, R1.B⟩
  · have hv' : validB W T n bs = false := by simpa using hv
    have E := Lib.hid (laid_no (m := m) (zs := zs) hv')
    have HV := Lib.hid hv'
    clear hv hv' hl
    go_enter Tryd.func32, Tryd.ntmps32
    go_wp2_with fail
    refine (valid_spec A n c W T bs _ (by omega) (h.alloc _)).mono ?_; rintro e w1 ⟨rfl, hb1⟩
    rw [HV.out]
    go_wp2_with fail
    go_ret
    exact ⟨ret_b E.out.symm, belowW (below1 w _) hb1⟩

end Go.Proofs.YtepnhhehfkcgkaaDoor
