/-
  full and TilingOk, both sides: what they return.
-/
import Derived.Test.YtcnkpcnbobiodaaLaidOk
namespace Go.Proofs.Ytcnkpcnbobiodaa
open Go.RowKit

theorem laid_of {W T : Int} {n m : Nat} {bs : List Bool} {zs : List Int} (h : laidB W T n bs m zs = true) (hl : bs.length = n) : ∃ W' T' : Nat, W = W' ∧ T = T' ∧ Valid W' T' n bs ∧ m = n ∧ laysAll W' T' bs zs n = true := by
  rw [laidB, Bool.and_eq_true, Bool.and_eq_true, decide_eq_true_eq] at h
  obtain ⟨W', T', rfl, rfl, V⟩ := valid_of h.1 hl
  exact ⟨W', T', rfl, rfl, V, h.2.1, h.2.2⟩

def fullOne (bs : List Bool) (zs : List Int) (k : Nat) : Bool := !(onR bs k && (ent zs k == 0))
def fullAll (bs : List Bool) (zs : List Int) : Nat → Bool
  | 0 => true
  | k + 1 => fullAll bs zs k && fullOne bs zs k
theorem fullAll_no {bs : List Bool} {zs : List Int} {k n : Nat} (hk : k < n) (h : fullOne bs zs k = false) : fullAll bs zs n = false := by
  induction n with
  | zero => omega
  | succ n ih =>
    rw [fullAll]
    by_cases e : k = n
    · subst e; rw [h, Bool.and_false]
    · rw [ih (by omega), Bool.false_and]
def tilB (W T : Int) (n : Nat) (bs : List Bool) (m : Nat) (zs : List Int) : Bool := laidB W T n bs m zs && fullAll bs zs n

set_option maxHeartbeats 400000 in
theorem full_any (A : Option Addr) (n c W T : Nat) (bs : List Bool) (B : Option Addr) (d : Nat) (zs : List Int) (w : World) (hn : n ≤ 1048576) (h : Sl w A n (bs.map .bool)) (h' : Sl w B n (zs.map (.int .i64))) :
    Calls Try.prog 100 #[.agg #[.int .i64 W, .int .i64 T, .slice A n c], .slice B n d] w fun e w' => e = .returned (.bool (fullAll bs zs n)) ∧ Below w.heap.size w w' := by
  go_enter Try.func100, Try.ntmps100
  go_wp2_with fail
  go_loopg [5, 6, 10] n (fun gk _ _ i wr => ∃ k : Nat, k ≤ n ∧ gk = n - k ∧ i = .int .i64 k ∧ fullAll bs zs k = true ∧ P1 w (.int .i64 W) (.int .i64 T) (.slice A n c) wr)
  case atStart => exact ⟨0, Nat.zero_le _, rfl, rfl, rfl, P1.new _ _ _ _ _⟩
  case round =>
    obtain ⟨k, hk, rfl, rfl, hall, R⟩ := hrel
    have HA := Lib.hid hall
    clear hall
    by_cases hlt : k < n
    · obtain ⟨b, off, x, rfl, hx, hc⟩ := (h.below R.B).atB hlt
      obtain ⟨b2, off2, z, rfl, hz, hc2⟩ := (h'.below R.B).atI hlt
      have HX := Lib.hid hx
      have HZ := Lib.hid hz
      clear hx hz
      cases x
      · go_wp2_with fail
        go_roundg (n - (k + 1))
        case measure => omega
        case rel => exact ⟨k + 1, by omega, rfl, by go_num, by rw [fullAll, HA.out, fullOne, onR_of HX.out]; rfl, R⟩
      · cases hzb : (z == 0)
        · have HB := Lib.hid hzb
          go_wp2_with fail
          go_roundg (n - (k + 1))
          case measure => omega
          case rel => exact ⟨k + 1, by omega, rfl, by go_num, by rw [fullAll, HA.out, fullOne, onR_of HX.out, ent_of HZ.out, HB.out]; rfl, R⟩
        · have NO := Lib.hid (fullAll_no (n := n) (zs := zs) hlt (by rw [fullOne, onR_of HX.out, ent_of HZ.out, hzb]; rfl))
          go_wp2_with fail
          go_ret
          exact ⟨ret_b NO.out.symm, R.B⟩
    · have e : k = n := by omega
      subst e
      go_wp2_with fail
      go_ret
      exact ⟨ret_b HA.out.symm, R.B⟩

theorem til_impl (A : Option Addr) (n c : Nat) (W T : Int) (bs : List Bool) (B : Option Addr) (m d : Nat) (zs : List Int) (w : World) (hn : n ≤ 1048576) (h : Sl w A n (bs.map .bool)) (hm : m ≤ 1048576) (h' : Sl w B m (zs.map (.int .i64))) (hz : ∀ z ∈ zs, I64 z) :
    Calls Try.prog 78 #[.agg #[.int .i64 W, .int .i64 T, .slice A n c], .slice B m d] w fun e w' => e = .returned (.bool (tilB W T n bs m zs)) ∧ Below w.heap.size w w' := by
  have hl := h.1
  rw [List.length_map] at hl
  have HZ := Lib.hid hz
  clear hz
  cases hv : laidB W T n bs m zs
  · have E : Hid (tilB W T n bs m zs = false) := by show _ = _; rw [tilB, hv]; rfl
    have HV := Lib.hid hv
    clear hl hv
    go_enter Try.func78, Try.ntmps78
    go_wp2_with fail
    refine (laid_impl A n c W T bs B m d zs _ hn (h.alloc _) hm (h'.alloc _) HZ.out).mono ?_; rintro e w1 ⟨rfl, hb1⟩
    rw [HV.out]
    go_wp2_with fail
    go_ret
    exact ⟨ret_b E.out.symm, belowW (below1 w _) hb1⟩
  · have E : Hid (tilB W T n bs m zs = fullAll bs zs n) := by show _ = _; rw [tilB, hv]; rfl
    have HV := Lib.hid hv
    obtain ⟨W, T, rfl, rfl, V, e, -⟩ := laid_of hv hl
    subst e
    clear hl hv
    go_enter Try.func78, Try.ntmps78
    go_wp2_with fail
    refine (laid_impl A m c W T bs B m d zs _ hn (h.alloc _) hm (h'.alloc _) HZ.out).mono ?_; rintro e w1 ⟨rfl, hb1⟩
    rw [HV.out]
    have R1 := P1.of hb1
    clear hb1
    have k1 := R1.X.1
    have k2 := R1.X.2.1
    have k3 := R1.X.2.2
    go_wp2_with fail
    refine (full_any A m c W T bs B d zs _ hn (h.below R1.B) (h'.below R1.B)).mono ?_; rintro e w2 ⟨rfl, hb2⟩
    go_wp2_with fail
    go_ret
    exact ⟨ret_b E.out.symm, belowW R1.B hb2⟩

set_option maxHeartbeats 400000 in
theorem til_spec (A : Option Addr) (n c : Nat) (W T : Int) (bs : List Bool) (B : Option Addr) (m d : Nat) (zs : List Int) (w : World) (hn : n ≤ 1048576) (h : Sl w A n (bs.map .bool)) (hm : m ≤ 1048576) (h' : Sl w B m (zs.map (.int .i64))) (hz : ∀ z ∈ zs, I64 z) :
    Calls Try.prog 74 #[.agg #[.int .i64 W, .int .i64 T, .slice A n c], .slice B m d] w fun e w' => e = .returned (.bool (tilB W T n bs m zs)) ∧ Below w.heap.size w w' := by
  have hl := h.1
  rw [List.length_map] at hl
  have HZ0 := Lib.hid hz
  clear hz
  cases hv : laidB W T n bs m zs
  · have E : Hid (tilB W T n bs m zs = false) := by show _ = _; rw [tilB, hv]; rfl
    have HV := Lib.hid hv
    clear hl hv
    go_enter Try.func74, Try.ntmps74
    go_wp2_with fail
    refine (laid_spec A n c W T bs B m d zs _ hn (h.alloc _) hm (h'.alloc _) HZ0.out).mono ?_; rintro e w1 ⟨rfl, hb1⟩
    rw [HV.out]
    go_wp2_with fail
    go_ret
    exact ⟨ret_b E.out.symm, belowW (below1 w _) hb1⟩
  · have E : Hid (tilB W T n bs m zs = fullAll bs zs n) := by show _ = _; rw [tilB, hv]; rfl
    have HV := Lib.hid hv
    obtain ⟨W, T, rfl, rfl, V, e, -⟩ := laid_of hv hl
    subst e
    clear hl hv
    go_enter Try.func74, Try.ntmps74
    go_wp2_with fail
    refine (laid_spec A m c W T bs B m d zs _ hn (h.alloc _) hm (h'.alloc _) HZ0.out).mono ?_; rintro e w1 ⟨rfl, hb1⟩
    rw [HV.out]
    have R1 := P1.of hb1
    clear hb1
    have k1 := R1.X.1
    have k2 := R1.X.2.1
    have k3 := R1.X.2.2
    go_wp2_with fail
    go_loopg [5] m (fun gk i wr => ∃ k : Nat, k ≤ m ∧ gk = m - k ∧ i = .int .i64 k ∧ fullAll bs zs k = true ∧ P1 w (.int .i64 W) (.int .i64 T) (.slice A m c) wr)
    case atStart => exact ⟨0, Nat.zero_le _, rfl, rfl, rfl, R1⟩
    case round =>
      clear R1 k1 k2 k3
      obtain ⟨k, hk, rfl, rfl, hall, R⟩ := hrel
      have HA := Lib.hid hall
      clear hall
      have k1 := R.X.1
      have k2 := R.X.2.1
      have k3 := R.X.2.2
      by_cases hlt : k < m
      · obtain ⟨b, off, x, rfl, hx, hc⟩ := (h.below R.B).atB hlt
        obtain ⟨b2, off2, z, rfl, hz, hc2⟩ := (h'.below R.B).atI hlt
        have HX := Lib.hid hx
        have HZ := Lib.hid hz
        clear hx hz
        cases x
        · go_wp2_with fail
          go_roundg (m - (k + 1))
          case measure => omega
          case rel => exact ⟨k + 1, by omega, rfl, by go_num, by rw [fullAll, HA.out, fullOne, onR_of HX.out]; rfl, R⟩
        · cases hzb : (z == 0)
          · have HB := Lib.hid hzb
            go_wp2_with fail
            go_roundg (m - (k + 1))
            case measure => omega
            case rel => exact ⟨k + 1, by omega, rfl, by go_num, by rw [fullAll, HA.out, fullOne, onR_of HX.out, ent_of HZ.out, HB.out]; rfl, R⟩
          · have NO := Lib.hid (fullAll_no (n := m) (zs := zs) hlt (by rw [fullOne, onR_of HX.out, ent_of HZ.out, hzb]; rfl))
            go_wp2_with fail
            go_ret
            exact ⟨ret_b (E.out.trans NO.out).symm, R.B⟩
      · have e : k = m := by omega
        subst e
        go_wp2_with fail
        go_ret
        exact ⟨ret_b (E.out.trans HA.out).symm, R.B⟩

end Go.Proofs.Ytcnkpcnbobiodaa
