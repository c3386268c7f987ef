/-
  l2First of the reference: what it returns.
-/
import Derived.Test.YtcnkpcnbobiodaaCompD
import Derived.Test.YtcnkpcnbobiodaaTot
import Derived.Deep.RegionHeld3
import Derived.Deep.LoopGhost
import Derived.Test.YtcnkpcnbobiodaaLayS
import Derived.Deep.RegionLaw
namespace Go.Proofs.Ytcnkpcnbobiodaa
open Go.RowKit
open Til (on open' tilings Done oneT)

/-- What l2First gives back. -/
def FirstR (bs : List Bool) (zs : List Int) (n : Nat) (f : Int) : Prop := (f = -1 ∧ Done bs zs n) ∨ ∃ j : Nat, f = (j : Int) ∧ j < n ∧ Done bs zs j ∧ open' bs zs j = true

set_option maxHeartbeats 1000000 in
theorem first_any (A : Option Addr) (n c W T : Nat) (bs : List Bool) (B : Option Addr) (d : Nat) (zs : List Int) (w : World) (V : Valid W T n bs) (h : Sl w A n (bs.map .bool)) (h' : Sl w B n (zs.map (.int .i64))) :
    Calls Try.prog 75 #[.agg #[.int .i64 W, .int .i64 T, .slice A n c], .slice B n d] w fun e w' => ∃ f : Int, e = .returned (.int .i64 f) ∧ FirstR bs zs n f ∧ Below w.heap.size w w' := by
  have n36 := V.n36
  go_enter Try.func75, Try.ntmps75
  go_wp2_with fail
  go_loopg [5] n (fun gk i wx => ∃ j : Nat, j ≤ n ∧ gk = n - j ∧ i = .int .i64 j ∧ Done bs zs j ∧ P1 w (.int .i64 W) (.int .i64 T) (.slice A n c) wx)
  case atStart => exact ⟨0, Nat.zero_le _, rfl, rfl, fun i hi => by omega, P1.new _ _ _ _ _⟩
  case round =>
    obtain ⟨j, hj, rfl, rfl, hdn, R⟩ := hrel
    have HDN := Lib.hid hdn
    clear hdn
    have k1 := R.X.1
    have k2 := R.X.2.1
    have k3 := R.X.2.2
    by_cases hlt : j < n
    · obtain ⟨b, off, x, rfl, hx, hc1⟩ := (h.below R.B).atB hlt
      obtain ⟨b2, off2, y, rfl, hy, hc2⟩ := (h'.below R.B).atI hlt
      have HX := Lib.hid (show on bs j = x by unfold Til.on; rw [hx]; rfl)
      have HY := Lib.hid (ent_of hy)
      clear hx hy
      have dsucc : open' bs zs j = false → Done bs zs (j + 1) := fun h i hi => by
        by_cases e : i = j
        · subst e; exact h
        · exact HDN.out i (by omega)
      have HDS := Lib.hid dsucc
      clear dsucc
      cases x
      · have HOP := Lib.hid (show open' bs zs j = false by rw [Til.open', HX.out]; rfl)
        go_wp2_with fail
        go_roundg (n - (j + 1))
        case measure => omega
        case rel => exact ⟨j + 1, by omega, rfl, by go_num, HDS.out HOP.out, R⟩
      · by_cases hy0 : y = 0
        · subst hy0
          have HOP := Lib.hid (show open' bs zs j = true by rw [Til.open', HX.out, HY.out]; rfl)
          go_wp2_with fail
          go_ret
          exact ⟨_, rfl, .inr ⟨j, rfl, hlt, HDN.out, HOP.out⟩, R.B⟩
        · have hyb : (y == 0) = false := by rw [beq_eq_false_iff_ne]; exact hy0
          have HOP := Lib.hid (show open' bs zs j = false by rw [Til.open', HX.out, HY.out, hyb]; rfl)
          clear hy0
          go_wp2_with fail
          go_roundg (n - (j + 1))
          case measure => omega
          case rel => exact ⟨j + 1, by omega, rfl, by go_num, HDS.out HOP.out, R⟩
    · have e : j = n := by omega
      subst e
      go_wp2_with fail
      go_ret
      exact ⟨_, rfl, .inl ⟨rfl, HDN.out⟩, R.B⟩

theorem lays_i64 {W T n : Nat} {bs : List Bool} {zs : List Int} (hl : zs.length = n) (h : laysAll W T bs zs n = true) : ∀ z ∈ zs, I64 z := by
  intro z hz
  obtain ⟨i, hi, rfl⟩ := List.getElem_of_mem hz
  have he : ent zs i = zs[i] := ent_of (List.getElem?_eq_getElem hi)
  rcases Til.laysOne_iff.1 (laysAll_one (by omega : i < n) h) with h0 | ⟨j, hs, _⟩
  · rw [he] at h0; rw [h0]; exact ⟨by omega, by omega⟩
  · have := step_way (by rw [hs]; omega : 0 ≤ stepF W T i (ent zs i))
    rw [he] at this
    exact ⟨by omega, by omega⟩
theorem laid_true {W T n : Nat} {bs : List Bool} {zs : List Int} (V : Valid W T n bs) (h : laysAll W T bs zs n = true) : laidB W T n bs n zs = true := by
  rw [laidB, V.ok, Int.toNat_natCast, Int.toNat_natCast, h]; simp

end Go.Proofs.Ytcnkpcnbobiodaa
