/-
  at, l1At and RegionAt, both sides: what they return.
-/
import Derived.Test.YtepnhhehfkcgkaaDoorValid
namespace Go.Proofs.YtepnhhehfkcgkaaDoor
open Go.RowKit

/-- Does the cell in column x and row y belong to the region? -/
def atB (W T : Nat) (bs : List Bool) (x y : Int) : Bool := inB x 0 ((W : Int) - 1) && (inB y 0 ((T : Int) - 1) && bs[(y * W + x).toNat]?.getD false)

theorem at_index {W T x y : Nat} (hx : x < W) (hy : y < T) : y * W + x < W * T := by
  have h1 : (y + 1) * W ≤ T * W := Nat.mul_le_mul_right _ hy
  rw [Nat.add_mul, Nat.one_mul] at h1
  have h2 : W * T = T * W := Nat.mul_comm _ _
  omega

set_option maxHeartbeats 400000 in
theorem l1At_any (A : Option Addr) (n c W T : Nat) (bs : List Bool) (x y : Int) (w : World) (V : Valid W T n bs) (h : Sl w A n (bs.map .bool)) (_hx : I64 x) (_hy : I64 y) :
    Calls Tryd.prog 27 #[.agg #[.int .i64 W, .int .i64 T, .slice A n c], .int .i64 x, .int .i64 y] w fun e w' => e = .returned (.bool (atB W T bs x y)) ∧ Below w.heap.size w w' := by
  have v0 := V.w0
  have v1 := V.w1
  have v2 := V.t0
  have v3 := V.t1
  by_cases h1 : inB x 0 ((W : Int) - 1) = true
  · by_cases h2 : inB y 0 ((T : Int) - 1) = true
    · have b1 := inB_iff.1 h1
      have b2 := inB_iff.1 h2
      obtain ⟨i, rfl⟩ := Int.eq_ofNat_of_zero_le b1.1
      obtain ⟨j, rfl⟩ := Int.eq_ofNat_of_zero_le b2.1
      have hij := at_index (W := W) (T := T) (x := i) (y := j) (by omega) (by omega)
      have hn := V.size
      have hn' := V.n36
      obtain ⟨b, off, z, rfl, hz, hc⟩ := (h.alloc (.cells #[.int .i64 W, .int .i64 T, .slice A n c] 24)).atB (k := j * W + i) (by omega)
      have E : Hid (z = atB W T bs i j) := by
        show _ = _
        rw [atB, h1, h2, show ((j : Int) * W + i).toNat = j * W + i by exact_mod_cast rfl, hz]; rfl
      have c1 : (0 : Int) ≤ (j : Int) * (W : Int) := by exact_mod_cast Nat.zero_le (j * W)
      have c2 : (j : Int) * (W : Int) + (i : Int) < (n : Int) := by rw [hn]; exact_mod_cast hij
      have c3 : ((j : Int) * (W : Int) + (i : Int)).toNat = j * W + i := by exact_mod_cast rfl
      clear hz b1 b2 hn hij
      go_enter Tryd.func27, Tryd.ntmps27
      go_wp2_with (go_at_call 36; refine (l1In_any _ _ _ _).mono ?_; rintro e w' ⟨rfl, rfl⟩)
      go_ret
      exact ⟨ret_b E.out, below1 w _⟩
    · have E : Hid (atB W T bs x y = false) := by show _ = false; simp [atB, h2]
      have e2 : inB y 0 ((T : Int) - 1) = false := by simpa using h2
      clear h2
      go_enter Tryd.func27, Tryd.ntmps27
      go_wp2_with (go_at_call 36; refine (l1In_any _ _ _ _).mono ?_; rintro e w' ⟨rfl, rfl⟩)
      go_ret
      exact ⟨ret_b E.out.symm, below1 w _⟩
  · have E : Hid (atB W T bs x y = false) := by show _ = false; simp [atB, h1]
    have e1 : inB x 0 ((W : Int) - 1) = false := by simpa using h1
    clear h1
    go_enter Tryd.func27, Tryd.ntmps27
    go_wp2_with (go_at_call 36; refine (l1In_any _ _ _ _).mono ?_; rintro e w' ⟨rfl, rfl⟩)
    go_ret
    exact ⟨ret_b E.out.symm, below1 w _⟩

def atF (W T : Int) (n : Nat) (bs : List Bool) (x y : Int) : Bool := if validB W T n bs then atB W.toNat T.toNat bs x y else false

end Go.Proofs.YtepnhhehfkcgkaaDoor
