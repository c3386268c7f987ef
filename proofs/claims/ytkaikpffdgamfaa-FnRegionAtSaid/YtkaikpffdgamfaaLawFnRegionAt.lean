/-
  The law FnRegionAt: its walk.
-/
import Derived.Test.YtkaikpffdgamfaaDrawAt
import Derived.Deep.RegionHeld3
import Derived.IntWalk
namespace Go.Proofs.Ytkaikpffdgamfaa
open Go.RowKit

set_option maxHeartbeats 1000000 in
theorem law_FnRegionAt (A : Option Addr) (n c : Nat) (us : List Int) (w : World) (hn : n ≤ 9223372036854775807 ∧ n ≤ c) (h : Sl w A n (us.map (.int .u8))) (hu : ∀ u ∈ us, 0 ≤ u ∧ u ≤ 255) :
    Calls Try.prog 13 #[.slice A n c] w fun e w' => e = .returned (.bool true) ∧ Below w.heap.size w w' := by
  have hn1 := hn.1
  by_cases hbig : 1048576 < n
  · go_enter Try.func13, Try.ntmps13
    go_wp2_with fail
    go_ret
    exact ⟨rfl, Below.refl _ _⟩
  go_enter Try.func13, Try.ntmps13
  go_wp2_with fail
  refine (drawRAt_any A n c us _ hn h hu).mono ?_; rintro e w1 ⟨W, T, cs, x, y, D, d, hcs, hx, hy, rfl, hown, hb1⟩
  go_wp2_with fail
  have x1 := Box.new w1 (.int .i64 W) (.int .i64 T) (.slice D cs.length d) 27
  have B1 := belowA (o := .cells #[.int .i64 W, .int .i64 T, .slice D cs.length d] 27) hb1
  have s1 := hown.sl.alloc (.cells #[.int .i64 W, .int .i64 T, .slice D cs.length d] 27)
  have hx' : I64 x := ⟨by omega, by omega⟩
  have hy' : I64 y := ⟨by omega, by omega⟩
  refine (at_impl D cs.length d W T cs x y _ (by omega) s1 hx' hy').mono ?_; rintro e w2 ⟨rfl, hb2⟩
  have x2 := x1.below hb2
  have B2 := belowW B1 hb2
  have s2 := s1.below hb2
  clear x1 B1 s1 hb2
  have k1 := x2.1
  have k2 := x2.2.1
  have k3 := x2.2.2
  go_wp2_with fail
  refine (at_spec D cs.length d W T cs x y _ (by omega) s2 hx' hy').mono ?_; rintro e w3 ⟨rfl, hb3⟩
  have x3 := x2.below hb3
  have B3 := belowW B2 hb3
  have s3 := s2.below hb3
  clear x2 B2 s2 hb3 k1 k2 k3
  have k1 := x3.1
  have k2 := x3.2.1
  have k3 := x3.2.2
  have hl := hown.sl.1
  rw [List.length_map] at hl
  by_cases hv : atF W T cs.length cs x y = true
  · obtain ⟨W, T, i, j, g, rfl, rfl, rfl, rfl, rfl, V, hi, hj, hcell⟩ : ∃ W' T' i j g : Nat, W = W' ∧ T = T' ∧ x = i ∧ y = j ∧ D = some ⟨g, 0, none⟩ ∧ Valid W' T' cs.length cs ∧ i < W' ∧ j < T' ∧ w3.cell? ⟨g, j * W' + i, none⟩ = some (.bool true) := by
      have hvB : validB W T cs.length cs = true := by
        rw [atF] at hv
        split at hv
        · assumption
        · cases hv
      obtain ⟨W', T', rfl, rfl, V⟩ := valid_of hvB hl
      rw [atF, if_pos hvB] at hv
      simp only [Int.toNat_natCast, atB, Bool.and_eq_true] at hv
      obtain ⟨h1, h2, h3⟩ := hv
      have b1 := inB_iff.1 h1
      have b2 := inB_iff.1 h2
      obtain ⟨i, rfl⟩ := Int.eq_ofNat_of_zero_le b1.1
      obtain ⟨j, rfl⟩ := Int.eq_ofNat_of_zero_le b2.1
      have hi : i < W' := by omega
      have hj : j < T' := by omega
      have hij := at_index hi hj
      have hk : j * W' + i < cs.length := by rw [V.size]; exact hij
      obtain ⟨g, rfl, _, _⟩ := hown.form (by omega)
      obtain ⟨b, off, z, hA, hz, hc⟩ := s3.atB hk
      rw [show ((j : Int) * W' + i).toNat = j * W' + i by exact_mod_cast rfl, hz] at h3
      injection hA with hA
      injection hA with e1 e2 _
      subst e1 e2
      rw [Nat.zero_add] at hc
      simp at h3
      subst h3
      exact ⟨W', T', i, j, _, rfl, rfl, rfl, rfl, rfl, V, hi, hj, hc⟩
    have hij := at_index hi hj
    have hn36 := V.n36
    have c0 : (0 : Int) ≤ (j : Int) * (W : Int) := by exact_mod_cast Nat.zero_le (j * W)
    have c2 : (j : Int) * (W : Int) + (i : Int) < (cs.length : Int) := by rw [V.size]; exact_mod_cast hij
    have c3 : ((j : Int) * (W : Int) + (i : Int)).toNat = j * W + i := by exact_mod_cast rfl
    have c1 : (0 : Int) ≤ (j : Int) * (W : Int) + (i : Int) := by omega
    have e1 : IntKind.i64.wrap ((j : Int) * (W : Int)) = (j : Int) * (W : Int) := IntWalk.i64_in _ (by omega)
    have e2 : IntKind.i64.wrap ((j : Int) * (W : Int) + (i : Int)) = (j : Int) * (W : Int) + (i : Int) := IntWalk.i64_in _ (by omega)
    have d1 : decide ((0 : Int) ≤ (i : Int)) = true := decide_eq_true (by omega)
    have d2 : decide ((0 : Int) ≤ (j : Int)) = true := decide_eq_true (by omega)
    have d3 : decide ((i : Int) < (W : Int)) = true := decide_eq_true (by omega)
    have d4 : decide ((j : Int) < (T : Int)) = true := decide_eq_true (by omega)
    clear hij
    go_wp2_with fail
    refine (alive_any _).mono ?_; rintro e w4 ⟨rfl, hb4⟩
    go_wp2_with fail
    go_ret
    exact ⟨rfl, belowW B3 hb4⟩
  · have hv' : atF W T cs.length cs x y = false := by simpa using hv
    clear hv
    go_wp2_with fail
    refine (alive_any _).mono ?_; rintro e w4 ⟨rfl, hb4⟩
    go_wp2_with fail
    go_ret
    exact ⟨rfl, belowW B3 hb4⟩

end Go.Proofs.Ytkaikpffdgamfaa
