/-
  The law FnExactDet: its walk. By program (wip/tools/genlaw.py).
-/
import Derived.Test.YtepnhhehfkcgkaaDetS
namespace Go.Proofs.Ytepnhhehfkcgkaa
open Go.RowKit

set_option maxHeartbeats 400000 in
theorem law_Det (A0 : Option Addr) (n0 c0 : Nat) (M0 : List (List Int)) (w : World) (hn0 : n0 ≤ 9223372036854775807) (h0 : Mx w A0 n0 M0) :
    Calls Try.prog 4 #[.slice A0 n0 c0] w fun e w' => e = .returned (.bool true) ∧ Below w.heap.size w w' := by
  by_cases hbig : szM 1048576 M0 < 0
  · go_enter Try.func4, Try.ntmps4
    go_wp2_with fail
    refine (szIntSS_any A0 n0 c0 M0 1048576 _ hn0 h0 (by omega) (by omega)).mono ?_; rintro e w1 ⟨rfl, rfl⟩
    go_wp2_with fail
    go_ret
    exact ⟨rfl, Below.refl _ _⟩
  have hl := h0.1
  have hq : n0 ≤ 1048576 ∧ ∀ row ∈ M0, row.length ≤ 1048576 := by
    rw [szM] at hbig
    split at hbig
    · omega
    · refine ⟨by omega, fun row hr => ?_⟩
      have := szL_rows M0 (1048576 - M0.length) (by omega) (by omega) row hr
      omega
  obtain ⟨hq1, hq2⟩ := hq
  have HQ := Lib.hid hq2
  have hbig' : 0 ≤ szM 1048576 M0 := by omega
  clear hl hq2 hbig
  go_enter Try.func4, Try.ntmps4
  go_wp2_with fail
  refine (szIntSS_any A0 n0 c0 M0 1048576 _ hn0 h0 (by omega) (by omega)).mono ?_; rintro e w1 ⟨rfl, rfl⟩
  go_wp2_with fail
  refine (toIntSS_any A0 n0 c0 M0 _ hq1 HQ.out h0).mono ?_; rintro e w2 ⟨g2, rfl, m2, B2⟩
  go_wp2_with fail
  refine (det_spec (some ⟨g2, 0, none⟩) n0 n0 M0 _ (by omega) m2).mono ?_; rintro e w3 ⟨rfl, hb3⟩
  have B3 := belowW B2 hb3
  clear hb3 m2 B2
  go_wp2_with fail
  refine (toIntSS_any A0 n0 c0 M0 _ hq1 HQ.out (h0.below B3)).mono ?_; rintro e w4 ⟨g4, rfl, m4, hb4⟩
  have B4 := belowW B3 hb4
  clear hb4 B3
  go_wp2_with fail
  refine (det_impl (some ⟨g4, 0, none⟩) n0 n0 M0 _ (by omega) m4).mono ?_; rintro e w5 ⟨rfl, hb5⟩
  have B5 := belowW B4 hb5
  have m5 := m4.below hb5
  clear hb5 m4 B4
  go_wp2_with fail
  refine (toIntSS_any A0 n0 c0 M0 _ hq1 HQ.out (h0.below B5)).mono ?_; rintro e w6 ⟨g6, rfl, m6, hb6⟩
  have B6 := belowW B5 hb6
  have m5' := m5.below hb6
  clear hb6 m5 B5
  go_wp2_with fail
  refine (eqIntSS_self (some ⟨g4, 0, none⟩) (some ⟨g6, 0, none⟩) n0 _ _ M0 _ (by omega) m5' m6).mono ?_; rintro e w7 ⟨rfl, hb7⟩
  have B7 := belowW B6 hb7
  go_wp2_with fail
  go_ret
  exact ⟨rfl, B7⟩

end Go.Proofs.Ytepnhhehfkcgkaa
