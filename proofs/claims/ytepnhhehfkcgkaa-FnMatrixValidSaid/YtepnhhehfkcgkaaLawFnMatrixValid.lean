/-
  The law FnMatrixValid: its walk.
-/
import Derived.Test.YtepnhhehfkcgkaaDrawMV
import Derived.Test.YtepnhhehfkcgkaaMatV
namespace Go.Proofs.Ytepnhhehfkcgkaa
open Go.RowKit

theorem Mx.take {w : World} {A : Option Addr} {n : Nat} {M : List (List Int)} (h : Mx w A n M) {m : Nat} (hm : m ≤ n) : Mx w A m (M.take m) := by
  refine ⟨by rw [List.length_take, h.1]; omega, fun k row hk => ?_⟩
  rw [List.getElem?_take] at hk
  split at hk
  · exact h.2 k row hk
  · cases hk
theorem matB_take {M : List (List Int)} (h : matB M = true) (h2 : 2 ≤ M.length) : matB (M.take (M.length - 1)) = false := by
  rw [matB, Bool.and_eq_true, List.all_eq_true] at h
  obtain ⟨h, -⟩ := h
  cases M with
  | nil => simp at h2
  | cons r rs =>
    have hr := h r (by simp)
    rw [rowOk, Bool.and_eq_true, decide_eq_true_eq] at hr
    have e : (r :: rs).length - 1 = (rs.length - 1) + 1 := by simp at h2 ⊢; omega
    rw [e, List.take_succ_cons, matB]
    have : rowOk (r :: List.take (rs.length - 1) rs).length r = false := by
      rw [rowOk, decide_eq_false]
      · rfl
      · rw [hr.1]; simp at h2 ⊢; omega
    rw [List.all_cons, List.length_cons]
    rw [List.length_cons] at this
    rw [this]; rfl

set_option maxRecDepth 100000 in
set_option maxHeartbeats 4000000 in
theorem law_FnMatrixValid (A : Option Addr) (n c : Nat) (us : List Int) (w : World) (hn : n ≤ 9223372036854775807 ∧ n ≤ c) (h : Sl w A n (us.map (.int .u8))) (hu : ∀ u ∈ us, 0 ≤ u ∧ u ≤ 255) :
    Calls Try.prog 3 #[.slice A n c] w fun e w' => e = .returned (.bool true) ∧ Below w.heap.size w w' := by
  have hn1 := hn.1
  by_cases hbig : 1048576 < n
  · go_enter Try.func3, Try.ntmps3
    go_wp2_with fail
    go_ret
    exact ⟨rfl, Below.refl _ _⟩
  go_enter Try.func3, Try.ntmps3
  go_wp2_with fail
  refine (drawMV_any A n c us _ hn h hu).mono ?_; rintro e w1 ⟨D, k, dc, M, rfl, hkd, hk7, hM, hD, hb1⟩
  have nilM : matB [] = true := rfl
  cases hv : matB M
  · go_wp2_with (first
      | (go_at_call 15; refine (alive_any _).mono ?_; rintro e w5 ⟨rfl, hb5⟩)
      | (go_at_call 13; refine (mat_impl' none 0 0 [] w3 (by omega) ⟨rfl, fun k row h => by simp at h⟩).mono ?_; rintro e w4 ⟨rfl, hb4⟩; rw [nilM])
      | (go_at_call 14; refine (mat_spec' D k dc M w2 (by omega) (hM.below hb2)).mono ?_; rintro e w3 ⟨rfl, hb3⟩; rw [hv])
      | (go_at_call 13; refine (mat_impl' D k dc M w1 (by omega) hM).mono ?_; rintro e w2 ⟨rfl, hb2⟩; rw [hv]))
    go_ret
    exact ⟨rfl, belowW (belowW (belowW (belowW hb1 hb2) hb3) hb4) hb5⟩
  · by_cases h2 : 2 ≤ k
    · obtain ⟨b, rfl⟩ := hD (by omega)
      obtain ⟨j, rfl⟩ : ∃ j, k = j + 1 := ⟨k - 1, by omega⟩
      have e1 : (((j + 1 : Nat) : Int)) - 1 = (j : Int) := by omega
      have hT : matB (M.take j) = false := by have := matB_take hv (by rw [hM.1]; exact h2); rw [hM.1] at this; exact this
      have hMT := hM.take (m := j) (by omega)
      have HT := Lib.hid hT
      clear hT
      go_wp2_with (first
        | (go_at_call 15; refine (alive_any _).mono ?_; rintro e w5 ⟨rfl, hb5⟩)
        | (go_at_call 13; refine (mat_impl' none 0 0 [] w6 (by omega) ⟨rfl, fun k row h => by simp at h⟩).mono ?_; rintro e w4 ⟨rfl, hb4⟩; rw [nilM])
        | (go_at_call 13; refine (mat_impl' (some ⟨b, 0, none⟩) j dc (M.take j) w3 (by omega) ((hMT.below hb2).below hb3)).mono ?_; rintro e w6 ⟨rfl, hb6⟩; rw [HT.out])
        | (go_at_call 14; refine (mat_spec' (some ⟨b, 0, none⟩) (j + 1) dc M w2 (by omega) (hM.below hb2)).mono ?_; rintro e w3 ⟨rfl, hb3⟩; rw [hv])
        | (go_at_call 13; refine (mat_impl' (some ⟨b, 0, none⟩) (j + 1) dc M w1 (by omega) hM).mono ?_; rintro e w2 ⟨rfl, hb2⟩; rw [hv]))
      go_ret
      exact ⟨rfl, belowW (belowW (belowW (belowW (belowW hb1 hb2) hb3) hb6) hb4) hb5⟩
    · go_wp2_with (first
        | (go_at_call 15; refine (alive_any _).mono ?_; rintro e w5 ⟨rfl, hb5⟩)
        | (go_at_call 13; refine (mat_impl' none 0 0 [] w3 (by omega) ⟨rfl, fun k row h => by simp at h⟩).mono ?_; rintro e w4 ⟨rfl, hb4⟩; rw [nilM])
        | (go_at_call 14; refine (mat_spec' D k dc M w2 (by omega) (hM.below hb2)).mono ?_; rintro e w3 ⟨rfl, hb3⟩; rw [hv])
        | (go_at_call 13; refine (mat_impl' D k dc M w1 (by omega) hM).mono ?_; rintro e w2 ⟨rfl, hb2⟩; rw [hv]))
      go_ret
      exact ⟨rfl, belowW (belowW (belowW (belowW hb1 hb2) hb3) hb4) hb5⟩

end Go.Proofs.Ytepnhhehfkcgkaa
