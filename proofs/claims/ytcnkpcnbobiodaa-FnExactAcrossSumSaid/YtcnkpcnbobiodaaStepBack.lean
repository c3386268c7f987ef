/-
  Plain law: a step in the opposite direction leads back.
-/
import Derived.Test.YtcnkpcnbobiodaaLaid
namespace Go.Proofs.Ytcnkpcnbobiodaa
open Go.RowKit

theorem step_back {W T k j : Nat} {way : Int} (hW : 1 ≤ W) (hk : k < W * T) (h : stepF W T k way = (j : Int)) : stepF W T j (backF way) = k ∧ j ≠ k ∧ j < W * T := by
  have e := Nat.div_add_mod k W
  have hm := Nat.mod_lt k (show W > 0 by omega)
  have hd := Nat.div_lt_of_lt_mul hk
  obtain ⟨t1, t2⟩ := stepF_bound (way := way) hW hk
  rw [h] at t2
  refine ⟨?_, ?_, by omega⟩
  · unfold stepF at h
    split at h
    · rename_i h1
      subst h1
      split at h
      · rename_i hc
        have hj : j = k + 1 := by omega
        have hmod : j % W = k % W + 1 := by
          rw [show j = (k % W + 1) + W * (k / W) by omega, Nat.add_mul_mod_self_left, Nat.mod_eq_of_lt hc]
        rw [show backF 1 = 3 by decide]
        unfold stepF
        rw [if_neg (by decide), if_neg (by decide), if_pos rfl, if_pos (by omega)]
        omega
      · omega
    split at h
    · rename_i h1
      subst h1
      split at h
      · have hj : j = k + W := by omega
        have hdv : j / W = k / W + 1 := by rw [hj, Nat.add_div_right _ (by omega)]
        rw [show backF 2 = 4 by decide]
        unfold stepF
        rw [if_neg (by decide), if_neg (by decide), if_neg (by decide), if_pos rfl, if_pos (show 0 < j / W by rw [hdv]; exact Nat.succ_pos _)]
        omega
      · omega
    split at h
    · rename_i h1
      subst h1
      split at h
      · rename_i hc
        have hj : k = j + 1 := by omega
        have hmod : j % W + 1 < W := by
          have hjd := Nat.div_add_mod j W
          have hjm := Nat.mod_lt j (show W > 0 by omega)
          rcases Nat.lt_or_ge (j % W + 1) W with hlt | hge
          · exact hlt
          · exfalso
            have : k = W * (j / W + 1) := by rw [Nat.mul_add, Nat.mul_one]; omega
            rw [this, Nat.mul_mod_right] at hc
            omega
        rw [show backF 3 = 1 by decide]
        unfold stepF
        rw [if_pos rfl, if_pos (by omega)]
        omega
      · omega
    split at h
    · rename_i h1
      subst h1
      split at h
      · rename_i hc
        have hWk : W ≤ k := by
          have : W * 1 ≤ W * (k / W) := Nat.mul_le_mul_left _ hc
          omega
        have hj : k = j + W := by omega
        have hdv : k / W = j / W + 1 := by rw [hj, Nat.add_div_right _ (by omega)]
        rw [show backF 4 = 2 by decide]
        unfold stepF
        rw [if_neg (by decide), if_pos rfl, if_pos (show j / W + 1 < T by rw [← hdv]; exact hd)]
        omega
      · omega
    · omega
  · rintro rfl
    unfold stepF at h
    split at h
    · split at h <;> omega
    split at h
    · split at h <;> omega
    split at h
    · split at h <;> omega
    split at h
    · split at h <;> omega
    · omega

end Go.Proofs.Ytcnkpcnbobiodaa
