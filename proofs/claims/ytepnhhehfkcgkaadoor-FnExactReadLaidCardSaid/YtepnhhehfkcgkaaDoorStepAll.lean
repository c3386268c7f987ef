/-
  l2Step in any direction; StepTo, both sides: what they return.
-/
import Derived.Test.YtepnhhehfkcgkaaDoorStepTo
namespace Go.Proofs.YtepnhhehfkcgkaaDoor
open Go.RowKit

theorem l2Step_any (A : Option Addr) (n c W T k : Nat) (way : Int) (w : World) (hW : 1 ≤ W) (hW6 : W ≤ 6) (hT : 1 ≤ T) (hT6 : T ≤ 6) (hk : k < W * T) (hw : inB way 1 4 = true) :
    Calls Tryd.prog 40 #[.agg #[.int .i64 W, .int .i64 T, .slice A n c], .int .i64 k, .int .i64 way] w fun e w' => e = .returned (.int .i64 (stepF W T k way)) ∧ Below w.heap.size w w' := by
  have S := stepIn_of hW hW6 hT hT6 hk
  have hb := inB_iff.1 hw
  unfold stepF
  by_cases h1 : way = 1
  · subst h1; rw [if_pos rfl]
    split
    · exact l2Step_1y A n c W T k _ _ w S (by assumption)
    · exact l2Step_1n A n c W T k _ _ w S (by assumption)
  rw [if_neg h1]
  by_cases h2 : way = 2
  · subst h2; rw [if_pos rfl]
    split
    · exact l2Step_2y A n c W T k _ _ w S (by assumption)
    · exact l2Step_2n A n c W T k _ _ w S (by assumption)
  rw [if_neg h2]
  by_cases h3 : way = 3
  · subst h3; rw [if_pos rfl]
    split
    · exact l2Step_3y A n c W T k _ _ w S (by assumption)
    · exact l2Step_3n A n c W T k _ _ w S (by assumption)
  rw [if_neg h3]
  have h4 : way = 4 := by omega
  subst h4; rw [if_pos rfl]
  split
  · exact l2Step_4y A n c W T k _ _ w S (by assumption)
  · exact l2Step_4n A n c W T k _ _ w S (by assumption)

def stepToF (W T : Int) (n : Nat) (bs : List Bool) (x way : Int) : Int := if validB W T n bs then (if inB x 0 ((n : Int) - 1) then stepF W.toNat T.toNat x.toNat way else -1) else -1

theorem stepF_no {W T k : Nat} {way : Int} (h : inB way 1 4 = false) : stepF W T k way = -1 := by
  have h' : ¬ (1 ≤ way ∧ way ≤ 4) := fun h2 => by rw [inB_iff.2 h2] at h; cases h
  unfold stepF
  rw [if_neg (by omega), if_neg (by omega), if_neg (by omega), if_neg (by omega)]



end Go.Proofs.YtepnhhehfkcgkaaDoor
