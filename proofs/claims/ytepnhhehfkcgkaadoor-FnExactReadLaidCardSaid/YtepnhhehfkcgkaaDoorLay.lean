/-
  free, lay and LayOne of the program: what they return.
-/
import Derived.Test.YtepnhhehfkcgkaaDoorTilOk
import Derived.Test.YtepnhhehfkcgkaaDoorClone
namespace Go.Proofs.YtepnhhehfkcgkaaDoor
open Go.RowKit

/-- May a domino be laid from a cell? -/
def freeK (W T : Nat) (bs : List Bool) (zs : List Int) (k : Nat) (way : Int) : Bool :=
  decide (0 ≤ stepF W T k way) && (onR bs k && (onR bs (stepF W T k way).toNat && (ent zs k == 0 && ent zs (stepF W T k way).toNat == 0)))
def freeB (W T n : Nat) (bs : List Bool) (zs : List Int) (x way : Int) : Bool := inB x 0 ((n : Int) - 1) && freeK W T bs zs x.toNat way
def layL (W T : Nat) (zs : List Int) (k : Nat) (way : Int) : List Int := (zs.set k way).set (stepF W T k way).toNat (backF way)
def layOk (W T : Int) (n : Nat) (bs : List Bool) (m : Nat) (zs : List Int) (x way : Int) : Bool := laidB W T n bs m zs && freeB W.toNat T.toNat n bs zs x way
def layZ (W T : Int) (n : Nat) (bs : List Bool) (m : Nat) (zs : List Int) (x way : Int) : List Int :=
  if laidB W T n bs m zs then (if freeB W.toNat T.toNat n bs zs x way then layL W.toNat T.toNat zs x.toNat way else zs) else []

theorem step_way {W T k : Nat} {way : Int} (h : 0 ≤ stepF W T k way) : 1 ≤ way ∧ way ≤ 4 := by
  have : inB way 1 4 = true := by
    cases hi : inB way 1 4 with
    | true => rfl
    | false => rw [stepF_no hi] at h; omega
  exact inB_iff.1 this
theorem free_step {W T k n : Nat} {bs : List Bool} {zs : List Int} {way : Int} (V : Valid W T n bs) (hk : k < n) (h : freeK W T bs zs k way = true) : ∃ j : Nat, stepF W T k way = j ∧ j < n ∧ 1 ≤ way ∧ way ≤ 4 := by
  rw [freeK, Bool.and_eq_true, decide_eq_true_eq] at h
  obtain ⟨t1, t2⟩ := stepF_bound (way := way) V.w0 (by rw [← V.size]; exact hk)
  obtain ⟨j, hj⟩ := Int.eq_ofNat_of_zero_le h.1
  have := V.size
  exact ⟨j, hj, by omega, step_way h.1⟩




end Go.Proofs.YtepnhhehfkcgkaaDoor
