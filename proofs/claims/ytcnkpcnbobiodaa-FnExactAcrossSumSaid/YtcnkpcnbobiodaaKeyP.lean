/-
  Counting with a memory, the plain law: what a key of the memory stands for. No program in sight.
-/
import Derived.Test.YtcnkpcnbobiodaaTilP
import Derived.Test.YtcnkpcnbobiodaaLaid
namespace Go.Proofs.Ytcnkpcnbobiodaa
namespace Til

/-- The cells that are still free where some are covered. -/
def avC (bs cov : List Bool) : List Bool := (List.range bs.length).map fun i => on bs i && !on cov i
theorem on_avC (bs cov : List Bool) (i : Nat) : on (avC bs cov) i = (on bs i && !on cov i) := by
  unfold avC
  rcases Nat.lt_or_ge i bs.length with h | h
  · show (((List.range bs.length).map fun i => on bs i && !on cov i)[i]?).getD false = _
    rw [List.getElem?_map, List.getElem?_range h]; rfl
  · have : on bs i = false := by unfold on; rw [List.getElem?_eq_none h]; rfl
    rw [this]
    show (((List.range bs.length).map fun i => on bs i && !on cov i)[i]?).getD false = _
    rw [List.getElem?_eq_none (by simpa using h)]; rfl
theorem avC_len (bs cov : List Bool) : (avC bs cov).length = bs.length := by simp [avC]

/-- The bytes of a key: the cell, and a sign for each cell from it on. -/
def signU (c : Bool) : UInt8 := if c then 49 else 48
def keyU (cell : Nat) (cov : List Bool) : List UInt8 := UInt8.ofNat cell :: (cov.drop cell).map signU
/-- The free cells that a key tells. -/
def avK (bs : List Bool) (cell : Nat) (r : List UInt8) : List Bool := (List.range bs.length).map fun i => on bs i && (r[i - cell]? == some 48)
theorem on_avK (bs : List Bool) (cell i : Nat) (r : List UInt8) : on (avK bs cell r) i = (on bs i && (r[i - cell]? == some 48)) := by
  rcases Nat.lt_or_ge i bs.length with h | h
  · show (((List.range bs.length).map fun i => on bs i && (r[i - cell]? == some 48))[i]?).getD false = _
    rw [List.getElem?_map, List.getElem?_range h]; rfl
  · have : on bs i = false := by unfold on; rw [List.getElem?_eq_none h]; rfl
    rw [this]
    show (((List.range bs.length).map fun i => on bs i && (r[i - cell]? == some 48))[i]?).getD false = _
    rw [List.getElem?_eq_none (by simpa using h)]; rfl
/-- What stands in the memory at a key. -/
def valK (W T : Nat) (bs : List Bool) : List UInt8 → Nat
  | [] => 0
  | c :: r => cntA W T (bs.length - c.toNat) c.toNat (avK bs c.toNat r)

theorem valK_key {W T cell : Nat} {bs cov : List Bool} (hc : cell < 256) (hl : cov.length = bs.length) : valK W T bs (keyU cell cov) = cntA W T (bs.length - cell) cell (avC bs cov) := by
  have e : (UInt8.ofNat cell).toNat = cell := by rw [UInt8.toNat_ofNat']; exact Nat.mod_eq_of_lt hc
  rw [keyU, valK, e]
  refine cntA_eq fun i hi => ?_
  rw [on_avK, on_avC]
  rcases Nat.lt_or_ge i bs.length with h | h
  · have h2 : i < cov.length := by omega
    have e1 : ((cov.drop cell).map signU)[i - cell]? = some (signU cov[i]) := by
      rw [List.getElem?_map, List.getElem?_drop, show cell + (i - cell) = i by omega, List.getElem?_eq_getElem h2]; rfl
    have e2 : on cov i = cov[i] := by unfold on; rw [List.getElem?_eq_getElem h2]; rfl
    rw [e1, e2]
    cases cov[i] <;> cases on bs i <;> rfl
  · have : on bs i = false := by unfold on; rw [List.getElem?_eq_none h]; rfl
    rw [this]; rfl

/-- Where a domino is laid, the covered cells are two more. -/
def cov2 (cov : List Bool) (k t : Nat) : List Bool := (cov.set k true).set t true
theorem cov2_len (cov : List Bool) (k t : Nat) : (cov2 cov k t).length = cov.length := by simp [cov2]
theorem avC_cov2 {W T rem p k t : Nat} {bs cov : List Bool} (hk : k < cov.length) (ht : t < cov.length) : cntA W T rem p (avC bs (cov2 cov k t)) = cntA W T rem p (less2 (avC bs cov) k t) := by
  refine cntA_eq fun i _ => ?_
  rw [on_avC, on_less2, on_avC, cov2, on_set (by simpa using ht), on_set hk]
  by_cases h1 : i = t
  · subst h1; simp
  · by_cases h2 : i = k
    · subst h2; simp
    · simp [h1, h2]

/-- One way of a free cell. -/
def oneW (W T n : Nat) (bs cov : List Bool) (k : Nat) (way : Int) : Nat :=
  if to W T (avC bs cov) k way then cntA W T (n - (k + 1)) (k + 1) (avC bs (cov2 cov k (stepF W T k way).toNat)) else 0
theorem cntA_one {W T n k : Nat} {bs cov : List Bool} (hk : k < n) (hn : bs.length = n) (hl : cov.length = n) (h : on (avC bs cov) k = true) :
    cntA W T (n - k) k (avC bs cov) = oneW W T n bs cov k 1 + oneW W T n bs cov k 2 := by
  have e : n - k = (n - (k + 1)) + 1 := by omega
  have lt : ∀ way, to W T (avC bs cov) k way = true → (stepF W T k way).toNat < cov.length := by
    intro way h
    unfold to at h
    rw [Bool.and_eq_true] at h
    have := on_lt h.2
    rw [avC_len] at this
    omega
  rw [e, cntA, if_pos h, oneW, oneW]
  congr 1
  · cases ht : to W T (avC bs cov) k 1
    · rfl
    · rw [if_pos rfl, if_pos rfl, avC_cov2 (by omega) (lt _ ht)]
  · cases ht : to W T (avC bs cov) k 2
    · rfl
    · rw [if_pos rfl, if_pos rfl, avC_cov2 (by omega) (lt _ ht)]
theorem oneW_le (W T n : Nat) (bs cov : List Bool) (k : Nat) (way : Int) : oneW W T n bs cov k way ≤ 2 ^ (n - (k + 1)) := by
  unfold oneW
  split
  · exact cntA_le _ _ _ _ _
  · exact Nat.zero_le _
theorem onR_on (bs : List Bool) (k : Nat) : onR bs k = on bs k := rfl

/-- The free cells of a list of dominoes. -/
def avL (bs : List Bool) (zs : List Int) : List Bool := avC bs (zs.map fun z => z != 0)
theorem on_avL {bs : List Bool} {zs : List Int} (i : Nat) : on (avL bs zs) i = (on bs i && ent zs i == 0) := by
  have : on (zs.map fun z => z != 0) i = (ent zs i != 0) := by
    unfold on ent
    rw [List.getElem?_map]
    cases zs[i]? <;> rfl
  rw [avL, on_avC, this]
  cases on bs i <;> simp [bne]
theorem avL_bare (bs : List Bool) (n i : Nat) : on (avL bs (List.replicate n 0)) i = on bs i := by
  have : ent (List.replicate n 0) i = 0 := by
    unfold ent
    rw [List.getElem?_replicate]
    split <;> rfl
  rw [on_avL, this]; simp
theorem cnt_bare {W T : Nat} (bs : List Bool) (n : Nat) : cntA W T n 0 (avL bs (List.replicate n 0)) = cntA W T n 0 bs := cntA_eq fun i _ => avL_bare bs n i

end Til
end Go.Proofs.Ytcnkpcnbobiodaa
