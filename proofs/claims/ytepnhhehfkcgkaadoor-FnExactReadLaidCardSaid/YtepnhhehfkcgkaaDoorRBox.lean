/-
  field and RegionBox, both sides: what they return.
-/
import Derived.Test.YtepnhhehfkcgkaaDoorValid
import Derived.Test.YtepnhhehfkcgkaaDoorMem2
import Derived.Test.YtepnhhehfkcgkaaDoorApp
import Derived.Test.YtepnhhehfkcgkaaDoorLawB
namespace Go.Proofs.YtepnhhehfkcgkaaDoor
open Go.RowKit

set_option maxHeartbeats 400000 in
theorem field_any (W T m : Nat) (w : World) (hW : W ≤ 6) (hT : T ≤ 6) (hm : m = W * T) :
    Calls Tryd.prog 30 #[.int .i64 W, .int .i64 T] w fun e w' => ∃ g, e = .returned (.agg #[.int .i64 W, .int .i64 T, .slice (some ⟨g, 0, none⟩) m m]) ∧ Own w' w.heap.size w'.heap.size 4 (some ⟨g, 0, none⟩) m m (List.replicate m (.bool false)) ∧ Below w.heap.size w w' := by
  have hm1 : m ≤ 36 := by rw [hm]; exact Nat.mul_le_mul hW hT
  have hm2 : (W : Int) * (T : Int) = (m : Int) := by rw [hm]; simp
  clear hm
  have hmk := run_make_row' (P := Tryd.prog) 22 4 (.bool false) 1 Tryd.underlying22 Tryd.infoBool rfl .i64 .i64 m (by omega) (by omega)
  go_enter Tryd.func30, Tryd.ntmps30
  go_wp2
  refine bodyPost_ret (v := .agg #[.int .i64 W, .int .i64 T, .slice (some ⟨w.heap.size + 1, 0, none⟩) m m]) (by simp [results, Tryd.results30, go_sem]) rfl ⟨w.heap.size + 1, rfl, ?_, ?_⟩
  · have := Own.made (w := w.alloc (.cells #[.int .i64 W, .int .i64 T, .slice (some ⟨w.heap.size + 1, 0, none⟩) m m] 24)) (base := w.heap.size) (e := 4) (cs := madeCells #[.bool false] m) (n := m) (by simp) (by unfold maxLen; omega) (by rw [← Array.length_toList, toList_madeCells_one, List.length_replicate])
    rw [toList_madeCells_one] at this
    simpa using this
  · exact (below1 w _).alloc (by simp) _

def boxOk (W T : Int) : Bool := inB W 1 6 && (inB T 1 6 && decide (W * T ≤ 24))
def boxW (W T : Int) : Int := if boxOk W T then W else 0
def boxT (W T : Int) : Int := if boxOk W T then T else 0
def boxC (W T : Int) : List Bool := if boxOk W T then List.replicate (W * T).toNat true else []



theorem boxOk_nat {W T : Int} (h : boxOk W T = true) : ∃ W' T' m : Nat, W = W' ∧ T = T' ∧ inB W 1 6 = true ∧ inB T 1 6 = true ∧ W' ≤ 6 ∧ T' ≤ 6 ∧ m = W' * T' ∧ m ≤ 24 ∧ boxW W T = W' ∧ boxT W T = T' ∧ boxC W T = List.replicate m true := by
  have h' := h
  simp only [boxOk, Bool.and_eq_true, decide_eq_true_eq] at h'
  obtain ⟨h1, h2, h3⟩ := h'
  have b1 := inB_iff.1 h1
  have b2 := inB_iff.1 h2
  obtain ⟨W', rfl⟩ := Int.eq_ofNat_of_zero_le (show 0 ≤ W by omega)
  obtain ⟨T', rfl⟩ := Int.eq_ofNat_of_zero_le (show 0 ≤ T by omega)
  have e : ((W' : Int) * (T' : Int)) = ((W' * T' : Nat) : Int) := by simp
  refine ⟨W', T', W' * T', rfl, rfl, h1, h2, by omega, by omega, rfl, by omega, by rw [boxW, if_pos h], by rw [boxT, if_pos h], by rw [boxC, if_pos h, e]; rfl⟩


end Go.Proofs.YtepnhhehfkcgkaaDoor
