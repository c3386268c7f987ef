/-
  From the form's own reading of a slice of bytes to the words of Mem.
-/
import Derived.Test.YtepnhhehfkcgkaaOpen
namespace Go.Proofs.Ytepnhhehfkcgkaa
open Go.ChangeShapes Go.WideShapes Go.ChangeAt Go.RowKit Go.Deep Go.Joins

theorem bytesAt {H : Type} {enc : TypeId × Value → H} {P : Program} {W : World} {t e : TypeId} {m : Nat} {v : Value} {y : DataW H × List MemPlace} (ht : P.underlying t = some (.slice e)) (he : P.underlying e = some (.int .u8)) (hc : P.cellsOf e = 1)
    (h : DataW.trod enc P W 0 (fun _ => true) true m t [v] = some y) : ∃ A n c, ∃ us : List Int, v = .slice A n c ∧ (n ≤ 9223372036854775807 ∧ n ≤ c) ∧ Sl W A n (us.map (.int .u8)) ∧ ∀ u ∈ us, 0 ≤ u ∧ u ≤ 255 := by
  rcases open_ints ht he hc h with ⟨hcs, _⟩ | ⟨a, len, cap, zs, hcs, _, hl, hm, hz, _, hcell, hwf⟩
  · simp at hcs; subst hcs
    exact ⟨none, 0, 0, [], rfl, by omega, Sl.nil _ _, by simp⟩
  · simp at hcs; subst hcs
    have hzl : len ≤ zs.length := by simp at hz; omega
    refine ⟨some a, len, cap, zs.take len, rfl, by unfold maxLen at hm; omega, ?_, fun z h => ?_⟩
    · have e : (zs.take len).map (Value.int .u8) = (List.range len).map (fun i => Value.int .u8 (zs.getD i 0)) := by
        apply List.ext_getElem (by simp; omega)
        intro i h1 h2
        have : i < zs.length := by simp at h1; omega
        simp [List.getD, this]
      rw [e]
      exact sl_of_cells _ (fun i hi => hcell i (by omega))
    · have := hwf z (List.mem_of_mem_take h)
      simp [Lit.wf, IntKind.min, IntKind.max, IntKind.signed, IntKind.bits] at this
      omega

end Go.Proofs.Ytepnhhehfkcgkaa
