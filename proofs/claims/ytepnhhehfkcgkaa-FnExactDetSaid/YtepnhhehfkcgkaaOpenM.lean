/-
  From the form's own reading of a slice of int slices to the words of Mat.
-/
import Derived.Test.YtepnhhehfkcgkaaOpen
import Derived.Test.YtepnhhehfkcgkaaMat
import Derived.Deep.Matrix
namespace Go.Proofs.Ytepnhhehfkcgkaa
open Go.ChangeShapes Go.WideShapes Go.ChangeAt Go.RowKit Go.Deep Go.Joins

theorem matrixAt {H : Type} {enc : TypeId × Value → H} {P : Program} {W : World} {t e q : TypeId} {m : Nat} {v : Value} {y : DataW H × List MemPlace} (ht : P.underlying t = some (.slice e)) (he : P.underlying e = some (.slice q)) (hq : P.underlying q = some (.int .i64)) (ce : P.cellsOf e = 1) (cq : P.cellsOf q = 1)
    (h : DataW.trod enc P W 0 (fun _ => true) true m t [v] = some y) : ∃ A n c, ∃ M : List (List Int), v = .slice A n c ∧ n ≤ 9223372036854775807 ∧ Mx W A n M := by
  rcases open_int_rows ht he hq ce cq h with ⟨hcs, _⟩ | ⟨a, len, cap, A, L, C, Z, hcs, _, hl, hm, _, hrow⟩
  · simp at hcs; subst hcs
    exact ⟨none, 0, 0, [], rfl, by omega, rfl, fun k row hk => by simp at hk⟩
  · simp at hcs; subst hcs
    refine ⟨some a, len, cap, (List.range len).map fun r => (Z r).take (L r), rfl, by unfold maxLen at hm; omega, by simp, fun k row hk => ?_⟩
    have hkl : k < len := by have := (List.getElem?_eq_some_iff.1 hk).1; simpa using this
    rw [List.getElem?_map, List.getElem?_range hkl] at hk
    injection hk with hk
    subst hk
    obtain ⟨hc, h1, h2, h3, _, h4, h5⟩ := hrow k (by omega)
    have hlen : ((Z k).take (L k)).length = L k := by rw [List.length_take]; omega
    have h0 : a.add 0 = a := rfl
    have hsp : a = ⟨a.block, a.off, none⟩ := by
      have := (hrow 0 (by omega)).1
      rw [h0] at this
      exact spot_none this
    refine ⟨a.block, a.off, A k, C k, by rw [← hsp], ?_, ?_, by rw [hlen]; unfold maxLen at h2; omega⟩
    · rw [hlen, ← hc]
      congr 1
      unfold Addr.add
      split
      · rename_i hk0; rw [hk0, Nat.add_zero]; exact hsp.symm
      · rfl
    · dsimp only
      rw [hlen]
      by_cases hz : L k = 0
      · rw [hz, List.take_zero]; exact Sl.nil _ _
      · cases hA : A k with
        | none => have := h4 hA; omega
        | some a' =>
          have e : ((Z k).take (L k)).map (Value.int .i64) = (List.range (L k)).map (fun i => Value.int .i64 ((Z k).getD i 0)) := by
            apply List.ext_getElem (by simp; omega)
            intro i i1 i2
            have : i < (Z k).length := by simp at i1; omega
            simp [List.getD, this]
          rw [e]
          exact sl_of_cells _ (fun i hi => (h5 a' hA).2 i (by omega))

end Go.Proofs.Ytepnhhehfkcgkaa
