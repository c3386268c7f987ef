/-
  The plain law of parts: the label of a label is itself; so a part is there just where its least cell bears its own label. No program in sight.
-/
import Derived.Test.YtcnkpcnbobiodaaPReg
import Derived.Test.YtcnkpcnbobiodaaTot
namespace Go.Proofs.Ytcnkpcnbobiodaa
open Go.RowKit
namespace Parts

theorem reach_trans {n : Nat} {adj : Nat → Nat → Bool} {j i : Nat} : ∀ {r s k : Nat}, reach n adj j r k = true → reach n adj i s j = true → reach n adj i (r + s) k = true
  | 0, s, k, h, h2 => by
    have : k = j := by simpa [reach] using h
    subst this
    rw [Nat.zero_add]; exact h2
  | r + 1, s, k, h, h2 => by
    rw [show r + 1 + s = (r + s) + 1 by omega]
    rcases reach_inv h with h1 | ⟨k', h3, h4, h5⟩
    · exact reach_succ (reach_trans h1 h2)
    · exact reach_step h3 h4 (reach_trans h5 h2)
theorem reach_on {W T : Nat} {bs : List Bool} {j : Nat} : ∀ {r k : Nat}, onB bs k = true → reach (W * T) (adjB W T bs) j r k = true → onB bs j = true
  | 0, k, ho, h => by
    have : k = j := by simpa [reach] using h
    subst this; exact ho
  | r + 1, k, ho, h => by
    rcases reach_inv h with h1 | ⟨k', h3, h4, h5⟩
    · exact reach_on ho h1
    · exact reach_on (adjB_inv h4).2.1 h5
/-- The label of a label. -/
theorem lab_lab {W T : Nat} {bs : List Bool} (hW : 1 ≤ W) {k : Nat} (hk : k < W * T) {j : Nat} (hj : lab (iter (fun o => cellsI W T o (W * T)) (startL bs (W * T)) (W * T)) k = (j : Int)) :
    lab (iter (fun o => cellsI W T o (W * T)) (startL bs (W * T)) (W * T)) j = (j : Int) := by
  have I := parts_inv (W := W) (T := T) (bs := bs) hW
  have ho : onB bs k = true := I.isOn hk (by omega)
  obtain ⟨j1, r1, l1, e1, c1⟩ := I.on k hk ho
  have : j1 = j := by omega
  subst this
  have hoj : onB bs j1 = true := reach_on ho c1
  obtain ⟨j2, r2, l2, e2, c2⟩ := I.on j1 l1 hoj
  have h0 : ∀ k, k < W * T → lab (startL bs (W * T)) k ≤ k := fun k hk => by rw [lab_start hk]; split <;> omega
  have a := iter_good (sweepI (T := T) hW) start_inv h0 (W * T) k hk j2 (reach_n l2 hk (reach_trans c1 c2))
  have b := iter_good (sweepI (T := T) (bs := bs) hW) start_inv h0 (W * T) j1 l1 j1 (reach_n l1 l1 (m := 0) (by simp [reach]))
  omega
end Parts

theorem cnt_pos {l : List Bool} : 0 < cnt l ↔ ∃ i, i < l.length ∧ l[i]? = some true := by
  unfold cnt
  rw [List.count_pos_iff]
  constructor
  · intro h
    obtain ⟨i, hi, e⟩ := List.getElem_of_mem h
    exact ⟨i, hi, by rw [List.getElem?_eq_getElem hi, e]⟩
  · rintro ⟨i, _, h⟩
    exact List.mem_of_getElem? h
theorem pregL_get {o : List Int} {p : Int} {n i : Nat} (h : i < n) : (pregL o p n)[i]? = some (inPart o p i) := by
  rw [pregL, List.getElem?_map, List.getElem?_range h]; rfl
/-- A part is there just where its number bears its own label. -/
theorem part_there {W T n : Nat} {bs : List Bool} (V : Valid W T n bs) {k : Nat} (hk : k < n) : pregB W T n bs k = (Parts.lab (partL W T bs) k == (k : Int)) := by
  rw [pregB, V.ok, Bool.true_and, Bool.eq_iff_iff, decide_eq_true_eq, cnt_pos, beq_iff_eq, Int.toNat_natCast, Int.toNat_natCast]
  have hn := V.size
  constructor
  · rintro ⟨i, hi, h⟩
    rw [pregL_len] at hi
    rw [pregL_get hi] at h
    injection h with h
    rw [inPart, Bool.and_eq_true, decide_eq_true_eq, beq_iff_eq] at h
    exact Parts.lab_lab V.w0 (by omega) h.2
  · intro h
    refine ⟨k, by rw [pregL_len]; exact hk, ?_⟩
    rw [pregL_get hk, inPart, h, decide_eq_true (by omega)]
    simp
theorem cnt_le_of {l l' : List Bool} (hl : l.length = l'.length) (h : ∀ i : Nat, l[i]? = some true → l'[i]? = some true) : cnt l ≤ cnt l' := by
  induction l generalizing l' with
  | nil => simp [cnt]
  | cons a l ih =>
    cases l' with
    | nil => simp at hl
    | cons b l' =>
      have h1 := ih (l' := l') (by simpa using hl) (fun i hi => by have := h (i + 1) hi; simpa using this)
      have h0 := h 0
      cases a <;> cases b <;> simp [cnt] at * <;> omega
theorem preg_valid {W T n : Nat} {bs : List Bool} (V : Valid W T n bs) (p : Int) : Valid W T n (pregL (partL W T bs) p n) := by
  refine ⟨V.w0, V.w1, V.t0, V.t1, V.size, pregL_len _ _ _, Nat.le_trans (cnt_le_of (by rw [pregL_len, V.len]) fun i hi => ?_) V.many⟩
  have hlt : i < n := by have := lt_of_get hi; rwa [pregL_len] at this
  rw [pregL_get hlt] at hi
  injection hi with hi
  rw [inPart, Bool.and_eq_true, decide_eq_true_eq] at hi
  have ho := (Parts.parts_inv (W := W) (T := T) (bs := bs) V.w0).isOn (k := i) (by have := V.size; omega) hi.1
  unfold Parts.onB at ho
  rw [List.getElem?_eq_getElem (by rw [V.len]; exact hlt)] at ho ⊢
  simpa using ho

/-- The product over the cells up to a place. -/
def prodL (W T n : Nat) (bs : List Bool) : Nat → Int
  | 0 => 1
  | k + 1 => if Parts.lab (partL W T bs) k == (k : Int) then wrap64 (prodL W T n bs k * (Til.cntA W T n 0 (pregL (partL W T bs) k n) : Nat)) else prodL W T n bs k
def prodF (W T : Int) (n : Nat) (bs : List Bool) : Int := if validB W T n bs then prodL W.toNat T.toNat n bs n else -1
theorem prodL_i64 (W T n : Nat) (bs : List Bool) : ∀ k, I64 (prodL W T n bs k)
  | 0 => by unfold I64 prodL; omega
  | k + 1 => by
    rw [prodL]
    split
    · unfold I64 wrap64; omega
    · exact prodL_i64 W T n bs k

end Go.Proofs.Ytcnkpcnbobiodaa
