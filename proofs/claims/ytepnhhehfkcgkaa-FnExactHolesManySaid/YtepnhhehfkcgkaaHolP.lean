/-
  Holes: parts of the cells that do not belong to a region, by sides and corners: the plain law. No program in sight.
-/
import Derived.Test.YtepnhhehfkcgkaaAt
import Derived.Test.YtepnhhehfkcgkaaTilP
import Derived.Test.YtepnhhehfkcgkaaLaid
namespace Go.Proofs.Ytepnhhehfkcgkaa
open Go.RowKit
namespace Ho

def frH (W T : Nat) (bs : List Bool) (k : Nat) : Bool := decide (k < (W + 2) * (T + 2)) && !atB W T bs (((k % (W + 2) : Nat) : Int) - 1) (((k / (W + 2) : Nat) : Int) - 1)
def nbH (W : Nat) (k j : Nat) : Bool := inB (((k % (W + 2) : Nat) : Int) - ((j % (W + 2) : Nat) : Int)) (-1) 1 && inB (((k / (W + 2) : Nat) : Int) - ((j / (W + 2) : Nat) : Int)) (-1) 1
theorem nb_symm {W k j : Nat} (h : nbH W k j = true) : nbH W j k = true := by
  rw [nbH, Bool.and_eq_true, inB_iff, inB_iff] at h ⊢
  omega
/-- Two cells hang together. -/
inductive Conn (fr : Nat → Bool) (nb : Nat → Nat → Bool) : Nat → Nat → Prop
  | refl {a : Nat} : fr a = true → Conn fr nb a a
  | step {a b c : Nat} : Conn fr nb a b → nb b c = true → fr c = true → Conn fr nb a c
theorem Conn.fr1 {fr : Nat → Bool} {nb : Nat → Nat → Bool} {a b : Nat} (h : Conn fr nb a b) : fr a = true := by
  induction h with
  | refl h => exact h
  | step _ _ _ ih => exact ih
theorem Conn.fr2 {fr : Nat → Bool} {nb : Nat → Nat → Bool} {a b : Nat} (h : Conn fr nb a b) : fr b = true := by
  cases h with
  | refl h => exact h
  | step _ _ h => exact h
theorem Conn.trans {fr : Nat → Bool} {nb : Nat → Nat → Bool} {a b c : Nat} (h : Conn fr nb a b) (k : Conn fr nb b c) : Conn fr nb a c := by
  induction k with
  | refl _ => exact h
  | step _ h1 h2 ih => exact .step ih h1 h2
theorem Conn.one {fr : Nat → Bool} {nb : Nat → Nat → Bool} {a b : Nat} (h1 : fr a = true) (h2 : nb a b = true) (h3 : fr b = true) : Conn fr nb a b := .step (.refl h1) h2 h3
theorem Conn.symm {fr : Nat → Bool} {nb : Nat → Nat → Bool} (hs : ∀ k j, nb k j = true → nb j k = true) {a b : Nat} (h : Conn fr nb a b) : Conn fr nb b a := by
  induction h with
  | refl h => exact .refl h
  | step h1 h2 h3 ih => exact (Conn.one h3 (hs _ _ h2) h1.fr2).trans ih
/-- The least of its part. -/
def Root (fr : Nat → Bool) (nb : Nat → Nat → Bool) (k : Nat) : Prop := fr k = true ∧ ∀ j, Conn fr nb k j → k ≤ j
open Classical in
/-- How many parts begin below a cell. -/
noncomputable def cntR (fr : Nat → Bool) (nb : Nat → Nat → Bool) : Nat → Nat
  | 0 => 0
  | k + 1 => cntR fr nb k + if Root fr nb k then 1 else 0
theorem cntR_yes {fr : Nat → Bool} {nb : Nat → Nat → Bool} {k : Nat} (h : Root fr nb k) : cntR fr nb (k + 1) = cntR fr nb k + 1 := by rw [cntR, if_pos h]
theorem cntR_no {fr : Nat → Bool} {nb : Nat → Nat → Bool} {k : Nat} (h : ¬ Root fr nb k) : cntR fr nb (k + 1) = cntR fr nb k := by rw [cntR, if_neg h, Nat.add_zero]
theorem cntR_le (fr : Nat → Bool) (nb : Nat → Nat → Bool) : ∀ k, cntR fr nb k ≤ k
  | 0 => Nat.le_refl _
  | k + 1 => by
    have := cntR_le fr nb k
    rw [cntR]; split <;> omega

/-! ### the filling -/
/-- What a walk from cell k has met. -/
structure Met (fr : Nat → Bool) (nb : Nat → Nat → Bool) (k : Nat) (m m' : List Bool) : Prop where
  len : m'.length = m.length
  up : ∀ i, Til.on m i = true → Til.on m' i = true
  new : ∀ c, Til.on m' c = true → Til.on m c = false → Conn fr nb k c ∧ ∀ c', nb c c' = true → fr c' = true → Til.on m' c' = true
theorem Met.same {fr : Nat → Bool} {nb : Nat → Nat → Bool} (k : Nat) (m : List Bool) : Met fr nb k m m := ⟨rfl, fun _ h => h, fun c h1 h2 => by rw [h1] at h2; cases h2⟩
/-- While the cell k is at work: it is met, its neighbours are being walked. -/
structure Mid (fr : Nat → Bool) (nb : Nat → Nat → Bool) (k : Nat) (m1 m' : List Bool) : Prop where
  len : m'.length = m1.length
  up : ∀ i, Til.on m1 i = true → Til.on m' i = true
  new : ∀ c, Til.on m' c = true → Til.on m1 c = false → Conn fr nb k c ∧ ∀ c', nb c c' = true → fr c' = true → Til.on m' c' = true
theorem Mid.start {fr : Nat → Bool} {nb : Nat → Nat → Bool} (k : Nat) (m : List Bool) : Mid fr nb k m m := ⟨rfl, fun _ h => h, fun c h1 h2 => by rw [h1] at h2; cases h2⟩
theorem Mid.next {fr : Nat → Bool} {nb : Nat → Nat → Bool} {k j : Nat} {m1 m' m'' : List Bool} (h : Mid fr nb k m1 m') (hj : nb k j = true) (hk : fr k = true) (hfj : fr j = true) (h2 : Met fr nb j m' m'') : Mid fr nb k m1 m'' := {
  len := h2.len.trans h.len
  up := fun i hi => h2.up i (h.up i hi)
  new := fun c h3 h4 => by
    cases hc : Til.on m' c with
    | true =>
      obtain ⟨a1, a2⟩ := h.new c hc h4
      exact ⟨a1, fun c' h5 h6 => h2.up _ (a2 c' h5 h6)⟩
    | false =>
      obtain ⟨a1, a2⟩ := h2.new c h3 hc
      exact ⟨(Conn.one hk hj hfj).trans a1, a2⟩ }
theorem Mid.done {fr : Nat → Bool} {nb : Nat → Nat → Bool} {k : Nat} {m m' : List Bool} (h : Mid fr nb k (m.set k true) m') (hk : fr k = true) (hkl : k < m.length) (hnb : ∀ c', nb k c' = true → fr c' = true → Til.on m' c' = true) : Met fr nb k m m' ∧ Til.on m' k = true := by
  have hon : ∀ i, Til.on (m.set k true) i = if i = k then true else Til.on m i := fun i => Til.on_set hkl
  have hkk : Til.on m' k = true := h.up k (by rw [hon, if_pos rfl])
  refine ⟨⟨by rw [h.len, List.length_set], fun i hi => h.up i (by rw [hon]; split; rfl; exact hi), fun c h1 h2 => ?_⟩, hkk⟩
  by_cases e : c = k
  · subst e; exact ⟨.refl hk, hnb⟩
  · exact h.new c h1 (by rw [hon, if_neg e]; exact h2)
/-- Between two walks. -/
structure Out (fr : Nat → Bool) (nb : Nat → Nat → Bool) (p : Nat) (m : List Bool) : Prop where
  fre : ∀ c, Til.on m c = true → fr c = true
  shut : ∀ c, Til.on m c = true → ∀ c', nb c c' = true → fr c' = true → Til.on m c' = true
  low : ∀ i, i < p → fr i = true → Til.on m i = true
  from' : ∀ c, Til.on m c = true → ∃ k, k < p ∧ Conn fr nb k c
theorem Out.start {fr : Nat → Bool} {nb : Nat → Nat → Bool} {m : List Bool} (h : ∀ i, Til.on m i = false) : Out fr nb 0 m :=
  ⟨fun c hc => by rw [h] at hc; (cases hc), fun c hc => by rw [h] at hc; (cases hc), fun i hi => by omega, fun c hc => by rw [h] at hc; (cases hc)⟩
theorem Out.conn {fr : Nat → Bool} {nb : Nat → Nat → Bool} {p : Nat} {m : List Bool} (h : Out fr nb p m) {a b : Nat} (hc : Conn fr nb a b) (ha : Til.on m a = true) : Til.on m b = true := by
  induction hc with
  | refl _ => exact ha
  | step _ h1 h2 ih => exact h.shut _ ih _ h1 h2
theorem Out.skip {fr : Nat → Bool} {nb : Nat → Nat → Bool} {p : Nat} {m : List Bool} (h : Out fr nb p m) (hs : ∀ k j, nb k j = true → nb j k = true) (hp : fr p = false ∨ Til.on m p = true) : Out fr nb (p + 1) m ∧ ¬ Root fr nb p := by
  refine ⟨⟨h.fre, h.shut, fun i hi hf => ?_, fun c hc => ?_⟩, fun hr => ?_⟩
  · by_cases e : i = p
    · subst e
      rcases hp with hp | hp
      · rw [hf] at hp; cases hp
      · exact hp
    · exact h.low i (by omega) hf
  · obtain ⟨k, hk, hcc⟩ := h.from' c hc
    exact ⟨k, by omega, hcc⟩
  · rcases hp with hp | hp
    · rw [hr.1] at hp; cases hp
    · obtain ⟨k, hk, hcc⟩ := h.from' p hp
      have := hr.2 k (hcc.symm hs)
      omega
theorem Out.walk {fr : Nat → Bool} {nb : Nat → Nat → Bool} {p : Nat} {m m' : List Bool} (h : Out fr nb p m) (hsy : ∀ k j, nb k j = true → nb j k = true) (hf : fr p = true) (hp : Til.on m p = false) (hm : Met fr nb p m m') (hpp : Til.on m' p = true) : Out fr nb (p + 1) m' ∧ Root fr nb p := by
  refine ⟨⟨fun c hc => ?_, fun c hc c' h1 h2 => ?_, fun i hi hfi => ?_, fun c hc => ?_⟩, hf, fun j hj => ?_⟩
  · cases h0 : Til.on m c with
    | true => exact h.fre c h0
    | false => exact (hm.new c hc h0).1.fr2
  · cases h0 : Til.on m c with
    | true => exact hm.up _ (h.shut c h0 c' h1 h2)
    | false => exact (hm.new c hc h0).2 c' h1 h2
  · by_cases e : i = p
    · subst e; exact hpp
    · exact hm.up _ (h.low i (by omega) hfi)
  · cases h0 : Til.on m c with
    | true =>
      obtain ⟨k, hk, hcc⟩ := h.from' c h0
      exact ⟨k, by omega, hcc⟩
    | false => exact ⟨p, by omega, (hm.new c hc h0).1⟩
  · rcases Nat.lt_or_ge j p with hjp | hjp
    · exfalso
      have hs : Til.on m j = true := h.low j hjp hj.fr2
      rw [h.conn (hj.symm hsy) hs] at hp; cases hp
    · exact hjp

/-! ### the labels -/
/-- Every free cell bears a cell of its part, none beyond it. -/
def LabOK (fr : Nat → Bool) (nb : Nat → Nat → Bool) (N : Nat) (p : List Int) : Prop := p.length = N ∧ ∀ i, i < N → (fr i = false → ent p i = -1) ∧ (fr i = true → ∃ l : Nat, ent p i = (l : Int) ∧ l ≤ i ∧ Conn fr nb i l)
theorem ent_setL {p : List Int} {k i : Nat} {v : Int} (hk : k < p.length) : ent (p.set k v) i = if i = k then v else ent p i := by
  unfold ent
  rw [List.getElem?_set]
  by_cases h : k = i
  · subst h; simp [hk]
  · rw [if_neg h, if_neg (fun h' => h h'.symm)]
theorem LabOK.upd {fr : Nat → Bool} {nb : Nat → Nat → Bool} {N : Nat} {p : List Int} (h : LabOK fr nb N p) {k j : Nat} (hk : k < N) (hj : j < N) (hn : nb k j = true) (h1 : ent p j < ent p k) (h2 : 0 ≤ ent p j) : LabOK fr nb N (p.set k (ent p j)) := by
  have fj : fr j = true := by
    cases hf : fr j with
    | true => rfl
    | false => have := (h.2 j hj).1 hf; omega
  have fk : fr k = true := by
    cases hf : fr k with
    | true => rfl
    | false => have := (h.2 k hk).1 hf; omega
  refine ⟨by rw [List.length_set]; exact h.1, fun i hi => ?_⟩
  rw [ent_setL (by rw [h.1]; exact hk)]
  by_cases e : i = k
  · subst e
    rw [if_pos rfl]
    obtain ⟨l, e1, e2, e3⟩ := (h.2 j hj).2 fj
    obtain ⟨l2, e4, e5, e6⟩ := (h.2 i hk).2 fk
    exact ⟨fun hf => (by rw [fk] at hf; cases hf), fun _ => ⟨l, e1, by omega, (Conn.one fk hn fj).trans e3⟩⟩
  · rw [if_neg e]; exact h.2 i hi
/-- Nothing more to do. -/
def Fix (nb : Nat → Nat → Bool) (N : Nat) (p : List Int) : Prop := ∀ k j, k < N → j < N → nb k j = true → ent p j < ent p k → 0 ≤ ent p j → False
theorem lab_root {fr : Nat → Bool} {nb : Nat → Nat → Bool} {N : Nat} {p : List Int} (h : LabOK fr nb N p) (hs : ∀ k j, nb k j = true → nb j k = true) (hN : ∀ i, fr i = true → i < N) (hf : Fix nb N p) {k : Nat} (hk : k < N) : (ent p k == (k : Int)) = true ↔ Root fr nb k := by
  have same : ∀ a b, Conn fr nb a b → ent p a = ent p b := by
    intro a b hc
    induction hc with
    | refl _ => rfl
    | step h1 h2 h3 ih =>
      rename_i b c
      have hb := h1.fr2
      have hbN := hN b hb
      have hcN := hN c h3
      obtain ⟨l1, e1, _, _⟩ := (h.2 b hbN).2 hb
      obtain ⟨l2, e2, _, _⟩ := (h.2 c hcN).2 h3
      have f1 := hf b c hbN hcN h2
      have f2 := hf c b hcN hbN (hs _ _ h2)
      rcases Int.lt_trichotomy (ent p b) (ent p c) with h | h | h
      · exact (f2 h (by omega)).elim
      · rw [ih, h]
      · exact (f1 h (by omega)).elim
  rw [beq_iff_eq]
  constructor
  · intro e
    have fk : fr k = true := by
      cases hfk : fr k with
      | true => rfl
      | false => have := (h.2 k hk).1 hfk; omega
    refine ⟨fk, fun j hj => ?_⟩
    have := same k j hj
    obtain ⟨l, e1, e2, _⟩ := (h.2 j (hN j hj.fr2)).2 hj.fr2
    omega
  · intro hr
    obtain ⟨l, e1, e2, e3⟩ := (h.2 k hk).2 hr.1
    have := hr.2 l e3
    omega
/-- The sum of the labels, for the measure. -/
def sumL : List Int → Nat
  | [] => 0
  | z :: p => (z + 1).toNat + sumL p
theorem sumL_set : ∀ (p : List Int) (k : Nat) (v : Int), k < p.length → v < ent p k → 0 ≤ v → sumL (p.set k v) < sumL p
  | [], _, _, h, _, _ => by simp at h
  | z :: p, 0, v, _, h1, h2 => by
    have : ent (z :: p) 0 = z := rfl
    rw [this] at h1
    rw [List.set_cons_zero, sumL, sumL]; omega
  | z :: p, k + 1, v, h, h1, h2 => by
    have : ent (z :: p) (k + 1) = ent p k := by unfold ent; rw [List.getElem?_cons_succ]
    rw [this] at h1
    rw [List.set_cons_succ, sumL, sumL]
    have := sumL_set p k v (by simpa using h) h1 h2
    omega

end Ho
end Go.Proofs.Ytepnhhehfkcgkaa
