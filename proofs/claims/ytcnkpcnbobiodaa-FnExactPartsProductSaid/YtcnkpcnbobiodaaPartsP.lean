/-
  Parts, the plain law: both ways to find the parts of a region come to the same labels. No program in sight.
-/
import Derived.Test.YtcnkpcnbobiodaaStep
namespace Go.Proofs.Ytcnkpcnbobiodaa
namespace Parts

theorem countP_lt {l : List Nat} {p q : Nat → Bool} (h : ∀ x ∈ l, p x = true → q x = true) {y : Nat} (hy : y ∈ l) (h1 : q y = true) (h2 : p y = false) : l.countP p < l.countP q := by
  induction l with
  | nil => cases hy
  | cons a l ih =>
    have hm : l.countP p ≤ l.countP q := List.countP_mono_left (fun x hx => h x (List.mem_cons_of_mem _ hx))
    rw [List.countP_cons, List.countP_cons]
    rcases List.mem_cons.1 hy with rfl | hy'
    · rw [h1, h2]; simp; omega
    · have := ih (fun x hx => h x (List.mem_cons_of_mem _ hx)) hy'
      have ha := h a (List.mem_cons_self ..)
      cases hp : p a <;> cases hq : q a <;> simp_all <;> omega

/-- j is reached from k in at most r steps. -/
def reach (n : Nat) (adj : Nat → Nat → Bool) (j : Nat) : Nat → Nat → Bool
  | 0, k => k == j
  | r + 1, k => reach n adj j r k || (List.range n).any (fun k' => adj k k' && reach n adj j r k')

variable {n : Nat} {adj : Nat → Nat → Bool} {j : Nat}

theorem reach_succ {r k : Nat} (h : reach n adj j r k = true) : reach n adj j (r + 1) k = true := by
  rw [reach, h]; rfl
theorem reach_mono {r s k : Nat} (hrs : r ≤ s) (h : reach n adj j r k = true) : reach n adj j s k = true := by
  induction s with
  | zero => obtain rfl : r = 0 := by omega
            exact h
  | succ s ih =>
    rcases Nat.lt_or_ge r (s + 1) with hlt | hge
    · exact reach_succ (ih (by omega))
    · obtain rfl : r = s + 1 := by omega
      exact h
theorem reach_step {r k k' : Nat} (hk : k' < n) (ha : adj k k' = true) (h : reach n adj j r k' = true) : reach n adj j (r + 1) k = true := by
  rw [reach, Bool.or_eq_true]
  right
  exact List.any_eq_true.2 ⟨k', List.mem_range.2 hk, by rw [ha, h]; rfl⟩
theorem reach_inv {r k : Nat} (h : reach n adj j (r + 1) k = true) : reach n adj j r k = true ∨ ∃ k', k' < n ∧ adj k k' = true ∧ reach n adj j r k' = true := by
  rw [reach, Bool.or_eq_true] at h
  rcases h with h | h
  · exact .inl h
  · obtain ⟨k', h1, h2⟩ := List.any_eq_true.1 h
    rw [Bool.and_eq_true] at h2
    exact .inr ⟨k', List.mem_range.1 h1, h2.1, h2.2⟩

/-- Closed at r: the next step adds nothing. -/
def closedAt (n : Nat) (adj : Nat → Nat → Bool) (j r : Nat) : Prop := ∀ k, k < n → reach n adj j (r + 1) k = reach n adj j r k
theorem closed_next {r : Nat} (h : closedAt n adj j r) : closedAt n adj j (r + 1) := by
  intro k hk
  cases hr : reach n adj j (r + 1) k with
  | true => exact reach_succ hr
  | false =>
    cases hs : reach n adj j (r + 1 + 1) k with
    | false => rfl
    | true =>
      rcases reach_inv hs with h1 | ⟨k', h1, h2, h3⟩
      · rw [hr] at h1; cases h1
      · rw [h k' h1] at h3
        rw [reach_step h1 h2 h3] at hr; cases hr
theorem closed_or (hj : j < n) : ∀ r, closedAt n adj j r ∨ r + 1 ≤ (List.range n).countP (reach n adj j r) := by
  intro r
  induction r with
  | zero =>
    right
    have : 0 < (List.range n).countP (reach n adj j 0) := List.countP_pos_iff.2 ⟨j, List.mem_range.2 hj, by simp [reach]⟩
    omega
  | succ r ih =>
    rcases ih with ih | ih
    · exact .inl (closed_next ih)
    · by_cases hc : closedAt n adj j r
      · exact .inl (closed_next hc)
      · right
        have : ∃ k, k < n ∧ ¬ reach n adj j (r + 1) k = reach n adj j r k := by
          apply Classical.byContradiction
          intro hno
          exact hc fun k hk => Classical.byContradiction fun h => hno ⟨k, hk, h⟩
        obtain ⟨k, hk, hne⟩ := this
        have h1 : reach n adj j r k = false := by
          cases h : reach n adj j r k with
          | false => rfl
          | true => rw [reach_succ h, h] at hne; exact absurd rfl hne
        have h2 : reach n adj j (r + 1) k = true := by
          cases h : reach n adj j (r + 1) k with
          | true => rfl
          | false => rw [h1, h] at hne; exact absurd rfl hne
        have := countP_lt (l := List.range n) (p := reach n adj j r) (q := reach n adj j (r + 1)) (fun x _ hx => reach_succ hx) (List.mem_range.2 hk) h2 h1
        omega
theorem closed_n (hj : j < n) : closedAt n adj j n := by
  rcases closed_or (adj := adj) hj n with h | h
  · exact h
  · have := List.countP_le_length (p := reach n adj j n) (l := List.range n)
    rw [List.length_range] at this; omega
theorem reach_n (hj : j < n) {m k : Nat} (hk : k < n) (h : reach n adj j m k = true) : reach n adj j n k = true := by
  have key : ∀ d, ∀ k, k < n → reach n adj j (n + d) k = reach n adj j n k := by
    intro d
    induction d with
    | zero => intro k _; rfl
    | succ d ih =>
      intro k hk
      have hc : closedAt n adj j (n + d) := by
        clear ih
        induction d with
        | zero => exact closed_n hj
        | succ d ih => exact closed_next ih
      rw [← ih k hk]
      exact hc k hk
  rcases Nat.lt_or_ge m n with hlt | hge
  · exact reach_mono (by omega) h
  · obtain ⟨d, rfl⟩ := Nat.exists_eq_add_of_le hge
    rw [key d k hk] at h; exact h

/-! labels -/
def lab (o : List Int) (k : Nat) : Int := (o[k]?).getD (-1)

structure Inv (n : Nat) (adj : Nat → Nat → Bool) (on : Nat → Bool) (o : List Int) : Prop where
  len : o.length = n
  off : ∀ k, k < n → on k = false → lab o k = -1
  on : ∀ k, k < n → on k = true → ∃ j r, j < n ∧ lab o k = (j : Int) ∧ reach n adj j r k = true
def Le (n : Nat) (o' o : List Int) : Prop := ∀ k, k < n → lab o' k ≤ lab o k
theorem Le.refl (n : Nat) (o : List Int) : Le n o o := fun _ _ => Int.le_refl _
theorem Le.trans {a b c : List Int} (h : Le n a b) (h' : Le n b c) : Le n a c := fun k hk => Int.le_trans (h k hk) (h' k hk)

/-- A sweep: each label comes down to what its neighbours' were. -/
structure Sweep (n : Nat) (adj : Nat → Nat → Bool) (on : Nat → Bool) (f : List Int → List Int) : Prop where
  inv : ∀ o, Inv n adj on o → Inv n adj on (f o)
  le : ∀ o, Inv n adj on o → Le n (f o) o
  down : ∀ o, Inv n adj on o → ∀ k k', k < n → k' < n → adj k k' = true → lab (f o) k ≤ lab o k'

def iter (f : List Int → List Int) (o : List Int) : Nat → List Int
  | 0 => o
  | r + 1 => f (iter f o r)

theorem lab_set {o : List Int} {k i : Nat} {v : Int} (hk : k < o.length) : lab (o.set k v) i = if i = k then v else lab o i := by
  unfold lab
  rw [List.getElem?_set]
  by_cases h : k = i
  · subst h; simp [hk]
  · rw [if_neg h, if_neg (fun h' => h h'.symm)]

theorem iter_inv {on : Nat → Bool} {f : List Int → List Int} (h : Sweep n adj on f) {o : List Int} (hi : Inv n adj on o) : ∀ r, Inv n adj on (iter f o r)
  | 0 => hi
  | r + 1 => h.inv _ (iter_inv h hi r)
theorem iter_good {on : Nat → Bool} {f : List Int → List Int} (h : Sweep n adj on f) {o : List Int} (hi : Inv n adj on o) (h0 : ∀ k, k < n → lab o k ≤ k) :
    ∀ r k, k < n → ∀ j, reach n adj j r k = true → lab (iter f o r) k ≤ j
  | 0, k, hk, j, hr => by
    have : k = j := by simpa [reach] using hr
    subst this
    exact h0 k hk
  | r + 1, k, hk, j, hr => by
    rcases reach_inv hr with h1 | ⟨k', h1, h2, h3⟩
    · exact Int.le_trans (h.le _ (iter_inv h hi r) k hk) (iter_good h hi h0 r k hk j h1)
    · exact Int.le_trans (h.down _ (iter_inv h hi r) k k' hk h1 h2) (iter_good h hi h0 r k' h1 j h3)

theorem iter_eq {on : Nat → Bool} {f g : List Int → List Int} (hf : Sweep n adj on f) (hg : Sweep n adj on g) {o : List Int} (hi : Inv n adj on o) (h0 : ∀ k, k < n → lab o k ≤ k) : iter f o n = iter g o n := by
  have i1 := iter_inv hf hi n
  have i2 := iter_inv hg hi n
  have key : ∀ k, k < n → lab (iter f o n) k = lab (iter g o n) k := by
    intro k hk
    cases ho : on k with
    | false => rw [i1.off k hk ho, i2.off k hk ho]
    | true =>
      obtain ⟨j1, r1, l1, e1, c1⟩ := i1.on k hk ho
      obtain ⟨j2, r2, l2, e2, c2⟩ := i2.on k hk ho
      have a := iter_good hf hi h0 n k hk j2 (reach_n l2 hk c2)
      have b := iter_good hg hi h0 n k hk j1 (reach_n l1 hk c1)
      omega
  apply List.ext_getElem (by rw [i1.len, i2.len])
  intro k h1 h2
  have := key k (by rw [i1.len] at h1; exact h1)
  unfold lab at this
  rw [List.getElem?_eq_getElem h1, List.getElem?_eq_getElem h2] at this
  exact this


/-! the two algorithms -/
section
variable (W T : Nat) (bs : List Bool)
def onB (k : Nat) : Bool := (bs[k]?).getD false
def adjB (k k' : Nat) : Bool := onB bs k && (onB bs k' && [1, 2, 3, 4].any fun way : Int => stepF W T k way == (k' : Int))
def lookI (k : Nat) (way : Int) (o : List Int) : List Int :=
  if 0 ≤ stepF W T k way ∧ 0 ≤ lab o k ∧ 0 ≤ lab o (stepF W T k way).toNat then o.set k (min (lab o k) (lab o (stepF W T k way).toNat)) else o
def waysI (k : Nat) (o : List Int) : Nat → List Int
  | 0 => o
  | q + 1 => lookI W T k ((q : Int) + 1) (waysI k o q)
def cellsI (o : List Int) : Nat → List Int
  | 0 => o
  | k + 1 => waysI W T k (cellsI o k) 4
def lookS (k t : Nat) (o : List Int) : List Int :=
  if 0 ≤ lab o k ∧ 0 ≤ lab o t then (o.set k (min (lab o k) (lab o t))).set t (min (lab o k) (lab o t)) else o
def westS (k : Nat) (o : List Int) : List Int := if 0 < k % W then lookS k (k - 1) o else o
def southS (k : Nat) (o : List Int) : List Int := if W ≤ k then lookS k (k - W) o else o
def pairS (k : Nat) (o : List Int) : List Int := southS W k (westS W k o)
def cellsS (o : List Int) : Nat → List Int
  | 0 => o
  | k + 1 => pairS W k (cellsS o k)
def startL (n : Nat) : List Int := (List.range n).map fun k => if onB bs k then (k : Int) else -1
end

structure Pres (n : Nat) (adj : Nat → Nat → Bool) (on : Nat → Bool) (f : List Int → List Int) : Prop where
  inv : ∀ o, Inv n adj on o → Inv n adj on (f o)
  le : ∀ o, Inv n adj on o → Le n (f o) o
def Down (n : Nat) (adj : Nat → Nat → Bool) (on : Nat → Bool) (f : List Int → List Int) (k k' : Nat) : Prop := ∀ o, Inv n adj on o → lab (f o) k ≤ lab o k'

variable {on : Nat → Bool}
theorem Pres.id : Pres n adj on id := ⟨fun _ h => h, fun _ _ => Le.refl _ _⟩
theorem Pres.comp {f g : List Int → List Int} (hf : Pres n adj on f) (hg : Pres n adj on g) : Pres n adj on (fun o => g (f o)) :=
  ⟨fun o h => hg.inv _ (hf.inv o h), fun o h => (hg.le _ (hf.inv o h)).trans (hf.le o h)⟩
theorem Down.left {f g : List Int → List Int} {k k' : Nat} (hk : k < n) (hf : Pres n adj on f) (hg : Pres n adj on g) (h : Down n adj on f k k') : Down n adj on (fun o => g (f o)) k k' :=
  fun o hi => Int.le_trans (hg.le _ (hf.inv o hi) k hk) (h o hi)
theorem Down.right {f g : List Int → List Int} {k k' : Nat} (hk : k' < n) (hf : Pres n adj on f) (h : Down n adj on g k k') : Down n adj on (fun o => g (f o)) k k' :=
  fun o hi => Int.le_trans (h _ (hf.inv o hi)) (hf.le o hi k' hk)

theorem run_pres {F : Nat → List Int → List Int} {R : List Int → Nat → List Int} (h0 : ∀ o, R o 0 = o) (hs : ∀ o k, R o (k + 1) = F k (R o k)) {N : Nat} (hp : ∀ k, k < N → Pres n adj on (F k)) :
    ∀ m, m ≤ N → Pres n adj on (fun o => R o m)
  | 0, _ => by simp only [h0]; exact Pres.id
  | m + 1, hm => by
    have := (run_pres h0 hs hp m (by omega)).comp (hp m (by omega))
    simpa only [hs] using this
theorem run_down {F : Nat → List Int → List Int} {R : List Int → Nat → List Int} (h0 : ∀ o, R o 0 = o) (hs : ∀ o k, R o (k + 1) = F k (R o k)) {N : Nat} (hp : ∀ k, k < N → Pres n adj on (F k))
    {k k' i : Nat} (hk : k < n) (hk' : k' < n) (hd : Down n adj on (F i) k k') : ∀ m, m ≤ N → i < m → Down n adj on (fun o => R o m) k k'
  | 0, _, h => by omega
  | m + 1, hm, hi => by
    simp only [hs]
    rcases Nat.lt_or_ge i m with hlt | hge
    · exact Down.left hk (run_pres h0 hs hp m (by omega)) (hp m (by omega)) (run_down h0 hs hp hk hk' hd m (by omega) hlt)
    · obtain rfl : i = m := by omega
      exact Down.right hk' (run_pres h0 hs hp i (by omega)) hd

theorem Inv.nonneg {o : List Int} (h : Inv n adj on o) {k : Nat} (hk : k < n) (h1 : on k = true) : 0 ≤ lab o k := by
  obtain ⟨j, r, _, e, _⟩ := h.on k hk h1; omega
theorem Inv.isOn {o : List Int} (h : Inv n adj on o) {k : Nat} (hk : k < n) (h1 : 0 ≤ lab o k) : on k = true := by
  cases ho : on k with
  | true => rfl
  | false => have := h.off k hk ho; omega
/-- A cell gets the label of a neighbour, or keeps its own. -/
theorem Inv.set {o : List Int} (h : Inv n adj on o) {k t : Nat} {v : Int} (hk : k < n) (ht : t < n) (ho : on k = true) (h1 : on t = true) (ha : adj k t = true) (hv : v = lab o k ∨ v = lab o t) (hle : v ≤ lab o k) :
    Inv n adj on (o.set k v) ∧ Le n (o.set k v) o ∧ lab (o.set k v) k = v ∧ ∀ i, i ≠ k → lab (o.set k v) i = lab o i := by
  have hkl : k < o.length := by rw [h.len]; exact hk
  refine ⟨⟨by rw [List.length_set]; exact h.len, fun i hi hoi => ?_, fun i hi hoi => ?_⟩, fun i hi => ?_, by rw [lab_set hkl, if_pos rfl], fun i hi => by rw [lab_set hkl, if_neg hi]⟩
  · rw [lab_set hkl, if_neg (fun e => by rw [e, ho] at hoi; cases hoi)]; exact h.off i hi hoi
  · rw [lab_set hkl]
    split
    · rename_i e
      subst e
      rcases hv with rfl | rfl
      · exact h.on i hi hoi
      · obtain ⟨j, r, hj, e, hr⟩ := h.on t ht h1
        exact ⟨j, r + 1, hj, e, reach_step ht ha hr⟩
    · exact h.on i hi hoi
  · rw [lab_set hkl]; split
    · rename_i e; subst e; exact hle
    · exact Int.le_refl _

section
variable {W T : Nat} {bs : List Bool}

theorem stepF_bd {k : Nat} {way : Int} (hW : 1 ≤ W) (hk : k < W * T) (h : 0 ≤ stepF W T k way) : (stepF W T k way).toNat < W * T := by
  have e := Nat.div_add_mod k W
  have hm := Nat.mod_lt k (show W > 0 by omega)
  have hd := Nat.div_lt_of_lt_mul hk
  unfold stepF at h ⊢
  split
  · split
    · have h1 : W * (k / W + 1) ≤ W * T := Nat.mul_le_mul_left _ hd
      rw [Nat.mul_add, Nat.mul_one] at h1
      omega
    · rename_i h1 h2; rw [if_pos h1, if_neg h2] at h; omega
  split
  · rename_i h1 h2
    split
    · have h3 : W * (k / W + 1 + 1) ≤ W * T := Nat.mul_le_mul_left _ (by omega)
      rw [Nat.mul_add, Nat.mul_one, Nat.mul_add, Nat.mul_one] at h3
      omega
    · rename_i h3; rw [if_neg h1, if_pos h2, if_neg h3] at h; omega
  split
  · rename_i h1 h2 h3
    split
    · omega
    · rename_i h4; rw [if_neg h1, if_neg h2, if_pos h3, if_neg h4] at h; omega
  split
  · rename_i h1 h2 h3 h4
    split
    · omega
    · rename_i h5; rw [if_neg h1, if_neg h2, if_neg h3, if_pos h4, if_neg h5] at h; omega
  · rename_i h1 h2 h3 h4
    rw [if_neg h1, if_neg h2, if_neg h3, if_neg h4] at h; omega

theorem adjB_of {k k' : Nat} {way : Int} (h1 : onB bs k = true) (h2 : onB bs k' = true) (hw : way = 1 ∨ way = 2 ∨ way = 3 ∨ way = 4) (h : stepF W T k way = (k' : Int)) : adjB W T bs k k' = true := by
  rw [adjB, h1, h2, Bool.true_and, Bool.true_and, List.any_eq_true]
  exact ⟨way, by simpa using hw, by rw [h]; simp⟩
theorem adjB_inv {k k' : Nat} (h : adjB W T bs k k' = true) : onB bs k = true ∧ onB bs k' = true ∧ ∃ way : Int, (way = 1 ∨ way = 2 ∨ way = 3 ∨ way = 4) ∧ stepF W T k way = (k' : Int) := by
  rw [adjB, Bool.and_eq_true, Bool.and_eq_true, List.any_eq_true] at h
  obtain ⟨h1, h2, way, h3, h4⟩ := h
  exact ⟨h1, h2, way, by simpa using h3, by simpa using h4⟩

theorem lookI_pres {k : Nat} {way : Int} (hW : 1 ≤ W) (hk : k < W * T) (hw : way = 1 ∨ way = 2 ∨ way = 3 ∨ way = 4) : Pres (W * T) (adjB W T bs) (onB bs) (lookI W T k way) := by
  have key : ∀ o, Inv (W * T) (adjB W T bs) (onB bs) o → Inv (W * T) (adjB W T bs) (onB bs) (lookI W T k way o) ∧ Le (W * T) (lookI W T k way o) o := by
    intro o h
    rw [lookI]
    split
    · rename_i hc
      obtain ⟨h0, h1, h2⟩ := hc
      have ht := stepF_bd hW hk h0
      have o1 := h.isOn hk h1
      have o2 := h.isOn ht h2
      have := h.set (v := min (lab o k) (lab o (stepF W T k way).toNat)) hk ht o1 o2 (adjB_of o1 o2 hw (by omega)) (by omega) (by omega)
      exact ⟨this.1, this.2.1⟩
    · exact ⟨h, Le.refl _ _⟩
  exact ⟨fun o h => (key o h).1, fun o h => (key o h).2⟩
theorem lookI_down {k k' : Nat} {way : Int} (hk : k < W * T) (hk' : k' < W * T) (h1 : onB bs k = true) (h2 : onB bs k' = true) (h : stepF W T k way = (k' : Int)) : Down (W * T) (adjB W T bs) (onB bs) (lookI W T k way) k k' := by
  intro o hi
  have a := hi.nonneg hk h1
  have b := hi.nonneg hk' h2
  have e : (stepF W T k way).toNat = k' := by omega
  rw [lookI, e, if_pos ⟨by omega, a, b⟩, lab_set (by rw [hi.len]; exact hk), if_pos rfl]
  omega

theorem waysI_pres {k : Nat} (hW : 1 ≤ W) (hk : k < W * T) : ∀ q, q ≤ 4 → Pres (W * T) (adjB W T bs) (onB bs) (fun o => waysI W T k o q) :=
  run_pres (F := fun q => lookI W T k ((q : Int) + 1)) (R := fun o q => waysI W T k o q) (fun _ => rfl) (fun _ _ => rfl) (fun q hq => lookI_pres hW hk (by omega))
theorem sweepI (hW : 1 ≤ W) : Sweep (W * T) (adjB W T bs) (onB bs) (fun o => cellsI W T o (W * T)) := by
  have hp : ∀ k, k < W * T → Pres (W * T) (adjB W T bs) (onB bs) (fun o => waysI W T k o 4) := fun k hk => waysI_pres hW hk 4 (by omega)
  have P := run_pres (F := fun k o => waysI W T k o 4) (R := fun o k => cellsI W T o k) (fun _ => rfl) (fun _ _ => rfl) hp (W * T) (Nat.le_refl _)
  refine ⟨P.inv, P.le, fun o hi k k' hk hk' ha => ?_⟩
  obtain ⟨h1, h2, way, hw, hs⟩ := adjB_inv ha
  have hd : Down (W * T) (adjB W T bs) (onB bs) (fun o => waysI W T k o 4) k k' := by
    have go : ∀ i : Nat, i < 4 → stepF W T k ((i : Int) + 1) = (k' : Int) → Down (W * T) (adjB W T bs) (onB bs) (fun o => waysI W T k o 4) k k' := fun i h4 hs =>
      run_down (F := fun q => lookI W T k ((q : Int) + 1)) (R := fun o q => waysI W T k o q) (N := 4) (fun _ => rfl) (fun _ _ => rfl) (fun q hq => lookI_pres hW hk (by omega)) hk hk' (lookI_down hk hk' h1 h2 hs) 4 (Nat.le_refl _) h4
    rcases hw with rfl | rfl | rfl | rfl
    · exact go 0 (by omega) hs
    · exact go 1 (by omega) hs
    · exact go 2 (by omega) hs
    · exact go 3 (by omega) hs
  exact run_down (F := fun k o => waysI W T k o 4) (R := fun o k => cellsI W T o k) (N := W * T) (fun _ => rfl) (fun _ _ => rfl) hp hk hk' hd (W * T) (Nat.le_refl _) hk o hi

/-! the reference's -/
/-- k and t lie beside one another. -/
def Beside (W T : Nat) (k t : Nat) : Prop := t < k ∧ (∃ w1 : Int, (w1 = 1 ∨ w1 = 2 ∨ w1 = 3 ∨ w1 = 4) ∧ stepF W T k w1 = (t : Int)) ∧ (∃ w2 : Int, (w2 = 1 ∨ w2 = 2 ∨ w2 = 3 ∨ w2 = 4) ∧ stepF W T t w2 = (k : Int))
theorem lookS_pres {k t : Nat} (hk : k < W * T) (hb : Beside W T k t) : Pres (W * T) (adjB W T bs) (onB bs) (lookS k t) := by
  obtain ⟨hlt, ⟨w1, hw1, e1⟩, ⟨w2, hw2, e2⟩⟩ := hb
  have key : ∀ o, Inv (W * T) (adjB W T bs) (onB bs) o → Inv (W * T) (adjB W T bs) (onB bs) (lookS k t o) ∧ Le (W * T) (lookS k t o) o := by
    intro o h
    rw [lookS]
    split
    · rename_i hc
      have ht : t < W * T := by omega
      have o1 := h.isOn hk hc.1
      have o2 := h.isOn ht hc.2
      obtain ⟨i1, l1, v1, n1⟩ := h.set (v := min (lab o k) (lab o t)) hk ht o1 o2 (adjB_of o1 o2 hw1 e1) (by omega) (by omega)
      obtain ⟨i2, l2, v2, n2⟩ := i1.set (v := min (lab o k) (lab o t)) ht hk o2 o1 (adjB_of o2 o1 hw2 e2) (by rw [v1]; exact .inr rfl) (by rw [n1 t (by omega)]; omega)
      exact ⟨i2, l2.trans l1⟩
    · exact ⟨h, Le.refl _ _⟩
  exact ⟨fun o h => (key o h).1, fun o h => (key o h).2⟩
theorem lookS_down {k t : Nat} (hk : k < W * T) (hlt : t < k) (h1 : onB bs k = true) (h2 : onB bs t = true) : Down (W * T) (adjB W T bs) (onB bs) (lookS k t) k t ∧ Down (W * T) (adjB W T bs) (onB bs) (lookS k t) t k := by
  have ht : t < W * T := by omega
  have key : ∀ o, Inv (W * T) (adjB W T bs) (onB bs) o → lab (lookS k t o) k = min (lab o k) (lab o t) ∧ lab (lookS k t o) t = min (lab o k) (lab o t) := by
    intro o hi
    have a := hi.nonneg hk h1
    have b := hi.nonneg ht h2
    have hkl : k < o.length := by rw [hi.len]; exact hk
    have htl : t < (o.set k (min (lab o k) (lab o t))).length := by rw [List.length_set, hi.len]; exact ht
    rw [lookS, if_pos ⟨a, b⟩]
    exact ⟨by rw [lab_set htl, if_neg (by omega), lab_set hkl, if_pos rfl], by rw [lab_set htl, if_pos rfl]⟩
  exact ⟨fun o hi => by rw [(key o hi).1]; omega, fun o hi => by rw [(key o hi).2]; omega⟩

theorem beside_west {k : Nat} (hk : k < W * T) (h : 0 < k % W) : Beside W T k (k - 1) := by
  have e := Nat.div_add_mod k W
  have hpos : 0 < W := Nat.pos_of_ne_zero (fun h0 => by subst h0; simp at hk)
  have hm := Nat.mod_lt k hpos
  have e1 : (k - 1) % W = k % W - 1 := by
    have : k - 1 = (k % W - 1) + W * (k / W) := by omega
    rw [this, Nat.add_mul_mod_self_left, Nat.mod_eq_of_lt (by omega)]
  refine ⟨by omega, ⟨3, by simp, ?_⟩, ⟨1, by simp, ?_⟩⟩
  · unfold stepF; rw [if_neg (by omega), if_neg (by omega), if_pos rfl, if_pos h]; omega
  · unfold stepF; rw [if_pos rfl, e1, if_pos (by omega)]; omega
theorem beside_south {k : Nat} (hW : 1 ≤ W) (hk : k < W * T) (h : W ≤ k) : Beside W T k (k - W) := by
  have hd : (k - W) / W = k / W - 1 := by
    obtain ⟨m, rfl⟩ := Nat.exists_eq_add_of_le h
    rw [Nat.add_sub_cancel_left, Nat.add_comm, Nat.add_div_right _ (by omega)]; rfl
  have h1 : 1 ≤ k / W := (Nat.le_div_iff_mul_le (by omega)).2 (by omega)
  have h2 := Nat.div_lt_of_lt_mul hk
  refine ⟨by omega, ⟨4, by simp, ?_⟩, ⟨2, by simp, ?_⟩⟩
  · unfold stepF; rw [if_neg (by omega), if_neg (by omega), if_neg (by omega), if_pos rfl, if_pos (by omega)]; omega
  · unfold stepF; rw [if_neg (by omega), if_pos rfl, hd, if_pos (by omega)]; omega
theorem westS_pres {k : Nat} (hk : k < W * T) : Pres (W * T) (adjB W T bs) (onB bs) (westS W k) := by
  unfold westS
  by_cases h : 0 < k % W
  · simp only [if_pos h]; exact lookS_pres hk (beside_west hk h)
  · simp only [if_neg h]; exact Pres.id
theorem southS_pres {k : Nat} (hW : 1 ≤ W) (hk : k < W * T) : Pres (W * T) (adjB W T bs) (onB bs) (southS W k) := by
  unfold southS
  by_cases h : W ≤ k
  · simp only [if_pos h]; exact lookS_pres hk (beside_south hW hk h)
  · simp only [if_neg h]; exact Pres.id
theorem pairS_pres {k : Nat} (hW : 1 ≤ W) (hk : k < W * T) : Pres (W * T) (adjB W T bs) (onB bs) (pairS W k) := (westS_pres hk).comp (southS_pres hW hk)
theorem pairS_down {k t : Nat} (hW : 1 ≤ W) (hk : k < W * T) (h1 : onB bs k = true) (h2 : onB bs t = true) (ht : (0 < k % W ∧ t = k - 1) ∨ (W ≤ k ∧ t = k - W)) : Down (W * T) (adjB W T bs) (onB bs) (pairS W k) k t ∧ Down (W * T) (adjB W T bs) (onB bs) (pairS W k) t k := by
  have a : Pres (W * T) (adjB W T bs) (onB bs) (westS W k) := westS_pres hk
  have b : Pres (W * T) (adjB W T bs) (onB bs) (southS W k) := southS_pres hW hk
  rcases ht with ⟨hc, rfl⟩ | ⟨hc, rfl⟩
  · have d := lookS_down (W := W) (T := T) (bs := bs) hk (show k - 1 < k by have := Nat.mod_le k W; omega) h1 h2
    have e : westS W k = lookS k (k - 1) := by funext o; rw [westS, if_pos hc]
    rw [← e] at d
    exact ⟨Down.left (f := westS W k) (g := southS W k) hk a b d.1, Down.left (f := westS W k) (g := southS W k) (by omega) a b d.2⟩
  · have d := lookS_down (W := W) (T := T) (bs := bs) hk (show k - W < k by omega) h1 h2
    have e : southS W k = lookS k (k - W) := by funext o; rw [southS, if_pos hc]
    rw [← e] at d
    exact ⟨Down.right (f := westS W k) (g := southS W k) (by omega) a d.1, Down.right (f := westS W k) (g := southS W k) hk a d.2⟩

theorem step_cases {k k' : Nat} {way : Int} (hW : 1 ≤ W) (hw : way = 1 ∨ way = 2 ∨ way = 3 ∨ way = 4) (h : stepF W T k way = (k' : Int)) :
    ((0 < k % W ∧ k' = k - 1) ∨ (W ≤ k ∧ k' = k - W)) ∨ ((0 < k' % W ∧ k = k' - 1) ∨ (W ≤ k' ∧ k = k' - W)) := by
  have e := Nat.div_add_mod k W
  have hm := Nat.mod_lt k (show W > 0 by omega)
  unfold stepF at h
  rcases hw with rfl | rfl | rfl | rfl
  · right; left
    rw [if_pos rfl] at h
    split at h
    · rename_i hc
      have e2 : k' = k + 1 := by omega
      have e3 : k' % W = k % W + 1 := by
        have : k' = (k % W + 1) + W * (k / W) := by omega
        rw [this, Nat.add_mul_mod_self_left, Nat.mod_eq_of_lt hc]
      exact ⟨by omega, by omega⟩
    · omega
  · right; right
    rw [if_neg (by omega), if_pos rfl] at h
    split at h
    · exact ⟨by omega, by omega⟩
    · omega
  · left; left
    rw [if_neg (by omega), if_neg (by omega), if_pos rfl] at h
    split at h
    · rename_i hc; have := Nat.mod_le k W; exact ⟨hc, by omega⟩
    · omega
  · left; right
    rw [if_neg (by omega), if_neg (by omega), if_neg (by omega), if_pos rfl] at h
    split at h
    · rename_i hc
      have : W * 1 ≤ W * (k / W) := Nat.mul_le_mul_left _ hc
      exact ⟨by omega, by omega⟩
    · omega

theorem sweepS (hW : 1 ≤ W) : Sweep (W * T) (adjB W T bs) (onB bs) (fun o => cellsS W o (W * T)) := by
  have hp : ∀ k, k < W * T → Pres (W * T) (adjB W T bs) (onB bs) (pairS W k) := fun k hk => pairS_pres hW hk
  have P := run_pres (F := pairS W) (R := fun o k => cellsS W o k) (fun _ => rfl) (fun _ _ => rfl) hp (W * T) (Nat.le_refl _)
  refine ⟨P.inv, P.le, fun o hi k k' hk hk' ha => ?_⟩
  obtain ⟨h1, h2, way, hw, hs⟩ := adjB_inv ha
  rcases step_cases hW hw hs with hc | hc
  · exact run_down (F := pairS W) (R := fun o k => cellsS W o k) (N := W * T) (fun _ => rfl) (fun _ _ => rfl) hp hk hk' (pairS_down hW hk h1 h2 hc).1 (W * T) (Nat.le_refl _) hk o hi
  · exact run_down (F := pairS W) (R := fun o k => cellsS W o k) (N := W * T) (fun _ => rfl) (fun _ _ => rfl) hp hk hk' (pairS_down hW hk' h2 h1 hc).2 (W * T) (Nat.le_refl _) hk' o hi

theorem lab_start {N k : Nat} (hk : k < N) : lab (startL bs N) k = if onB bs k then (k : Int) else -1 := by
  unfold lab startL
  rw [List.getElem?_map, List.getElem?_range hk]; rfl
theorem start_inv : Inv (W * T) (adjB W T bs) (onB bs) (startL bs (W * T)) :=
  ⟨by simp [startL], fun k hk h => by rw [lab_start hk, h]; rfl, fun k hk h => ⟨k, 0, hk, by rw [lab_start hk, h]; rfl, by simp [reach]⟩⟩

/-- Both ways to find the parts come to the same. -/
theorem parts_eq (hW : 1 ≤ W) : iter (fun o => cellsI W T o (W * T)) (startL bs (W * T)) (W * T) = iter (fun o => cellsS W o (W * T)) (startL bs (W * T)) (W * T) :=
  iter_eq (sweepI hW) (sweepS hW) start_inv (fun k hk => by rw [lab_start hk]; split <;> omega)
/-- What is known of the labels. -/
theorem parts_inv (hW : 1 ≤ W) : Inv (W * T) (adjB W T bs) (onB bs) (iter (fun o => cellsI W T o (W * T)) (startL bs (W * T)) (W * T)) := iter_inv (sweepI hW) start_inv _
end
end Parts
end Go.Proofs.Ytcnkpcnbobiodaa
