/-
  Tilings across a line: the plain law: how many have exactly a set of rows across is a product. No program in sight.
-/
import Derived.Test.YtcnkpcnbobiodaaRankP
import Derived.Test.YtcnkpcnbobiodaaAcross
import Derived.Test.YtcnkpcnbobiodaaAllI
namespace Go.Proofs.Ytcnkpcnbobiodaa
namespace Til

/-- How many ways to go on, with a domino across the line in the west of column c in exactly the rows S. -/
def cntX (c : Nat) (S : Nat → Bool) (W T : Nat) : Nat → Nat → List Bool → Nat
  | 0, _, _ => 1
  | rem + 1, k, av =>
    if on av k then
      (if to W T av k 1 && (k % W != c - 1 || S (k / W)) then cntX c S W T rem (k + 1) (less2 av k (stepF W T k 1).toNat) else 0) +
      (if to W T av k 2 && (k % W != c - 1 || !S (k / W)) then cntX c S W T rem (k + 1) (less2 av k (stepF W T k 2).toNat) else 0)
    else if k % W != c - 1 || !S (k / W) then cntX c S W T rem (k + 1) av else 0
/-- The west part and the east part. -/
def wsL (c : Nat) (S : Nat → Bool) (W : Nat) (av : List Bool) : List Bool := (List.range av.length).map fun i => on av i && (decide (i % W < c) && !(i % W == c - 1 && S (i / W)))
def eaL (c : Nat) (S : Nat → Bool) (W : Nat) (av : List Bool) : List Bool := (List.range av.length).map fun i => on av i && (decide (c ≤ i % W) && !(i % W == c && S (i / W)))
theorem on_map (f : Nat → Bool) (av : List Bool) (i : Nat) : on ((List.range av.length).map fun i => on av i && f i) i = (on av i && f i) := by
  by_cases h : i < av.length
  · conv => lhs; unfold on
    rw [List.getElem?_map, List.getElem?_range h]; rfl
  · have h1 : on av i = false := by unfold on; rw [List.getElem?_eq_none (by omega)]; rfl
    rw [h1, Bool.false_and]
    unfold on
    rw [List.getElem?_eq_none (by simp; omega)]; rfl
theorem on_wsL (c : Nat) (S : Nat → Bool) (W : Nat) (av : List Bool) (i : Nat) : on (wsL c S W av) i = (on av i && (decide (i % W < c) && !(i % W == c - 1 && S (i / W)))) := on_map _ av i
theorem on_eaL (c : Nat) (S : Nat → Bool) (W : Nat) (av : List Bool) (i : Nat) : on (eaL c S W av) i = (on av i && (decide (c ≤ i % W) && !(i % W == c && S (i / W)))) := on_map _ av i

/-- All cells that the rows S want are free. -/
def Req (c : Nat) (S : Nat → Bool) (W T k : Nat) (av : List Bool) : Prop := ∀ y, y < T → S y = true → k ≤ y * W + c - 1 → on av (y * W + c - 1) = true ∧ on av (y * W + c) = true
/-- Where the line has been crossed the eastern cell is covered. -/
def Hyp (c : Nat) (S : Nat → Bool) (W T k : Nat) (av : List Bool) : Prop := ∀ y, y < T → S y = true → y * W + c - 1 < k → on av (y * W + c) = false

theorem step1 {W T k : Nat} : stepF W T k 1 = if k % W + 1 < W then ((k : Int) + 1) else -1 := by unfold stepF; simp
theorem cell_xy {W x y : Nat} (hx : x < W) : (y * W + x) % W = x ∧ (y * W + x) / W = y := by
  rw [Nat.mul_comm y W]
  exact ⟨by rw [Nat.mul_add_mod, Nat.mod_eq_of_lt hx], by rw [Nat.mul_add_div (by omega), Nat.div_eq_of_lt hx]; omega⟩

def pw (c : Nat) (S : Nat → Bool) (W i : Nat) : Bool := decide (i % W < c) && !(i % W == c - 1 && S (i / W))
def pe (c : Nat) (S : Nat → Bool) (W i : Nat) : Bool := decide (c ≤ i % W) && !(i % W == c && S (i / W))
def Rq (c : Nat) (S : Nat → Bool) (W i : Nat) : Prop := (i % W = c - 1 ∨ i % W = c) ∧ S (i / W) = true
theorem pw_no {c W i : Nat} {S : Nat → Bool} (h : pw c S W i = false) (hx : i % W < c) : Rq c S W i := by
  rw [pw, decide_eq_true hx, Bool.true_and, Bool.not_eq_false', Bool.and_eq_true, beq_iff_eq] at h
  exact ⟨.inl h.1, h.2⟩
theorem pe_no {c W i : Nat} {S : Nat → Bool} (h : pe c S W i = false) (hx : c ≤ i % W) : Rq c S W i := by
  rw [pe, decide_eq_true hx, Bool.true_and, Bool.not_eq_false', Bool.and_eq_true, beq_iff_eq] at h
  exact ⟨.inr h.1, h.2⟩
theorem pw_pe {c W i : Nat} {S : Nat → Bool} (h : pw c S W i = true) : pe c S W i = false ∧ ¬ (c ≤ i % W) := by
  rw [pw, Bool.and_eq_true, decide_eq_true_eq] at h
  have h1 := h.1
  exact ⟨by rw [pe, decide_eq_false (by omega)]; rfl, by omega⟩
theorem pe_pw {c W i : Nat} {S : Nat → Bool} (h : pe c S W i = true) : pw c S W i = false := by
  rw [pe, Bool.and_eq_true, decide_eq_true_eq] at h
  have h1 := h.1
  rw [pw, decide_eq_false (by omega)]; rfl
theorem pw_rq {c W i : Nat} {S : Nat → Bool} (_hc : 1 ≤ c) (h : pw c S W i = true) : ¬ Rq c S W i := by
  rintro ⟨h1, h2⟩
  rw [pw, Bool.and_eq_true, decide_eq_true_eq] at h
  obtain ⟨ha, hb⟩ := h
  rcases h1 with h1 | h1
  · rw [h1, h2] at hb; simp at hb
  · omega
theorem pe_rq {c W i : Nat} {S : Nat → Bool} (hc : 1 ≤ c) (h : pe c S W i = true) : ¬ Rq c S W i := by
  rintro ⟨h1, h2⟩
  rw [pe, Bool.and_eq_true, decide_eq_true_eq] at h
  obtain ⟨ha, hb⟩ := h
  rcases h1 with h1 | h1
  · omega
  · rw [h1, h2] at hb; simp at hb
theorem tgt1 {W T k : Nat} (h : 0 ≤ stepF W T k 1) : (stepF W T k 1).toNat = k + 1 ∧ (k + 1) % W = k % W + 1 ∧ (k + 1) / W = k / W := by
  unfold stepF at h ⊢
  simp at h ⊢
  by_cases hx : k % W + 1 < W
  · rw [if_pos hx] at h ⊢
    have e := Nat.div_add_mod k W
    have h1 := cell_xy (W := W) (x := k % W + 1) (y := k / W) hx
    have h2 : k / W * W + (k % W + 1) = k + 1 := by rw [Nat.mul_comm]; omega
    rw [h2] at h1
    exact ⟨by omega, h1.1, h1.2⟩
  · rw [if_neg hx] at h; omega
theorem tgt2 {W T k : Nat} (hW : 1 ≤ W) (h : 0 ≤ stepF W T k 2) : (stepF W T k 2).toNat = k + W ∧ (k + W) % W = k % W ∧ (k + W) / W = k / W + 1 ∧ k / W + 1 < T := by
  unfold stepF at h ⊢
  simp at h ⊢
  by_cases hy : k / W + 1 < T
  · rw [if_pos hy] at h ⊢
    exact ⟨by omega, Nat.add_div_right k (by omega), hy⟩
  · rw [if_neg hy] at h; omega
theorem rq_cell {c W y : Nat} {S : Nat → Bool} (hc : 1 ≤ c) (hcW : c < W) (h : S y = true) : Rq c S W (y * W + c - 1) ∧ Rq c S W (y * W + c) := by
  have h1 := cell_xy (W := W) (x := c - 1) (y := y) (by omega)
  have h2 := cell_xy (W := W) (x := c) (y := y) hcW
  have e : y * W + c - 1 = y * W + (c - 1) := by omega
  rw [e]
  exact ⟨⟨.inl h1.1, by rw [h1.2]; exact h⟩, ⟨.inr h2.1, by rw [h2.2]; exact h⟩⟩
theorem on_less2_le {av : List Bool} {k t i : Nat} (h : on (less2 av k t) i = true) : on av i = true := by
  rw [on_less2, Bool.and_eq_true, Bool.and_eq_true] at h; exact h.1.1
theorem on_less2_ne {av : List Bool} {k t i : Nat} (h1 : i ≠ k) (h2 : i ≠ t) : on (less2 av k t) i = on av i := by
  rw [on_less2, decide_eq_true h1, decide_eq_true h2, Bool.and_true, Bool.and_true]
theorem on_less2_t {av : List Bool} {k t : Nat} : on (less2 av k t) t = false := by
  rw [on_less2]; simp
theorem req_le {c W T k : Nat} {S : Nat → Bool} {av : List Bool} {j : Nat} (h : Req c S W T (k + 1) (less2 av k j)) : Req c S W T (k + 1) av := fun y hy hs hk =>
  ⟨on_less2_le (h y hy hs hk).1, on_less2_le (h y hy hs hk).2⟩
theorem req_less {c W T k j : Nat} {S : Nat → Bool} {av : List Bool} (hc : 1 ≤ c) (hcW : c < W) (hj : ¬ Rq c S W j) (hkr : ¬ Rq c S W k) (h : Req c S W T (k + 1) av) : Req c S W T (k + 1) (less2 av k j) := fun y hy hs hk => by
  obtain ⟨r1, r2⟩ := rq_cell (S := S) (y := y) hc hcW hs
  have ne : ∀ i, Rq c S W i → i ≠ k ∧ i ≠ j := fun i hi => ⟨fun e => hkr (e ▸ hi), fun e => hj (e ▸ hi)⟩
  rw [on_less2_ne (ne _ r1).1 (ne _ r1).2, on_less2_ne (ne _ r2).1 (ne _ r2).2]
  exact h y hy hs hk
theorem req_no {c W T k j : Nat} {S : Nat → Bool} {av : List Bool} (hc : 1 ≤ c) (hj : Rq c S W j) (hT : j / W < T) (hk : k + 1 ≤ j / W * W + c - 1) : ¬ Req c S W T (k + 1) (less2 av k j) := by
  intro h
  have e := Nat.div_add_mod j W
  rw [Nat.mul_comm] at e
  obtain ⟨h1, h2⟩ := h (j / W) hT hj.2 hk
  rcases hj.1 with hx | hx
  · rw [show j / W * W + c - 1 = j by omega, on_less2_t] at h1; cases h1
  · rw [show j / W * W + c = j by omega, on_less2_t] at h2; cases h2
theorem hyp_next {c W T k : Nat} {S : Nat → Bool} {av av' : List Bool} (hc : 1 ≤ c) (hcW : c < W) (hkr : ¬ Rq c S W k) (hle : ∀ i, on av' i = true → on av i = true) (h : Hyp c S W T k av) : Hyp c S W T (k + 1) av' := fun y hy hs hk => by
  by_cases e : y * W + c - 1 = k
  · exact absurd (e ▸ (rq_cell (S := S) (y := y) hc hcW hs).1) hkr
  · have := h y hy hs (by omega)
    cases hh : on av' (y * W + c) with
    | false => rfl
    | true => rw [hle _ hh] at this; cases this
theorem req_next {c W T k : Nat} {S : Nat → Bool} {av : List Bool} (hc : 1 ≤ c) (hcW : c < W) (hkr : ¬ Rq c S W k) : Req c S W T k av ↔ Req c S W T (k + 1) av := by
  constructor
  · exact fun h y hy hs hk => h y hy hs (by omega)
  · intro h y hy hs hk
    refine h y hy hs ?_
    by_cases e : y * W + c - 1 = k
    · exact absurd (e ▸ (rq_cell (S := S) (y := y) hc hcW hs).1) hkr
    · omega
theorem side_less {c W T k j : Nat} {S : Nat → Bool} {av : List Bool} {rem : Nat} : cntA W T rem (k + 1) (wsL c S W (less2 av k j)) = cntA W T rem (k + 1) (less2 (wsL c S W av) k j) ∧ cntA W T rem (k + 1) (eaL c S W (less2 av k j)) = cntA W T rem (k + 1) (less2 (eaL c S W av) k j) := by
  constructor
  · refine cntA_eq fun i _ => ?_
    rw [on_wsL, on_less2, on_less2, on_wsL]
    cases on av i <;> cases decide (i ≠ k) <;> cases decide (i ≠ j) <;> simp
  · refine cntA_eq fun i _ => ?_
    rw [on_eaL, on_less2, on_less2, on_eaL]
    cases on av i <;> cases decide (i ≠ k) <;> cases decide (i ≠ j) <;> simp
theorem west_same {c W T k j : Nat} {S : Nat → Bool} {av : List Bool} {rem : Nat} (h : pw c S W j = false) : cntA W T rem (k + 1) (wsL c S W (less2 av k j)) = cntA W T rem (k + 1) (wsL c S W av) := by
  refine cntA_eq fun i hi => ?_
  rw [on_wsL, on_wsL]
  by_cases e : i = j
  · subst e
    rw [show (decide (i % W < c) && !(i % W == c - 1 && S (i / W))) = false from h, Bool.and_false, Bool.and_false]
  · rw [on_less2_ne (by omega) e]
theorem east_same {c W T k j : Nat} {S : Nat → Bool} {av : List Bool} {rem : Nat} (h : pe c S W j = false) : cntA W T rem (k + 1) (eaL c S W (less2 av k j)) = cntA W T rem (k + 1) (eaL c S W av) := by
  refine cntA_eq fun i hi => ?_
  rw [on_eaL, on_eaL]
  by_cases e : i = j
  · subst e
    rw [show (decide (c ≤ i % W) && !(i % W == c && S (i / W))) = false from h, Bool.and_false, Bool.and_false]
  · rw [on_less2_ne (by omega) e]

/-- The law at one state. -/
def Law (c : Nat) (S : Nat → Bool) (W T rem k : Nat) (av : List Bool) : Prop :=
  (Req c S W T k av → cntX c S W T rem k av = cntA W T rem k (wsL c S W av) * cntA W T rem k (eaL c S W av)) ∧ (¬ Req c S W T k av → cntX c S W T rem k av = 0)
/-- One option on the western side. -/
theorem opt_west {c W T k rem : Nat} {S : Nat → Bool} {av : List Bool} {way : Int} {g : Bool} (hc : 1 ≤ c) (hcW : c < W) (hk : pw c S W k = true)
    (hj : to W T av k way = true → g = true → (stepF W T k way).toNat % W < c ∧ (stepF W T k way).toNat / W < T ∧ (Rq c S W (stepF W T k way).toNat → k + 1 ≤ (stepF W T k way).toNat / W * W + c - 1))
    (hg : to W T av k way = true → g = false → pw c S W (stepF W T k way).toNat = false) (ih : Law c S W T rem (k + 1) (less2 av k (stepF W T k way).toNat)) :
    (Req c S W T (k + 1) av → (if to W T av k way && g then cntX c S W T rem (k + 1) (less2 av k (stepF W T k way).toNat) else 0) = (if to W T (wsL c S W av) k way then cntA W T rem (k + 1) (less2 (wsL c S W av) k (stepF W T k way).toNat) else 0) * cntA W T rem (k + 1) (eaL c S W av)) ∧
    (¬ Req c S W T (k + 1) av → (if to W T av k way && g then cntX c S W T rem (k + 1) (less2 av k (stepF W T k way).toNat) else 0) = 0) := by
  have hkr := pw_rq hc hk
  have hto : to W T (wsL c S W av) k way = (to W T av k way && pw c S W (stepF W T k way).toNat) := by
    rw [to, to, on_wsL, Bool.and_assoc]; rfl
  refine ⟨fun hr => ?_, fun hr => ?_⟩
  · rw [hto]
    cases h1 : to W T av k way
    · simp
    · cases h2 : g
      · rw [hg h1 h2]; simp
      · obtain ⟨hx, hT, hkk⟩ := hj h1 h2
        cases h3 : pw c S W (stepF W T k way).toNat
        · have hrq := pw_no h3 hx
          simp only [Bool.true_and, Bool.and_false, if_true, if_false, Bool.false_eq_true, Nat.zero_mul]
          exact ih.2 (req_no hc hrq hT (hkk hrq))
        · simp only [Bool.true_and, if_true]
          rw [ih.1 (req_less hc hcW (pw_rq hc h3) hkr hr), side_less.1, east_same (pw_pe h3).1]
  · split
    · exact ih.2 (fun h => hr (req_le h))
    · rfl
/-- One option on the eastern side. -/
theorem opt_east {c W T k rem : Nat} {S : Nat → Bool} {av : List Bool} {way : Int} (hc : 1 ≤ c) (hcW : c < W) (hk : pe c S W k = true)
    (hj : to W T av k way = true → c ≤ (stepF W T k way).toNat % W ∧ (stepF W T k way).toNat / W < T ∧ (Rq c S W (stepF W T k way).toNat → k + 1 ≤ (stepF W T k way).toNat / W * W + c - 1)) (ih : Law c S W T rem (k + 1) (less2 av k (stepF W T k way).toNat)) :
    (Req c S W T (k + 1) av → (if to W T av k way then cntX c S W T rem (k + 1) (less2 av k (stepF W T k way).toNat) else 0) = cntA W T rem (k + 1) (wsL c S W av) * (if to W T (eaL c S W av) k way then cntA W T rem (k + 1) (less2 (eaL c S W av) k (stepF W T k way).toNat) else 0)) ∧
    (¬ Req c S W T (k + 1) av → (if to W T av k way then cntX c S W T rem (k + 1) (less2 av k (stepF W T k way).toNat) else 0) = 0) := by
  have hkr := pe_rq hc hk
  have hto : to W T (eaL c S W av) k way = (to W T av k way && pe c S W (stepF W T k way).toNat) := by
    rw [to, to, on_eaL, Bool.and_assoc]; rfl
  refine ⟨fun hr => ?_, fun hr => ?_⟩
  · rw [hto]
    cases h1 : to W T av k way
    · simp
    · obtain ⟨hx, hT, hkk⟩ := hj h1
      cases h3 : pe c S W (stepF W T k way).toNat
      · have hrq := pe_no h3 hx
        simp only [Bool.and_false, if_true, if_false, Bool.false_eq_true, Nat.mul_zero]
        exact ih.2 (req_no hc hrq hT (hkk hrq))
      · simp only [Bool.true_and, if_true]
        rw [ih.1 (req_less hc hcW (pe_rq hc h3) hkr hr), side_less.2, west_same (pe_pw h3)]
  · split
    · exact ih.2 (fun h => hr (req_le h))
    · rfl

theorem cntX_law {c W T : Nat} {S : Nat → Bool} (hc : 1 ≤ c) (hcW : c < W) : ∀ (rem k : Nat) (av : List Bool), k + rem = W * T → Hyp c S W T k av → Law c S W T rem k av
  | 0, k, av, hk, _ => by
    refine ⟨fun _ => rfl, fun h => absurd (fun y hy _ hh => ?_) h⟩
    exfalso
    have := acr_index (W := W) (T := T) (x := c) (y := y) hc hcW hy
    omega
  | rem + 1, k, av, hk, hyp => by
    have hkn : k < W * T := by omega
    have hyT : k / W < T := Nat.div_lt_of_lt_mul hkn
    have e := Nat.div_add_mod k W
    rw [Nat.mul_comm] at e
    have hxW := Nat.mod_lt k (show W > 0 by omega)
    by_cases hq : k % W = c - 1 ∧ S (k / W) = true
    · -- the line is to be crossed here
      obtain ⟨hx, hs⟩ := hq
      have hkc : k / W * W + c - 1 = k := by omega
      have hkc1 : k / W * W + c = k + 1 := by omega
      have hst : stepF W T k 1 = ((k + 1 : Nat) : Int) := by rw [step1, if_pos (by omega)]; omega
      have hw0 : on (wsL c S W av) k = false := by rw [on_wsL, hx, hs]; simp
      have he0 : on (eaL c S W av) k = false := by rw [on_eaL, hx, decide_eq_false (by omega)]; simp
      rw [Law, cntA, hw0, cntA, he0, cntX, hst, Int.toNat_natCast, to, hst, Int.toNat_natCast, hx, hs]
      simp only [bne_self_eq_false, Bool.false_or, Bool.and_true, Bool.not_true, Bool.and_false, Bool.false_eq_true, if_false, Nat.add_zero]
      have hreq : Req c S W T k av ↔ (on av k = true ∧ on av (k + 1) = true ∧ Req c S W T (k + 1) (less2 av k (k + 1))) := by
        have far : ∀ y, k + 1 ≤ y * W + c - 1 → y * W + c - 1 ≠ k ∧ y * W + c - 1 ≠ k + 1 ∧ y * W + c ≠ k ∧ y * W + c ≠ k + 1 := by
          intro y hy
          have : k / W < y := by
            rcases Nat.lt_or_ge (k / W) y with h | h
            · exact h
            · have := Nat.mul_le_mul_right W h; omega
          have := Nat.mul_le_mul_right W this
          rw [Nat.succ_mul] at this
          omega
        constructor
        · intro h
          obtain ⟨h1, h2⟩ := h (k / W) hyT hs (by omega)
          rw [hkc] at h1
          rw [hkc1] at h2
          refine ⟨h1, h2, fun y hy hsy hky => ?_⟩
          obtain ⟨f1, f2, f3, f4⟩ := far y hky
          rw [on_less2_ne f1 f2, on_less2_ne f3 f4]
          exact h y hy hsy (by omega)
        · rintro ⟨h1, h2, h3⟩ y hy hsy hky
          by_cases hyk : y = k / W
          · subst hyk; rw [hkc, hkc1]; exact ⟨h1, h2⟩
          · have hky' : k + 1 ≤ y * W + c - 1 := by
              rcases Nat.lt_or_ge y (k / W) with h | h
              · have := Nat.mul_le_mul_right W h; rw [Nat.succ_mul] at this; omega
              · have := Nat.mul_le_mul_right W (show k / W + 1 ≤ y by omega); rw [Nat.succ_mul] at this; omega
            obtain ⟨f1, f2, f3, f4⟩ := far y hky'
            have := h3 y hy hsy hky'
            rw [on_less2_ne f1 f2, on_less2_ne f3 f4] at this
            exact this
      have hyp' : Hyp c S W T (k + 1) (less2 av k (k + 1)) := fun y hy hsy hky => by
        by_cases e2 : y * W + c - 1 = k
        · rw [show y * W + c = k + 1 by omega, on_less2_t]
        · have := hyp y hy hsy (by omega)
          rw [on_less2, this]; rfl
      have ih := cntX_law hc hcW rem (k + 1) (less2 av k (k + 1)) (by omega) hyp'
      have hxy := cell_xy (W := W) (x := c) (y := k / W) hcW
      rw [hkc1] at hxy
      have npw : pw c S W (k + 1) = false := by rw [pw, hxy.1, decide_eq_false (by omega)]; rfl
      have npe : pe c S W (k + 1) = false := by rw [pe, hxy.1, hxy.2, hs]; simp
      refine ⟨fun hr => ?_, fun hr => ?_⟩
      · obtain ⟨h1, h2, h3⟩ := hreq.1 hr
        rw [h1, h2, decide_eq_true (by omega)]
        simp only [if_true, Bool.and_self]
        rw [ih.1 h3, west_same npw, east_same npe]
      · cases h1 : on av k
        · simp
        · cases h2 : on av (k + 1)
          · simp
          · simp only [if_true, Bool.and_true, decide_eq_true (show (0 : Int) ≤ ((k + 1 : Nat) : Int) by omega)]
            exact ih.2 (fun h => hr (hreq.2 ⟨h1, h2, h⟩))
    · by_cases hon : on av k = true
      · -- a free cell that is not on the crossing
        have hkr : ¬ Rq c S W k := by
          rintro ⟨h1 | h1, h2⟩
          · exact hq ⟨h1, h2⟩
          · have := hyp (k / W) hyT h2 (by omega)
            rw [show k / W * W + c = k by omega, hon] at this; cases this
        have ih := fun way : Int => cntX_law hc hcW rem (k + 1) (less2 av k (stepF W T k way).toNat) (by omega) (hyp_next hc hcW hkr (fun i => on_less2_le) hyp)
        have hrn := req_next (T := T) (av := av) hc hcW hkr
        have gN : (k % W != c - 1 || !S (k / W)) = true := by
          by_cases h1 : k % W = c - 1
          · cases h2 : S (k / W)
            · simp
            · exact absurd ⟨h1, h2⟩ hq
          · simp [h1]
        rcases Nat.lt_or_ge (k % W) c with hx | hx
        · -- the western side
          have hpk : pw c S W k = true := by
            cases h : pw c S W k with
            | true => rfl
            | false => exact absurd (pw_no h hx) hkr
          have hw0 : on (wsL c S W av) k = true := by rw [on_wsL, hon]; exact hpk
          have he0 : on (eaL c S W av) k = false := by rw [on_eaL, decide_eq_false (by omega)]; simp
          have o1 := opt_west (av := av) (way := 1) (g := (k % W != c - 1 || S (k / W))) hc hcW hpk (fun ht hg => by
            rw [to, Bool.and_eq_true, decide_eq_true_eq] at ht
            obtain ⟨t1, t2, t3⟩ := tgt1 ht.1
            rw [t1, t2, t3]
            have hne : k % W ≠ c - 1 := fun h => by
              rw [h] at hg; simp at hg; exact hq ⟨h, hg⟩
            exact ⟨by omega, hyT, fun hr => by rcases hr.1 with h | h <;> (rw [t2] at h; omega)⟩) (fun ht hg => by
            rw [to, Bool.and_eq_true, decide_eq_true_eq] at ht
            obtain ⟨t1, t2, t3⟩ := tgt1 ht.1
            have hxx : k % W = c - 1 := by
              rw [Bool.or_eq_false_iff] at hg; simpa using hg.1
            rw [t1, pw, t2, decide_eq_false (by omega)]; rfl) (ih 1)
          have o2 := opt_west (av := av) (way := 2) (g := (k % W != c - 1 || !S (k / W))) hc hcW hpk (fun ht _ => by
            rw [to, Bool.and_eq_true, decide_eq_true_eq] at ht
            obtain ⟨t1, t2, t3, t4⟩ := tgt2 (by omega) ht.1
            rw [t1, t2, t3]
            refine ⟨hx, t4, fun hr => ?_⟩
            have hxx : k % W = c - 1 := by rcases hr.1 with h | h <;> (rw [t2] at h; omega)
            rw [Nat.succ_mul]; omega) (fun _ hg => by rw [gN] at hg; cases hg) (ih 2)
          rw [Law, cntA, hw0, cntA, he0, cntX, hon, hrn]
          simp only [if_true, Bool.false_eq_true, if_false]
          exact ⟨fun hr => by rw [o1.1 hr, o2.1 hr, Nat.add_mul], fun hr => by rw [o1.2 hr, o2.2 hr]⟩
        · -- the eastern side
          have hpk : pe c S W k = true := by
            cases h : pe c S W k with
            | true => rfl
            | false => exact absurd (pe_no h hx) hkr
          have hw0 : on (wsL c S W av) k = false := by rw [on_wsL, decide_eq_false (by omega)]; simp
          have he0 : on (eaL c S W av) k = true := by rw [on_eaL, hon]; exact hpk
          have gE : (k % W != c - 1 || S (k / W)) = true := by
            have : k % W ≠ c - 1 := by omega
            simp [this]
          have o1 := opt_east (av := av) (way := 1) hc hcW hpk (fun ht => by
            rw [to, Bool.and_eq_true, decide_eq_true_eq] at ht
            obtain ⟨t1, t2, t3⟩ := tgt1 ht.1
            rw [t1, t2, t3]
            exact ⟨by omega, hyT, fun hr => by rcases hr.1 with h | h <;> (rw [t2] at h; omega)⟩) (ih 1)
          have o2 := opt_east (av := av) (way := 2) hc hcW hpk (fun ht => by
            rw [to, Bool.and_eq_true, decide_eq_true_eq] at ht
            obtain ⟨t1, t2, t3, t4⟩ := tgt2 (by omega) ht.1
            rw [t1, t2, t3]
            refine ⟨hx, t4, fun hr => ?_⟩
            rw [Nat.succ_mul]; omega) (ih 2)
          rw [Law, cntA, hw0, cntA, he0, cntX, hon, hrn, gE, gN]
          simp only [if_true, Bool.false_eq_true, if_false, Bool.and_true]
          exact ⟨fun hr => by rw [o1.1 hr, o2.1 hr, Nat.mul_add], fun hr => by rw [o1.2 hr, o2.2 hr]⟩
      · have hon' : on av k = false := by simpa using hon
        have gN : (k % W != c - 1 || !S (k / W)) = true := by
          by_cases h1 : k % W = c - 1
          · cases h2 : S (k / W)
            · simp
            · exact absurd ⟨h1, h2⟩ hq
          · simp [h1]
        have hw0 : on (wsL c S W av) k = false := by rw [on_wsL, hon']; rfl
        have he0 : on (eaL c S W av) k = false := by rw [on_eaL, hon']; rfl
        have hyp' : Hyp c S W T (k + 1) av := fun y hy hsy hky => by
          by_cases e2 : y * W + c - 1 = k
          · exfalso
            have := cell_xy (W := W) (x := c - 1) (y := y) (by omega)
            rw [show y * W + (c - 1) = k by omega] at this
            exact hq ⟨this.1, by rw [this.2]; exact hsy⟩
          · exact hyp y hy hsy (by omega)
        have hrn : Req c S W T k av ↔ Req c S W T (k + 1) av := by
          constructor
          · exact fun h y hy hs hk => h y hy hs (by omega)
          · intro h y hy hs hk
            refine h y hy hs ?_
            by_cases e2 : y * W + c - 1 = k
            · exfalso
              have := cell_xy (W := W) (x := c - 1) (y := y) (by omega)
              rw [show y * W + (c - 1) = k by omega] at this
              exact hq ⟨this.1, by rw [this.2]; exact hs⟩
            · omega
        have ih := cntX_law hc hcW rem (k + 1) av (by omega) hyp'
        rw [Law, cntA, hw0, cntA, he0, cntX, hon', gN, hrn]
        simp only [if_true, Bool.false_eq_true, if_false]
        exact ih

end Til
end Go.Proofs.Ytcnkpcnbobiodaa
