/-
  Tilings across a line: counted in the list of all tilings: the plain law.
-/
import Derived.Test.YtcnkpcnbobiodaaAcrP
namespace Go.Proofs.Ytcnkpcnbobiodaa
namespace Til

theorem cntX_congr {c : Nat} {S : Nat → Bool} {W T : Nat} : ∀ (rem k : Nat) (a b : List Bool), (∀ i, k ≤ i → on a i = on b i) → cntX c S W T rem k a = cntX c S W T rem k b
  | 0, _, _, _, _ => rfl
  | rem + 1, k, a, b, h => by
    have ht : ∀ way : Int, way = 1 ∨ way = 2 → to W T a k way = to W T b k way := fun way hw => by
      rw [to, to]
      by_cases h0 : 0 ≤ stepF W T k way
      · have : k ≤ (stepF W T k way).toNat := by
          rcases hw with rfl | rfl
          · have := (tgt1 h0).1; omega
          · unfold stepF at h0 ⊢
            simp at h0 ⊢
            split <;> omega
        rw [h _ this]
      · rw [decide_eq_false h0, Bool.false_and, Bool.false_and]
    have hl : ∀ j i, k + 1 ≤ i → on (less2 a k j) i = on (less2 b k j) i := fun j i hi => by rw [on_less2, on_less2, h i (by omega)]
    rw [cntX, cntX, h k (Nat.le_refl _), ht 1 (.inl rfl), ht 2 (.inr rfl), cntX_congr rem (k + 1) _ _ (hl _), cntX_congr rem (k + 1) _ _ (hl (stepF W T k 2).toNat), cntX_congr rem (k + 1) a b (fun i hi => h i (by omega))]

/-- Do the rows from cell k on cross the line as S says? -/
def crossB (c : Nat) (S : Nat → Bool) (W T k : Nat) (t : List Int) : Bool := (List.range T).all fun y => decide (y * W + c - 1 < k) || ((ent t (y * W + c - 1) == 1) == S y)
theorem crossB_iff {c : Nat} {S : Nat → Bool} {W T k : Nat} {t : List Int} : crossB c S W T k t = true ↔ ∀ y, y < T → k ≤ y * W + c - 1 → (ent t (y * W + c - 1) == 1) = S y := by
  rw [crossB, List.all_eq_true]
  constructor
  · intro h y hy hk
    have := h y (List.mem_range.2 hy)
    rw [decide_eq_false (by omega), Bool.false_or, beq_iff_eq] at this
    exact this
  · intro h y hy
    by_cases hk : y * W + c - 1 < k
    · rw [decide_eq_true hk, Bool.true_or]
    · rw [h y (List.mem_range.1 hy) (by omega)]; simp
theorem crossB_step {c : Nat} {S : Nat → Bool} {W T k : Nat} {t : List Int} (hc : 1 ≤ c) (hcW : c < W) (hk : k < W * T) : crossB c S W T k t = true ↔ ((k % W != c - 1 || ((ent t k == 1) == S (k / W))) = true ∧ crossB c S W T (k + 1) t = true) := by
  have hyT : k / W < T := Nat.div_lt_of_lt_mul hk
  have e := Nat.div_add_mod k W
  rw [Nat.mul_comm] at e
  rw [crossB_iff, crossB_iff]
  constructor
  · intro h
    refine ⟨?_, fun y hy hk' => h y hy (by omega)⟩
    by_cases hx : k % W = c - 1
    · have := h (k / W) hyT (by omega)
      rw [show k / W * W + c - 1 = k by omega] at this
      rw [this]; simp
    · simp [hx]
  · rintro ⟨h1, h2⟩ y hy hk'
    by_cases e2 : y * W + c - 1 = k
    · have hxy := cell_xy (W := W) (x := c - 1) (y := y) (by omega)
      rw [show y * W + (c - 1) = k by omega] at hxy
      rw [e2]
      rw [hxy.1, hxy.2] at h1
      simpa using h1
    · exact h2 y hy (by omega)

theorem count_if {α : Type} (l : List α) (p q : α → Bool) (g : Bool) (h : ∀ x ∈ l, p x = true ↔ (g = true ∧ q x = true)) : l.countP p = if g then l.countP q else 0 := by
  cases g with
  | true => exact List.countP_congr (fun x hx => by rw [h x hx]; simp)
  | false =>
    rw [if_neg (by simp), List.countP_eq_zero]
    intro x hx hp
    have := (h x hx).1 hp
    simp at this
theorem cnt_cross {c : Nat} {S : Nat → Bool} {W T n : Nat} {bs : List Bool} (hc : 1 ≤ c) (hcW : c < W) (hn : n = W * T) (hb : bs.length = n) : ∀ (rem k : Nat) (zs : List Int), k + rem = n → zs.length = n → laysAll W T bs zs n = true → (∀ i, k ≤ i → ent zs i ≠ 1) → (allT W T bs rem k zs).countP (crossB c S W T k) = cntX c S W T rem k (avL bs zs)
  | 0, k, zs, hk, _, _, _ => by
    rw [allT, cntX]
    have : crossB c S W T k zs = true := crossB_iff.2 fun y hy hh => by
      exfalso
      have := acr_index (W := W) (T := T) (x := c) (y := y) hc hcW hy
      omega
    simp [this]
  | rem + 1, k, zs, hk, hl, hla, h1 => by
    have hkn : k < n := by omega
    have hon : on (avL bs zs) k = open' bs zs k := on_avL k
    rw [allT, cntX, hon]
    cases ho : open' bs zs k with
    | false =>
      rw [if_neg (by simp), if_neg (by simp)]
      rw [count_if _ _ (crossB c S W T (k + 1)) (k % W != c - 1 || !S (k / W)) (fun t ht => by
        rw [crossB_step hc hcW (by omega)]
        have hne : (ent t k == 1) = false := by
          rw [beq_eq_false_iff_ne]
          by_cases h0 : ent zs k = 0
          · have hoff : on bs k = false := by
              rw [open', h0] at ho; simpa using ho
            rcases laysOne_iff.1 (laysAll_one hkn (allT_lays (by omega) hn hb rem (k + 1) zs hl hla t ht)) with h | ⟨j, _, h2, _, _⟩
            · omega
            · rw [hoff] at h2; cases h2
          · rw [(allT_ext rem (k + 1) zs (by omega) t ht).2 k h0]; exact h1 k (Nat.le_refl _)
        rw [hne]
        cases S (k / W) <;> simp)]
      rw [cnt_cross hc hcW hn hb rem (k + 1) zs (by omega) hl hla (fun i hi => h1 i (by omega))]
    | true =>
      rw [if_pos rfl, if_pos rfl, List.countP_append]
      have key : ∀ (way : Int) (g : Bool), way = 1 ∨ way = 2 → (k % W != c - 1 || ((way == 1) == S (k / W))) = g → (if freeK W T bs zs k way then allT W T bs rem (k + 1) (layL W T zs k way) else []).countP (crossB c S W T k) = if to W T (avL bs zs) k way && g then cntX c S W T rem (k + 1) (less2 (avL bs zs) k (stepF W T k way).toNat) else 0 := by
        intro way g hway hg
        rw [← freeK_to ho]
        cases hf : freeK W T bs zs k way with
        | false => simp
        | true =>
          obtain ⟨j, hs, e1, e2, e3, e4, e5, e6⟩ := freeK_j hf
          have hjn := on_lt e2
          have hjk : j ≠ k := (step_back (W := W) (T := T) (by omega) (by omega) hs).2.1
          have hbb := backF_bd way
          have hE : ∀ i, ent (layL W T zs k way) i = if i = j then backF way else if i = k then way else ent zs i := fun i => ent_layL (by omega) hs (by omega)
          rw [if_pos rfl, Bool.true_and]
          rw [count_if _ _ (crossB c S W T (k + 1)) g (fun t ht => by
            rw [crossB_step hc hcW (by omega)]
            have hw : ent t k = way := by
              have := (allT_ext rem (k + 1) _ (by rw [layL_len]; omega) t ht).2 k (by rw [hE, if_neg (fun e => hjk e.symm), if_pos rfl]; omega)
              rw [this, hE, if_neg (fun e => hjk e.symm), if_pos rfl]
            rw [hw, hg])]
          rw [cnt_cross hc hcW hn hb rem (k + 1) (layL W T zs k way) (by omega) (by rw [layL_len]; exact hl) (lays_lay (by omega) hn hb hl hla hf) (fun i hi => by
            rw [hE]
            by_cases q1 : i = j
            · rw [if_pos q1]
              rcases hway with rfl | rfl
              · decide
              · decide
            · rw [if_neg q1, if_neg (by omega)]; exact h1 i (by omega))]
          congr 1
          refine cntX_congr rem (k + 1) _ _ (fun i _ => ?_)
          rw [on_avL, on_less2, on_avL, hE, hs, Int.toNat_natCast]
          by_cases q1 : i = j
          · subst q1
            rw [if_pos rfl, show (backF way == 0) = false by rw [beq_eq_false_iff_ne]; omega]
            simp
          · rw [if_neg q1]
            by_cases q2 : i = k
            · subst q2
              rw [if_pos rfl, show (way == 0) = false by rw [beq_eq_false_iff_ne]; omega]
              simp
            · rw [if_neg q2]; simp [q1, q2]
      rw [key 1 _ (.inl rfl) rfl, key 2 _ (.inr rfl) rfl]
      have g1 : (k % W != c - 1 || (((1 : Int) == 1) == S (k / W))) = (k % W != c - 1 || S (k / W)) := by cases S (k / W) <;> simp
      have g2 : (k % W != c - 1 || (((2 : Int) == 1) == S (k / W))) = (k % W != c - 1 || !S (k / W)) := by cases S (k / W) <;> simp
      rw [g1, g2]

/-! the set as a number -/
theorem acr_bits (W : Nat) (t : List Int) (c : Nat) : ∀ (T s : Nat), s < 2 ^ T → (acrN W t c T = s ↔ ∀ y, y < T → (ent t (y * W + c - 1) == 1) = s.testBit y)
  | 0, s, h => by
    have : s = 0 := by simpa using h
    subst this
    rw [acrN]
    exact ⟨fun _ y hy => by omega, fun _ => rfl⟩
  | T + 1, s, h => by
    have hm : s % 2 ^ T < 2 ^ T := Nat.mod_lt _ (Nat.pow_pos (by omega))
    have ih := acr_bits W t c T (s % 2 ^ T) hm
    have hlt := acrN_lt W t c T
    have hdm := Nat.div_add_mod s (2 ^ T)
    have hq : s / 2 ^ T < 2 := by
      rw [Nat.pow_succ] at h
      exact Nat.div_lt_of_lt_mul h
    have hbit : s.testBit T = decide (s / 2 ^ T % 2 = 1) := Nat.testBit_eq_decide_div_mod_eq
    have hlow : ∀ y, y < T → (s % 2 ^ T).testBit y = s.testBit y := fun y hy => by rw [Nat.testBit_mod_two_pow, decide_eq_true hy, Bool.true_and]
    generalize s / 2 ^ T = q at hdm hq hbit
    rw [acrN]
    constructor
    · intro he y hy
      have hsplit : acrN W t c T = s % 2 ^ T ∧ (if (ent t (T * W + c - 1) == 1) = true then 1 else 0) = q := by
        by_cases hb : (ent t (T * W + c - 1) == 1) = true
        · rw [if_pos hb] at he ⊢
          have : q = 1 := by
            rcases (show q = 0 ∨ q = 1 by omega) with h0 | h0
            · rw [h0, Nat.mul_zero] at hdm; omega
            · exact h0
          rw [this, Nat.mul_one] at hdm
          omega
        · rw [if_neg hb] at he ⊢
          have : q = 0 := by
            rcases (show q = 0 ∨ q = 1 by omega) with h0 | h0
            · exact h0
            · rw [h0, Nat.mul_one] at hdm; omega
          rw [this, Nat.mul_zero] at hdm
          omega
      by_cases hyT : y = T
      · subst hyT
        rw [hbit]
        have h2 := hsplit.2
        cases hb : (ent t (y * W + c - 1) == 1)
        · rw [hb] at h2; simp at h2; rw [← h2]; rfl
        · rw [hb] at h2; simp at h2; rw [← h2]; rfl
      · rw [← hlow y (by omega)]
        exact ih.1 hsplit.1 y (by omega)
    · intro hall
      have h1 := ih.2 (fun y hy => by rw [hlow y hy]; exact hall y (by omega))
      have h2 := hall T (by omega)
      rw [hbit] at h2
      rw [h1]
      rcases (show q = 0 ∨ q = 1 by omega) with h0 | h0
      · rw [h0] at h2 hdm
        rw [if_neg (by rw [h2]; decide)]
        omega
      · rw [h0] at h2 hdm
        rw [if_pos (by rw [h2]; decide)]
        omega

end Til
open Til (cntA cntX wsL eaL Req tilings)
/-- In how many tilings a set of rows lies across the line. -/
def acrM (W T n : Nat) (bs : List Bool) (c s : Nat) : Nat := (bare W T n bs).countP (fun t => acrN W t c T == s)
theorem acrM_cntX {W T n : Nat} {bs : List Bool} (V : Valid W T n bs) {c s : Nat} (hc : 1 ≤ c) (hcW : c < W) (hs : s < 2 ^ T) : acrM W T n bs c s = cntX c s.testBit W T n 0 bs := by
  have h := Til.cnt_cross (c := c) (S := s.testBit) (W := W) (T := T) (n := n) (bs := bs) hc hcW V.size V.len n 0 (List.replicate n 0) (by omega) (by simp)
    (Til.laysAll_of n (fun i hi => Til.laysOne_iff.2 (.inl (by rw [ent, List.getElem?_replicate, if_pos hi]; rfl)))) (fun i _ => by unfold ent; rw [List.getElem?_replicate]; split <;> simp)
  have e : Til.cntX c s.testBit W T n 0 (Til.avL bs (List.replicate n 0)) = cntX c s.testBit W T n 0 bs := by
    refine Til.cntX_congr n 0 _ _ (fun i _ => ?_)
    rw [Til.on_avL]
    have : ent (List.replicate n 0) i = 0 := by unfold ent; rw [List.getElem?_replicate]; split <;> rfl
    rw [this]; simp
  rw [← e, ← h, acrM]
  refine List.countP_congr (fun t _ => ?_)
  rw [beq_iff_eq, Til.acr_bits W t c T s hs, Til.crossB_iff]
  exact ⟨fun h y hy _ => h y hy, fun h y hy => h y hy (Nat.zero_le _)⟩
theorem acrM_law {W T n : Nat} {bs : List Bool} (V : Valid W T n bs) {c s : Nat} (hc : 1 ≤ c) (hcW : c < W) (hs : s < 2 ^ T) :
    (Req c s.testBit W T 0 bs → acrM W T n bs c s = cntA W T n 0 (wsL c s.testBit W bs) * cntA W T n 0 (eaL c s.testBit W bs)) ∧ (¬ Req c s.testBit W T 0 bs → acrM W T n bs c s = 0) := by
  rw [acrM_cntX V hc hcW hs]
  have := Til.cntX_law (c := c) (W := W) (T := T) (S := s.testBit) hc hcW n 0 bs (by have := V.size; omega) (fun y _ _ h => by omega)
  exact this
/-- The sum over the first sets. -/
def acrS (W T n : Nat) (bs : List Bool) (c : Nat) : Nat → Nat
  | 0 => 0
  | s + 1 => acrS W T n bs c s + acrM W T n bs c s
theorem acrS_count (W T n : Nat) (bs : List Bool) (c : Nat) : ∀ N, acrS W T n bs c N = (bare W T n bs).countP (fun t => decide (acrN W t c T < N))
  | 0 => by
    rw [acrS]
    symm
    rw [List.countP_eq_zero]
    intro t _; simp
  | N + 1 => by
    rw [acrS, acrS_count W T n bs c N, acrM]
    induction bare W T n bs with
    | nil => rfl
    | cons a l ih =>
      rw [List.countP_cons, List.countP_cons, List.countP_cons, ← ih]
      by_cases h1 : acrN W a c T < N
      · have h2 : ¬ (acrN W a c T == N) = true := by rw [beq_iff_eq]; omega
        have h3 : acrN W a c T < N + 1 := by omega
        rw [if_neg h2, if_pos (decide_eq_true h1), if_pos (decide_eq_true h3)]; omega
      · by_cases h2 : acrN W a c T = N
        · rw [if_neg (by simp [h1]), if_pos (by rw [h2]; simp), if_pos (by simp; omega)]; omega
        · rw [if_neg (by simp [h1]), if_neg (by rw [beq_iff_eq]; exact h2), if_neg (by simp; omega)]; omega
theorem acrS_total {W T n : Nat} {bs : List Bool} (V : Valid W T n bs) (c : Nat) : acrS W T n bs c (2 ^ T) = cntA W T n 0 bs := by
  rw [acrS_count, ← bare_len V, List.countP_eq_length]
  intro t _
  exact decide_eq_true (acrN_lt W t c T)
theorem acrM_le {W T n : Nat} {bs : List Bool} (V : Valid W T n bs) (c s : Nat) : acrM W T n bs c s ≤ 68719476736 := Nat.le_trans List.countP_le_length (bare_le V)
theorem acrS_le {W T n : Nat} {bs : List Bool} (V : Valid W T n bs) (c N : Nat) : acrS W T n bs c N ≤ 68719476736 := by rw [acrS_count]; exact Nat.le_trans List.countP_le_length (bare_le V)

end Go.Proofs.Ytcnkpcnbobiodaa
