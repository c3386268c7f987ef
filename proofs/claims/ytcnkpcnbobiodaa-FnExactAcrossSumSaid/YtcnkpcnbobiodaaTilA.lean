/-
  All tilings, the plain law: the list of them, in order; how many there are. No program in sight.
-/
import Derived.Test.YtcnkpcnbobiodaaKeyP
import Derived.Test.YtcnkpcnbobiodaaLay
import Derived.Test.YtcnkpcnbobiodaaStepBack
namespace Go.Proofs.Ytcnkpcnbobiodaa
namespace Til

/-- Is a cell of the region without a domino? -/
def open' (bs : List Bool) (zs : List Int) (k : Nat) : Bool := on bs k && ent zs k == 0
/-- All tilings that have the dominoes of a list, in order; cells below k are done, rem are left. -/
def allT (W T : Nat) (bs : List Bool) : Nat → Nat → List Int → List (List Int)
  | 0, _, zs => [zs]
  | rem + 1, k, zs =>
    if open' bs zs k then
      (if freeK W T bs zs k 1 then allT W T bs rem (k + 1) (layL W T zs k 1) else []) ++
      (if freeK W T bs zs k 2 then allT W T bs rem (k + 1) (layL W T zs k 2) else [])
    else allT W T bs rem (k + 1) zs

theorem ent_set {zs : List Int} {k i : Nat} {v : Int} (hk : k < zs.length) : ent (zs.set k v) i = if i = k then v else ent zs i := by
  unfold ent
  rw [List.getElem?_set]
  by_cases h : k = i
  · subst h; simp [hk]
  · rw [if_neg h, if_neg (fun h' => h h'.symm)]
theorem layL_len (W T : Nat) (zs : List Int) (k : Nat) (way : Int) : (layL W T zs k way).length = zs.length := by simp [layL]
theorem ent_layL {W T k i j : Nat} {zs : List Int} {way : Int} (hk : k < zs.length) (hs : stepF W T k way = (j : Int)) (hj : j < zs.length) :
    ent (layL W T zs k way) i = if i = j then backF way else if i = k then way else ent zs i := by
  rw [layL, hs, Int.toNat_natCast, ent_set (by simpa using hj), ent_set hk]
theorem on_len {bs : List Bool} {k : Nat} (h : on bs k = true) : k < bs.length := on_lt h
theorem freeK_j {W T k : Nat} {bs : List Bool} {zs : List Int} {way : Int} (h : freeK W T bs zs k way = true) :
    ∃ j : Nat, stepF W T k way = (j : Int) ∧ on bs k = true ∧ on bs j = true ∧ ent zs k = 0 ∧ ent zs j = 0 ∧ 1 ≤ way ∧ way ≤ 4 := by
  rw [freeK, Bool.and_eq_true, Bool.and_eq_true, Bool.and_eq_true, Bool.and_eq_true, decide_eq_true_eq] at h
  obtain ⟨h0, h1, h2, h3, h4⟩ := h
  obtain ⟨j, hj⟩ := Int.eq_ofNat_of_zero_le h0
  rw [hj, Int.toNat_natCast] at h2 h4
  have hw := step_way h0
  exact ⟨j, hj, h1, h2, by simpa using h3, by simpa using h4, hw.1, hw.2⟩
theorem freeK_to {W T k : Nat} {bs : List Bool} {zs : List Int} {way : Int} (h : open' bs zs k = true) : freeK W T bs zs k way = to W T (avL bs zs) k way := by
  rw [open', Bool.and_eq_true] at h
  rw [freeK, to, onR_on, onR_on, h.1, h.2, on_avL, Bool.true_and, Bool.true_and]

theorem avL_layL {W T rem p k j : Nat} {bs : List Bool} {zs : List Int} {way : Int} (_hl : zs.length = bs.length) (hk : k < zs.length) (hs : stepF W T k way = (j : Int)) (hj : j < zs.length) (h1 : 1 ≤ way) :
    cntA W T rem p (avL bs (layL W T zs k way)) = cntA W T rem p (less2 (avL bs zs) k (stepF W T k way).toNat) := by
  refine cntA_eq fun i _ => ?_
  have hb := backF_bd way
  rw [on_avL, on_less2, on_avL, ent_layL hk hs hj, hs, Int.toNat_natCast]
  by_cases e : i = j
  · subst e
    rw [if_pos rfl, show (backF way == 0) = false by rw [beq_eq_false_iff_ne]; omega]
    simp
  · rw [if_neg e]
    by_cases e2 : i = k
    · subst e2
      rw [if_pos rfl, show (way == 0) = false by rw [beq_eq_false_iff_ne]; omega]
      simp
    · rw [if_neg e2]; simp [e, e2]

theorem allT_len {W T : Nat} {bs : List Bool} : ∀ (rem k : Nat) (zs : List Int), zs.length = bs.length → (allT W T bs rem k zs).length = cntA W T rem k (avL bs zs)
  | 0, _, _, _ => rfl
  | rem + 1, k, zs, hl => by
    have hon : on (avL bs zs) k = open' bs zs k := on_avL k
    rw [allT, cntA, hon]
    cases ho : open' bs zs k with
    | false =>
      rw [if_neg (by simp), if_neg (by simp)]
      exact allT_len rem (k + 1) zs hl
    | true =>
      rw [if_pos rfl, if_pos rfl, List.length_append, freeK_to ho, freeK_to ho]
      have key : ∀ way : Int, to W T (avL bs zs) k way = true → (allT W T bs rem (k + 1) (layL W T zs k way)).length = cntA W T rem (k + 1) (less2 (avL bs zs) k (stepF W T k way).toNat) := by
        intro way ht
        have hf : freeK W T bs zs k way = true := by rw [freeK_to ho]; exact ht
        obtain ⟨j, hs, h1, h2, h3, h4, h5, h6⟩ := freeK_j hf
        rw [allT_len rem (k + 1) _ (by rw [layL_len]; exact hl)]
        exact avL_layL hl (by rw [hl]; exact on_lt h1) hs (by rw [hl]; exact on_lt h2) h5
      congr 1
      · cases ht : to W T (avL bs zs) k 1
        · rfl
        · rw [if_pos rfl, if_pos rfl]; exact key 1 ht
      · cases ht : to W T (avL bs zs) k 2
        · rfl
        · rw [if_pos rfl, if_pos rfl]; exact key 2 ht

theorem allT_skips {W T : Nat} {bs : List Bool} {zs : List Int} : ∀ (d k rem : Nat), (∀ i, k ≤ i → i < k + d → open' bs zs i = false) → allT W T bs (rem + d) k zs = allT W T bs rem (k + d) zs
  | 0, _, _, _ => rfl
  | d + 1, k, rem, h => by
    rw [show rem + (d + 1) = (rem + d) + 1 from rfl, allT, h k (Nat.le_refl _) (by omega), if_neg (by simp), allT_skips d (k + 1) rem (fun i h1 h2 => h i (by omega) (by omega))]
    congr 1; omega
/-- All of them. -/
def tilings (W T n : Nat) (bs : List Bool) (zs : List Int) : List (List Int) := allT W T bs n 0 zs
/-- Cells below k are done. -/
def Done (bs : List Bool) (zs : List Int) (k : Nat) : Prop := ∀ i, i < k → open' bs zs i = false
theorem tilings_at {W T n k : Nat} {bs : List Bool} {zs : List Int} (h : Done bs zs k) (hk : k ≤ n) : tilings W T n bs zs = allT W T bs (n - k) k zs := by
  have := allT_skips (W := W) (T := T) (bs := bs) (zs := zs) k 0 (n - k) (fun i _ h2 => h i (by omega))
  rw [show n - k + k = n by omega, Nat.zero_add] at this
  exact this
theorem tilings_none {W T n : Nat} {bs : List Bool} {zs : List Int} (h : Done bs zs n) : tilings W T n bs zs = [zs] := by
  rw [tilings_at h (Nat.le_refl _), Nat.sub_self]; rfl
theorem Done.lay {W T k j : Nat} {bs : List Bool} {zs : List Int} {way : Int} (h : Done bs zs k) (_hl : zs.length = bs.length) (hk : k < zs.length) (hs : stepF W T k way = (j : Int)) (hj : j < zs.length) (h1 : 1 ≤ way) : Done bs (layL W T zs k way) (k + 1) := by
  intro i hi
  have hb := backF_bd way
  rw [open', ent_layL hk hs hj]
  by_cases e : i = j
  · rw [if_pos e, show (backF way == 0) = false by rw [beq_eq_false_iff_ne]; omega, Bool.and_false]
  · rw [if_neg e]
    by_cases e2 : i = k
    · rw [if_pos e2, show (way == 0) = false by rw [beq_eq_false_iff_ne]; omega, Bool.and_false]
    · rw [if_neg e2]; exact h i (by omega)
/-- One way of the first open cell. -/
def oneT (W T n : Nat) (bs : List Bool) (zs : List Int) (k : Nat) (way : Int) : List (List Int) := if freeK W T bs zs k way then tilings W T n bs (layL W T zs k way) else []
theorem tilings_first {W T n k : Nat} {bs : List Bool} {zs : List Int} (hn : bs.length = n) (hl : zs.length = n) (hk : k < n) (h : Done bs zs k) (ho : open' bs zs k = true) : tilings W T n bs zs = oneT W T n bs zs k 1 ++ oneT W T n bs zs k 2 := by
  rw [tilings_at h (by omega), show n - k = (n - (k + 1)) + 1 by omega, allT, if_pos ho, oneT, oneT]
  have key : ∀ way : Int, freeK W T bs zs k way = true → allT W T bs (n - (k + 1)) (k + 1) (layL W T zs k way) = tilings W T n bs (layL W T zs k way) := by
    intro way hf
    obtain ⟨j, hs, h1, h2, h3, h4, h5, h6⟩ := freeK_j hf
    have := on_lt h2
    exact (tilings_at (h.lay (by omega) (by omega) hs (by omega) h5) (by omega)).symm
  congr 1
  · cases ht : freeK W T bs zs k 1
    · rfl
    · rw [if_pos rfl, if_pos rfl]; exact key 1 ht
  · cases ht : freeK W T bs zs k 2
    · rfl
    · rw [if_pos rfl, if_pos rfl]; exact key 2 ht
theorem tilings_len {W T n : Nat} {bs : List Bool} {zs : List Int} (hn : bs.length = n) (hl : zs.length = n) : (tilings W T n bs zs).length = cntA W T n 0 (avL bs zs) := allT_len n 0 zs (by omega)

/-! what every one of them is -/
def Ext (zs t : List Int) : Prop := t.length = zs.length ∧ ∀ i, ent zs i ≠ 0 → ent t i = ent zs i
theorem Ext.refl (zs : List Int) : Ext zs zs := ⟨rfl, fun _ _ => rfl⟩
theorem Ext.trans {a b c : List Int} (h : Ext a b) (k : Ext b c) : Ext a c := ⟨k.1.trans h.1, fun i hi => by rw [k.2 i (by rw [h.2 i hi]; exact hi), h.2 i hi]⟩
theorem Ext.lay {W T k : Nat} {bs : List Bool} {zs : List Int} {way : Int} (hl : zs.length = bs.length) (hf : freeK W T bs zs k way = true) : Ext zs (layL W T zs k way) := by
  obtain ⟨j, hs, h1, h2, h3, h4, h5, h6⟩ := freeK_j hf
  refine ⟨layL_len _ _ _ _ _, fun i hi => ?_⟩
  rw [ent_layL (by rw [hl]; exact on_lt h1) hs (by rw [hl]; exact on_lt h2)]
  by_cases e : i = j
  · subst e; exact absurd h4 hi
  · rw [if_neg e]
    by_cases e2 : i = k
    · subst e2; exact absurd h3 hi
    · rw [if_neg e2]
theorem allT_ext {W T : Nat} {bs : List Bool} : ∀ (rem k : Nat) (zs : List Int), zs.length = bs.length → ∀ t ∈ allT W T bs rem k zs, Ext zs t
  | 0, _, zs, _, t, h => by rw [allT, List.mem_singleton] at h; subst h; exact Ext.refl _
  | rem + 1, k, zs, hl, t, h => by
    rw [allT] at h
    split at h
    · rw [List.mem_append] at h
      have key : ∀ way : Int, t ∈ (if freeK W T bs zs k way then allT W T bs rem (k + 1) (layL W T zs k way) else []) → Ext zs t := by
        intro way hm
        cases hf : freeK W T bs zs k way with
        | false => rw [hf] at hm; cases hm
        | true =>
          rw [hf, if_pos rfl] at hm
          exact (Ext.lay hl hf).trans (allT_ext rem (k + 1) _ (by rw [layL_len]; exact hl) t hm)
      rcases h with h | h
      · exact key 1 h
      · exact key 2 h
    · exact allT_ext rem (k + 1) zs hl t h
theorem tilings_ext {W T n : Nat} {bs : List Bool} {zs : List Int} (hl : zs.length = bs.length) : ∀ t ∈ tilings W T n bs zs, Ext zs t := allT_ext n 0 zs hl
theorem tilings_mem_len {W T n : Nat} {bs : List Bool} {zs : List Int} (hl : zs.length = bs.length) {t : List Int} (ht : t ∈ tilings W T n bs zs) : t.length = bs.length := (tilings_ext hl t ht).1.trans hl

theorem laysAll_of {W T : Nat} {bs : List Bool} {zs : List Int} : ∀ n, (∀ i, i < n → laysOne W T bs zs i = true) → laysAll W T bs zs n = true
  | 0, _ => rfl
  | n + 1, h => by rw [laysAll, laysAll_of n (fun i hi => h i (by omega)), h n (by omega)]; rfl
theorem laysOne_iff {W T k : Nat} {bs : List Bool} {zs : List Int} : laysOne W T bs zs k = true ↔ ent zs k = 0 ∨ ∃ j : Nat, stepF W T k (ent zs k) = (j : Int) ∧ on bs k = true ∧ on bs j = true ∧ ent zs j = backF (ent zs k) := by
  rw [laysOne, Bool.or_eq_true, beq_iff_eq, Bool.and_eq_true, Bool.and_eq_true, Bool.and_eq_true, decide_eq_true_eq, beq_iff_eq]
  constructor
  · rintro (h | ⟨h0, h1, h2, h3⟩)
    · exact .inl h
    · obtain ⟨j, hj⟩ := Int.eq_ofNat_of_zero_le h0
      rw [hj, Int.toNat_natCast] at h2 h3
      exact .inr ⟨j, hj, h1, h2, h3⟩
  · rintro (h | ⟨j, h0, h1, h2, h3⟩)
    · exact .inl h
    · refine .inr ⟨by omega, h1, ?_, ?_⟩
      · rw [h0, Int.toNat_natCast]; exact h2
      · rw [h0, Int.toNat_natCast]; exact h3
theorem back_back {z : Int} (h1 : 1 ≤ z) (h4 : z ≤ 4) : backF (backF z) = z := by unfold backF; omega
/-- A further domino on a list that lays dominoes. -/
theorem lays_lay {W T n k : Nat} {bs : List Bool} {zs : List Int} {way : Int} (hW : 1 ≤ W) (hn : n = W * T) (hb : bs.length = n) (hl : zs.length = n) (h : laysAll W T bs zs n = true) (hf : freeK W T bs zs k way = true) : laysAll W T bs (layL W T zs k way) n = true := by
  obtain ⟨j, hs, h1, h2, h3, h4, h5, h6⟩ := freeK_j hf
  have hk : k < n := by have := on_lt h1; omega
  have hj : j < n := by have := on_lt h2; omega
  obtain ⟨s1, s2, -⟩ := step_back hW (by omega) hs
  have hbb := backF_bd way
  have E : ∀ i, ent (layL W T zs k way) i = if i = j then backF way else if i = k then way else ent zs i := fun i => ent_layL (by omega) hs (by omega)
  refine laysAll_of n (fun i hi => laysOne_iff.2 ?_)
  by_cases e1 : i = j
  · subst e1
    refine .inr ⟨k, ?_, h2, h1, ?_⟩
    · rw [E, if_pos rfl]; exact s1
    · rw [E, if_neg (fun e => s2 e.symm), if_pos rfl, E, if_pos rfl, back_back h5 h6]
  · by_cases e2 : i = k
    · subst e2
      refine .inr ⟨j, ?_, h1, h2, ?_⟩
      · rw [E, if_neg e1, if_pos rfl]; exact hs
      · rw [E, if_pos rfl, E, if_neg e1, if_pos rfl]
    · have hi' : ent (layL W T zs k way) i = ent zs i := by rw [E, if_neg e1, if_neg e2]
      rw [hi']
      rcases laysOne_iff.1 (laysAll_one hi h) with h0 | ⟨t, t0, t1, t2, t3⟩
      · exact .inl h0
      · refine .inr ⟨t, t0, t1, t2, ?_⟩
        have hb2 := backF_bd (ent zs i)
        have n1 : t ≠ j := by rintro rfl; rw [h4] at t3; omega
        have n2 : t ≠ k := by rintro rfl; rw [h3] at t3; omega
        rw [E, if_neg n1, if_neg n2]; exact t3
theorem allT_lays {W T n : Nat} {bs : List Bool} (hW : 1 ≤ W) (hn : n = W * T) (hb : bs.length = n) : ∀ (rem k : Nat) (zs : List Int), zs.length = n → laysAll W T bs zs n = true → ∀ t ∈ allT W T bs rem k zs, laysAll W T bs t n = true
  | 0, _, zs, _, h, t, ht => by rw [allT, List.mem_singleton] at ht; subst ht; exact h
  | rem + 1, k, zs, hl, h, t, ht => by
    rw [allT] at ht
    split at ht
    · rw [List.mem_append] at ht
      have key : ∀ way : Int, t ∈ (if freeK W T bs zs k way then allT W T bs rem (k + 1) (layL W T zs k way) else []) → laysAll W T bs t n = true := by
        intro way hm
        cases hf : freeK W T bs zs k way with
        | false => rw [hf] at hm; cases hm
        | true =>
          rw [hf, if_pos rfl] at hm
          exact allT_lays hW hn hb rem (k + 1) _ (by rw [layL_len]; exact hl) (lays_lay hW hn hb hl h hf) t hm
      rcases ht with ht | ht
      · exact key 1 ht
      · exact key 2 ht
    · exact allT_lays hW hn hb rem (k + 1) zs hl h t ht

end Til
end Go.Proofs.Ytcnkpcnbobiodaa
