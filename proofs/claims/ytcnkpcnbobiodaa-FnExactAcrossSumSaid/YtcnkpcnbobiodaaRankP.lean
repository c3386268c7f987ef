/-
  A tiling's place in the list of all: the plain law.
-/
import Derived.Test.YtcnkpcnbobiodaaTilA
import Derived.Test.YtcnkpcnbobiodaaTilOk
namespace Go.Proofs.Ytcnkpcnbobiodaa
namespace Til

theorem step_up {W T k j : Nat} {way : Int} (h : stepF W T k way = (j : Int)) (hkj : k < j) : way = 1 ∨ way = 2 := by
  have hw := step_way (W := W) (T := T) (k := k) (way := way) (by omega)
  rcases (show way = 1 ∨ way = 2 ∨ way = 3 ∨ way = 4 by omega) with rfl | rfl | rfl | rfl
  · exact .inl rfl
  · exact .inr rfl
  · exfalso; unfold stepF at h; simp at h; split at h <;> omega
  · exfalso; unfold stepF at h; simp at h; split at h <;> omega

theorem ent_inj {a b : List Int} {n : Nat} (ha : a.length = n) (hb : b.length = n) (h : ∀ i, i < n → ent a i = ent b i) : a = b := by
  refine List.ext_getElem (by omega) (fun i h1 h2 => ?_)
  have := h i (by omega)
  unfold ent at this
  rw [List.getElem?_eq_getElem h1, List.getElem?_eq_getElem h2] at this
  simpa using this
theorem full_one {bs : List Bool} {zs : List Int} {n k : Nat} (h : fullAll bs zs n = true) (hk : k < n) (hon : on bs k = true) : ent zs k ≠ 0 := by
  cases hf : fullOne bs zs k with
  | false => rw [fullAll_no hk hf] at h; cases h
  | true =>
    intro e
    rw [fullOne, onR_on, hon, e] at hf
    cases hf

/-- A tiling with all dominoes of a list is one of them. -/
theorem allT_mem {W T n : Nat} {bs : List Bool} {t : List Int} (hW : 1 ≤ W) (hn : n = W * T) (hb : bs.length = n) (ht : t.length = n) (hla : laysAll W T bs t n = true) (hfu : fullAll bs t n = true) :
    ∀ (rem k : Nat) (zs : List Int), k + rem = n → zs.length = n → laysAll W T bs zs n = true → Ext zs t → Done bs zs k → t ∈ allT W T bs rem k zs
  | 0, k, zs, hk, hl, hlz, he, hd => by
    rw [allT, List.mem_singleton]
    refine ent_inj ht hl (fun i hi => ?_)
    by_cases h0 : ent zs i = 0
    · rw [h0]
      rcases laysOne_iff.1 (laysAll_one hi hla) with h | ⟨j, _, h1, _, _⟩
      · exact h
      · have := hd i (by omega)
        rw [open', h1, h0] at this
        cases this
    · exact he.2 i h0
  | rem + 1, k, zs, hk, hl, hlz, he, hd => by
    rw [allT]
    have hkn : k < n := by omega
    cases ho : open' bs zs k with
    | false =>
      rw [if_neg (by simp)]
      refine allT_mem hW hn hb ht hla hfu rem (k + 1) zs (by omega) hl hlz he (fun i hi => ?_)
      by_cases e : i = k
      · subst e; exact ho
      · exact hd i (by omega)
    | true =>
      rw [if_pos rfl]
      have ho' := ho
      rw [open', Bool.and_eq_true, beq_iff_eq] at ho'
      obtain ⟨honk, hek⟩ := ho'
      have hnz := full_one hfu hkn honk
      rcases laysOne_iff.1 (laysAll_one hkn hla) with h | ⟨j, hj, h1, h2, h3⟩
      · exact absurd h hnz
      · obtain ⟨s1, s2, s3⟩ := step_back hW (by omega) hj
        have hjn : j < n := by omega
        have hwy := step_way (W := W) (T := T) (k := k) (way := ent t k) (by omega)
        have hej : ent zs j = 0 := by
          rcases Decidable.em (ent zs j = 0) with h | h
          · exact h
          · exfalso
            have e1 : ent zs j = backF (ent t k) := by rw [← he.2 j h]; exact h3
            rcases laysOne_iff.1 (laysAll_one hjn hlz) with h4 | ⟨i, hi, _, _, hi4⟩
            · exact h h4
            · rw [e1, s1] at hi
              have : i = k := by omega
              subst this
              rw [e1, back_back hwy.1 hwy.2] at hi4
              exact hnz (by rw [← hi4]; exact hek)
        have hkj : k < j := by
          rcases Nat.lt_trichotomy k j with h | h | h
          · exact h
          · exact absurd h.symm s2
          · exfalso
            have := hd j h
            rw [open', h2, hej] at this
            cases this
        have hway := step_up hj hkj
        have hf : freeK W T bs zs k (ent t k) = true := by
          rw [freeK_to ho, to, Bool.and_eq_true, decide_eq_true_eq]
          refine ⟨by omega, ?_⟩
          rw [hj, Int.toNat_natCast, on_avL, h2, hej]; rfl
        have hm : t ∈ allT W T bs rem (k + 1) (layL W T zs k (ent t k)) := by
          refine allT_mem hW hn hb ht hla hfu rem (k + 1) _ (by omega) (by rw [layL_len]; exact hl) (lays_lay hW hn hb hl hlz hf) ⟨by rw [layL_len]; omega, fun i hi => ?_⟩ (hd.lay (by omega) (by omega) hj (by omega) hwy.1)
          rw [ent_layL (by omega) hj (by omega)] at hi ⊢
          by_cases e : i = j
          · subst e; rw [if_pos rfl]; exact h3
          · rw [if_neg e] at hi ⊢
            by_cases e2 : i = k
            · subst e2; rw [if_pos rfl]
            · rw [if_neg e2] at hi ⊢; exact he.2 i hi
        rw [List.mem_append]
        rcases hway with e | e
        · left; rw [← e, if_pos hf]; exact hm
        · right; rw [← e, if_pos hf]; exact hm
theorem tilings_mem {W T n : Nat} {bs : List Bool} {t zs : List Int} (hW : 1 ≤ W) (hn : n = W * T) (hb : bs.length = n) (ht : t.length = n) (hla : laysAll W T bs t n = true) (hfu : fullAll bs t n = true) (hl : zs.length = n) (hlz : laysAll W T bs zs n = true) (he : Ext zs t) : t ∈ tilings W T n bs zs :=
  allT_mem hW hn hb ht hla hfu n 0 zs (by omega) hl hlz he (fun i hi => by omega)

/-- The place of a list in a list of lists. -/
def pos (t : List Int) : List (List Int) → Nat
  | [] => 0
  | a :: M => if a = t then 0 else pos t M + 1
theorem pos_in {t : List Int} {M N : List (List Int)} (h : t ∈ M) : pos t (M ++ N) = pos t M := by
  induction M with
  | nil => cases h
  | cons a M ih =>
    rw [List.cons_append, pos, pos]
    by_cases e : a = t
    · rw [if_pos e, if_pos e]
    · rw [if_neg e, if_neg e, ih ((List.mem_cons.1 h).resolve_left (fun h => e h.symm))]
theorem pos_out {t : List Int} {M N : List (List Int)} (h : t ∉ M) : pos t (M ++ N) = M.length + pos t N := by
  induction M with
  | nil => simp
  | cons a M ih =>
    rw [List.cons_append, pos, if_neg (fun e => h (by rw [e]; simp)), ih (fun hm => h (by simp [hm])), List.length_cons]; omega
theorem pos_lt {t : List Int} {M : List (List Int)} (h : t ∈ M) : pos t M < M.length := by
  induction M with
  | nil => cases h
  | cons a M ih =>
    rw [pos, List.length_cons]
    by_cases e : a = t
    · rw [if_pos e]; omega
    · rw [if_neg e]; have := ih ((List.mem_cons.1 h).resolve_left (fun h => e h.symm)); omega
/-- The first that is equal stands at the place. -/
theorem pos_eq {t : List Int} {M : List (List Int)} {k : Nat} (h : M[k]? = some t) (hb : ∀ i a, i < k → M[i]? = some a → a ≠ t) : pos t M = k := by
  induction M generalizing k with
  | nil => simp at h
  | cons a M ih =>
    cases k with
    | zero => simp at h; rw [pos, if_pos h]
    | succ k => rw [pos, if_neg (hb 0 a (by omega) rfl), ih (by simpa using h) (fun i b hi hb' => hb (i + 1) b (by omega) (by simpa using hb'))]
theorem oneT_ent {W T n k : Nat} {bs : List Bool} {zs t : List Int} {way : Int} (hW : 1 ≤ W) (hn : n = W * T) (hb : bs.length = n) (hl : zs.length = n) (h : t ∈ oneT W T n bs zs k way) : ent t k = way := by
  rw [oneT] at h
  split at h
  · rename_i hf
    obtain ⟨j, hs, h1, h2, h3, h4, h5, h6⟩ := freeK_j hf
    have hk := on_lt h1
    have hj := on_lt h2
    have he := tilings_ext (W := W) (T := T) (n := n) (by rw [layL_len]; omega) t h
    have e : ent (layL W T zs k way) k = way := by
      rw [ent_layL (by omega) hs (by omega)]
      by_cases e : k = j
      · exact absurd e.symm (step_back hW (by omega) hs).2.1
      · rw [if_neg e, if_pos rfl]
    rw [he.2 k (by rw [e]; omega), e]
  · cases h
/-- How the place goes on at the first open cell. -/
theorem pos_step {W T n k : Nat} {bs : List Bool} {zs t : List Int} (hW : 1 ≤ W) (hn : n = W * T) (hb : bs.length = n) (hl : zs.length = n) (hk : k < n) (hlz : laysAll W T bs zs n = true) (hd : Done bs zs k) (ho : open' bs zs k = true)
    (ht : t.length = n) (hla : laysAll W T bs t n = true) (hfu : fullAll bs t n = true) (he : Ext zs t) :
    freeK W T bs zs k (ent t k) = true ∧ Ext (layL W T zs k (ent t k)) t ∧ ((ent t k = 1 ∧ pos t (tilings W T n bs zs) = pos t (tilings W T n bs (layL W T zs k 1))) ∨ (ent t k = 2 ∧ pos t (tilings W T n bs zs) = (oneT W T n bs zs k 1).length + pos t (tilings W T n bs (layL W T zs k 2)))) := by
  have hm := tilings_mem hW hn hb ht hla hfu hl hlz he
  rw [tilings_first hb hl hk hd ho] at hm ⊢
  have key : ∀ way : Int, t ∈ oneT W T n bs zs k way → ent t k = way ∧ freeK W T bs zs k way = true ∧ oneT W T n bs zs k way = tilings W T n bs (layL W T zs k way) ∧ Ext (layL W T zs k way) t := by
    intro way h
    have h1 := oneT_ent hW hn hb hl h
    rw [oneT] at h
    split at h
    · rename_i hf
      exact ⟨h1, hf, by rw [oneT, if_pos hf], tilings_ext (by rw [layL_len]; omega) t h⟩
    · cases h
  by_cases h1 : t ∈ oneT W T n bs zs k 1
  · obtain ⟨e1, e2, e3, e4⟩ := key 1 h1
    rw [e1]
    exact ⟨e2, e4, .inl ⟨rfl, by rw [pos_in h1, e3]⟩⟩
  · have h2 := (List.mem_append.1 hm).resolve_left h1
    obtain ⟨e1, e2, e3, e4⟩ := key 2 h2
    rw [e1]
    exact ⟨e2, e4, .inr ⟨rfl, by rw [pos_out h1, e3]⟩⟩

end Til
end Go.Proofs.Ytcnkpcnbobiodaa
