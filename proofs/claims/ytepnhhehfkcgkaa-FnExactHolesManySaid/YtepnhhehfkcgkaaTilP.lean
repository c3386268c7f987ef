/-
  Tilings, the plain law: counting cell by cell, and counting by sets of covered cells, come to the same. No program in sight.
-/
import Derived.Test.YtepnhhehfkcgkaaStep
namespace Go.Proofs.Ytepnhhehfkcgkaa
namespace Til

/-- Is cell k of a list of cells there? -/
def on (av : List Bool) (k : Nat) : Bool := (av[k]?).getD false
theorem on_set {av : List Bool} {k i : Nat} {b : Bool} (hk : k < av.length) : on (av.set k b) i = if i = k then b else on av i := by
  unfold on
  rw [List.getElem?_set]
  by_cases h : k = i
  · subst h; simp [hk]
  · rw [if_neg h, if_neg (fun h' => h h'.symm)]
theorem on_lt {av : List Bool} {k : Nat} (h : on av k = true) : k < av.length := by
  unfold on at h
  rcases Nat.lt_or_ge k av.length with hlt | hge
  · exact hlt
  · rw [List.getElem?_eq_none hge] at h; cases h

/-- Without two cells. -/
def less2 (av : List Bool) (k t : Nat) : List Bool := (av.set k false).set t false
theorem less2_len (av : List Bool) (k t : Nat) : (less2 av k t).length = av.length := by simp [less2]
theorem on_less2 {av : List Bool} {k t i : Nat} : on (less2 av k t) i = (on av i && decide (i ≠ k) && decide (i ≠ t)) := by
  have h1 : ∀ (l : List Bool) (q : Nat), on (l.set q false) i = (on l i && decide (i ≠ q)) := by
    intro l q
    unfold on
    rw [List.getElem?_set]
    by_cases h : q = i
    · subst h
      simp
      split <;> rfl
    · have h' : i ≠ q := fun e => h e.symm
      rw [if_neg h]; simp [h']
  unfold less2
  rw [h1, h1]

/-- The cell beside a cell in a direction, if there is one and it is free. -/
def to (W T : Nat) (av : List Bool) (k : Nat) (way : Int) : Bool := decide (0 ≤ stepF W T k way) && on av (stepF W T k way).toNat

/-- In how many ways the free cells from k on (rem cells of the field) are covered by dominoes. -/
def cntA (W T : Nat) : Nat → Nat → List Bool → Nat
  | 0, _, _ => 1
  | rem + 1, k, av =>
    if on av k then
      (if to W T av k 1 then cntA W T rem (k + 1) (less2 av k (stepF W T k 1).toNat) else 0) +
      (if to W T av k 2 then cntA W T rem (k + 1) (less2 av k (stepF W T k 2).toNat) else 0)
    else cntA W T rem (k + 1) av

theorem cntA_congr (W T : Nat) : ∀ (rem k : Nat) (av av' : List Bool), (∀ i, k ≤ i → on av i = on av' i) → (∀ way : Int, way = 1 ∨ way = 2 → 0 ≤ stepF W T k way → k ≤ (stepF W T k way).toNat) ∨ True → cntA W T rem k av = cntA W T rem k av'
  | 0, _, _, _, _, _ => rfl
  | rem + 1, k, av, av', h, _ => by
    have up : ∀ way : Int, way = 1 ∨ way = 2 → 0 ≤ stepF W T k way → k ≤ (stepF W T k way).toNat := by
      intro way hw h0
      rcases hw with rfl | rfl
      · unfold stepF at h0 ⊢; rw [if_pos rfl] at h0 ⊢; split at h0 <;> rename_i hc
        · rw [if_pos hc]; omega
        · omega
      · unfold stepF at h0 ⊢; rw [if_neg (by omega), if_pos rfl] at h0 ⊢; split at h0 <;> rename_i hc
        · rw [if_pos hc]; omega
        · omega
    have ht : ∀ way : Int, way = 1 ∨ way = 2 → to W T av k way = to W T av' k way := by
      intro way hw
      unfold to
      by_cases h0 : 0 ≤ stepF W T k way
      · rw [h _ (up way hw h0)]
      · rw [decide_eq_false h0, Bool.false_and, Bool.false_and]
    have hl : ∀ t, ∀ i, k + 1 ≤ i → on (less2 av k t) i = on (less2 av' k t) i := by
      intro t i hi
      rw [on_less2, on_less2, h i (by omega)]
    rw [cntA, cntA, h k (Nat.le_refl _), ht 1 (by simp), ht 2 (by simp), cntA_congr W T rem (k + 1) _ _ (hl _) (.inr trivial), cntA_congr W T rem (k + 1) _ _ (hl _) (.inr trivial),
      cntA_congr W T rem (k + 1) av av' (fun i hi => h i (by omega)) (.inr trivial)]
theorem cntA_eq {W T rem k : Nat} {av av' : List Bool} (h : ∀ i, k ≤ i → on av i = on av' i) : cntA W T rem k av = cntA W T rem k av' := cntA_congr W T rem k av av' h (.inr trivial)
theorem cntA_le (W T : Nat) : ∀ (rem k : Nat) (av : List Bool), cntA W T rem k av ≤ 2 ^ rem
  | 0, _, _ => Nat.le_refl _
  | rem + 1, k, av => by
    have h1 := cntA_le W T rem (k + 1) (less2 av k (stepF W T k 1).toNat)
    have h2 := cntA_le W T rem (k + 1) (less2 av k (stepF W T k 2).toNat)
    have h3 := cntA_le W T rem (k + 1) av
    have h4 : 2 ^ (rem + 1) = 2 ^ rem + 2 ^ rem := by rw [Nat.pow_succ]; omega
    rw [cntA]
    split
    · split <;> split <;> omega
    · omega
theorem cntA_skip {W T rem k : Nat} {av : List Bool} (h : on av k = false) : cntA W T (rem + 1) k av = cntA W T rem (k + 1) av := by rw [cntA, h]; rfl
/-- Cells that are not free are passed over. -/
theorem cntA_skips {W T : Nat} {av : List Bool} : ∀ (d k rem : Nat), (∀ i, k ≤ i → i < k + d → on av i = false) → cntA W T (rem + d) k av = cntA W T rem (k + d) av
  | 0, k, rem, _ => rfl
  | d + 1, k, rem, h => by
    rw [show rem + (d + 1) = (rem + d) + 1 from rfl, cntA_skip (h k (Nat.le_refl _) (by omega)), cntA_skips d (k + 1) rem (fun i h1 h2 => h i (by omega) (by omega))]
    congr 1; omega

/-! ### the reference's count: sets of cells that are covered already -/
def mask : List Bool → Nat
  | [] => 0
  | b :: l => (if b then 1 else 0) + 2 * mask l
theorem mask_lt : ∀ l : List Bool, mask l < 2 ^ l.length
  | [] => by simp [mask]
  | b :: l => by have := mask_lt l; rw [mask, List.length_cons, Nat.pow_succ]; split <;> omega
theorem mask_mod (b : Bool) (l : List Bool) : mask (b :: l) % 2 = if b then 1 else 0 := by rw [mask]; cases b <;> simp <;> omega
theorem mask_div (b : Bool) (l : List Bool) : mask (b :: l) / 2 = mask l := by rw [mask]; cases b <;> simp <;> omega
theorem mask_bit : ∀ (l : List Bool) (i : Nat), mask l / 2 ^ i % 2 = if on l i then 1 else 0
  | [], i => by simp [mask, on]
  | b :: l, 0 => by rw [Nat.pow_zero, Nat.div_one, mask_mod]; rfl
  | b :: l, i + 1 => by
    rw [Nat.pow_succ, Nat.mul_comm, ← Nat.div_div_eq_div_mul, mask_div, mask_bit l i]
    rfl
theorem mask_set : ∀ (l : List Bool) (i : Nat), i < l.length → on l i = false → mask (l.set i true) = mask l + 2 ^ i
  | [], _, h, _ => by simp at h
  | b :: l, 0, _, h => by
    have : b = false := h
    subst this
    simp [mask]; omega
  | b :: l, i + 1, hl, h => by
    have := mask_set l i (by simpa using hl) h
    rw [List.set_cons_succ, mask, mask, this, Nat.pow_succ]; omega

/-- The sets that may follow a set at a cell. -/
def options (W T : Nat) (bs : List Bool) (k set : Nat) : List Nat :=
  if set % 2 == 1 || !on bs k then [set / 2]
  else (if to W T bs k 1 && set / 2 % 2 == 0 then [set / 2 + 1] else []) ++ (if to W T bs k 2 && set / 2 ^ W % 2 == 0 then [set / 2 + 2 ^ (W - 1)] else [])
def gS (W T : Nat) (bs : List Bool) : Nat → Nat → Nat → Nat
  | 0, _, set => if set = 0 then 1 else 0
  | rem + 1, k, set => ((options W T bs k set).map (gS W T bs rem (k + 1))).sum

/-- The cells covered from k on, and the free ones. -/
def Rel (bs : List Bool) (k : Nat) (c av : List Bool) : Prop := ∀ i, on av (k + i) = (on bs (k + i) && !on c i)

theorem step_east {W T k : Nat} (h : 0 ≤ stepF W T k 1) : (stepF W T k 1).toNat = k + 1 := by
  unfold stepF at h ⊢; rw [if_pos rfl] at h ⊢; split at h <;> rename_i hc
  · rw [if_pos hc]; omega
  · omega
theorem step_north {W T k : Nat} (h : 0 ≤ stepF W T k 2) : (stepF W T k 2).toNat = k + W := by
  unfold stepF at h ⊢; rw [if_neg (by omega), if_pos rfl] at h ⊢; split at h <;> rename_i hc
  · rw [if_pos hc]; omega
  · omega

theorem gS_eq {W T n : Nat} {bs : List Bool} (hW : 1 ≤ W) (hn : bs.length = n) : ∀ (rem k : Nat) (c av : List Bool), rem + k = n → c.length = rem → Rel bs k c av → gS W T bs rem k (mask c) = cntA W T rem k av
  | 0, k, c, av, _, hc, _ => by
    obtain rfl := List.eq_nil_of_length_eq_zero hc
    rfl
  | rem + 1, k, [], av, _, hc, _ => by simp at hc
  | rem + 1, k, b :: c, av, hk, hc, hr => by
    have hcl : c.length = rem := by simpa using hc
    have r0 := hr 0
    have rs : ∀ i, on av (k + 1 + i) = (on bs (k + 1 + i) && !on c i) := by
      intro i
      have := hr (i + 1)
      rw [show k + (i + 1) = k + 1 + i by omega] at this
      exact this
    rw [Nat.add_zero] at r0
    have r0' : on av k = (on bs k && !b) := r0
    rw [gS, options, mask_mod, mask_div, cntA]
    cases hb : b with
    | true =>
      rw [hb] at r0'
      have : on av k = false := by rw [r0']; simp
      rw [this]
      simp
      exact gS_eq hW hn rem (k + 1) c av (by omega) hcl rs
    | false =>
      rw [hb] at r0'
      cases hok : on bs k with
      | false =>
        have : on av k = false := by rw [r0', hok]; rfl
        rw [this]
        simp
        exact gS_eq hW hn rem (k + 1) c av (by omega) hcl rs
      | true =>
        have : on av k = true := by rw [r0', hok]; rfl
        rw [this]
        have e1 : (to W T bs k 1 && mask c % 2 == 0) = to W T av k 1 := by
          unfold to
          by_cases h0 : 0 ≤ stepF W T k 1
          · rw [step_east h0, decide_eq_true h0, Bool.true_and, Bool.true_and]
            have := rs 0
            rw [Nat.add_zero] at this
            rw [this]
            have m := mask_bit c 0
            rw [Nat.pow_zero, Nat.div_one] at m
            rw [m]
            cases on c 0 <;> cases on bs (k + 1) <;> rfl
          · rw [decide_eq_false h0]; rfl
        have e2 : (to W T bs k 2 && mask (false :: c) / 2 ^ W % 2 == 0) = to W T av k 2 := by
          unfold to
          by_cases h0 : 0 ≤ stepF W T k 2
          · rw [step_north h0, decide_eq_true h0, Bool.true_and, Bool.true_and]
            have := rs (W - 1)
            rw [show k + 1 + (W - 1) = k + W by omega] at this
            rw [this, mask_bit]
            have : on (false :: c) W = on c (W - 1) := by
              obtain ⟨V, rfl⟩ : ∃ V, W = V + 1 := ⟨W - 1, by omega⟩
              rfl
            rw [this]
            cases on c (W - 1) <;> cases on bs (k + W) <;> rfl
          · rw [decide_eq_false h0]; rfl
        have f1 : to W T av k 1 = true → gS W T bs rem (k + 1) (mask c + 1) = cntA W T rem (k + 1) (less2 av k (stepF W T k 1).toNat) := by
          intro h
          unfold to at h
          rw [Bool.and_eq_true, decide_eq_true_eq] at h
          obtain ⟨h0, h1⟩ := h
          rw [step_east h0] at h1 ⊢
          have q := rs 0
          rw [Nat.add_zero, h1] at q
          have q1 : on c 0 = false := by cases h : on c 0 with | false => rfl | true => rw [h, Bool.not_true, Bool.and_false] at q; cases q
          have q2 : 0 < c.length := by
            have : on bs (k + 1) = true := by cases h : on bs (k + 1) with | true => rfl | false => rw [h, Bool.false_and] at q; cases q
            have := on_lt this; omega
          have := mask_set c 0 q2 q1
          rw [Nat.pow_zero] at this
          rw [← this]
          refine gS_eq hW hn rem (k + 1) _ _ (by omega) (by simpa using hcl) (fun i => ?_)
          rw [on_less2, rs i, on_set q2]
          by_cases hi : i = 0
          · subst hi; simp
          · rw [if_neg hi]; simp [show k + 1 + i ≠ k by omega, hi]
        have f2 : to W T av k 2 = true → gS W T bs rem (k + 1) (mask c + 2 ^ (W - 1)) = cntA W T rem (k + 1) (less2 av k (stepF W T k 2).toNat) := by
          intro h
          unfold to at h
          rw [Bool.and_eq_true, decide_eq_true_eq] at h
          obtain ⟨h0, h1⟩ := h
          rw [step_north h0] at h1 ⊢
          have q := rs (W - 1)
          rw [show k + 1 + (W - 1) = k + W by omega, h1] at q
          have q1 : on c (W - 1) = false := by cases h : on c (W - 1) with | false => rfl | true => rw [h, Bool.not_true, Bool.and_false] at q; cases q
          have q2 : W - 1 < c.length := by
            have : on bs (k + W) = true := by cases h : on bs (k + W) with | true => rfl | false => rw [h, Bool.false_and] at q; cases q
            have := on_lt this; omega
          rw [← mask_set c (W - 1) q2 q1]
          refine gS_eq hW hn rem (k + 1) _ _ (by omega) (by simpa using hcl) (fun i => ?_)
          rw [on_less2, rs i, on_set q2]
          by_cases hi : i = W - 1
          · subst hi; rw [if_pos rfl, Bool.not_true, Bool.and_false, decide_eq_false (show ¬ k + 1 + (W - 1) ≠ k + W by omega), Bool.and_false]
          · rw [if_neg hi]; simp [show k + 1 + i ≠ k by omega, show k + 1 + i ≠ k + W by omega]
        simp only [if_pos, e1, e2, Bool.not_true, Bool.or_false, Bool.false_eq_true, if_false]
        rw [if_neg (by simp)]
        rw [List.map_append, List.sum_append]
        congr 1
        · cases h : to W T av k 1
          · rfl
          · simp; exact f1 h
        · cases h : to W T av k 2
          · rfl
          · simp; exact f2 h

/-- one more way to a set -/
def insP (o w : Nat) : List (Nat × Nat) → List (Nat × Nat)
  | [] => [(o, w)]
  | (a, b) :: l => if a = o then (a, b + w) :: l else (a, b) :: insP o w l
def valP (f : Nat → Nat) : List (Nat × Nat) → Nat
  | [] => 0
  | (a, b) :: l => b * f a + valP f l
theorem val_ins (f : Nat → Nat) (o w : Nat) : ∀ l, valP f (insP o w l) = valP f l + w * f o
  | [] => by simp [insP, valP]
  | (a, b) :: l => by
    rw [insP]
    split
    · rename_i h; subst h; rw [valP, valP, Nat.add_mul]; omega
    · rw [valP, valP, val_ins f o w l]; omega
def insAll (w : Nat) (l : List (Nat × Nat)) (os : List Nat) : List (Nat × Nat) := os.foldl (fun l o => insP o w l) l
theorem val_insAll (f : Nat → Nat) (w : Nat) : ∀ (os : List Nat) (l : List (Nat × Nat)), valP f (insAll w l os) = valP f l + w * (os.map f).sum
  | [], l => by simp [insAll]
  | o :: os, l => by
    have := val_insAll f w os (insP o w l)
    rw [insAll, List.foldl_cons]
    rw [insAll] at this
    rw [this, val_ins, List.map_cons, List.sum_cons, Nat.mul_add]; omega
def stepP (W T : Nat) (bs : List Bool) (k : Nat) (l : List (Nat × Nat)) : List (Nat × Nat) := l.foldl (fun acc p => insAll p.2 acc (options W T bs k p.1)) []
theorem val_step (W T : Nat) (bs : List Bool) (rem k : Nat) (l : List (Nat × Nat)) : valP (gS W T bs rem (k + 1)) (stepP W T bs k l) = valP (gS W T bs (rem + 1) k) l := by
  have key : ∀ (l acc : List (Nat × Nat)), valP (gS W T bs rem (k + 1)) (l.foldl (fun acc p => insAll p.2 acc (options W T bs k p.1)) acc) = valP (gS W T bs rem (k + 1)) acc + valP (gS W T bs (rem + 1) k) l := by
    intro l
    induction l with
    | nil => intro acc; simp [valP]
    | cons p l ih =>
      intro acc
      obtain ⟨a, b⟩ := p
      rw [List.foldl_cons, ih, val_insAll, valP, gS]; simp only; omega
  rw [stepP, key l []]; simp [valP]
def runP (W T : Nat) (bs : List Bool) : Nat → List (Nat × Nat)
  | 0 => [(0, 1)]
  | k + 1 => stepP W T bs k (runP W T bs k)
theorem val_run (W T n : Nat) (bs : List Bool) : ∀ k, k ≤ n → valP (gS W T bs (n - k) k) (runP W T bs k) = gS W T bs n 0 0
  | 0, _ => by simp [runP, valP]
  | k + 1, h => by
    rw [runP, val_step, show n - (k + 1) + 1 = n - k by omega]
    exact val_run W T n bs k (by omega)

/-- keys below a bound, none twice -/
def keysOk (m : Nat) (l : List (Nat × Nat)) : Prop := (l.map (·.1)).Nodup ∧ ∀ p ∈ l, p.1 < m
theorem ins_mem {o w : Nat} : ∀ {l : List (Nat × Nat)} {a : Nat}, a ∈ (insP o w l).map (·.1) ↔ a = o ∨ a ∈ l.map (·.1)
  | [], a => by simp [insP]
  | (x, y) :: l, a => by
    rw [insP]
    split
    · rename_i h; subst h; simp
    · rw [List.map_cons, List.mem_cons, ins_mem, List.map_cons, List.mem_cons]
      constructor
      · rintro (h | h | h)
        · exact .inr (.inl h)
        · exact .inl h
        · exact .inr (.inr h)
      · rintro (h | h | h)
        · exact .inr (.inl h)
        · exact .inl h
        · exact .inr (.inr h)
theorem ins_nodup {o w : Nat} : ∀ {l : List (Nat × Nat)}, (l.map (·.1)).Nodup → ((insP o w l).map (·.1)).Nodup
  | [], _ => by simp [insP]
  | (x, y) :: l, h => by
    rw [List.map_cons, List.nodup_cons] at h
    rw [insP]
    split
    · rw [List.map_cons, List.nodup_cons]; exact h
    · rename_i hne
      rw [List.map_cons, List.nodup_cons]
      refine ⟨fun hm => ?_, ins_nodup h.2⟩
      rcases ins_mem.1 hm with h1 | h1
      · exact hne h1
      · exact h.1 h1
theorem keys_ins {m o w : Nat} {l : List (Nat × Nat)} (h : keysOk m l) (ho : o < m) : keysOk m (insP o w l) := by
  refine ⟨ins_nodup h.1, fun p hp => ?_⟩
  have : p.1 ∈ (insP o w l).map (·.1) := List.mem_map.2 ⟨p, hp, rfl⟩
  rcases ins_mem.1 this with h1 | h1
  · omega
  · obtain ⟨q, hq, e⟩ := List.mem_map.1 h1
    have := h.2 q hq
    omega
theorem keys_insAll {m w : Nat} : ∀ {os : List Nat} {l : List (Nat × Nat)}, keysOk m l → (∀ o ∈ os, o < m) → keysOk m (insAll w l os)
  | [], l, h, _ => h
  | o :: os, l, h, ho => by
    rw [insAll, List.foldl_cons]
    exact keys_insAll (os := os) (keys_ins h (ho o (List.mem_cons_self ..))) (fun x hx => ho x (List.mem_cons_of_mem _ hx))
theorem options_lt {W T k set : Nat} {bs : List Bool} (hW : 1 ≤ W) (h : set < 2 ^ W) : ∀ o ∈ options W T bs k set, o < 2 ^ W := by
  obtain ⟨V, rfl⟩ : ∃ V, W = V + 1 := ⟨W - 1, by omega⟩
  have e : 2 ^ (V + 1) = 2 ^ V + 2 ^ V := by rw [Nat.pow_succ]; omega
  have e0 : 0 < 2 ^ V := Nat.pow_pos (by omega)
  intro o ho
  rw [options] at ho
  split at ho
  · simp at ho; omega
  · rw [List.mem_append] at ho
    rcases ho with ho | ho
    · split at ho
      · simp at ho; omega
      · cases ho
    · split at ho
      · rw [Nat.add_sub_cancel] at ho; simp at ho; omega
      · cases ho
theorem keys_step {W T k : Nat} {bs : List Bool} (hW : 1 ≤ W) {l : List (Nat × Nat)} (h : ∀ p ∈ l, p.1 < 2 ^ W) : keysOk (2 ^ W) (stepP W T bs k l) := by
  have key : ∀ (l acc : List (Nat × Nat)), (∀ p ∈ l, p.1 < 2 ^ W) → keysOk (2 ^ W) acc → keysOk (2 ^ W) (l.foldl (fun acc p => insAll p.2 acc (options W T bs k p.1)) acc) := by
    intro l
    induction l with
    | nil => intro acc _ h; exact h
    | cons p l ih =>
      intro acc hl ha
      rw [List.foldl_cons]
      exact ih _ (fun q hq => hl q (List.mem_cons_of_mem _ hq)) (keys_insAll ha (options_lt hW (hl p (List.mem_cons_self ..))))
  exact key l [] h ⟨by simp, by simp⟩
theorem keys_run {W T : Nat} {bs : List Bool} (hW : 1 ≤ W) : ∀ k, keysOk (2 ^ W) (runP W T bs k)
  | 0 => ⟨by simp [runP], by simp [runP]; exact Nat.pow_pos (by omega)⟩
  | k + 1 => keys_step hW (keys_run hW k).2

theorem nodup_len : ∀ (m : Nat) (l : List Nat), l.Nodup → (∀ x ∈ l, x < m) → l.length ≤ m
  | 0, l, _, h => by
    cases l with
    | nil => simp
    | cons a l => exact absurd (h a (List.mem_cons_self ..)) (by omega)
  | m + 1, l, hn, h => by
    have h1 := nodup_len m (l.erase m) (hn.erase m) (fun x hx => by
      have hx2 := List.mem_of_mem_erase hx
      have := h x hx2
      have hne : x ≠ m := fun e => by subst e; exact (List.Nodup.mem_erase_iff hn).1 hx |>.1 rfl
      omega)
    have := List.length_erase (a := m) (l := l)
    split at this <;> omega
theorem keys_len {m : Nat} {l : List (Nat × Nat)} (h : keysOk m l) : l.length ≤ m := by
  have := nodup_len m (l.map (·.1)) h.1 (fun x hx => by obtain ⟨p, hp, rfl⟩ := List.mem_map.1 hx; exact h.2 p hp)
  rwa [List.length_map] at this
/-- all ways together -/
def waysP (l : List (Nat × Nat)) : Nat := valP (fun _ => 1) l
theorem ways_step {W T k : Nat} {bs : List Bool} (l : List (Nat × Nat)) : waysP (stepP W T bs k l) ≤ 2 * waysP l := by
  have key : ∀ (l acc : List (Nat × Nat)), waysP (l.foldl (fun acc p => insAll p.2 acc (options W T bs k p.1)) acc) ≤ waysP acc + 2 * waysP l := by
    intro l
    induction l with
    | nil => intro acc; simp [waysP, valP]
    | cons p l ih =>
      intro acc
      obtain ⟨a, b⟩ := p
      rw [List.foldl_cons]
      have h1 := ih (insAll b acc (options W T bs k a))
      have h2 : waysP (insAll b acc (options W T bs k a)) ≤ waysP acc + b * 2 := by
        unfold waysP
        rw [val_insAll]
        have : ((options W T bs k a).map fun _ => 1).sum ≤ 2 := by
          unfold options
          split
          · simp
          · split <;> split <;> simp
        have := Nat.mul_le_mul_left b this
        omega
      have h3 : waysP ((a, b) :: l) = b + waysP l := by simp [waysP, valP]
      show waysP (l.foldl (fun acc p => insAll p.2 acc (options W T bs k p.1)) (insAll b acc (options W T bs k a))) ≤ _
      omega
  have := key l []
  simpa [stepP, waysP, valP] using this
theorem ways_run {W T : Nat} {bs : List Bool} : ∀ k, waysP (runP W T bs k) ≤ 2 ^ k
  | 0 => by simp [runP, waysP, valP]
  | k + 1 => by
    have h1 := ways_step (W := W) (T := T) (k := k) (bs := bs) (runP W T bs k)
    have h2 := ways_run (W := W) (T := T) (bs := bs) k
    rw [runP, Nat.pow_succ]; omega

/-- what the reference sums up at the end -/
theorem run_total {W T n : Nat} {bs : List Bool} (hW : 1 ≤ W) (hn : bs.length = n) : valP (fun s => if s = 0 then 1 else 0) (runP W T bs n) = cntA W T n 0 bs := by
  have h := val_run W T n bs n (Nat.le_refl _)
  rw [Nat.sub_self] at h
  have e : gS W T bs 0 n = fun s => if s = 0 then 1 else 0 := rfl
  rw [e] at h
  rw [h]
  have hm : ∀ m, mask (List.replicate m false) = 0 := by
    intro m
    induction m with
    | zero => rfl
    | succ m ih => rw [List.replicate_succ, mask, ih]; rfl
  have e2 := gS_eq (T := T) hW hn n 0 (List.replicate n false) bs (by omega) (by simp) (fun i => ?_)
  · rwa [hm n] at e2
  have : on (List.replicate n false) i = false := by
    unfold on
    rw [List.getElem?_replicate]
    split <;> rfl
  rw [this]; simp

end Til
end Go.Proofs.Ytepnhhehfkcgkaa
