/-
  Reading texts of rows: that the two sides' tests agree. (plain)
-/
import Derived.Test.YtepnhhehfkcgkaaDoorCutP
import Derived.Test.YtepnhhehfkcgkaaDoorLTextP
namespace Go.Proofs.YtepnhhehfkcgkaaDoor
open Go.RowKit

/-- The rows' signs, from the south row on. -/
def signsL (r : List (List UInt8)) : List UInt8 := r.reverse.flatten
def rowW (r : List (List UInt8)) : Nat := (r.headD []).length
def onS (c : UInt8) : Bool := c != 46
def hashS (c : UInt8) : Bool := c == 35
def wayS (c : UInt8) : Int := if c = 101 then 1 else if c = 110 then 2 else if c = 119 then 3 else if c = 115 then 4 else 0
def signR2 (c : UInt8) : Bool := c == 35 || c == 46
def signL2 (c : UInt8) : Bool := c == 46 || (c == 35 || (c == 101 || (c == 110 || (c == 119 || c == 115))))
/-- Rows of signs of one length. -/
def rowsOk (P : UInt8 → Bool) (r : List (List UInt8)) : Bool := inB (rowW r : Int) 1 6 && (inB (r.length : Int) 1 6 && r.all fun x => decide (x.length = rowW r) && x.all P)

theorem flat_get {W x : Nat} (hx : x < W) : ∀ {q : List (List UInt8)} (_ : ∀ a ∈ q, a.length = W) (y : Nat), q.flatten[y * W + x]? = (q[y]?).bind fun a => a[x]?
  | [], _, y => by simp
  | a :: q, h, 0 => by
    have ha := h a (by simp)
    rw [List.flatten_cons, Nat.zero_mul, Nat.zero_add, List.getElem?_append_left (by omega)]; rfl
  | a :: q, h, y + 1 => by
    have ha := h a (by simp)
    rw [List.flatten_cons, Nat.succ_mul, List.getElem?_append_right (by omega), show y * W + W + x - a.length = y * W + x by omega, flat_get hx (fun b hb => h b (by simp [hb])) y]; rfl
theorem flat_len {W : Nat} : ∀ {q : List (List UInt8)} (_ : ∀ a ∈ q, a.length = W), q.flatten.length = W * q.length
  | [], _ => by simp
  | a :: q, h => by
    rw [List.flatten_cons, List.length_append, h a (by simp), flat_len (fun b hb => h b (by simp [hb])), List.length_cons, Nat.mul_succ]; omega
theorem signs_len {W : Nat} {r : List (List UInt8)} (h : ∀ a ∈ r, a.length = W) : (signsL r).length = W * r.length := by
  rw [signsL, flat_len (W := W) (fun a ha => h a (List.mem_reverse.1 ha)), List.length_reverse]
theorem signs_get {W : Nat} {r : List (List UInt8)} (h : ∀ a ∈ r, a.length = W) {i x : Nat} (hi : i < r.length) (hx : x < W) : (signsL r)[(r.length - 1 - i) * W + x]? = (r[i]'hi)[x]? := by
  rw [signsL, flat_get hx (fun a ha => h a (List.mem_reverse.1 ha)), List.getElem?_reverse (by omega), show r.length - 1 - (r.length - 1 - i) = i by omega, List.getElem?_eq_getElem hi]; rfl

theorem rowsL_of {W : Nat} {r : List (List UInt8)} {f : Nat → UInt8} (h : ∀ a ∈ r, a.length = W) (hf : ∀ k c, (signsL r)[k]? = some c → f k = c) : (rowsL f W r.length r.length).map (·.data.toList) = r := by
  apply List.ext_getElem
  · simp [rowsL_len]
  · intro i h1 h2
    have hl := h _ (List.getElem_mem h2)
    apply List.ext_getElem
    · simp [rowsL, rowL_len, hl]
    · intro x h3 h4
      have hx : x < W := by omega
      have e := signs_get h h2 hx
      rw [List.getElem?_eq_getElem h4] at e
      have := hf _ _ e
      simp [rowsL, rowL, this]
theorem text_of {W : Nat} {s : List UInt8} {f : Nat → UInt8} (h : ∀ a ∈ cutL s, a.length = W) (hf : ∀ k c, (signsL (cutL s))[k]? = some c → f k = c) : textL f W (cutL s).length = s := by
  rw [← textL_join, rowsL_of h hf, join_cutL]

theorem cut_text {W T : Nat} {s : List UInt8} {f : Nat → UInt8} (hT : 1 ≤ T) (hf : ∀ k, f k ≠ 47) (h : textL f W T = s) : cutL s = (rowsL f W T T).map (·.data.toList) := by
  rw [← h, ← textL_join]
  refine cutL_join _ (fun e => ?_) (fun x hx c hc => ?_)
  · have := congrArg List.length e
    simp [rowsL_len] at this
    omega
  · simp only [rowsL, rowL, List.map_map, List.mem_map] at hx
    obtain ⟨i, -, rfl⟩ := hx
    simp at hc
    obtain ⟨j, -, rfl⟩ := hc
    exact hf _
theorem rows_text {W T : Nat} {s : List UInt8} {f : Nat → UInt8} {P : UInt8 → Bool} (hT : 1 ≤ T) (hf : ∀ k, f k ≠ 47) (hP : ∀ k, P (f k) = true) (h : textL f W T = s) : ∀ a ∈ cutL s, a.length = W ∧ a.all P = true := by
  rw [cut_text hT hf h]
  intro a ha
  simp only [rowsL, List.map_map, List.mem_map] at ha
  obtain ⟨i, -, rfl⟩ := ha
  refine ⟨by simp [rowL_len], ?_⟩
  simp [rowL, hP]

theorem rows_of {P : UInt8 → Bool} {r : List (List UInt8)} (h : rowsOk P r = true) : (1 ≤ rowW r ∧ rowW r ≤ 6) ∧ (1 ≤ r.length ∧ r.length ≤ 6) ∧ (∀ a ∈ r, a.length = rowW r) ∧ ∀ c ∈ signsL r, P c = true := by
  simp only [rowsOk, Bool.and_eq_true, List.all_eq_true, decide_eq_true_eq] at h
  obtain ⟨h1, h2, h3⟩ := h
  have b1 := inB_iff.1 h1
  have b2 := inB_iff.1 h2
  refine ⟨⟨by omega, by omega⟩, ⟨by omega, by omega⟩, fun a ha => (h3 a ha).1, fun c hc => ?_⟩
  rw [signsL, List.mem_flatten] at hc
  obtain ⟨a, ha, hc⟩ := hc
  exact (h3 a (List.mem_reverse.1 ha)).2 c hc
theorem rowsOk_mk {P : UInt8 → Bool} {r : List (List UInt8)} (h1 : inB (rowW r : Int) 1 6 = true) (h2 : inB (r.length : Int) 1 6 = true) (h3 : ∀ a ∈ r, a.length = rowW r ∧ a.all P = true) : rowsOk P r = true := by
  simp only [rowsOk, h1, h2, Bool.true_and, List.all_eq_true, Bool.and_eq_true, decide_eq_true_eq]
  exact fun a ha => ⟨(h3 a ha).1, fun c hc => List.all_eq_true.1 (h3 a ha).2 c hc⟩

def regOkL (r : List (List UInt8)) : Bool := rowsOk signR2 r && validB (rowW r) r.length (signsL r).length ((signsL r).map onS)
def specOkR (s : List UInt8) : Bool := !(s == []) && (rtextF (rowW (cutL s)) (cutL s).length (signsL (cutL s)).length ((signsL (cutL s)).map hashS) == s)
def laidOkL (r : List (List UInt8)) : Bool := rowsOk signL2 r && laidB (rowW r) r.length (signsL r).length ((signsL r).map onS) (signsL r).length ((signsL r).map wayS)
def specOkL (s : List UInt8) : Bool := !(s == []) && (ltextF (rowW (cutL s)) (cutL s).length (signsL (cutL s)).length ((signsL (cutL s)).map onS) (signsL (cutL s)).length ((signsL (cutL s)).map wayS) == s)

theorem hash_on {l : List UInt8} (h : ∀ c ∈ l, signR2 c = true) : l.map hashS = l.map onS := by
  refine List.map_congr_left fun c hc => ?_
  have := h c hc
  simp only [signR2, Bool.or_eq_true, beq_iff_eq] at this
  rcases this with rfl | rfl <;> rfl
theorem valid_in {W T : Int} {n : Nat} {bs : List Bool} (h : validB W T n bs = true) : inB W 1 6 = true ∧ inB T 1 6 = true := by
  simp only [validB, Bool.and_eq_true] at h
  exact ⟨h.1, h.2.1⟩
theorem ne_nil_of {s : List UInt8} (h : 1 ≤ rowW (cutL s)) : (s == []) = false := by
  cases s with
  | nil => simp [cutL, rowW] at h
  | cons => rfl

theorem reg_law (s : List UInt8) : specOkR s = regOkL (cutL s) := by
  rw [Bool.eq_iff_iff]
  constructor
  · intro h
    simp only [specOkR, Bool.and_eq_true, Bool.not_eq_true', beq_eq_false_iff_ne, beq_iff_eq] at h
    obtain ⟨hs, ht⟩ := h
    have hv : validB (rowW (cutL s)) (cutL s).length (signsL (cutL s)).length ((signsL (cutL s)).map hashS) = true := by
      cases hv : validB (rowW (cutL s)) (cutL s).length (signsL (cutL s)).length ((signsL (cutL s)).map hashS) with
      | true => rfl
      | false => rw [rtextF, hv] at ht; exact absurd ht.symm hs
    obtain ⟨h1, h2⟩ := valid_in hv
    have b2 := inB_iff.1 h2
    rw [rtextF, if_pos hv] at ht
    have hR := rows_text (P := signR2) (by omega) (fun k => by rw [signR]; split <;> decide) (fun k => by rw [signR]; split <;> decide) ht
    have ok : rowsOk signR2 (cutL s) = true := rowsOk_mk h1 h2 (fun a ha => ⟨by have := (hR a ha).1; simpa using this, (hR a ha).2⟩)
    rw [regOkL, ok, ← hash_on (rows_of ok).2.2.2, hv]; rfl
  · intro h
    rw [regOkL, Bool.and_eq_true] at h
    obtain ⟨ok, hv⟩ := h
    obtain ⟨b1, b2, hl, hc⟩ := rows_of ok
    rw [← hash_on hc] at hv
    rw [specOkR, ne_nil_of b1.1, rtextF, if_pos hv]
    simp only [Bool.not_false, Bool.true_and, beq_iff_eq, Int.toNat_natCast]
    refine text_of hl fun k c hk => ?_
    have hx := hc c (List.mem_of_getElem? hk)
    have e : onR ((signsL (cutL s)).map hashS) k = hashS c := onR_of (by rw [List.getElem?_map, hk]; rfl)
    rw [signR, e]
    simp only [signR2, Bool.or_eq_true, beq_iff_eq] at hx
    rcases hx with rfl | rfl <;> rfl

theorem signZ_in (z : Int) : signL2 (signZ z) = true := by
  rw [signZ]; split
  · decide
  split
  · decide
  split
  · decide
  split <;> decide
theorem signL_in (bs : List Bool) (zs : List Int) (k : Nat) : signL2 (signL bs zs k) = true := by
  rw [signL]; split
  · exact signZ_in _
  · decide
theorem signL_ne (bs : List Bool) (zs : List Int) (k : Nat) : signL bs zs k ≠ 47 := by
  intro e
  have := signL_in bs zs k
  rw [e] at this
  exact absurd this (by decide)
theorem laid_in {W T : Int} {n m : Nat} {bs : List Bool} {zs : List Int} (h : laidB W T n bs m zs = true) : inB W 1 6 = true ∧ inB T 1 6 = true := by
  rw [laidB, Bool.and_eq_true] at h
  exact valid_in h.1

theorem laid_law (s : List UInt8) : specOkL s = laidOkL (cutL s) := by
  rw [Bool.eq_iff_iff]
  constructor
  · intro h
    simp only [specOkL, Bool.and_eq_true, Bool.not_eq_true', beq_eq_false_iff_ne, beq_iff_eq] at h
    obtain ⟨hs, ht⟩ := h
    have hv : laidB (rowW (cutL s)) (cutL s).length (signsL (cutL s)).length ((signsL (cutL s)).map onS) (signsL (cutL s)).length ((signsL (cutL s)).map wayS) = true := by
      cases hv : laidB (rowW (cutL s)) (cutL s).length (signsL (cutL s)).length ((signsL (cutL s)).map onS) (signsL (cutL s)).length ((signsL (cutL s)).map wayS) with
      | true => rfl
      | false => rw [ltextF, hv] at ht; exact absurd ht.symm hs
    obtain ⟨h1, h2⟩ := laid_in hv
    have b2 := inB_iff.1 h2
    rw [ltextF, if_pos hv] at ht
    have hR := rows_text (P := signL2) (by omega) (signL_ne _ _) (signL_in _ _) ht
    have ok : rowsOk signL2 (cutL s) = true := rowsOk_mk h1 h2 (fun a ha => ⟨by have := (hR a ha).1; simpa using this, (hR a ha).2⟩)
    rw [laidOkL, ok, hv]; rfl
  · intro h
    rw [laidOkL, Bool.and_eq_true] at h
    obtain ⟨ok, hv⟩ := h
    obtain ⟨b1, b2, hl, hc⟩ := rows_of ok
    rw [specOkL, ne_nil_of b1.1, ltextF, if_pos hv]
    simp only [Bool.not_false, Bool.true_and, beq_iff_eq, Int.toNat_natCast]
    refine text_of hl fun k c hk => ?_
    have hx := hc c (List.mem_of_getElem? hk)
    have e : onR ((signsL (cutL s)).map onS) k = onS c := onR_of (by rw [List.getElem?_map, hk]; rfl)
    have e2 : ent ((signsL (cutL s)).map wayS) k = wayS c := ent_of (by rw [List.getElem?_map, hk]; rfl)
    rw [signL, e, e2]
    simp only [signL2, Bool.or_eq_true, beq_iff_eq] at hx
    rcases hx with rfl | rfl | rfl | rfl | rfl | rfl <;> rfl

end Go.Proofs.YtepnhhehfkcgkaaDoor
