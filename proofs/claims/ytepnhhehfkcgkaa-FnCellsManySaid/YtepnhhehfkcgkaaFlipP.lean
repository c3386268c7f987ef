/-
  The plain laws of mirrored dark cells, and of cells that have a part. No program in sight.
-/
import Derived.Test.YtepnhhehfkcgkaaTurn
import Derived.Test.YtepnhhehfkcgkaaDark
import Derived.Test.YtepnhhehfkcgkaaPartsI
namespace Go.Proofs.Ytepnhhehfkcgkaa
open Go.RowKit

theorem getD_set {l : List Bool} {k i : Nat} {v : Bool} (hk : k < l.length) : (l.set k v)[i]?.getD false = if i = k then v else l[i]?.getD false := by
  rw [List.getElem?_set]
  by_cases h : k = i
  · subst h; simp [hk]
  · rw [if_neg h, if_neg (fun h' => h h'.symm)]
theorem flipT_inj {W T i k : Nat} (hW : 1 ≤ W) (h : flipT W T i = flipT W T k) : i = k := by
  have div_of : ∀ {x y : Nat}, y < W → (x * W + (W - 1 - y)) / W = x ∧ (x * W + (W - 1 - y)) % W = W - 1 - y := by
    intro x y h
    have h1 : W - 1 - y < W := by omega
    rw [Nat.mul_comm, Nat.add_comm]
    exact ⟨by rw [Nat.add_mul_div_left _ _ (by omega), Nat.div_eq_of_lt h1, Nat.zero_add], by rw [Nat.add_mul_mod_self_left, Nat.mod_eq_of_lt h1]⟩
  have h1 := Nat.mod_lt i (show W > 0 by omega)
  have h2 := Nat.mod_lt k (show W > 0 by omega)
  obtain ⟨a1, a2⟩ := div_of (x := i / W) h1
  obtain ⟨b1, b2⟩ := div_of (x := k / W) h2
  unfold flipT at h
  rw [h] at a1 a2
  have e1 : i / W = k / W := a1.symm.trans b1
  have e2 : W - 1 - i % W = W - 1 - k % W := a2.symm.trans b2
  have e3 : i % W = k % W := by omega
  rw [← Nat.div_add_mod i W, ← Nat.div_add_mod k W, e1, e3]
/-- The dark and the light cells among the first ones that are put elsewhere. -/
def darkP (W T : Nat) (bs : List Bool) : Nat → Nat
  | 0 => 0
  | k + 1 => darkP W T bs k + (if bs[k]?.getD false && darkB W (flipT W T k) then 1 else 0)
theorem darkN_set {W : Nat} {l : List Bool} {t : Nat} {v : Bool} (ht : t < l.length) (h0 : l[t]?.getD false = false) : ∀ n, darkN W (l.set t v) n = darkN W l n + (if t < n ∧ (v && darkB W t) = true then 1 else 0)
  | 0 => by simp [darkN]
  | n + 1 => by
    rw [darkN, darkN, darkN_set ht h0 n, getD_set ht]
    by_cases e : n = t
    · subst e
      rw [if_pos rfl, h0, if_neg (by omega)]
      cases (v && darkB W n) <;> simp
    · rw [if_neg e]
      by_cases hc : t < n
      · simp [hc, show t < n + 1 by omega]; omega
      · simp [hc, show ¬ t < n + 1 by omega]
theorem put_bare {W T n : Nat} {bs : List Bool} (hW : 1 ≤ W) {k : Nat} : ∀ j, j ≤ k → (putL n (flipT W T) bs j)[flipT W T k]?.getD false = false
  | 0, _ => by rw [putL, List.getElem?_replicate]; split <;> rfl
  | j + 1, hj => by
    rw [putL]
    by_cases hlt : flipT W T j < (putL n (flipT W T) bs j).length
    · rw [getD_set hlt, if_neg, put_bare hW j (by omega)]
      intro h
      have := flipT_inj hW h
      omega
    · rw [List.set_eq_of_length_le (by omega)]
      exact put_bare hW j (by omega)
theorem dark_put {W T n : Nat} {bs : List Bool} (hW : 1 ≤ W) (hn : n = W * T) : ∀ k, k ≤ n → darkN W (putL n (flipT W T) bs k) n = darkP W T bs k
  | 0, _ => by
    rw [putL, darkP]
    have : ∀ m, darkN W (List.replicate n false) m = 0 := by
      intro m
      induction m with
      | zero => rfl
      | succ m ih =>
        rw [darkN, ih, List.getElem?_replicate]
        split <;> simp
    exact this n
  | k + 1, hk => by
    have hlt := flipT_lt hW (show k < W * T by omega)
    rw [putL, darkN_set (by rw [putL_len]; omega) (put_bare hW k (Nat.le_refl _)), dark_put hW hn k (by omega), darkP]
    congr 1
    simp only [show flipT W T k < n by omega, true_and]
theorem dark_flip {W T k : Nat} (hW : 1 ≤ W) : darkB W (flipT W T k) = if W % 2 = 0 then !darkB W k else darkB W k := by
  have h1 := Nat.mod_lt k (show W > 0 by omega)
  have e : flipT W T k = (W - 1 - k % W) + W * (k / W) := by unfold flipT; rw [Nat.mul_comm, Nat.add_comm]
  have m1 : flipT W T k % W = W - 1 - k % W := by rw [e, Nat.add_mul_mod_self_left, Nat.mod_eq_of_lt (by omega)]
  have m2 : flipT W T k / W = k / W := by rw [e, Nat.add_mul_div_left _ _ (by omega), Nat.div_eq_of_lt (by omega), Nat.zero_add]
  unfold darkB
  rw [m1, m2]
  split
  · rw [Bool.eq_iff_iff]
    simp
    omega
  · rw [Bool.eq_iff_iff]
    simp
    omega
theorem darkP_odd {W T : Nat} {bs : List Bool} (hW : 1 ≤ W) (h : ¬ W % 2 = 0) : ∀ k, darkP W T bs k = darkN W bs k
  | 0 => rfl
  | k + 1 => by rw [darkP, darkN, darkP_odd hW h k, dark_flip hW, if_neg h]
theorem darkP_even {W T : Nat} {bs : List Bool} (hW : 1 ≤ W) (h : W % 2 = 0) : ∀ k, darkP W T bs k + darkN W bs k = cnt (bs.take k)
  | 0 => by simp [darkP, darkN, cnt]
  | k + 1 => by
    have ih := darkP_even (T := T) (bs := bs) hW h k
    rw [darkP, darkN, dark_flip hW, if_pos h]
    cases hx : bs[k]? with
    | none =>
      have := List.getElem?_eq_none_iff.1 hx
      rw [List.take_of_length_le (by omega)]
      rw [List.take_of_length_le this] at ih
      simpa using ih
    | some x =>
      rw [take_snoc hx, cnt_snoc]
      cases x <;> cases darkB W k <;> simp <;> omega

/-- Mirrored dark cells. -/
theorem dark_mirror {W T n : Nat} {bs : List Bool} (hW : 1 ≤ W) (hn : n = W * T) (hl : bs.length = n) :
    (W % 2 = 0 → darkN W (putL n (flipT W T) bs n) n + darkN W bs n = cnt bs) ∧ (¬ W % 2 = 0 → darkN W (putL n (flipT W T) bs n) n = darkN W bs n) := by
  rw [dark_put hW hn n (Nat.le_refl _)]
  refine ⟨fun h => ?_, fun h => darkP_odd hW h n⟩
  have := darkP_even (T := T) (bs := bs) hW h n
  rwa [List.take_of_length_le (by omega)] at this

/-! cells that have a part -/
/-- How many of the first entries are not negative. -/
def posN (o : List Int) : Nat → Nat
  | 0 => 0
  | k + 1 => posN o k + (if 0 ≤ Parts.lab o k then 1 else 0)
theorem pos_cnt {W T : Nat} {bs : List Bool} (hW : 1 ≤ W) (hl : bs.length = W * T) : ∀ k, k ≤ W * T → posN (partL W T bs) k = cnt (bs.take k)
  | 0, _ => by simp [posN, cnt]
  | k + 1, hk => by
    have I := Parts.parts_inv (W := W) (T := T) (bs := bs) hW
    have hx : bs[k]? = some (bs[k]'(by omega)) := List.getElem?_eq_getElem _
    rw [posN, pos_cnt hW hl k (by omega), take_snoc hx, cnt_snoc]
    congr 1
    have e : Parts.onB bs k = bs[k]'(by omega) := by unfold Parts.onB; rw [hx]; rfl
    have e2 : (0 ≤ Parts.lab (partL W T bs) k) ↔ Parts.onB bs k = true := ⟨fun h => I.isOn (by omega) h, fun h => I.nonneg (by omega) h⟩
    rw [e] at e2
    by_cases h : bs[k]'(by omega) = true
    · rw [if_pos (e2.2 h), if_pos h]
    · rw [if_neg (fun h' => h (e2.1 h')), if_neg h]
theorem pos_le (o : List Int) : ∀ k, posN o k ≤ k
  | 0 => Nat.le_refl _
  | k + 1 => by have := pos_le o k; rw [posN]; split <;> omega

end Go.Proofs.Ytepnhhehfkcgkaa
