/-
  across: what it returns; the plain law of the columns without a domino across.
-/
import Derived.Test.YtcnkpcnbobiodaaTilOk
import Derived.Laws.BitsAllLaws
import Derived.Laws.BitsLemmas
import Derived.IntWalk
namespace Go.Proofs.Ytcnkpcnbobiodaa
open Go.RowKit

/-- The set of the rows below the y-th with a domino across the line in the west of a column. -/
def acrN (W : Nat) (zs : List Int) (col : Nat) : Nat → Nat
  | 0 => 0
  | y + 1 => acrN W zs col y + (if ent zs (y * W + col - 1) == 1 then 2 ^ y else 0)
theorem acrN_lt (W : Nat) (zs : List Int) (col : Nat) : ∀ y, acrN W zs col y < 2 ^ y
  | 0 => by simp [acrN]
  | y + 1 => by have := acrN_lt W zs col y; rw [acrN, Nat.pow_succ]; split <;> omega
theorem or_pow : ∀ y : Nat, y < 6 → ∀ a : Nat, a < 64 → a < 2 ^ y → bits .or .i64 (a : Int) ((2 ^ y : Nat) : Int) = ((a + 2 ^ y : Nat) : Int) := by decide +kernel

theorem or_pow' {y a : Nat} (hy : y < 6) (ha : a < 2 ^ y) : bits .or .i64 (a : Int) (wrap64 ((2 : Int) ^ y)) = ((a + 2 ^ y : Nat) : Int) := by
  have h1 : 2 ^ y ≤ 2 ^ 5 := Nat.pow_le_pow_right (by omega) (by omega)
  have e : ((2 : Int) ^ y) = ((2 ^ y : Nat) : Int) := by push_cast; rfl
  rw [e, IntWalk.wrap64_in _ ⟨by omega, by omega⟩]
  exact or_pow y hy a (by omega) ha

theorem acr_index {W T x y : Nat} (hx : 1 ≤ x) (hxW : x < W) (hy : y < T) : y * W + x - 1 < W * T ∧ y * W + x < W * T := by
  have h1 : (y + 1) * W ≤ T * W := Nat.mul_le_mul_right _ hy
  rw [Nat.add_mul, Nat.one_mul] at h1
  have h2 : W * T = T * W := Nat.mul_comm _ _
  omega

set_option maxHeartbeats 1000000 in
theorem across_any (A : Option Addr) (n c W T : Nat) (bs : List Bool) (B : Option Addr) (d : Nat) (zs : List Int) (col : Nat) (w : World) (V : Valid W T n bs) (h' : Sl w B n (zs.map (.int .i64))) (hc1 : 1 ≤ col) (hc2 : col < W) :
    Calls Try.prog 85 #[.agg #[.int .i64 W, .int .i64 T, .slice A n c], .slice B n d, .int .i64 col] w fun e w' => e = .returned (.int .i64 (acrN W zs col T)) ∧ Below w.heap.size w w' := by
  have v0 := V.w0
  have v1 := V.w1
  have v2 := V.t0
  have v3 := V.t1
  have hsz := Lib.hid V.size
  have n36 := V.n36
  go_enter Try.func85, Try.ntmps85
  go_wp2_with fail
  go_loopg [7, 8, 11] T (fun gk s _ i wr => ∃ y : Nat, y ≤ T ∧ gk = T - y ∧ i = .int .i64 y ∧ s = .int .i64 (acrN W zs col y) ∧ P1 w (.int .i64 W) (.int .i64 T) (.slice A n c) wr)
  case atStart => exact ⟨0, Nat.zero_le _, rfl, rfl, rfl, P1.new _ _ _ _ _⟩
  case round =>
    obtain ⟨y, hy, rfl, rfl, rfl, R⟩ := hrel
    have k1 := R.X.1
    have k2 := R.X.2.1
    by_cases hlt : y < T
    · obtain ⟨q1, q2⟩ := acr_index hc1 hc2 hlt
      obtain ⟨b, off, z, rfl, hz, hc⟩ := (h'.below R.B).atI (show y * W + col - 1 < n by rw [hsz.out]; exact q1)
      have HZ := Lib.hid (ent_of hz)
      obtain ⟨m0, m1⟩ := mul_nb (a := (y : Int)) (b := (W : Int)) (by omega) (by omega) (by omega) (by omega)
      have c3 : ((y : Int) * (W : Int) + (col : Int) - 1).toNat = y * W + col - 1 := by
        have : ((y : Int) * (W : Int)) = ((y * W : Nat) : Int) := by push_cast; rfl
        rw [this]; omega
      have c4 : (0 : Int) ≤ (y : Int) * (W : Int) + (col : Int) - 1 := by omega
      have c5 : (y : Int) * (W : Int) + (col : Int) - 1 < (n : Int) := by
        have : ((y : Int) * (W : Int)) = ((y * W : Nat) : Int) := by push_cast; rfl
        have := hsz.out
        omega
      have hlt2 := acrN_lt W zs col y
      have h64 : 2 ^ y ≤ 2 ^ 5 := Nat.pow_le_pow_right (by omega) (by omega)
      have OR := Lib.hid (or_pow' (show y < 6 by omega) hlt2)
      have HLT2 := Lib.hid hlt2
      have a64 : acrN W zs col y ≤ 64 := by omega
      clear hz hlt2 h64
      cases hz1 : (z == 1)
      · have HZ1 := Lib.hid hz1
        go_wp2_with fail
        go_roundg (T - (y + 1))
        case measure => omega
        case rel => exact ⟨y + 1, by omega, rfl, by go_num, by rw [acrN, HZ.out, HZ1.out]; rfl, R⟩
      · have HZ1 := Lib.hid hz1
        go_wp2_with fail
        go_roundg (T - (y + 1))
        case measure => omega
        case rel => exact ⟨y + 1, by omega, rfl, by go_num, by rw [acrN, HZ.out, HZ1.out, if_pos rfl, OR.out], R⟩
    · have e : y = T := by omega
      subst e
      go_wp2_with fail
      go_ret
      exact ⟨rfl, R.B⟩

/-! the plain law -/
/-- Does no entry of a column point to the west? -/
def noWest (W : Nat) (zs : List Int) (x : Nat) : Nat → Bool
  | 0 => true
  | y + 1 => noWest W zs x y && (ent zs (y * W + x) != 3)
theorem step_from {W T x y : Nat} (hx : 1 ≤ x) (hxW : x < W) : stepF W T (y * W + x - 1) 1 = ((y * W + x : Nat) : Int) ∧ stepF W T (y * W + x) 3 = ((y * W + x - 1 : Nat) : Int) := by
  have h1 : (y * W + x - 1) % W = x - 1 := by
    rw [show y * W + x - 1 = (x - 1) + W * y by rw [Nat.mul_comm]; omega, Nat.add_mul_mod_self_left, Nat.mod_eq_of_lt (by omega)]
  have h2 : (y * W + x) % W = x := by
    rw [show y * W + x = x + W * y by rw [Nat.mul_comm]; omega, Nat.add_mul_mod_self_left, Nat.mod_eq_of_lt hxW]
  constructor
  · unfold stepF; rw [if_pos rfl, h1, if_pos (by omega)]; omega
  · unfold stepF; rw [if_neg (by omega), if_neg (by omega), if_pos rfl, h2, if_pos (by omega)]; omega
theorem east_west {W T x y n : Nat} {bs : List Bool} {zs : List Int} (hx : 1 ≤ x) (hxW : x < W) (hy : y < T) (hn : n = W * T) (h : laysAll W T bs zs n = true) : (ent zs (y * W + x - 1) == 1) = (ent zs (y * W + x) == 3) := by
  obtain ⟨q1, q2⟩ := acr_index hx hxW hy
  obtain ⟨s1, s2⟩ := step_from (T := T) (y := y) hx hxW
  have a := laysAll_one (k := y * W + x - 1) (by omega) h
  have b := laysAll_one (k := y * W + x) (by omega) h
  rw [Bool.eq_iff_iff, beq_iff_eq, beq_iff_eq]
  constructor
  · intro e
    rw [laysOne, e, s1, Int.toNat_natCast] at a
    simp at a
    rw [a.2.2.2]; rfl
  · intro e
    rw [laysOne, e, s2, Int.toNat_natCast] at b
    simp at b
    rw [b.2.2]; rfl
theorem acr_zero {W T x n : Nat} {bs : List Bool} {zs : List Int} (hx : 1 ≤ x) (hxW : x < W) (hn : n = W * T) (h : laysAll W T bs zs n = true) : ∀ y, y ≤ T → (acrN W zs x y == 0) = noWest W zs x y
  | 0, _ => rfl
  | y + 1, hy => by
    rw [noWest, ← acr_zero hx hxW hn h y (by omega), acrN, bne, ← east_west hx hxW (show y < T by omega) hn h]
    have := Nat.pow_pos (n := y) (show 0 < 2 by omega)
    cases e : (ent zs (y * W + x - 1) == 1)
    · simp
    · rw [Bool.eq_iff_iff, beq_iff_eq, if_pos rfl]
      simp
/-- The columns from 1 to k that are free. -/
def colsL (f : Nat → Bool) : Nat → List Int
  | 0 => []
  | k + 1 => colsL f k ++ (if f (k + 1) then [((k + 1 : Nat) : Int)] else [])
theorem colsL_len (f : Nat → Bool) : ∀ k, (colsL f k).length ≤ k
  | 0 => Nat.le_refl _
  | k + 1 => by have := colsL_len f k; rw [colsL, List.length_append]; split <;> simp <;> omega
theorem colsL_congr {f g : Nat → Bool} : ∀ k, (∀ x, 1 ≤ x → x ≤ k → f x = g x) → colsL f k = colsL g k
  | 0, _ => rfl
  | k + 1, h => by rw [colsL, colsL, colsL_congr k (fun x h1 h2 => h x h1 (by omega)), h (k + 1) (by omega) (by omega)]
def faultsF (W T : Int) (n : Nat) (bs : List Bool) (m : Nat) (zs : List Int) : List Int := if laidB W T n bs m zs then colsL (fun x => noWest W.toNat zs x T.toNat) (W.toNat - 1) else []
theorem faults_acr {W T n : Nat} {bs : List Bool} {zs : List Int} (hn : n = W * T) (h : laysAll W T bs zs n = true) : colsL (fun x => noWest W zs x T) (W - 1) = colsL (fun x => acrN W zs x T == 0) (W - 1) :=
  colsL_congr _ (fun x h1 h2 => (acr_zero h1 (by omega) hn h T (Nat.le_refl _)).symm)

end Go.Proofs.Ytcnkpcnbobiodaa
