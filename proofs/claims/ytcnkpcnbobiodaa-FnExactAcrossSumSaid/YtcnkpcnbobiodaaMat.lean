/-
  Slices of int slices: how they read; the laws' helpers over them; MatrixValid, both sides.
-/
import Derived.Test.YtcnkpcnbobiodaaLawI
import Derived.Test.YtcnkpcnbobiodaaMem2
namespace Go.Proofs.Ytcnkpcnbobiodaa
open Go.RowKit

/-- The slice of slices at A reads as the rows M. -/
def Mx (w : World) (A : Option Addr) (n : Nat) (M : List (List Int)) : Prop :=
  M.length = n ∧ ∀ k row, M[k]? = some row → ∃ b off r c, A = some ⟨b, off, none⟩ ∧ w.cell? ⟨b, off + k, none⟩ = some (.slice r row.length c) ∧ Sl w r row.length (row.map (.int .i64)) ∧ row.length ≤ 9223372036854775807
theorem Mx.below {w w' : World} {A : Option Addr} {n : Nat} {M : List (List Int)} (h : Mx w A n M) (hb : Below w.heap.size w w') : Mx w' A n M := by
  refine ⟨h.1, fun k row hk => ?_⟩
  obtain ⟨b, off, r, c, hA, hc, hs, hl⟩ := h.2 k row hk
  exact ⟨b, off, r, c, hA, (hb.cell (World.block_lt_of_cell? w _ hc)).trans hc, hs.below hb, hl⟩
theorem Mx.drewN {w : World} {A : Option Addr} {n : Nat} {M : List (List Int)} (h : Mx w A n M) (q : Nat) : Mx (w.drewN q) A n M := h
theorem Mx.ofDrewN {w wr : World} {A : Option Addr} {n q : Nat} {M : List (List Int)} (h : Mx w A n M) (e : wr = w.drewN q) : Mx wr A n M := by subst e; exact h
theorem Mx.alloc {w : World} {A : Option Addr} {n : Nat} {M : List (List Int)} (h : Mx w A n M) (o : Obj) : Mx (w.alloc o) A n M := h.below (below1 w o)
theorem Mx.at_ {w : World} {A : Option Addr} {n : Nat} {M : List (List Int)} (h : Mx w A n M) {k : Nat} (hk : k < n) :
    ∃ row b off r c, M[k]? = some row ∧ A = some ⟨b, off, none⟩ ∧ w.cell? ⟨b, off + k, none⟩ = some (.slice r row.length c) ∧ Sl w r row.length (row.map (.int .i64)) ∧ row.length ≤ 9223372036854775807 := by
  have hl : k < M.length := by have := h.1; omega
  obtain ⟨b, off, r, c, hh⟩ := h.2 k M[k] (List.getElem?_eq_getElem hl)
  exact ⟨M[k], b, off, r, c, List.getElem?_eq_getElem hl, hh⟩

/-! ### sizes -/
def szL (l : Int) : List (List Int) → Int
  | [] => l
  | r :: rs => if l < r.length then -1 else szL (l - r.length) rs
def szM (l : Int) (M : List (List Int)) : Int := if l < M.length then -1 else szL (l - M.length) M
theorem szL_neg : ∀ (M : List (List Int)) (l : Int), 0 ≤ l → -1 ≤ szL l M ∧ szL l M ≤ l
  | [], l, h => by rw [szL]; omega
  | r :: rs, l, h => by
    rw [szL]
    split
    · omega
    · have := szL_neg rs (l - r.length) (by omega); omega
theorem szL_rows : ∀ (M : List (List Int)) (l : Int), 0 ≤ l → 0 ≤ szL l M → ∀ row ∈ M, (row.length : Int) ≤ l
  | [], _, _, _, row, hr => by cases hr
  | r :: rs, l, h, h1, row, hr => by
    rw [szL] at h1
    split at h1
    · omega
    · rcases List.mem_cons.1 hr with rfl | hr
      · omega
      · have := szL_rows rs (l - r.length) (by omega) h1 row hr; omega

theorem szV_bd {left : Int} {n : Nat} (h0 : 0 ≤ left) (h1 : left ≤ 1048576) : -1 ≤ szV left n ∧ szV left n ≤ 1048576 := by rw [szV]; split <;> omega


/-! ### copies -/

def eqM (M N : List (List Int)) : Bool := decide (M = N)
theorem eqM_self (M : List (List Int)) : eqM M M = true := by simp [eqM]

set_option maxHeartbeats 800000 in
theorem eqIntSS_self (A B : Option Addr) (n c d : Nat) (M : List (List Int)) (w : World) (hn : n ≤ 9223372036854775807) (ha : Mx w A n M) (hb : Mx w B n M) :
    Calls Try.prog 36 #[.slice A n c, .slice B n d] w fun e w' => e = .returned (.bool true) ∧ Below w.heap.size w w' := by
  have hnn : ((n : Int) != n) = false := by simp
  go_enter Try.func36, Try.ntmps36
  go_wp2_with fail
  go_loopw [5] (fun i wr => ∃ k q : Nat, k ≤ n ∧ i = .int .i64 k ∧ wr = w.drewN q) (fun i _ => n - (intOf i).toNat)
  case atStart => exact ⟨0, 0, Nat.zero_le _, rfl, rfl⟩
  case round =>
    obtain ⟨k, q, hk, rfl, hw⟩ := hrel
    have HW := Lib.hid hw
    clear hnn hw
    by_cases hlt : k < n
    · obtain ⟨row, b, off, r, cc, hrow, rfl, hc, hs, hrl⟩ := (ha.ofDrewN HW.out).at_ hlt
      obtain ⟨row', b', off', r', cc', hrow', rfl, hc', hs', hrl'⟩ := (hb.ofDrewN HW.out).at_ hlt
      obtain rfl : row' = row := by rw [hrow] at hrow'; injection hrow' with h; exact h.symm
      clear hrow hrow'
      have h0k : (0 : Int) ≤ (k : Int) := by omega
      have hkn : (k : Int) < (n : Int) := by omega
      have hself := eqI_self row'
      go_wp2_with fail
      go_quiet ((go_at_call 25; exact Calls.quiet_of (eqIntS_q r r' _ _ cc cc' row' row' _ hrl (hs.drewN _) (hs'.drewN _))))
      go_wp2_with fail
      go_roundw
      case rel => exact ⟨k + 1, _, by omega, by go_num, by rw [HW.out, World.drewN_drewN]⟩
      case measure => simp [intOf]; omega
    · have e : k = n := by omega
      subst e
      go_wp2_with fail
      go_ret
      exact ⟨rfl, by rw [HW.out]; exact below_drewN (Below.refl _ _) _⟩

end Go.Proofs.Ytcnkpcnbobiodaa
