/-
  MatrixValid, both sides: what it returns; the law FnExactMatrixValid.
-/
import Derived.Test.YtepnhhehfkcgkaaMat
namespace Go.Proofs.Ytepnhhehfkcgkaa
open Go.RowKit

def entOk (z : Int) : Bool := inB z (-1) 1
def rowOk (n : Nat) (row : List Int) : Bool := decide (row.length = n) && row.all entOk
def matB (M : List (List Int)) : Bool := M.all (rowOk M.length) && decide (M.length ≤ 12)
theorem all_take_succ {α : Type} {p : α → Bool} {l : List α} {k : Nat} {x : α} (h : l[k]? = some x) (h1 : (l.take k).all p = true) (h2 : p x = true) : (l.take (k + 1)).all p = true := by
  rw [take_snoc h, List.all_append, h1]; simp [h2]
theorem all_false {α : Type} {p : α → Bool} {l : List α} {k : Nat} {x : α} (h : l[k]? = some x) (h2 : p x = false) : l.all p = false := by
  rw [List.all_eq_false]; exact ⟨x, List.mem_of_getElem? h, by simp [h2]⟩

theorem ent_closure (z : Int) (w : World) :
    Calls Try.prog 51 #[.int .i64 z] w fun e w' => e = .returned (.bool (!entOk z)) ∧ w = w' := by
  go_enter Try.func51, Try.ntmps51
  go_wp2_with (go_at_call 52; refine (in_any _ _ _ _).mono ?_; rintro e w' ⟨rfl, rfl⟩)
  go_ret
  exact ⟨rfl, rfl⟩

/-- What IndexFunc gives back: a place, or -1 where there is none. -/
def IxOf (P : Bool) (w : World) (e : Ending) (w' : World) : Prop := ∃ i : Int, e = .returned (.int .i64 i) ∧ (decide (0 ≤ i) = P) ∧ w = w'

set_option maxHeartbeats 400000 in
theorem ent_index (A : Option Addr) (n c : Nat) (row : List Int) (w : World) (hn : n ≤ 9223372036854775807) (h : Sl w A n (row.map (.int .i64))) :
    Calls Try.prog 81 #[.slice A n c, .func (.func 51) #[] #[]] w (IxOf (!row.all entOk) w) := by
  have hl := h.1
  rw [List.length_map] at hl
  have HL := Lib.hid hl
  clear hl
  go_enter Try.func81, Try.ntmps81
  go_wp2_with fail
  go_loop [5, 8] (fun _ i => ∃ k : Nat, k ≤ n ∧ i = .int .i64 k ∧ (row.take k).all entOk = true) (fun _ i => n - (intOf i).toNat)
  case atStart => exact ⟨0, Nat.zero_le _, rfl, rfl⟩
  case round =>
    obtain ⟨k, hk, rfl, hall⟩ := hrel
    have HA := Lib.hid hall
    clear hall
    by_cases hlt : k < n
    · obtain ⟨b, off, x, rfl, hx, hc⟩ := h.atI hlt
      have HX := Lib.hid hx
      clear hx
      cases hok : entOk x
      · have HO := Lib.hid hok
        go_wp2_with (go_at_call 51; refine (ent_closure x _).mono ?_; rintro e w' ⟨rfl, rfl⟩)
        go_ret
        exact ⟨k, rfl, by rw [all_false HX.out HO.out]; simp, rfl⟩
      · have HO := Lib.hid hok
        go_wp2_with (go_at_call 51; refine (ent_closure x _).mono ?_; rintro e w' ⟨rfl, rfl⟩)
        go_round
        case rel => exact ⟨k + 1, by omega, by go_num, all_take_succ HX.out HA.out HO.out⟩
        case measure => simp [intOf]; omega
    · have e : k = n := by omega
      subst e
      go_wp2_with fail
      go_ret
      refine ⟨-1, rfl, ?_, rfl⟩
      have := HA.out
      rw [List.take_of_length_le (by rw [HL.out]; exact Nat.le_refl _)] at this
      rw [this]; rfl

theorem ent_contains (A : Option Addr) (n c : Nat) (row : List Int) (w : World) (hn : n ≤ 9223372036854775807) (h : Sl w A n (row.map (.int .i64))) :
    Calls Try.prog 50 #[.slice A n c, .func (.func 51) #[] #[]] w fun e w' => e = .returned (.bool (!row.all entOk)) ∧ w = w' := by
  go_enter Try.func50, Try.ntmps50
  go_wp2_with (go_at_call 81; refine (ent_index A n c row _ hn h).mono ?_; rintro e w' ⟨i, rfl, hi, rfl⟩; have HI := Lib.hid hi; clear hi)
  go_ret
  exact ⟨ret_b HI.out, rfl⟩

set_option maxHeartbeats 800000 in
theorem mat_impl (A : Option Addr) (n c : Nat) (M : List (List Int)) (w : World) (hn : n ≤ 9223372036854775807) (h : Mx w A n M) :
    Calls Try.prog 13 #[.slice A n c] w fun e w' => e = .returned (.bool (matB M)) ∧ w = w' := by
  have HL := Lib.hid h.1
  go_enter Try.func13, Try.ntmps13
  go_wp2_with fail
  go_loop [4, 7] (fun _ i => ∃ k : Nat, k ≤ n ∧ i = .int .i64 k ∧ (M.take k).all (rowOk n) = true) (fun _ i => n - (intOf i).toNat)
  case atStart => exact ⟨0, Nat.zero_le _, rfl, rfl⟩
  case round =>
    obtain ⟨k, hk, rfl, hall⟩ := hrel
    have HA := Lib.hid hall
    clear hall
    by_cases hlt : k < n
    · obtain ⟨row, b, off, r, cc, hrow, rfl, hc, hs, hrl⟩ := h.at_ hlt
      have HR := Lib.hid hrow
      clear hrow
      by_cases hln : row.length = n
      · have hb1 : ((row.length : Int) != (n : Int)) = false := by rw [bne_eq_false_iff_eq]; omega
        cases hok : row.all entOk
        · have HN : Hid (matB M = false) := by
            show _ = _
            rw [matB, all_false HR.out (p := rowOk M.length) (by rw [rowOk, hok, Bool.and_false])]; rfl
          clear hln
          go_wp2_with (go_at_call 50; refine (ent_contains r row.length cc row _ hrl hs).mono ?_; rintro e w' ⟨rfl, rfl⟩)
          go_ret
          exact ⟨ret_b HN.out.symm, rfl⟩
        · have HO : Hid (rowOk n row = true) := by show _ = _; rw [rowOk, hok, hln]; simp
          clear hln
          go_wp2_with (go_at_call 50; refine (ent_contains r row.length cc row _ hrl hs).mono ?_; rintro e w' ⟨rfl, rfl⟩)
          go_round
          case rel => exact ⟨k + 1, by omega, by go_num, all_take_succ HR.out HA.out HO.out⟩
          case measure => simp [intOf]; omega
      · have hb1 : ((row.length : Int) != (n : Int)) = true := by rw [bne_iff_ne]; omega
        have HN : Hid (matB M = false) := by
          show _ = _
          rw [matB, all_false HR.out (p := rowOk M.length) (by rw [rowOk, HL.out, decide_eq_false hln, Bool.false_and])]; rfl
        clear hln
        go_wp2_with fail
        go_ret
        exact ⟨ret_b HN.out.symm, rfl⟩
    · have e : k = n := by omega
      subst e
      have HM : Hid (matB M = decide ((k : Int) ≤ 12)) := by
        show _ = _
        have := HA.out
        rw [List.take_of_length_le (by rw [HL.out]; exact Nat.le_refl _)] at this
        rw [matB, HL.out, this, Bool.true_and]
        by_cases h12 : k ≤ 12 <;> simp [h12] <;> omega
      go_wp2_with fail
      go_ret
      exact ⟨ret_b HM.out.symm, rfl⟩

set_option maxHeartbeats 1600000 in
theorem mat_spec (A : Option Addr) (n c : Nat) (M : List (List Int)) (w : World) (hn : n ≤ 9223372036854775807) (h : Mx w A n M) :
    Calls Try.prog 14 #[.slice A n c] w fun e w' => e = .returned (.bool (matB M)) ∧ w = w' := by
  have HL := Lib.hid h.1
  go_enter Try.func14, Try.ntmps14
  go_wp2_with fail
  go_loop [3, 4] (fun i _ => ∃ k : Nat, k ≤ n ∧ i = .int .i64 k ∧ (M.take k).all (rowOk n) = true) (fun i _ => n - (intOf i).toNat)
  case atStart => exact ⟨0, Nat.zero_le _, rfl, rfl⟩
  case round =>
    obtain ⟨k, hk, rfl, hall⟩ := hrel
    have HA := Lib.hid hall
    clear hall
    by_cases hlt : k < n
    · obtain ⟨row, b, off, r, cc, hrow, rfl, hc, hs, hrl⟩ := h.at_ hlt
      have HR := Lib.hid hrow
      clear hrow
      by_cases hln : row.length = n
      · have hb1 : ((row.length : Int) != (n : Int)) = false := by rw [bne_eq_false_iff_eq]; omega
        have HLN := Lib.hid hln
        clear hln
        go_wp2_with fail
        go_loop [4] (fun j => ∃ q : Nat, q ≤ row.length ∧ j = .int .i64 q ∧ (row.take q).all entOk = true) (fun j => row.length - (intOf j).toNat)
        case atStart => exact ⟨0, Nat.zero_le _, rfl, rfl⟩
        case round =>
          obtain ⟨q, hq, rfl, hall2⟩ := hrel
          have HA2 := Lib.hid hall2
          clear hall2
          by_cases hlt2 : q < row.length
          · obtain ⟨b2, off2, x, rfl, hx, hc2⟩ := hs.atI hlt2
            have HX := Lib.hid hx
            clear hx
            cases hok : entOk x
            · have HO := Lib.hid hok
              have HN : Hid (matB M = false) := by
                show _ = _
                rw [matB, all_false HR.out (p := rowOk M.length) (by rw [rowOk, all_false HX.out HO.out, Bool.and_false])]; rfl
              have hin : inB x (-1) 1 = false := hok
              clear hok
              go_wp2_with (go_at_call 53; refine (l1In_any _ _ _ _).mono ?_; rintro e w' ⟨rfl, rfl⟩)
              go_ret
              exact ⟨ret_b HN.out.symm, rfl⟩
            · have HO := Lib.hid hok
              have hin : inB x (-1) 1 = true := hok
              clear hok
              go_wp2_with (go_at_call 53; refine (l1In_any _ _ _ _).mono ?_; rintro e w' ⟨rfl, rfl⟩)
              go_round
              case rel => exact ⟨q + 1, by omega, by go_num, all_take_succ HX.out HA2.out HO.out⟩
              case measure => simp [intOf]; omega
          · have e : q = row.length := by omega
            subst e
            go_wp2_with fail
            go_round
            case rel =>
              refine ⟨k + 1, by omega, by go_num, all_take_succ HR.out HA.out ?_⟩
              have := HA2.out
              rw [List.take_length] at this
              rw [rowOk, this, HLN.out]; simp
            case measure => simp [intOf]; omega
      · have hb1 : ((row.length : Int) != (n : Int)) = true := by rw [bne_iff_ne]; omega
        have HN : Hid (matB M = false) := by
          show _ = _
          rw [matB, all_false HR.out (p := rowOk M.length) (by rw [rowOk, HL.out, decide_eq_false hln, Bool.false_and])]; rfl
        clear hln
        go_wp2_with fail
        go_ret
        exact ⟨ret_b HN.out.symm, rfl⟩
    · have e : k = n := by omega
      subst e
      have HM : Hid (matB M = decide ((k : Int) ≤ 12)) := by
        show _ = _
        have := HA.out
        rw [List.take_of_length_le (by rw [HL.out]; exact Nat.le_refl _)] at this
        rw [matB, HL.out, this, Bool.true_and]
        by_cases h12 : k ≤ 12 <;> simp [h12] <;> omega
      go_wp2_with fail
      go_ret
      exact ⟨ret_b HM.out.symm, rfl⟩

theorem mat_impl' (A : Option Addr) (n c : Nat) (M : List (List Int)) (w : World) (hn : n ≤ 9223372036854775807) (h : Mx w A n M) :
    Calls Try.prog 13 #[.slice A n c] w fun e w' => e = .returned (.bool (matB M)) ∧ Below w.heap.size w w' := (mat_impl A n c M w hn h).mono fun _ _ ⟨he, hw⟩ => ⟨he, by subst hw; exact Below.refl _ _⟩
theorem mat_spec' (A : Option Addr) (n c : Nat) (M : List (List Int)) (w : World) (hn : n ≤ 9223372036854775807) (h : Mx w A n M) :
    Calls Try.prog 14 #[.slice A n c] w fun e w' => e = .returned (.bool (matB M)) ∧ Below w.heap.size w w' := (mat_spec A n c M w hn h).mono fun _ _ ⟨he, hw⟩ => ⟨he, by subst hw; exact Below.refl _ _⟩

end Go.Proofs.Ytepnhhehfkcgkaa
