/-
  The laws' own helpers over int slices: sizes, copies, comparisons, marks.
-/
import Derived.Test.YtepnhhehfkcgkaaDoorLawB
namespace Go.Proofs.YtepnhhehfkcgkaaDoor
open Go.RowKit

theorem Tryd.infoInt : (Tryd.prog.info? 3).map (fun i => (i.zero, i.size, i.bytes)) = some (some (.int .i64 0), 1, 8) := by kernel_rfl

theorem Sl.ofDrewN {w wr : World} {A : Option Addr} {n q : Nat} {vs : List Value} (h : Sl w A n vs) (e : wr = w.drewN q) : Sl wr A n vs := by subst e; exact h


def eqI (xs ys : List Int) : Bool := decide (xs = ys)
theorem eqI_self (xs : List Int) : eqI xs xs = true := by simp [eqI]

set_option maxHeartbeats 400000 in
theorem eqIntS_q (A B : Option Addr) (n m c d : Nat) (xs ys : List Int) (w : World) (hn : n ≤ 9223372036854775807) (ha : Sl w A n (xs.map (.int .i64))) (hb : Sl w B m (ys.map (.int .i64))) :
    Calls Tryd.prog 12 #[.slice A n c, .slice B m d] w fun e w' => e = .returned (.bool (eqI xs ys)) ∧ ∃ q, w' = w.drewN q := by
  have la := ha.1
  have lb := hb.1
  rw [List.length_map] at la lb
  by_cases hne : n = m
  · subst hne
    have hnn : ((n : Int) != n) = false := by simp
    have LA := Lib.hid la
    have LB := Lib.hid lb
    clear la lb
    go_enter Tryd.func12, Tryd.ntmps12
    go_wp2
    go_loopw [5] (fun i wr => ∃ k q : Nat, k ≤ n ∧ i = .int .i64 k ∧ xs.take k = ys.take k ∧ wr = w.drewN q) (fun i _ => n - (intOf i).toNat)
    case atStart => exact ⟨0, 0, Nat.zero_le _, rfl, rfl, rfl⟩
    case round =>
      obtain ⟨k, q, hk, rfl, heq, hw⟩ := hrel
      have HW := Lib.hid hw
      clear hw
      have HE := Lib.hid heq
      clear heq hnn
      by_cases hlt : k < n
      · obtain ⟨b, off, x, rfl, hx, hc⟩ := (ha.ofDrewN HW.out).atI hlt
        obtain ⟨b', off', y, rfl, hy, hc'⟩ := (hb.ofDrewN HW.out).atI hlt
        have HX := Lib.hid hx
        have HY := Lib.hid hy
        clear hx hy
        by_cases hxy : x = y
        · subst hxy
          go_wp2
          go_quiet (fail)
          go_wp2
          go_roundw
          case rel => exact ⟨k + 1, _, by omega, by go_num, by rw [take_snoc HX.out, take_snoc HY.out, HE.out], by rw [HW.out, World.drewN_drewN]⟩
          case measure => simp [intOf]; omega
        · have hxb : (x == y) = false := by simpa using hxy
          have hno : eqI xs ys = false := by
            rw [eqI, decide_eq_false_iff_not]; rintro rfl; rw [HX.out] at HY; exact hxy (by simpa using HY.out)
          have HN := Lib.hid hno
          clear hno hxy
          go_wp2
          go_quiet (fail)
          go_wp2
          go_ret
          exact ⟨ret_b HN.out.symm, _, by rw [HW.out, World.drewN_drewN]⟩
      · have e : k = n := by omega
        subst e
        go_wp2
        go_ret
        refine ⟨ret_b ?_, _, HW.out⟩
        have h := HE.out
        rw [List.take_of_length_le (by rw [LA.out]; exact Nat.le_refl _), List.take_of_length_le (by rw [LB.out]; exact Nat.le_refl _)] at h
        simp [eqI, h]
  · have hnn : ((n : Int) != m) = true := by rw [bne_iff_ne]; omega
    have hno : eqI xs ys = false := by rw [eqI, decide_eq_false_iff_not]; rintro rfl; omega
    have HN := Lib.hid hno
    clear hno hne la lb
    go_enter Tryd.func12, Tryd.ntmps12
    go_wp2
    go_ret
    exact ⟨ret_b HN.out.symm, 0, rfl⟩
theorem eqIntS_any (A B : Option Addr) (n m c d : Nat) (xs ys : List Int) (w : World) (hn : n ≤ 9223372036854775807) (ha : Sl w A n (xs.map (.int .i64))) (hb : Sl w B m (ys.map (.int .i64))) :
    Calls Tryd.prog 12 #[.slice A n c, .slice B m d] w fun e w' => e = .returned (.bool (eqI xs ys)) ∧ Below w.heap.size w w' :=
  (eqIntS_q A B n m c d xs ys w hn ha hb).mono fun _ _ ⟨he, q, hw⟩ => ⟨he, by subst hw; exact below_drewN (Below.refl _ _) q⟩

/-- What the laws write into an int slice, from k on. -/
def marksI (k : Int) (n : Nat) : List Int := (List.range n).map fun (i : Nat) => k + i
theorem marksI_len (k : Int) (n : Nat) : (marksI k n).length = n := by simp [marksI]
theorem marksI_get (k : Int) (n i : Nat) (h : i < n) : (marksI k n)[i]? = some (k + i) := by simp [marksI, h]

set_option maxHeartbeats 400000 in
theorem markIntS_any {c0 : Nat} (A : Option Addr) (n c base top : Nat) (zs : List Int) (k : Int) (w : World) (hk0 : 0 ≤ k) (hk : k ≤ 4194304) (hn : n ≤ 4194304) (h : Own w base top 3 A n c0 (zs.map (.int .i64))) :
    Calls Tryd.prog 13 #[.slice A n c, .int .i64 k] w fun e w' => e = .returned (.int .i64 (k + n)) ∧ Own w' base top 3 A n c0 ((marksI k n).map (.int .i64)) ∧ w.grownBy w' (A.map (·.block)) := by
  have hlen := h.len
  rw [List.length_map] at hlen
  have HL := Lib.hid hlen
  clear hlen
  go_enter Tryd.func13, Tryd.ntmps13
  go_wp2
  go_loopw [1, 5] (fun kv iv wr => ∃ i : Nat, i ≤ n ∧ iv = .int .i64 i ∧ kv = .int .i64 (k + i) ∧ Own wr base top 3 A n c0 (((marksI k n).take i ++ zs.drop i).map (.int .i64)) ∧ w.grownBy wr (A.map (·.block))) (fun _ iv _ => n - (intOf iv).toNat)
  case atStart => exact ⟨0, Nat.zero_le _, rfl, by simp, by simpa using h, grown_refl _ _⟩
  case round =>
    obtain ⟨i, hi, rfl, rfl, hown, hg⟩ := hrel
    by_cases hlt : i < n
    · obtain ⟨g, hA, -, -⟩ := hown.form (by omega)
      subst hA
      have hfr := hown.frozen i
      obtain ⟨b', off', v', hA', -, hcs⟩ := hown.sl.at_ hlt
      obtain ⟨rfl, rfl⟩ : g = b' ∧ 0 = off' := by simpa using hA'
      have hcs' : wr.cell? ⟨g, i, none⟩ = some v' := by simpa using hcs
      clear hcs hA'
      go_wp2
      go_roundw
      case rel =>
        refine ⟨i + 1, by omega, by go_num, by go_num, ?_, grown_trans hg (Own.grownSet rfl i _)⟩
        have := hown.stored i hlt (.int .i64 (k + i))
        have hl : (((marksI k n).take i).map (Value.int .i64)).length = i := by simp [marksI_len]; omega
        rw [take_snoc (marksI_get k n i hlt)]
        rw [List.map_append, List.set_append_right _ _ (by omega), hl, Nat.sub_self] at this
        rw [show zs.drop i = zs[i]'(by have := HL.out; omega) :: zs.drop (i + 1) from List.drop_eq_getElem_cons _, List.map_cons, List.set_cons_zero] at this
        simpa using this
      case measure => simp [intOf]; omega
    · have e : i = n := by omega
      subst e
      go_wp2
      go_ret
      refine ⟨rfl, ?_, hg⟩
      rw [List.take_of_length_le (by rw [marksI_len]; exact Nat.le_refl _), List.drop_eq_nil_of_le (by rw [HL.out]; exact Nat.le_refl _), List.append_nil] at hown
      exact hown

set_option maxHeartbeats 400000 in
theorem heldIntS_any (A : Option Addr) (n c : Nat) (k : Int) (w : World) (hk0 : 0 ≤ k) (hk : k ≤ 4194304) (hn : n ≤ 4194304) (h : Sl w A n ((marksI k n).map (.int .i64))) :
    Calls Tryd.prog 14 #[.slice A n c, .int .i64 k] w fun e w' => e = .returned (.int .i64 (k + n)) ∧ Below w.heap.size w w' := by
  go_enter Tryd.func14, Tryd.ntmps14
  go_wp2
  go_loop [1, 5] (fun kv iv => ∃ i : Nat, i ≤ n ∧ iv = .int .i64 i ∧ kv = .int .i64 (k + i)) (fun _ iv => n - (intOf iv).toNat)
  case atStart => exact ⟨0, Nat.zero_le _, rfl, by simp⟩
  case round =>
    obtain ⟨i, hi, rfl, rfl⟩ := hrel
    by_cases hlt : i < n
    · obtain ⟨b, off, x, rfl, hx, hc⟩ := h.atI hlt
      rw [marksI_get k n i hlt] at hx
      obtain rfl : (k + i) = x := by simpa using hx
      clear hx
      go_wp2
      go_round
      case rel => exact ⟨i + 1, by omega, by go_num, by go_num⟩
      case measure => simp [intOf]; omega
    · have e : i = n := by omega
      subst e
      go_wp2
      go_ret
      exact ⟨rfl, Below.refl _ _⟩

end Go.Proofs.YtepnhhehfkcgkaaDoor
