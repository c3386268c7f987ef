/-
  Slices of int slices: how they read; the laws' helpers over them; MatrixValid, both sides.
-/
import Derived.Test.YtepnhhehfkcgkaaLawI
import Derived.Test.YtepnhhehfkcgkaaMem2
namespace Go.Proofs.Ytepnhhehfkcgkaa
open Go.RowKit

/-- The slice of slices at A reads as the rows M. -/
def Mx (w : World) (A : Option Addr) (n : Nat) (M : List (List Int)) : Prop :=
  M.length = n ∧ ∀ k row, M[k]? = some row → ∃ b off r c, A = some ⟨b, off, none⟩ ∧ w.cell? ⟨b, off + k, none⟩ = some (.slice r row.length c) ∧ Sl w r row.length (row.map (.int .i64)) ∧ row.length ≤ 9223372036854775807
theorem Mx.below {w w' : World} {A : Option Addr} {n : Nat} {M : List (List Int)} (h : Mx w A n M) (hb : Below w.heap.size w w') : Mx w' A n M := by
  refine ⟨h.1, fun k row hk => ?_⟩
  obtain ⟨b, off, r, c, hA, hc, hs, hl⟩ := h.2 k row hk
  exact ⟨b, off, r, c, hA, (hb.cell (World.block_lt_of_cell? w _ hc)).trans hc, hs.below hb, hl⟩
theorem Mx.drewN {w : World} {A : Option Addr} {n : Nat} {M : List (List Int)} (h : Mx w A n M) (q : Nat) : Mx (w.drewN q) A n M := h
theorem Mx.ofDrewN {w wr : World} {A : Option Addr} {n q : Nat} {M : List (List Int)} (h : Mx w A n M) (e : wr = w.drewN q) : Mx wr A n M := by subst e; exact h
theorem Mx.alloc {w : World} {A : Option Addr} {n : Nat} {M : List (List Int)} (h : Mx w A n M) (o : Obj) : Mx (w.alloc o) A n M := h.below (below1 w o)
theorem Mx.at_ {w : World} {A : Option Addr} {n : Nat} {M : List (List Int)} (h : Mx w A n M) {k : Nat} (hk : k < n) :
    ∃ row b off r c, M[k]? = some row ∧ A = some ⟨b, off, none⟩ ∧ w.cell? ⟨b, off + k, none⟩ = some (.slice r row.length c) ∧ Sl w r row.length (row.map (.int .i64)) ∧ row.length ≤ 9223372036854775807 := by
  have hl : k < M.length := by have := h.1; omega
  obtain ⟨b, off, r, c, hh⟩ := h.2 k M[k] (List.getElem?_eq_getElem hl)
  exact ⟨M[k], b, off, r, c, List.getElem?_eq_getElem hl, hh⟩

/-! ### sizes -/
def szL (l : Int) : List (List Int) → Int
  | [] => l
  | r :: rs => if l < r.length then -1 else szL (l - r.length) rs
def szM (l : Int) (M : List (List Int)) : Int := if l < M.length then -1 else szL (l - M.length) M
theorem szL_neg : ∀ (M : List (List Int)) (l : Int), 0 ≤ l → -1 ≤ szL l M ∧ szL l M ≤ l
  | [], l, h => by rw [szL]; omega
  | r :: rs, l, h => by
    rw [szL]
    split
    · omega
    · have := szL_neg rs (l - r.length) (by omega); omega
theorem szL_rows : ∀ (M : List (List Int)) (l : Int), 0 ≤ l → 0 ≤ szL l M → ∀ row ∈ M, (row.length : Int) ≤ l
  | [], _, _, _, row, hr => by cases hr
  | r :: rs, l, h, h1, row, hr => by
    rw [szL] at h1
    split at h1
    · omega
    · rcases List.mem_cons.1 hr with rfl | hr
      · omega
      · have := szL_rows rs (l - r.length) (by omega) h1 row hr; omega

theorem szIntS_any (A : Option Addr) (n c : Nat) (left : Int) (w : World) (hn : n ≤ 9223372036854775807) (h0 : 0 ≤ left) (h1 : left ≤ 1048576) :
    Calls Try.prog 55 #[.slice A n c, .int .i64 left] w fun e w' => e = .returned (.int .i64 (szV left n)) ∧ w = w' := by
  by_cases h : left < n
  · have h2 : left - n < 0 := by omega
    go_enter Try.func55, Try.ntmps55
    go_wp2
    go_ret
    exact ⟨ret_i (by rw [szV, if_pos h]), rfl⟩
  · have h2 : 0 ≤ left - n := by omega
    go_enter Try.func55, Try.ntmps55
    go_wp2
    go_ret
    exact ⟨ret_i (by rw [szV, if_neg (by omega)]), rfl⟩
theorem szV_bd {left : Int} {n : Nat} (h0 : 0 ≤ left) (h1 : left ≤ 1048576) : -1 ≤ szV left n ∧ szV left n ≤ 1048576 := by rw [szV]; split <;> omega

set_option maxHeartbeats 400000 in
theorem szIntSS_any (A : Option Addr) (n c : Nat) (M : List (List Int)) (left : Int) (w : World) (hn : n ≤ 9223372036854775807) (h : Mx w A n M) (h0 : 0 ≤ left) (h1 : left ≤ 1048576) :
    Calls Try.prog 16 #[.slice A n c, .int .i64 left] w fun e w' => e = .returned (.int .i64 (szM left M)) ∧ w = w' := by
  have hl := h.1
  by_cases hbig : left < n
  · have E : Hid (szM left M = -1) := by show _ = _; rw [szM, hl, if_pos hbig]
    have h2 : left - n < 0 := by omega
    clear hl
    go_enter Try.func16, Try.ntmps16
    go_wp2_with fail
    go_ret
    exact ⟨ret_i E.out.symm, rfl⟩
  · have E : Hid (szM left M = szL (left - n) M) := by show _ = _; rw [szM, hl, if_neg hbig]
    have h2 : 0 ≤ left - n := by omega
    have HL := Lib.hid hl
    clear hl
    go_enter Try.func16, Try.ntmps16
    go_wp2_with fail
    go_loop [1, 5] (fun l i => ∃ (k : Nat) (v : Int), k ≤ n ∧ i = .int .i64 k ∧ l = .int .i64 v ∧ 0 ≤ v ∧ v ≤ 1048576 ∧ szL v (M.drop k) = szL (left - n) M) (fun _ i => n - (intOf i).toNat)
    case atStart => exact ⟨0, left - n, Nat.zero_le _, rfl, rfl, h2, by omega, rfl⟩
    case round =>
      obtain ⟨k, v, hk, rfl, rfl, hv0, hv1, hv⟩ := hrel
      have HV := Lib.hid hv
      clear hv
      by_cases hlt : k < n
      · obtain ⟨row, b, off, r, cc, hrow, rfl, hc, hs, hrl⟩ := h.at_ hlt
        have HR := Lib.hid hrow
        clear hrow
        have hd : M.drop k = row :: M.drop (k + 1) := by
          have hkl : k < M.length := by have := HL.out; omega
          rw [List.drop_eq_getElem_cons hkl]
          have := HR.out
          rw [List.getElem?_eq_getElem hkl] at this
          injection this with this
          rw [this]
        have HD := Lib.hid hd
        clear hd
        have hvb := szV_bd (n := row.length) hv0 hv1
        by_cases hr : v < row.length
        · have e : szV v row.length = -1 := by rw [szV, if_pos hr]
          have HE := Lib.hid e
          clear e
          go_wp2_with (go_at_call 55; refine (szIntS_any _ row.length cc v _ hrl hv0 hv1).mono ?_; rintro e w' ⟨rfl, rfl⟩; rw [HE.out])
          go_ret
          refine ⟨ret_i ?_, rfl⟩
          rw [E.out, ← HV.out, HD.out, szL, if_pos (by omega)]
        · have e : szV v row.length = v - row.length := by rw [szV, if_neg hr]
          have HE := Lib.hid e
          clear e
          have hr' : 0 ≤ v - (row.length : Int) := by omega
          go_wp2_with (go_at_call 55; refine (szIntS_any _ row.length cc v _ hrl hv0 hv1).mono ?_; rintro e w' ⟨rfl, rfl⟩; rw [HE.out])
          go_round
          case rel =>
            refine ⟨k + 1, v - row.length, by omega, by go_num, rfl, by omega, by omega, ?_⟩
            rw [← HV.out, HD.out, szL, if_neg (by omega)]
          case measure => simp [intOf]; omega
      · have e : k = n := by omega
        subst e
        go_wp2_with fail
        go_ret
        refine ⟨ret_i ?_, rfl⟩
        rw [E.out, ← HV.out, List.drop_eq_nil_of_le (by rw [HL.out]; exact Nat.le_refl _)]; rfl

/-! ### copies -/
theorem Try.infoInts : (Try.prog.info? 39).map (fun i => (i.zero, i.size, i.bytes)) = some (some (.slice none 0 0), 1, 24) := by kernel_rfl

set_option maxHeartbeats 800000 in
theorem toIntSS_any (A : Option Addr) (n c : Nat) (M : List (List Int)) (w : World) (hn : n ≤ 1048576) (hr : ∀ row ∈ M, row.length ≤ 1048576) (h : Mx w A n M) :
    Calls Try.prog 18 #[.slice A n c] w fun e w' => ∃ g, e = .returned (.slice (some ⟨g, 0, none⟩) n n) ∧ Mx w' (some ⟨g, 0, none⟩) n M ∧ Below w.heap.size w w' := by
  have hmk := run_make_row' (P := Try.prog) 23 39 (.slice none 0 0) 24 Try.underlying23 Try.infoInts rfl .i64 .i64 n (by omega) (by omega)
  have HL := Lib.hid h.1
  go_enter Try.func18, Try.ntmps18
  go_wp2_with fail
  go_loopw [4] (fun i wr => ∃ (k : Nat) (vs : List Value), k ≤ n ∧ i = .int .i64 k ∧ vs.length = k ∧ Own wr w.heap.size (w.heap.size + 1) 39 (some ⟨w.heap.size, 0, none⟩) n n (vs ++ List.replicate (n - k) (.slice none 0 0)) ∧ Below w.heap.size w wr ∧ w.heap.size < wr.heap.size ∧
      ∀ j row, j < k → M[j]? = some row → ∃ g cc, vs[j]? = some (.slice (some ⟨g, 0, none⟩) row.length cc) ∧ w.heap.size < g ∧ Sl wr (some ⟨g, 0, none⟩) row.length (row.map (.int .i64))) (fun i _ => n - (intOf i).toNat)
  case atStart => exact ⟨0, [], Nat.zero_le _, rfl, rfl, by simpa [toList_madeCells_one] using Own.made (w := w) (base := w.heap.size) (e := 39) (cs := madeCells #[.slice none 0 0] n) (n := n) (Nat.le_refl _) (by unfold maxLen; omega) (by rw [← Array.length_toList, toList_madeCells_one, List.length_replicate]), below1 _ _, by simp, fun j _ hj => absurd hj (by omega)⟩
  case round =>
    obtain ⟨k, vs, hk, rfl, hvl, hown, hb, hsz, hrows⟩ := hrel
    have HRW := Lib.hid hrows
    have HVL := Lib.hid hvl
    clear hrows hvl hmk
    by_cases hlt : k < n
    · obtain ⟨row, b, off, r, cc, hrow, rfl, hc, hs, hrl⟩ := (h.below hb).at_ hlt
      have hrl2 := hr row (List.mem_of_getElem? hrow)
      have HR := Lib.hid hrow
      clear hrow
      go_wp2_with fail
      refine (toIntS_any r row.length cc row _ hrl2 hs).mono ?_; rintro e w1 ⟨g, rfl, hown1, hb1⟩
      have hown2 := hown.below hb1
      have hfr := hown2.frozen k
      obtain ⟨b', off', v', hA', -, hcs⟩ := hown2.sl.at_ hlt
      obtain ⟨rfl, rfl⟩ : w.heap.size = b' ∧ 0 = off' := by simpa using hA'
      have hcs' : w1.cell? ⟨w.heap.size, k, none⟩ = some v' := by simpa using hcs
      have hg1 := (hown1.2 g 0 rfl).1
      have hz1 := hb1.size
      clear hcs hA' hc
      go_wp2_with fail
      go_roundw
      case rel =>
        have hst := hown2.stored k hlt (.slice (some ⟨g, 0, none⟩) row.length row.length)
        rw [List.set_append_right _ _ (by rw [HVL.out]; exact Nat.le_refl _), HVL.out, Nat.sub_self, show n - k = (n - (k + 1)) + 1 by omega, List.replicate_succ, List.set_cons_zero] at hst
        refine ⟨k + 1, vs ++ [.slice (some ⟨g, 0, none⟩) row.length row.length], by omega, by go_num, by rw [List.length_append, HVL.out]; rfl, by simpa using hst, (belowW hb hb1).setCell (Nat.le_refl _) _, by simp; omega, fun j row' hj hj' => ?_⟩
        by_cases hjk : j < k
        · obtain ⟨g', cc', h1, h2, h3⟩ := HRW.out j row' hjk hj'
          refine ⟨g', cc', by rw [List.getElem?_append_left (by rw [HVL.out]; exact hjk)]; exact h1, h2, (h3.below hb1).setFar (fun b off hb => ?_) _⟩
          simp at hb; show b ≠ w.heap.size; omega
        · have e : j = k := by omega
          subst e
          rw [HR.out] at hj'
          injection hj' with hj'
          subst hj'
          refine ⟨g, row.length, by rw [List.getElem?_append_right (by rw [HVL.out]; exact Nat.le_refl _), HVL.out, Nat.sub_self]; rfl, by omega, hown1.sl.setFar (fun b off hb => ?_) _⟩
          simp at hb; show b ≠ w.heap.size; omega
      case measure => simp [intOf]; omega
    · have e : k = n := by omega
      subst e
      go_wp2_with fail
      go_ret
      refine ⟨w.heap.size, rfl, ⟨HL.out, fun j row hj => ?_⟩, hb⟩
      have hj' : j < k := by have := lt_of_get hj; have := HL.out; omega
      obtain ⟨g, cc, h1, h2, h3⟩ := HRW.out j row hj' hj
      have hcell := hown.sl
      obtain ⟨b, off, hA, hcs⟩ := hcell.2 (by omega)
      obtain ⟨rfl, rfl⟩ : w.heap.size = b ∧ 0 = off := by simpa using hA
      refine ⟨w.heap.size, 0, some ⟨g, 0, none⟩, cc, rfl, hcs j _ (by rw [List.getElem?_append_left (by rw [HVL.out]; exact hj')]; exact h1), h3, by have := hr row (List.mem_of_getElem? hj); omega⟩

def eqM (M N : List (List Int)) : Bool := decide (M = N)
theorem eqM_self (M : List (List Int)) : eqM M M = true := by simp [eqM]

set_option maxHeartbeats 800000 in
theorem eqIntSS_self (A B : Option Addr) (n c d : Nat) (M : List (List Int)) (w : World) (hn : n ≤ 9223372036854775807) (ha : Mx w A n M) (hb : Mx w B n M) :
    Calls Try.prog 20 #[.slice A n c, .slice B n d] w fun e w' => e = .returned (.bool true) ∧ Below w.heap.size w w' := by
  have hnn : ((n : Int) != n) = false := by simp
  go_enter Try.func20, Try.ntmps20
  go_wp2_with fail
  go_loopw [5] (fun i wr => ∃ k q : Nat, k ≤ n ∧ i = .int .i64 k ∧ wr = w.drewN q) (fun i _ => n - (intOf i).toNat)
  case atStart => exact ⟨0, 0, Nat.zero_le _, rfl, rfl⟩
  case round =>
    obtain ⟨k, q, hk, rfl, hw⟩ := hrel
    have HW := Lib.hid hw
    clear hnn hw
    by_cases hlt : k < n
    · obtain ⟨row, b, off, r, cc, hrow, rfl, hc, hs, hrl⟩ := (ha.ofDrewN HW.out).at_ hlt
      obtain ⟨row', b', off', r', cc', hrow', rfl, hc', hs', hrl'⟩ := (hb.ofDrewN HW.out).at_ hlt
      obtain rfl : row' = row := by rw [hrow] at hrow'; injection hrow' with h; exact h.symm
      clear hrow hrow'
      have h0k : (0 : Int) ≤ (k : Int) := by omega
      have hkn : (k : Int) < (n : Int) := by omega
      have hself := eqI_self row'
      go_wp2_with fail
      go_quiet ((go_at_call 40; exact Calls.quiet_of (eqIntS_q r r' _ _ cc cc' row' row' _ hrl (hs.drewN _) (hs'.drewN _))))
      go_wp2_with fail
      go_roundw
      case rel => exact ⟨k + 1, _, by omega, by go_num, by rw [HW.out, World.drewN_drewN]⟩
      case measure => simp [intOf]; omega
    · have e : k = n := by omega
      subst e
      go_wp2_with fail
      go_ret
      exact ⟨rfl, by rw [HW.out]; exact below_drewN (Below.refl _ _) _⟩

end Go.Proofs.Ytepnhhehfkcgkaa
