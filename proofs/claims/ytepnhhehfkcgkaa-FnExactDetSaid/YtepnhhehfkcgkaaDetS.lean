/-
  Det of the reference: what it returns.
-/
import Derived.Test.YtepnhhehfkcgkaaDetI
import Derived.Deep.LoopGhost
import Derived.Deep.RegionHeld3
namespace Go.Proofs.Ytepnhhehfkcgkaa
open Go.RowKit
open Dt (EE elimF swapF piv Pv detS)

/-- The numbers while row i is at work, from the right. -/
def partR (F : Nat → Nat → Int) (k : Nat) (l : Int) (i t i' j' : Nat) : Int := if k < i' ∧ k ≤ j' ∧ (i' < i ∨ (i' = i ∧ t ≤ j')) then EE F k i' j' l else F i' j'
theorem partR_start (F : Nat → Nat → Int) (k : Nat) (l : Int) (n i' j' : Nat) (hj : j' < n) : partR F k l (k + 1) n i' j' = F i' j' := by rw [partR, if_neg (by omega)]
theorem partR_row (F : Nat → Nat → Int) (k : Nat) (l : Int) (_n i i' j' : Nat) : partR F k l i k i' j' = (if k < i' ∧ k ≤ j' ∧ i' < i + 1 then EE F k i' j' l else F i' j') := by
  rw [partR]
  by_cases h : k < i' ∧ k ≤ j' ∧ i' < i + 1
  · rw [if_pos h, if_pos (by omega)]
  · rw [if_neg h, if_neg (by omega)]
theorem partR_row2 (F : Nat → Nat → Int) (k : Nat) (l : Int) (n i i' j' : Nat) (hj : j' < n) : (if k < i' ∧ k ≤ j' ∧ i' < i + 1 then EE F k i' j' l else F i' j') = partR F k l (i + 1) n i' j' := by
  rw [partR]
  by_cases h : k < i' ∧ k ≤ j' ∧ i' < i + 1
  · rw [if_pos h, if_pos (by omega)]
  · rw [if_neg h, if_neg (by omega)]
theorem partR_end (F : Nat → Nat → Int) (k : Nat) (l : Int) (n i' j' : Nat) (hi : i' < n) (hj : k + 1 ≤ j') : partR F k l n n i' j' = elimF F k l i' j' := by
  rw [partR, elimF]
  by_cases h : k < i' ∧ k < j'
  · rw [if_pos h, if_pos (by omega)]
  · rw [if_neg h, if_neg (by omega)]
theorem partR_step (F : Nat → Nat → Int) (k : Nat) (l : Int) (i j : Nat) (hi : k < i) (hj : k ≤ j) (i' j' : Nat) : (if i' = i ∧ j' = j then EE F k i j l else partR F k l i (j + 1) i' j') = partR F k l i j i' j' := by
  by_cases e : i' = i ∧ j' = j
  · obtain ⟨rfl, rfl⟩ := e
    rw [if_pos ⟨rfl, rfl⟩, partR, if_pos (by omega)]
  · rw [if_neg e, partR, partR]
    by_cases h : k < i' ∧ k ≤ j' ∧ (i' < i ∨ (i' = i ∧ j + 1 ≤ j'))
    · rw [if_pos h, if_pos (by omega)]
    · rw [if_neg h, if_neg (by omega)]
theorem partR_old (F : Nat → Nat → Int) (k : Nat) (l : Int) (i t i' j' : Nat) (h : ¬ (k < i' ∧ k ≤ j' ∧ (i' < i ∨ (i' = i ∧ t ≤ j')))) : partR F k l i t i' j' = F i' j' := by rw [partR, if_neg h]

/-- What Det gives back. -/
def detF (M : List (List Int)) : Int := if matB M then detS M.length M.length 0 (mF M) 1 1 else 0
theorem mat_rows {M : List (List Int)} (h : matB M = true) : M.length ≤ 12 ∧ ∀ row ∈ M, row.length = M.length := by
  rw [matB, Bool.and_eq_true, List.all_eq_true, decide_eq_true_eq] at h
  refine ⟨h.2, fun row hr => ?_⟩
  have := h.1 row hr
  rw [rowOk, Bool.and_eq_true, decide_eq_true_eq] at this
  exact this.1

theorem det_impl (A : Option Addr) (n c : Nat) (M : List (List Int)) (w : World) (hn : n ≤ 9223372036854775807) (h : Mx w A n M) :
    Calls Try.prog 19 #[.slice A n c] w fun e w' => e = .returned (.int .i64 (detF M)) ∧ Below w.heap.size w w' := by
  have hl := h.1
  cases hv : matB M
  · have E : Hid (detF M = 0) := by show _ = _; rw [detF, hv]; rfl
    have HV := Lib.hid hv
    clear hv
    go_enter Try.func19, Try.ntmps19
    go_wp2_with fail
    refine (mat_impl' A n c M _ hn h).mono ?_; rintro e w1 ⟨rfl, hb1⟩
    rw [HV.out]
    go_wp2_with fail
    go_ret
    exact ⟨ret_i E.out.symm, hb1⟩
  · obtain ⟨h12, hr⟩ := mat_rows hv
    have E : Hid (detF M = detS n n 0 (mF M) 1 1) := by show _ = _; rw [detF, hv, hl]; rfl
    have HV := Lib.hid hv
    rw [hl] at h12 hr
    have HR := Lib.hid hr
    clear hv hr
    go_enter Try.func19, Try.ntmps19
    go_wp2_with fail
    refine (mat_impl' A n c M _ hn h).mono ?_; rintro e w1 ⟨rfl, hb1⟩
    rw [HV.out]
    go_wp2_with fail
    refine (det_core A n c M _ h12 (h.below hb1) HR.out).mono ?_; rintro e w2 ⟨rfl, hb2⟩
    go_wp2_with fail
    go_ret
    exact ⟨ret_i E.out.symm, belowW hb1 hb2⟩

set_option maxRecDepth 100000 in
set_option maxHeartbeats 8000000 in
theorem det_spec (A : Option Addr) (n c : Nat) (M : List (List Int)) (w : World) (hn : n ≤ 9223372036854775807) (h : Mx w A n M) :
    Calls Try.prog 17 #[.slice A n c] w fun e w' => e = .returned (.int .i64 (detF M)) ∧ Below w.heap.size w w' := by
  have hl := h.1
  cases hv : matB M
  · have E : Hid (detF M = 0) := by show _ = _; rw [detF, hv]; rfl
    have HV := Lib.hid hv
    clear hv
    go_enter Try.func17, Try.ntmps17
    go_wp2_with fail
    refine (mat_spec' A n c M _ hn h).mono ?_; rintro e w1 ⟨rfl, hb1⟩
    rw [HV.out]
    go_wp2_with fail
    go_ret
    exact ⟨ret_i E.out.symm, hb1⟩
  obtain ⟨h12, hr⟩ := mat_rows hv
  have E : Hid (detF M = detS n n 0 (mF M) 1 1) := by show _ = _; rw [detF, hv, hl]; rfl
  have HV := Lib.hid hv
  rw [hl] at h12 hr
  have HRL := Lib.hid hr
  have HL := Lib.hid hl
  clear hv hr hl
  go_enter Try.func17, Try.ntmps17
  go_wp2_with fail
  refine (mat_spec' A n c M _ hn h).mono ?_; rintro e w1 ⟨rfl, hb1⟩
  rw [HV.out]
  have L0 := LL.made w1 (base := w.heap.size) hb1.size
  go_wp2_with fail
  go_loopg [3, 4] n (fun gk s3 s4 wx => ∃ (i : Nat) (C : Option Addr) (c0 : Nat) (gs : List Nat), i ≤ n ∧ gk = n - i ∧ s4 = .int .i64 i ∧ s3 = .slice C i c0 ∧ (∃ b, C = some ⟨b, 0, none⟩) ∧ LL wx w.heap.size C c0 gs (M.take i) ∧ Below w.heap.size w wx)
  case atStart => exact ⟨0, _, 0, [], Nat.zero_le _, rfl, rfl, rfl, ⟨_, rfl⟩, by rw [List.take_zero]; exact L0, belowA hb1⟩
  case round =>
    clear L0
    obtain ⟨i, C, c0, gs, hi, rfl, rfl, rfl, ⟨D, rfl⟩, L, B⟩ := hrel
    have zB := B.size
    by_cases hlt : i < n
    · obtain ⟨row, b, off, r, cc, hrow, rfl, hc, hs, -⟩ := (h.below B).at_ hlt
      have hrl := HRL.out row (List.mem_of_getElem? hrow)
      rw [hrl] at hc hs
      have HROW := Lib.hid hrow
      have htl : (M.take i).length = i := by rw [List.length_take, HL.out]; omega
      have HTL := Lib.hid htl
      have p0 : (0 : Int) ≤ (i : Int) := by omega
      have p1 : (i : Int) < (n : Int) := by omega
      have hn0 : 0 < n := by omega
      have nb1 := World.block_lt_of_cell? wr _ hc
      have nb2 := Nat.ne_of_lt nb1
      obtain ⟨rb, ro, rfl, -⟩ := hs.2 hn0
      have o0 : Own (wr.alloc (.cells #[] 3)) wr.heap.size (wr.heap.size + 1) 3 (some ⟨wr.heap.size, 0, none⟩) 0 0 [] := by
        simpa using Own.made (w := wr) (base := wr.heap.size) (e := 3) (cs := #[]) (n := 0) (Nat.le_refl _) (by unfold maxLen; omega) rfl
      obtain ⟨vs, o, hr, hd, hf⟩ := L
      rw [htl] at o
      have HR := Lib.hid hr
      have HF := Lib.hid hf
      have HD := Lib.hid hd
      clear hrow hr hf hd htl
      go_wp2_with (first
        | (at_builtin; (refine wpList_append1B rfl _ _ 23 rfl 39 (.slice none 0 0) 24 Try.underlying23 infoIS rfl (oB.alloc _) rfl w3.heap.size _ rfl (cell0_new _ _ _) rfl (by omega) (by omega) (by simp; omega) ?_; intro C2 c2 w5 O5 hg5 hn5))
        | (at_builtin; go_loud (refine wpList_appendN rfl _ _ 39 rfl 3 (.int .i64 0) 8 Try.underlying39 Try.infoInt rfl o0 rfl ⟨rb, ro, none⟩ n cc (row.map (.int .i64)) rfl (hs.alloc _) (ints_one row) (by omega) (by omega) (by simp) ?_; intro R3 rc3 w3 O3 hg3; rw [List.nil_append, Nat.zero_add] at O3; rw [Nat.zero_add]; have b3 : Below wr.heap.size wr w3 := belowG (below1 wr _) hg3 o0 (Nat.le_refl _); have oB := (o.below b3).top b3.size; have z3 := b3.size)))
      obtain ⟨g3, hR3, hg31, hg32⟩ := O3.form hn0
      subst hR3
      obtain ⟨g5, hC5, -, -⟩ := O5.form (by omega)
      have oB' : Own w3 w.heap.size w3.heap.size 39 (some ⟨D, 0, none⟩) (M.take i).length c0 vs := by rw [HTL.out]; exact oB
      have L5 := LL.grow oB' (HR.out.keep b3.size (fun g hg => b3.block g (HR.out.lt g hg).2)) HD.out HF.out (gs2 := [g3]) (M2 := [row]) (RowsAt.single ⟨rc3, rc3, by rw [hrl], by rw [hrl]; exact O3.base zB⟩) (by simp) (fun g hg hm => by simp at hm; subst hm; have := (HR.out.lt g hg).2; omega) (fun g hg off e => by simp at hg; subst hg; injection e with e; injection e with e _ _; have := (o.2 D 0 rfl).2; omega) (below1 w3 _) (by rw [List.length_append, HTL.out]; rfl) O5 hg5 hn5
      have B5 : Below w.heap.size w w5 := (belowA (belowW B b3)).grown hg5 (by simp; omega) (fun k hk => by simp at hk; have := (o.2 D 0 rfl).1; omega)
      go_roundg (n - (i + 1))
      case measure => omega
      case rel => exact ⟨i + 1, C2, c2, gs ++ [g3], by omega, rfl, by go_num, rfl, ⟨g5, hC5⟩, by rw [take_snoc HROW.out]; exact L5, B5⟩
    · have e : i = n := by omega
      subst e
      have et : M.take i = M := List.take_of_length_le (by rw [HL.out]; exact Nat.le_refl _)
      rw [et] at L
      obtain ⟨g0, q0, D0⟩ : ∃ g q, DM wr w.heap.size D i i g q (mF M) := by
        rcases Nat.eq_zero_or_pos i with h0 | h0
        · subst h0
          obtain ⟨vs, o, -⟩ := L
          exact ⟨fun _ => 0, fun _ => 0, ⟨⟨⟨(o.2 D 0 rfl).2, fun i => o.frozen i⟩, fun i hi => by omega⟩, fun r hr => by omega, fun r s hr => by omega, fun r hr => by omega, (o.2 D 0 rfl).1⟩⟩
        · obtain ⟨D', g, q, e, hD⟩ := L.dm HL.out h0 HRL.out
          injection e with e; injection e with e _ _; subst e
          exact ⟨g, q, hD⟩
      clear L et hlt
      go_wp2_with fail
      go_loopg [5, 6, 7, 8, 9, 10, 11] i (fun gk s5 s6 s7 _ _ _ _ wx => ∃ (k : Nat) (s l : Int) (F : Nat → Nat → Int) (g q : Nat → Nat), k ≤ i ∧ gk = i - k ∧ s7 = .int .i64 k ∧ s5 = .int .i64 s ∧ s6 = .int .i64 l ∧ (s = 1 ∨ s = -1) ∧ l ≠ 0 ∧ DM wx w.heap.size D i i g q F ∧ Below w.heap.size w wx ∧ detS i (i - k) k F s l = detS i i 0 (mF M) 1 1)
      case atStart => exact ⟨0, 1, 1, mF M, g0, q0, Nat.zero_le _, rfl, rfl, rfl, rfl, .inl rfl, by omega, D0, B, rfl⟩
      case round =>
        clear D0 B
        obtain ⟨k, s, l, F, g, q, hk, rfl, rfl, rfl, rfl, hs1, hl0, Dm, B, hdet⟩ := hrel
        have HDET := Lib.hid hdet
        clear hdet
        by_cases hlt : k < i
        · go_wp2_with fail
          go_loopg [8] (i + 1 - k) (fun gk s8 wx => ∃ a : Nat, k ≤ a ∧ a ≤ i ∧ gk = i + 1 - a ∧ s8 = .int .i64 a ∧ (∀ r, k ≤ r → r < a → F r k = 0) ∧ DM wx w.heap.size D i i g q F ∧ Below w.heap.size w wx)
          case atStart => exact ⟨k, Nat.le_refl _, by omega, rfl, rfl, fun r h1 h2 => by omega, Dm, B⟩
          case round =>
            clear Dm B
            obtain ⟨a, hka, hai, rfl, rfl, hz, Dm, B⟩ := hrel
            have HZ := Lib.hid hz
            clear hz
            by_cases hai2 : a < i
            · have ca := Dm.row hai2
              have ea := Dm.ent hai2 hlt
              have p0 : (0 : Int) ≤ (a : Int) := by omega
              have p1 : (a : Int) < (i : Int) := by omega
              have p2 : (0 : Int) ≤ (k : Int) := by omega
              have p3 : (k : Int) < (i : Int) := by omega
              by_cases hz0 : F a k = 0
              · have hzb : (F a k == 0) = true := by rw [hz0]; rfl
                go_wp2_with fail
                go_roundg (i + 1 - (a + 1))
                case measure => omega
                case rel => exact ⟨a + 1, by omega, by omega, rfl, by go_num, fun r h1 h2 => by
                  by_cases e : r = a
                  · subst e; exact hz0
                  · exact HZ.out r h1 (by omega), Dm, B⟩
              · have hzb : (F a k == 0) = false := by rw [beq_eq_false_iff_ne]; exact hz0
                have hpv : piv F k i = a := Dt.piv_of ⟨hka, hai, HZ.out, .inr hz0⟩
                have HPV := Lib.hid hpv
                clear hpv
                have hkk : detS i (i - k) k F s l = detS i ((i - k - 1) + 1) k F s l := by rw [show i - k - 1 + 1 = i - k by omega]
                have p4 : ((a : Int) == (i : Int)) = false := by rw [beq_eq_false_iff_ne]; omega
                have hsb : -1 ≤ s ∧ s ≤ 1 := by rcases hs1 with h | h <;> omega
                by_cases hak : a = k
                · subst hak
                  have HD := Lib.hid (show detS i (i - (a + 1)) (a + 1) (elimF F a l) s (F a a) = detS i i 0 (mF M) 1 1 by rw [← HDET.out, hkk, detS_same hlt HPV.out]; congr 1)
                  obtain ⟨k, hk'⟩ : ∃ k, k = a := ⟨_, rfl⟩
                  subst hk'
                  have hp0 := hz0
                  have D1 := Dm
                  have B1 := B
                  obtain ⟨F1, rfl⟩ : ∃ F1, F1 = F := ⟨_, rfl⟩
                  obtain ⟨g1, rfl⟩ : ∃ g1, g1 = g := ⟨_, rfl⟩
                  obtain ⟨q1, rfl⟩ : ∃ q1, q1 = q := ⟨_, rfl⟩
                  obtain ⟨s1, rfl⟩ : ∃ s1, s1 = s := ⟨_, rfl⟩
                  have hs1' := hs1
                  clear hkk hz0 Dm B
                  go_wp2_with fail
                  go_loopg [10, 11] (i - (k + 1)) (fun gk s10 _ wx => ∃ r : Nat, k + 1 ≤ r ∧ r ≤ i ∧ gk = i - r ∧ s10 = .int .i64 r ∧ DM wx w.heap.size D i i g1 q1 (partR F1 k l r i) ∧ Below w.heap.size w wx)
                  case atStart => exact ⟨k + 1, Nat.le_refl _, by omega, rfl, by go_num, D1.congr (fun r j _ hj => (partR_start F1 k l i r j hj).symm), B1⟩
                  case round =>
                    clear D1 B1
                    obtain ⟨r, hr1, hr2, rfl, rfl, Dm, B⟩ := hrel
                    by_cases hri : r < i
                    · go_wp2_with fail
                      go_loopg [11] (i - k) (fun gk s11 wx => ∃ t : Nat, k ≤ t ∧ t ≤ i ∧ gk = t - k ∧ s11 = .int .i64 ((t : Int) - 1) ∧ DM wx w.heap.size D i i g1 q1 (partR F1 k l r t) ∧ Below w.heap.size w wx)
                      case atStart => exact ⟨i, by omega, Nat.le_refl _, rfl, by go_num, Dm, B⟩
                      case round =>
                        clear Dm B
                        obtain ⟨t, ht1, ht2, rfl, rfl, Dm, B⟩ := hrel
                        by_cases htk : k < t
                        · obtain ⟨j, rfl⟩ : ∃ j, t = j + 1 := ⟨t - 1, by omega⟩
                          have hji : j < i := by omega
                          have hkj : k ≤ j := by omega
                          have c1 := Dm.row hri
                          have c2 := Dm.row hlt
                          have x1 := Dm.ent hri hji
                          have x2 := Dm.ent hlt hlt
                          have x3 := Dm.ent hri hlt
                          have x4 := Dm.ent hlt hji
                          rw [partR_old _ _ _ _ _ _ _ (by omega)] at x1 x2 x3 x4
                          have f1 := (Dm.R r hri).1.2 j
                          have D2 := (Dm.store hri hji (EE F1 k r j l)).congr (fun r' j' _ _ => partR_step F1 k l r j (by omega) (by omega) r' j')
                          have B2 := below_set B (b := g1 r) (i := j) (Dm.U r hri).2 (.int .i64 (EE F1 k r j l))
                          have p0 : (0 : Int) ≤ (r : Int) := by omega
                          have p1 : (r : Int) < (i : Int) := by omega
                          have p2 : (0 : Int) ≤ (k : Int) := by omega
                          have p3 : (k : Int) < (i : Int) := by omega
                          have p5 : (0 : Int) ≤ (j : Int) := by omega
                          have p6 : (j : Int) < (i : Int) := by omega
                          have p7 : ((j + 1 : Nat) : Int) - 1 = (j : Int) := by omega
                          have hlb : (l == 0) = false := by rw [beq_eq_false_iff_ne]; exact hl0
                          have HDm := Lib.hid Dm
                          rw [p7]
                          clear Dm B p7
                          obtain ⟨ee, hee⟩ : ∃ ee, EE F1 k r j l = ee := ⟨_, rfl⟩
                          rw [hee] at D2 B2
                          rw [EE] at hee
                          obtain ⟨gr, hgr⟩ : ∃ gr, g1 r = gr := ⟨_, rfl⟩
                          obtain ⟨gk, hgk⟩ : ∃ gk, g1 k = gk := ⟨_, rfl⟩
                          have hgD : gr ≠ D := by rw [← hgr]; exact (HDm.out.U r hri).1
                          have hgg : gk ≠ gr := by rw [← hgr, ← hgk]; intro e; have := HDm.out.J k r hlt hri e; omega
                          rw [hgr] at c1 x1 x3 f1 D2 B2
                          rw [hgk] at c2 x2 x4
                          rcases Nat.lt_or_eq_of_le hkj with hkj2 | rfl
                          · obtain ⟨y1, hy1⟩ : ∃ y1, F1 r j = y1 := ⟨_, rfl⟩
                            obtain ⟨y2, hy2⟩ : ∃ y2, F1 k k = y2 := ⟨_, rfl⟩
                            obtain ⟨y3, hy3⟩ : ∃ y3, F1 r k = y3 := ⟨_, rfl⟩
                            obtain ⟨y4, hy4⟩ : ∃ y4, F1 k j = y4 := ⟨_, rfl⟩
                            rw [hy1] at x1 hee
                            rw [hy2] at x2 hee
                            rw [hy3] at x3 hee
                            rw [hy4] at x4 hee
                            have HEE := Lib.hid hee
                            have HD2 := Lib.hid D2
                            have HB2 := Lib.hid B2
                            have KP := Lib.hid (show ∀ v : Value, (wr.setCell ⟨gr, j, none⟩ v).cell? ⟨D, r, none⟩ = some (.slice (some ⟨gr, 0, none⟩) i (q1 r)) ∧ (wr.setCell ⟨gr, j, none⟩ v).cell? ⟨D, k, none⟩ = some (.slice (some ⟨gk, 0, none⟩) i (q1 k)) ∧ (wr.setCell ⟨gr, j, none⟩ v).cell? ⟨gk, k, none⟩ = some (.int .i64 y2) ∧ (wr.setCell ⟨gr, j, none⟩ v).cell? ⟨gr, k, none⟩ = some (.int .i64 y3) ∧ (wr.setCell ⟨gr, j, none⟩ v).cell? ⟨gk, j, none⟩ = some (.int .i64 y4) from fun v => ⟨(World.cell?_setCell_other _ _ _ _ (by first | (simp; done) | (simp; omega))).trans c1, (World.cell?_setCell_other _ _ _ _ (by first | (simp; done) | (simp; omega))).trans c2, (World.cell?_setCell_other _ _ _ _ (by first | (simp; done) | (simp; omega))).trans x2, (World.cell?_setCell_other _ _ _ _ (by first | (simp; done) | (simp; omega))).trans x3, (World.cell?_setCell_other _ _ _ _ (by first | (simp; done) | (simp; omega))).trans x4⟩)
                            clear hee D2 B2 hgr hgk hy1 hy2 hy3 hy4 hgD hgg HDm
                            go_wp2_with fail
                            refine wp_region_held_drew (S := (fun w' => w'.cell? ⟨D, r, none⟩ = some (.slice (some ⟨gr, 0, none⟩) i (q1 r)) ∧ w'.cell? ⟨D, k, none⟩ = some (.slice (some ⟨gk, 0, none⟩) i (q1 k)) ∧ w'.cell? ⟨gk, k, none⟩ = some (.int .i64 y2) ∧ w'.cell? ⟨gr, k, none⟩ = some (.int .i64 y3) ∧ w'.cell? ⟨gk, j, none⟩ = some (.int .i64 y4))) (by kernel_rfl) ⟨c1, c2, x2, x3, x4⟩ (fun hHeld => ?_)
                            refine wpAnyH_take (i := 0) (oi := { dst := some 94, op := _, type := _, pos := _, after := _, guard := _ }) (v := ?v0a) rfl (by kernel_rfl) (by kernel_rfl) (by kernel_rfl) (fun _ _ _ h => h) (Or.inl ⟨by rfl, ?y0a⟩) (by assumption) ?r0a
                            case y0a =>
                              intro w hSw
                              try dsimp only at hSw
                              go_simp
                              try with_reducible rfl
                            simp only [Act.put, List.setIfInBounds_toArray, List.set_cons_zero, List.set_cons_succ]
                            refine wpAnyH_take (i := 1) (oi := { dst := some 95, op := _, type := _, pos := _, after := _, guard := _ }) (v := ?v1a) rfl (by kernel_rfl) (by kernel_rfl) (by kernel_rfl) (fun _ _ _ h => h) (Or.inl ⟨by rfl, ?y1a⟩) (by assumption) ?r1a
                            case y1a =>
                              intro w hSw
                              try dsimp only at hSw
                              go_simp
                              try with_reducible rfl
                            simp only [Act.put, List.setIfInBounds_toArray, List.set_cons_zero, List.set_cons_succ]
                            refine wpAnyH_take (i := 2) (oi := { dst := some 96, op := _, type := _, pos := _, after := _, guard := _ }) (v := ?v2a) rfl (by kernel_rfl) (by kernel_rfl) (by kernel_rfl) (fun _ _ _ h => h) (Or.inl ⟨by rfl, ?y2a⟩) (by assumption) ?r2a
                            case y2a =>
                              intro w hSw
                              try dsimp only at hSw
                              go_simp
                              try with_reducible rfl
                            simp only [Act.put, List.setIfInBounds_toArray, List.set_cons_zero, List.set_cons_succ]
                            refine wpAnyH_take (i := 3) (oi := { dst := some 97, op := _, type := _, pos := _, after := _, guard := _ }) (v := ?v3a) rfl (by kernel_rfl) (by kernel_rfl) (by kernel_rfl) (fun _ _ _ h => h) (Or.inl ⟨by rfl, ?y3a⟩) (by assumption) ?r3a
                            case y3a =>
                              intro w hSw
                              try dsimp only at hSw
                              go_simp
                              try with_reducible rfl
                            simp only [Act.put, List.setIfInBounds_toArray, List.set_cons_zero, List.set_cons_succ]
                            refine wpAnyH_take (i := 4) (oi := { dst := some 98, op := _, type := _, pos := _, after := _, guard := _ }) (v := ?v4a) rfl (by kernel_rfl) (by kernel_rfl) (by kernel_rfl) (fun _ _ _ h => h) (Or.inl ⟨by rfl, ?y4a⟩) (by assumption) ?r4a
                            case y4a =>
                              intro w hSw
                              try dsimp only at hSw
                              go_simp
                              try with_reducible rfl
                            simp only [Act.put, List.setIfInBounds_toArray, List.set_cons_zero, List.set_cons_succ]
                            refine wpAnyH_take (i := 5) (oi := { dst := some 99, op := _, type := _, pos := _, after := _, guard := _ }) (v := ?v5a) rfl (by kernel_rfl) (by kernel_rfl) (by kernel_rfl) (fun _ _ _ h => h) (Or.inl ⟨by rfl, ?y5a⟩) (by assumption) ?r5a
                            case y5a =>
                              intro w hSw
                              try dsimp only at hSw
                              go_simp
                              try with_reducible rfl
                            simp only [Act.put, List.setIfInBounds_toArray, List.set_cons_zero, List.set_cons_succ]
                            refine wpAnyH_take (i := 6) (oi := { dst := some 100, op := _, type := _, pos := _, after := _, guard := _ }) (v := ?v6a) rfl (by kernel_rfl) (by kernel_rfl) (by kernel_rfl) (fun _ _ _ h => h) (Or.inl ⟨by rfl, ?y6a⟩) (by assumption) ?r6a
                            case y6a =>
                              intro w hSw
                              try dsimp only at hSw
                              go_simp
                              try with_reducible rfl
                            simp only [Act.put, List.setIfInBounds_toArray, List.set_cons_zero, List.set_cons_succ]
                            refine wpAnyH_take (i := 7) (oi := { dst := some 101, op := _, type := _, pos := _, after := _, guard := _ }) (v := ?v7a) rfl (by kernel_rfl) (by kernel_rfl) (by kernel_rfl) (fun _ _ _ h => h) (Or.inl ⟨by rfl, ?y7a⟩) (by assumption) ?r7a
                            case y7a =>
                              intro w hSw
                              try dsimp only at hSw
                              go_simp
                              try with_reducible rfl
                            simp only [Act.put, List.setIfInBounds_toArray, List.set_cons_zero, List.set_cons_succ]
                            refine wpAnyH_take (i := 8) (oi := { dst := some 102, op := _, type := _, pos := _, after := _, guard := _ }) (v := ?v8a) rfl (by kernel_rfl) (by kernel_rfl) (by kernel_rfl) (fun _ _ _ h => h) (Or.inl ⟨by rfl, ?y8a⟩) (by assumption) ?r8a
                            case y8a =>
                              intro w hSw
                              try dsimp only at hSw
                              go_simp
                              try with_reducible rfl
                            simp only [Act.put, List.setIfInBounds_toArray, List.set_cons_zero, List.set_cons_succ]
                            refine wpAnyH_take (i := 9) (oi := { dst := some 103, op := _, type := _, pos := _, after := _, guard := _ }) (v := ?v9a) rfl (by kernel_rfl) (by kernel_rfl) (by kernel_rfl) (fun _ _ _ h => h) (Or.inl ⟨by rfl, ?y9a⟩) (by assumption) ?r9a
                            case y9a =>
                              intro w hSw
                              try dsimp only at hSw
                              go_simp
                              try with_reducible rfl
                            simp only [Act.put, List.setIfInBounds_toArray, List.set_cons_zero, List.set_cons_succ]
                            refine wpAnyH_take (i := 10) (oi := { dst := some 104, op := _, type := _, pos := _, after := _, guard := _ }) (v := ?v10a) rfl (by kernel_rfl) (by kernel_rfl) (by kernel_rfl) (fun _ _ _ h => h) (Or.inl ⟨by rfl, ?y10a⟩) (by assumption) ?r10a
                            case y10a =>
                              intro w hSw
                              try dsimp only at hSw
                              go_simp
                              try with_reducible rfl
                            simp only [Act.put, List.setIfInBounds_toArray, List.set_cons_zero, List.set_cons_succ]
                            refine wpAnyH_take (i := 12) (oi := { dst := some 106, op := _, type := _, pos := _, after := _, guard := _ }) (v := ?v12a) rfl (by kernel_rfl) (by kernel_rfl) (by kernel_rfl) (fun _ _ _ h => h) (Or.inl ⟨by rfl, ?y12a⟩) (by assumption) ?r12a
                            case y12a =>
                              intro w hSw
                              try dsimp only at hSw
                              go_simp
                              try with_reducible rfl
                            simp only [Act.put, List.setIfInBounds_toArray, List.set_cons_zero, List.set_cons_succ]
                            refine wpAnyH_take (i := 13) (oi := { dst := some 107, op := _, type := _, pos := _, after := _, guard := _ }) (v := ?v13a) rfl (by kernel_rfl) (by kernel_rfl) (by kernel_rfl) (fun _ _ _ h => h) (Or.inl ⟨by rfl, ?y13a⟩) (by assumption) ?r13a
                            case y13a =>
                              intro w hSw
                              try dsimp only at hSw
                              go_simp
                              try with_reducible rfl
                            simp only [Act.put, List.setIfInBounds_toArray, List.set_cons_zero, List.set_cons_succ]
                            refine wpAnyH_take (i := 14) (oi := { dst := some 108, op := _, type := _, pos := _, after := _, guard := _ }) (v := ?v14a) rfl (by kernel_rfl) (by kernel_rfl) (by kernel_rfl) (fun _ _ _ h => h) (Or.inl ⟨by rfl, ?y14a⟩) (by assumption) ?r14a
                            case y14a =>
                              intro w hSw
                              try dsimp only at hSw
                              go_simp
                              try with_reducible rfl
                            simp only [Act.put, List.setIfInBounds_toArray, List.set_cons_zero, List.set_cons_succ]
                            refine wpAnyH_take (i := 15) (oi := { dst := some 109, op := _, type := _, pos := _, after := _, guard := _ }) (v := ?v15a) rfl (by kernel_rfl) (by kernel_rfl) (by kernel_rfl) (fun _ _ _ h => h) (Or.inl ⟨by rfl, ?y15a⟩) (by assumption) ?r15a
                            case y15a =>
                              intro w hSw
                              try dsimp only at hSw
                              go_simp
                              try with_reducible rfl
                            simp only [Act.put, List.setIfInBounds_toArray, List.set_cons_zero, List.set_cons_succ]
                            refine wpAnyH_take (i := 16) (oi := { dst := some 110, op := _, type := _, pos := _, after := _, guard := _ }) (v := ?v16a) rfl (by kernel_rfl) (by kernel_rfl) (by kernel_rfl) (fun _ _ _ h => h) (Or.inl ⟨by rfl, ?y16a⟩) (by assumption) ?r16a
                            case y16a =>
                              intro w hSw
                              try dsimp only at hSw
                              go_simp
                              try with_reducible rfl
                            simp only [Act.put, List.setIfInBounds_toArray, List.set_cons_zero, List.set_cons_succ]
                            refine wpAnyH_take (i := 17) (oi := { dst := some 111, op := _, type := _, pos := _, after := _, guard := _ }) (v := ?v17a) rfl (by kernel_rfl) (by kernel_rfl) (by kernel_rfl) (fun _ _ _ h => h) (Or.inl ⟨by rfl, ?y17a⟩) (by assumption) ?r17a
                            case y17a =>
                              intro w hSw
                              try dsimp only at hSw
                              go_simp
                              try with_reducible rfl
                            simp only [Act.put, List.setIfInBounds_toArray, List.set_cons_zero, List.set_cons_succ]
                            refine wpAnyH_take (i := 18) (oi := { dst := some 112, op := _, type := _, pos := _, after := _, guard := _ }) (v := ?v18a) rfl (by kernel_rfl) (by kernel_rfl) (by kernel_rfl) (fun _ _ _ h => h) (Or.inl ⟨by rfl, ?y18a⟩) (by assumption) ?r18a
                            case y18a =>
                              intro w hSw
                              try dsimp only at hSw
                              go_simp
                              try with_reducible rfl
                            simp only [Act.put, List.setIfInBounds_toArray, List.set_cons_zero, List.set_cons_succ]
                            refine wpAnyH_take (i := 20) (oi := { dst := some 114, op := _, type := _, pos := _, after := _, guard := _ }) (v := ?v20a) rfl (by kernel_rfl) (by kernel_rfl) (by kernel_rfl) (fun _ _ _ h => h) (Or.inl ⟨by rfl, ?y20a⟩) (by assumption) ?r20a
                            case y20a =>
                              intro w hSw
                              try dsimp only at hSw
                              go_simp
                              try with_reducible rfl
                            simp only [Act.put, List.setIfInBounds_toArray, List.set_cons_zero, List.set_cons_succ]
                            refine wpAnyH_take (i := 21) (oi := { dst := some 115, op := _, type := _, pos := _, after := _, guard := _ }) (v := ?v21a) rfl (by kernel_rfl) (by kernel_rfl) (by kernel_rfl) (fun _ _ _ h => h) (Or.inl ⟨by rfl, ?y21a⟩) (by assumption) ?r21a
                            case y21a =>
                              intro w hSw
                              try dsimp only at hSw
                              go_simp
                              try with_reducible rfl
                            simp only [Act.put, List.setIfInBounds_toArray, List.set_cons_zero, List.set_cons_succ]
                            refine wpAnyH_take (i := 22) (oi := { dst := some 116, op := _, type := _, pos := _, after := _, guard := _ }) (v := ?v22a) rfl (by kernel_rfl) (by kernel_rfl) (by kernel_rfl) (fun _ _ _ h => h) (Or.inl ⟨by rfl, ?y22a⟩) (by assumption) ?r22a
                            case y22a =>
                              intro w hSw
                              try dsimp only at hSw
                              go_simp
                              try with_reducible rfl
                            simp only [Act.put, List.setIfInBounds_toArray, List.set_cons_zero, List.set_cons_succ]
                            refine wpAnyH_take (i := 23) (oi := { dst := some 117, op := _, type := _, pos := _, after := _, guard := _ }) (v := ?v23a) rfl (by kernel_rfl) (by kernel_rfl) (by kernel_rfl) (fun _ _ _ h => h) (Or.inl ⟨by rfl, ?y23a⟩) (by assumption) ?r23a
                            case y23a =>
                              intro w hSw
                              try dsimp only at hSw
                              go_simp
                              try with_reducible rfl
                            simp only [Act.put, List.setIfInBounds_toArray, List.set_cons_zero, List.set_cons_succ]
                            refine wpAnyH_take (i := 24) (oi := { dst := some 118, op := _, type := _, pos := _, after := _, guard := _ }) (v := ?v24a) rfl (by kernel_rfl) (by kernel_rfl) (by kernel_rfl) (fun _ _ _ h => h) (Or.inl ⟨by rfl, ?y24a⟩) (by assumption) ?r24a
                            case y24a =>
                              intro w hSw
                              try dsimp only at hSw
                              go_simp
                              try with_reducible rfl
                            simp only [Act.put, List.setIfInBounds_toArray, List.set_cons_zero, List.set_cons_succ]
                            refine wpAnyH_take (i := 25) (oi := { dst := some 119, op := _, type := _, pos := _, after := _, guard := _ }) (v := ?v25a) rfl (by kernel_rfl) (by kernel_rfl) (by kernel_rfl) (fun _ _ _ h => h) (Or.inl ⟨by rfl, ?y25a⟩) (by assumption) ?r25a
                            case y25a =>
                              intro w hSw
                              try dsimp only at hSw
                              go_simp
                              try with_reducible rfl
                            simp only [Act.put, List.setIfInBounds_toArray, List.set_cons_zero, List.set_cons_succ]
                            refine wpAnyH_take (i := 26) (oi := { dst := some 120, op := _, type := _, pos := _, after := _, guard := _ }) (v := ?v26a) rfl (by kernel_rfl) (by kernel_rfl) (by kernel_rfl) (fun _ _ _ h => h) (Or.inl ⟨by rfl, ?y26a⟩) (by assumption) ?r26a
                            case y26a =>
                              intro w hSw
                              try dsimp only at hSw
                              go_simp
                              try with_reducible rfl
                            simp only [Act.put, List.setIfInBounds_toArray, List.set_cons_zero, List.set_cons_succ]
                            refine wpAnyH_take (i := 27) (oi := { dst := some 121, op := _, type := _, pos := _, after := _, guard := _ }) (v := ?v27a) rfl (by kernel_rfl) (by kernel_rfl) (by kernel_rfl) (fun _ _ _ h => h) (Or.inl ⟨by rfl, ?y27a⟩) (by assumption) ?r27a
                            case y27a =>
                              intro w hSw
                              try dsimp only at hSw
                              go_simp
                              try with_reducible rfl
                            simp only [Act.put, List.setIfInBounds_toArray, List.set_cons_zero, List.set_cons_succ]
                            refine wpAnyH_take (i := 28) (oi := { dst := some 122, op := _, type := _, pos := _, after := _, guard := _ }) (v := ?v28a) rfl (by kernel_rfl) (by kernel_rfl) (by kernel_rfl) (fun _ _ _ h => h) (Or.inl ⟨by rfl, ?y28a⟩) (by assumption) ?r28a
                            case y28a =>
                              intro w hSw
                              try dsimp only at hSw
                              go_simp
                              try with_reducible rfl
                            simp only [Act.put, List.setIfInBounds_toArray, List.set_cons_zero, List.set_cons_succ]
                            refine wpAnyH_take (i := 29) (oi := { dst := some 123, op := _, type := _, pos := _, after := _, guard := _ }) (v := ?v29a) rfl (by kernel_rfl) (by kernel_rfl) (by kernel_rfl) (fun _ _ _ h => h) (Or.inl ⟨by rfl, ?y29a⟩) (by assumption) ?r29a
                            case y29a =>
                              intro w hSw
                              try dsimp only at hSw
                              go_simp
                              try with_reducible rfl
                            simp only [Act.put, List.setIfInBounds_toArray, List.set_cons_zero, List.set_cons_succ]
                            refine wpAnyH_take (i := 30) (oi := { dst := some 124, op := _, type := _, pos := _, after := _, guard := _ }) (v := ?v30a) rfl (by kernel_rfl) (by kernel_rfl) (by kernel_rfl) (fun _ _ _ h => h) (Or.inl ⟨by rfl, ?y30a⟩) (by assumption) ?r30a
                            case y30a =>
                              intro w hSw
                              try dsimp only at hSw
                              go_simp
                              try with_reducible rfl
                            simp only [Act.put, List.setIfInBounds_toArray, List.set_cons_zero, List.set_cons_succ]
                            refine wpAnyH_take (i := 31) (oi := { dst := some 125, op := _, type := _, pos := _, after := _, guard := _ }) (v := ?v31a) rfl (by kernel_rfl) (by kernel_rfl) (by kernel_rfl) (fun _ _ _ h => h) (Or.inl ⟨by rfl, ?y31a⟩) (by assumption) ?r31a
                            case y31a =>
                              intro w hSw
                              try dsimp only at hSw
                              go_simp
                              try with_reducible rfl
                            simp only [Act.put, List.setIfInBounds_toArray, List.set_cons_zero, List.set_cons_succ]
                            refine wpAnyH_take (i := 32) (oi := { dst := some 126, op := _, type := _, pos := _, after := _, guard := _ }) (v := ?v32a) rfl (by kernel_rfl) (by kernel_rfl) (by kernel_rfl) (fun _ _ _ h => h) (Or.inl ⟨by rfl, ?y32a⟩) (by assumption) ?r32a
                            case y32a =>
                              intro w hSw
                              try dsimp only at hSw
                              go_simp
                              try with_reducible rfl
                            simp only [Act.put, List.setIfInBounds_toArray, List.set_cons_zero, List.set_cons_succ]
                            refine wpAnyH_take (i := 33) (oi := { dst := some 127, op := _, type := _, pos := _, after := _, guard := _ }) (v := ?v33a) rfl (by kernel_rfl) (by kernel_rfl) (by kernel_rfl) (fun _ _ _ h => h) (Or.inl ⟨by rfl, ?y33a⟩) (by assumption) ?r33a
                            case y33a =>
                              intro w hSw
                              try dsimp only at hSw
                              go_simp
                              try with_reducible rfl
                            simp only [Act.put, List.setIfInBounds_toArray, List.set_cons_zero, List.set_cons_succ]
                            refine wpAnyH_take (i := 34) (oi := { dst := some 128, op := _, type := _, pos := _, after := _, guard := _ }) (v := ?v34a) rfl (by kernel_rfl) (by kernel_rfl) (by kernel_rfl) (fun _ _ _ h => h) (Or.inl ⟨by rfl, ?y34a⟩) (by assumption) ?r34a
                            case y34a =>
                              intro w hSw
                              try dsimp only at hSw
                              go_simp
                              try with_reducible rfl
                            simp only [Act.put, List.setIfInBounds_toArray, List.set_cons_zero, List.set_cons_succ]
                            refine wpAnyH_take (i := 36) (oi := { dst := some 130, op := _, type := _, pos := _, after := _, guard := _ }) (v := ?v36a) rfl (by kernel_rfl) (by kernel_rfl) (by kernel_rfl) (fun _ _ _ h => h) (Or.inl ⟨by rfl, ?y36a⟩) (by assumption) ?r36a
                            case y36a =>
                              intro w hSw
                              try dsimp only at hSw
                              go_simp
                              try with_reducible rfl
                            simp only [Act.put, List.setIfInBounds_toArray, List.set_cons_zero, List.set_cons_succ]
                            refine wpAnyH_ready (rs := [11]) (by kernel_rfl) (by simp) ?_
                            refine AllReadyH.cons rfl (fun K hK => ?_) AllReadyH.nil
                            go_simp
                            try dsimp only
                            clear hHeld
                            refine hK.out _ _ ⟨c1, c2, x2, x3, x4⟩ (fun hHeld => ?_)
                            clear hK K
                            try simp only [Act.put, List.setIfInBounds_toArray, List.set_cons_zero, List.set_cons_succ]
                            refine wpAnyH_take (i := 19) (oi := { dst := some 113, op := _, type := _, pos := _, after := _, guard := _ }) (v := ?v19a) rfl (by kernel_rfl) (by kernel_rfl) (by kernel_rfl) (fun _ _ _ h => h) (Or.inl ⟨by rfl, ?y19a⟩) (by assumption) ?r19a
                            case y19a =>
                              intro w hSw
                              try dsimp only at hSw
                              go_simp
                              try with_reducible rfl
                            simp only [Act.put, List.setIfInBounds_toArray, List.set_cons_zero, List.set_cons_succ]
                            refine wpAnyH_take (i := 35) (oi := { dst := some 129, op := _, type := _, pos := _, after := _, guard := _ }) (v := ?v35a) rfl (by kernel_rfl) (by kernel_rfl) (by kernel_rfl) (fun _ _ _ h => h) (Or.inl ⟨by rfl, ?y35a⟩) (by assumption) ?r35a
                            case y35a =>
                              intro w hSw
                              try dsimp only at hSw
                              go_simp
                              try with_reducible rfl
                            simp only [Act.put, List.setIfInBounds_toArray, List.set_cons_zero, List.set_cons_succ]
                            refine wpAnyH_take (i := 37) (oi := { dst := some 131, op := _, type := _, pos := _, after := _, guard := _ }) (v := ?v37a) rfl (by kernel_rfl) (by kernel_rfl) (by kernel_rfl) (fun _ _ _ h => h) (Or.inl ⟨by rfl, ?y37a⟩) (by assumption) ?r37a
                            case y37a =>
                              intro w hSw
                              try dsimp only at hSw
                              go_simp
                              try with_reducible rfl
                            simp only [Act.put, List.setIfInBounds_toArray, List.set_cons_zero, List.set_cons_succ]
                            refine wpAnyH_take (i := 38) (oi := { dst := some 132, op := _, type := _, pos := _, after := _, guard := _ }) (v := ?v38a) rfl (by kernel_rfl) (by kernel_rfl) (by kernel_rfl) (fun _ _ _ h => h) (Or.inl ⟨by rfl, ?y38a⟩) (by assumption) ?r38a
                            case y38a =>
                              intro w hSw
                              try dsimp only at hSw
                              go_simp
                              try with_reducible rfl
                            simp only [Act.put, List.setIfInBounds_toArray, List.set_cons_zero, List.set_cons_succ]
                            refine wpAnyH_ready (rs := [39]) (by kernel_rfl) (by simp) ?_
                            refine AllReadyH.cons rfl (fun K hK => ?_) AllReadyH.nil
                            go_simp
                            try dsimp only
                            clear hHeld
                            refine hK.out _ _ (KP.out _) (fun hHeld => ?_)
                            clear hK K
                            try simp only [Act.put, List.setIfInBounds_toArray, List.set_cons_zero, List.set_cons_succ]
                            refine wpAnyH_done (by kernel_rfl) ?_ _
                            go_wp2_with fail
                            go_roundg (j - k)
                            case measure => omega
                            case rel => exact ⟨j, by omega, by omega, rfl, by go_num, by have := HD2.out; rw [← HEE.out] at this; exact this.keep (Below.refl _ _).drew, by have := HB2.out; rw [← HEE.out] at this; exact this.drew⟩
                          · obtain ⟨y1, hy1⟩ : ∃ y1, F1 r k = y1 := ⟨_, rfl⟩
                            obtain ⟨y2, hy2⟩ : ∃ y2, F1 k k = y2 := ⟨_, rfl⟩
                            rw [hy1] at x1 x3 hee
                            rw [hy2] at x2 x4 hee
                            have HEE := Lib.hid hee
                            have HZZ := Lib.hid (show wrap64 ((wrap64 (wrap64 (y1 * y2) - wrap64 (y1 * y2))).tdiv l) = wrap64 (Int.tdiv 0 l) by rw [Int.sub_self, show wrap64 0 = 0 by unfold wrap64; omega])
                            have HD2 := Lib.hid D2
                            have HB2 := Lib.hid B2
                            have KP := Lib.hid (show ∀ v : Value, (wr.setCell ⟨gr, k, none⟩ v).cell? ⟨D, r, none⟩ = some (.slice (some ⟨gr, 0, none⟩) i (q1 r)) ∧ (wr.setCell ⟨gr, k, none⟩ v).cell? ⟨D, k, none⟩ = some (.slice (some ⟨gk, 0, none⟩) i (q1 k)) ∧ (wr.setCell ⟨gr, k, none⟩ v).cell? ⟨gk, k, none⟩ = some (.int .i64 y2) from fun v => ⟨(World.cell?_setCell_other _ _ _ _ (by first | (simp; done) | (simp; omega))).trans c1, (World.cell?_setCell_other _ _ _ _ (by first | (simp; done) | (simp; omega))).trans c2, (World.cell?_setCell_other _ _ _ _ (by first | (simp; done) | (simp; omega))).trans x2⟩)
                            clear hee D2 B2 hgr hgk hy1 hy2 hgD hgg HDm x3 x4
                            go_wp2_with fail
                            refine wp_region_held_drew (S := (fun w' => w'.cell? ⟨D, r, none⟩ = some (.slice (some ⟨gr, 0, none⟩) i (q1 r)) ∧ w'.cell? ⟨D, k, none⟩ = some (.slice (some ⟨gk, 0, none⟩) i (q1 k)) ∧ w'.cell? ⟨gk, k, none⟩ = some (.int .i64 y2))) (by kernel_rfl) ⟨c1, c2, x2⟩ (fun hHeld => ?_)
                            refine wpAnyH_take (i := 0) (oi := { dst := some 94, op := _, type := _, pos := _, after := _, guard := _ }) (v := ?v0ae) rfl (by kernel_rfl) (by kernel_rfl) (by kernel_rfl) (fun _ _ _ h => h) (Or.inl ⟨by rfl, ?y0ae⟩) (by assumption) ?r0ae
                            case y0ae =>
                              intro w hSw
                              try dsimp only at hSw
                              go_simp
                              try with_reducible rfl
                            simp only [Act.put, List.setIfInBounds_toArray, List.set_cons_zero, List.set_cons_succ]
                            refine wpAnyH_take (i := 1) (oi := { dst := some 95, op := _, type := _, pos := _, after := _, guard := _ }) (v := ?v1ae) rfl (by kernel_rfl) (by kernel_rfl) (by kernel_rfl) (fun _ _ _ h => h) (Or.inl ⟨by rfl, ?y1ae⟩) (by assumption) ?r1ae
                            case y1ae =>
                              intro w hSw
                              try dsimp only at hSw
                              go_simp
                              try with_reducible rfl
                            simp only [Act.put, List.setIfInBounds_toArray, List.set_cons_zero, List.set_cons_succ]
                            refine wpAnyH_take (i := 2) (oi := { dst := some 96, op := _, type := _, pos := _, after := _, guard := _ }) (v := ?v2ae) rfl (by kernel_rfl) (by kernel_rfl) (by kernel_rfl) (fun _ _ _ h => h) (Or.inl ⟨by rfl, ?y2ae⟩) (by assumption) ?r2ae
                            case y2ae =>
                              intro w hSw
                              try dsimp only at hSw
                              go_simp
                              try with_reducible rfl
                            simp only [Act.put, List.setIfInBounds_toArray, List.set_cons_zero, List.set_cons_succ]
                            refine wpAnyH_take (i := 3) (oi := { dst := some 97, op := _, type := _, pos := _, after := _, guard := _ }) (v := ?v3ae) rfl (by kernel_rfl) (by kernel_rfl) (by kernel_rfl) (fun _ _ _ h => h) (Or.inl ⟨by rfl, ?y3ae⟩) (by assumption) ?r3ae
                            case y3ae =>
                              intro w hSw
                              try dsimp only at hSw
                              go_simp
                              try with_reducible rfl
                            simp only [Act.put, List.setIfInBounds_toArray, List.set_cons_zero, List.set_cons_succ]
                            refine wpAnyH_take (i := 4) (oi := { dst := some 98, op := _, type := _, pos := _, after := _, guard := _ }) (v := ?v4ae) rfl (by kernel_rfl) (by kernel_rfl) (by kernel_rfl) (fun _ _ _ h => h) (Or.inl ⟨by rfl, ?y4ae⟩) (by assumption) ?r4ae
                            case y4ae =>
                              intro w hSw
                              try dsimp only at hSw
                              go_simp
                              try with_reducible rfl
                            simp only [Act.put, List.setIfInBounds_toArray, List.set_cons_zero, List.set_cons_succ]
                            refine wpAnyH_take (i := 5) (oi := { dst := some 99, op := _, type := _, pos := _, after := _, guard := _ }) (v := ?v5ae) rfl (by kernel_rfl) (by kernel_rfl) (by kernel_rfl) (fun _ _ _ h => h) (Or.inl ⟨by rfl, ?y5ae⟩) (by assumption) ?r5ae
                            case y5ae =>
                              intro w hSw
                              try dsimp only at hSw
                              go_simp
                              try with_reducible rfl
                            simp only [Act.put, List.setIfInBounds_toArray, List.set_cons_zero, List.set_cons_succ]
                            refine wpAnyH_take (i := 6) (oi := { dst := some 100, op := _, type := _, pos := _, after := _, guard := _ }) (v := ?v6ae) rfl (by kernel_rfl) (by kernel_rfl) (by kernel_rfl) (fun _ _ _ h => h) (Or.inl ⟨by rfl, ?y6ae⟩) (by assumption) ?r6ae
                            case y6ae =>
                              intro w hSw
                              try dsimp only at hSw
                              go_simp
                              try with_reducible rfl
                            simp only [Act.put, List.setIfInBounds_toArray, List.set_cons_zero, List.set_cons_succ]
                            refine wpAnyH_take (i := 7) (oi := { dst := some 101, op := _, type := _, pos := _, after := _, guard := _ }) (v := ?v7ae) rfl (by kernel_rfl) (by kernel_rfl) (by kernel_rfl) (fun _ _ _ h => h) (Or.inl ⟨by rfl, ?y7ae⟩) (by assumption) ?r7ae
                            case y7ae =>
                              intro w hSw
                              try dsimp only at hSw
                              go_simp
                              try with_reducible rfl
                            simp only [Act.put, List.setIfInBounds_toArray, List.set_cons_zero, List.set_cons_succ]
                            refine wpAnyH_take (i := 8) (oi := { dst := some 102, op := _, type := _, pos := _, after := _, guard := _ }) (v := ?v8ae) rfl (by kernel_rfl) (by kernel_rfl) (by kernel_rfl) (fun _ _ _ h => h) (Or.inl ⟨by rfl, ?y8ae⟩) (by assumption) ?r8ae
                            case y8ae =>
                              intro w hSw
                              try dsimp only at hSw
                              go_simp
                              try with_reducible rfl
                            simp only [Act.put, List.setIfInBounds_toArray, List.set_cons_zero, List.set_cons_succ]
                            refine wpAnyH_take (i := 9) (oi := { dst := some 103, op := _, type := _, pos := _, after := _, guard := _ }) (v := ?v9ae) rfl (by kernel_rfl) (by kernel_rfl) (by kernel_rfl) (fun _ _ _ h => h) (Or.inl ⟨by rfl, ?y9ae⟩) (by assumption) ?r9ae
                            case y9ae =>
                              intro w hSw
                              try dsimp only at hSw
                              go_simp
                              try with_reducible rfl
                            simp only [Act.put, List.setIfInBounds_toArray, List.set_cons_zero, List.set_cons_succ]
                            refine wpAnyH_take (i := 10) (oi := { dst := some 104, op := _, type := _, pos := _, after := _, guard := _ }) (v := ?v10ae) rfl (by kernel_rfl) (by kernel_rfl) (by kernel_rfl) (fun _ _ _ h => h) (Or.inl ⟨by rfl, ?y10ae⟩) (by assumption) ?r10ae
                            case y10ae =>
                              intro w hSw
                              try dsimp only at hSw
                              go_simp
                              try with_reducible rfl
                            simp only [Act.put, List.setIfInBounds_toArray, List.set_cons_zero, List.set_cons_succ]
                            refine wpAnyH_take (i := 12) (oi := { dst := some 106, op := _, type := _, pos := _, after := _, guard := _ }) (v := ?v12ae) rfl (by kernel_rfl) (by kernel_rfl) (by kernel_rfl) (fun _ _ _ h => h) (Or.inl ⟨by rfl, ?y12ae⟩) (by assumption) ?r12ae
                            case y12ae =>
                              intro w hSw
                              try dsimp only at hSw
                              go_simp
                              try with_reducible rfl
                            simp only [Act.put, List.setIfInBounds_toArray, List.set_cons_zero, List.set_cons_succ]
                            refine wpAnyH_take (i := 13) (oi := { dst := some 107, op := _, type := _, pos := _, after := _, guard := _ }) (v := ?v13ae) rfl (by kernel_rfl) (by kernel_rfl) (by kernel_rfl) (fun _ _ _ h => h) (Or.inl ⟨by rfl, ?y13ae⟩) (by assumption) ?r13ae
                            case y13ae =>
                              intro w hSw
                              try dsimp only at hSw
                              go_simp
                              try with_reducible rfl
                            simp only [Act.put, List.setIfInBounds_toArray, List.set_cons_zero, List.set_cons_succ]
                            refine wpAnyH_take (i := 14) (oi := { dst := some 108, op := _, type := _, pos := _, after := _, guard := _ }) (v := ?v14ae) rfl (by kernel_rfl) (by kernel_rfl) (by kernel_rfl) (fun _ _ _ h => h) (Or.inl ⟨by rfl, ?y14ae⟩) (by assumption) ?r14ae
                            case y14ae =>
                              intro w hSw
                              try dsimp only at hSw
                              go_simp
                              try with_reducible rfl
                            simp only [Act.put, List.setIfInBounds_toArray, List.set_cons_zero, List.set_cons_succ]
                            refine wpAnyH_take (i := 15) (oi := { dst := some 109, op := _, type := _, pos := _, after := _, guard := _ }) (v := ?v15ae) rfl (by kernel_rfl) (by kernel_rfl) (by kernel_rfl) (fun _ _ _ h => h) (Or.inl ⟨by rfl, ?y15ae⟩) (by assumption) ?r15ae
                            case y15ae =>
                              intro w hSw
                              try dsimp only at hSw
                              go_simp
                              try with_reducible rfl
                            simp only [Act.put, List.setIfInBounds_toArray, List.set_cons_zero, List.set_cons_succ]
                            refine wpAnyH_take (i := 16) (oi := { dst := some 110, op := _, type := _, pos := _, after := _, guard := _ }) (v := ?v16ae) rfl (by kernel_rfl) (by kernel_rfl) (by kernel_rfl) (fun _ _ _ h => h) (Or.inl ⟨by rfl, ?y16ae⟩) (by assumption) ?r16ae
                            case y16ae =>
                              intro w hSw
                              try dsimp only at hSw
                              go_simp
                              try with_reducible rfl
                            simp only [Act.put, List.setIfInBounds_toArray, List.set_cons_zero, List.set_cons_succ]
                            refine wpAnyH_take (i := 17) (oi := { dst := some 111, op := _, type := _, pos := _, after := _, guard := _ }) (v := ?v17ae) rfl (by kernel_rfl) (by kernel_rfl) (by kernel_rfl) (fun _ _ _ h => h) (Or.inl ⟨by rfl, ?y17ae⟩) (by assumption) ?r17ae
                            case y17ae =>
                              intro w hSw
                              try dsimp only at hSw
                              go_simp
                              try with_reducible rfl
                            simp only [Act.put, List.setIfInBounds_toArray, List.set_cons_zero, List.set_cons_succ]
                            refine wpAnyH_take (i := 18) (oi := { dst := some 112, op := _, type := _, pos := _, after := _, guard := _ }) (v := ?v18ae) rfl (by kernel_rfl) (by kernel_rfl) (by kernel_rfl) (fun _ _ _ h => h) (Or.inl ⟨by rfl, ?y18ae⟩) (by assumption) ?r18ae
                            case y18ae =>
                              intro w hSw
                              try dsimp only at hSw
                              go_simp
                              try with_reducible rfl
                            simp only [Act.put, List.setIfInBounds_toArray, List.set_cons_zero, List.set_cons_succ]
                            refine wpAnyH_take (i := 20) (oi := { dst := some 114, op := _, type := _, pos := _, after := _, guard := _ }) (v := ?v20ae) rfl (by kernel_rfl) (by kernel_rfl) (by kernel_rfl) (fun _ _ _ h => h) (Or.inl ⟨by rfl, ?y20ae⟩) (by assumption) ?r20ae
                            case y20ae =>
                              intro w hSw
                              try dsimp only at hSw
                              go_simp
                              try with_reducible rfl
                            simp only [Act.put, List.setIfInBounds_toArray, List.set_cons_zero, List.set_cons_succ]
                            refine wpAnyH_take (i := 21) (oi := { dst := some 115, op := _, type := _, pos := _, after := _, guard := _ }) (v := ?v21ae) rfl (by kernel_rfl) (by kernel_rfl) (by kernel_rfl) (fun _ _ _ h => h) (Or.inl ⟨by rfl, ?y21ae⟩) (by assumption) ?r21ae
                            case y21ae =>
                              intro w hSw
                              try dsimp only at hSw
                              go_simp
                              try with_reducible rfl
                            simp only [Act.put, List.setIfInBounds_toArray, List.set_cons_zero, List.set_cons_succ]
                            refine wpAnyH_take (i := 22) (oi := { dst := some 116, op := _, type := _, pos := _, after := _, guard := _ }) (v := ?v22ae) rfl (by kernel_rfl) (by kernel_rfl) (by kernel_rfl) (fun _ _ _ h => h) (Or.inl ⟨by rfl, ?y22ae⟩) (by assumption) ?r22ae
                            case y22ae =>
                              intro w hSw
                              try dsimp only at hSw
                              go_simp
                              try with_reducible rfl
                            simp only [Act.put, List.setIfInBounds_toArray, List.set_cons_zero, List.set_cons_succ]
                            refine wpAnyH_take (i := 23) (oi := { dst := some 117, op := _, type := _, pos := _, after := _, guard := _ }) (v := ?v23ae) rfl (by kernel_rfl) (by kernel_rfl) (by kernel_rfl) (fun _ _ _ h => h) (Or.inl ⟨by rfl, ?y23ae⟩) (by assumption) ?r23ae
                            case y23ae =>
                              intro w hSw
                              try dsimp only at hSw
                              go_simp
                              try with_reducible rfl
                            simp only [Act.put, List.setIfInBounds_toArray, List.set_cons_zero, List.set_cons_succ]
                            refine wpAnyH_take (i := 24) (oi := { dst := some 118, op := _, type := _, pos := _, after := _, guard := _ }) (v := ?v24ae) rfl (by kernel_rfl) (by kernel_rfl) (by kernel_rfl) (fun _ _ _ h => h) (Or.inl ⟨by rfl, ?y24ae⟩) (by assumption) ?r24ae
                            case y24ae =>
                              intro w hSw
                              try dsimp only at hSw
                              go_simp
                              try with_reducible rfl
                            simp only [Act.put, List.setIfInBounds_toArray, List.set_cons_zero, List.set_cons_succ]
                            refine wpAnyH_take (i := 25) (oi := { dst := some 119, op := _, type := _, pos := _, after := _, guard := _ }) (v := ?v25ae) rfl (by kernel_rfl) (by kernel_rfl) (by kernel_rfl) (fun _ _ _ h => h) (Or.inl ⟨by rfl, ?y25ae⟩) (by assumption) ?r25ae
                            case y25ae =>
                              intro w hSw
                              try dsimp only at hSw
                              go_simp
                              try with_reducible rfl
                            simp only [Act.put, List.setIfInBounds_toArray, List.set_cons_zero, List.set_cons_succ]
                            refine wpAnyH_take (i := 27) (oi := { dst := some 121, op := _, type := _, pos := _, after := _, guard := _ }) (v := ?v27ae) rfl (by kernel_rfl) (by kernel_rfl) (by kernel_rfl) (fun _ _ _ h => h) (Or.inl ⟨by rfl, ?y27ae⟩) (by assumption) ?r27ae
                            case y27ae =>
                              intro w hSw
                              try dsimp only at hSw
                              go_simp
                              try with_reducible rfl
                            simp only [Act.put, List.setIfInBounds_toArray, List.set_cons_zero, List.set_cons_succ]
                            refine wpAnyH_take (i := 28) (oi := { dst := some 122, op := _, type := _, pos := _, after := _, guard := _ }) (v := ?v28ae) rfl (by kernel_rfl) (by kernel_rfl) (by kernel_rfl) (fun _ _ _ h => h) (Or.inl ⟨by rfl, ?y28ae⟩) (by assumption) ?r28ae
                            case y28ae =>
                              intro w hSw
                              try dsimp only at hSw
                              go_simp
                              try with_reducible rfl
                            simp only [Act.put, List.setIfInBounds_toArray, List.set_cons_zero, List.set_cons_succ]
                            refine wpAnyH_take (i := 29) (oi := { dst := some 123, op := _, type := _, pos := _, after := _, guard := _ }) (v := ?v29ae) rfl (by kernel_rfl) (by kernel_rfl) (by kernel_rfl) (fun _ _ _ h => h) (Or.inl ⟨by rfl, ?y29ae⟩) (by assumption) ?r29ae
                            case y29ae =>
                              intro w hSw
                              try dsimp only at hSw
                              go_simp
                              try with_reducible rfl
                            simp only [Act.put, List.setIfInBounds_toArray, List.set_cons_zero, List.set_cons_succ]
                            refine wpAnyH_take (i := 30) (oi := { dst := some 124, op := _, type := _, pos := _, after := _, guard := _ }) (v := ?v30ae) rfl (by kernel_rfl) (by kernel_rfl) (by kernel_rfl) (fun _ _ _ h => h) (Or.inl ⟨by rfl, ?y30ae⟩) (by assumption) ?r30ae
                            case y30ae =>
                              intro w hSw
                              try dsimp only at hSw
                              go_simp
                              try with_reducible rfl
                            simp only [Act.put, List.setIfInBounds_toArray, List.set_cons_zero, List.set_cons_succ]
                            refine wpAnyH_take (i := 31) (oi := { dst := some 125, op := _, type := _, pos := _, after := _, guard := _ }) (v := ?v31ae) rfl (by kernel_rfl) (by kernel_rfl) (by kernel_rfl) (fun _ _ _ h => h) (Or.inl ⟨by rfl, ?y31ae⟩) (by assumption) ?r31ae
                            case y31ae =>
                              intro w hSw
                              try dsimp only at hSw
                              go_simp
                              try with_reducible rfl
                            simp only [Act.put, List.setIfInBounds_toArray, List.set_cons_zero, List.set_cons_succ]
                            refine wpAnyH_take (i := 32) (oi := { dst := some 126, op := _, type := _, pos := _, after := _, guard := _ }) (v := ?v32ae) rfl (by kernel_rfl) (by kernel_rfl) (by kernel_rfl) (fun _ _ _ h => h) (Or.inl ⟨by rfl, ?y32ae⟩) (by assumption) ?r32ae
                            case y32ae =>
                              intro w hSw
                              try dsimp only at hSw
                              go_simp
                              try with_reducible rfl
                            simp only [Act.put, List.setIfInBounds_toArray, List.set_cons_zero, List.set_cons_succ]
                            refine wpAnyH_take (i := 33) (oi := { dst := some 127, op := _, type := _, pos := _, after := _, guard := _ }) (v := ?v33ae) rfl (by kernel_rfl) (by kernel_rfl) (by kernel_rfl) (fun _ _ _ h => h) (Or.inl ⟨by rfl, ?y33ae⟩) (by assumption) ?r33ae
                            case y33ae =>
                              intro w hSw
                              try dsimp only at hSw
                              go_simp
                              try with_reducible rfl
                            simp only [Act.put, List.setIfInBounds_toArray, List.set_cons_zero, List.set_cons_succ]
                            refine wpAnyH_take (i := 36) (oi := { dst := some 130, op := _, type := _, pos := _, after := _, guard := _ }) (v := ?v36ae) rfl (by kernel_rfl) (by kernel_rfl) (by kernel_rfl) (fun _ _ _ h => h) (Or.inl ⟨by rfl, ?y36ae⟩) (by assumption) ?r36ae
                            case y36ae =>
                              intro w hSw
                              try dsimp only at hSw
                              go_simp
                              try with_reducible rfl
                            simp only [Act.put, List.setIfInBounds_toArray, List.set_cons_zero, List.set_cons_succ]
                            refine wpAnyH_ready (rs := [11, 26]) (by kernel_rfl) (by simp) ?_
                            refine AllReadyH.cons rfl (fun K hK => ?_) (AllReadyH.cons rfl (fun K hK => ?_) AllReadyH.nil)
                            · go_simp
                              try dsimp only
                              clear hHeld
                              refine hK.out _ _ ⟨c1, c2, x2⟩ (fun hHeld => ?_)
                              clear hK K
                              try simp only [Act.put, List.setIfInBounds_toArray, List.set_cons_zero, List.set_cons_succ]
                              refine wpAnyH_take (i := 19) (oi := { dst := some 113, op := _, type := _, pos := _, after := _, guard := _ }) (v := ?v19aep) rfl (by kernel_rfl) (by kernel_rfl) (by kernel_rfl) (fun _ _ _ h => h) (Or.inl ⟨by rfl, ?y19aep⟩) (by assumption) ?r19aep
                              case y19aep =>
                                intro w hSw
                                try dsimp only at hSw
                                go_simp
                                try with_reducible rfl
                              simp only [Act.put, List.setIfInBounds_toArray, List.set_cons_zero, List.set_cons_succ]
                              refine wpAnyH_ready (rs := [26]) (by kernel_rfl) (by simp) ?_
                              refine AllReadyH.cons rfl (fun K hK => ?_) AllReadyH.nil
                              go_simp
                              try dsimp only
                              clear hHeld
                              refine hK.out _ _ ⟨c1, c2, x2⟩ (fun hHeld => ?_)
                              clear hK K
                              try simp only [Act.put, List.setIfInBounds_toArray, List.set_cons_zero, List.set_cons_succ]
                              refine wpAnyH_take (i := 34) (oi := { dst := some 128, op := _, type := _, pos := _, after := _, guard := _ }) (v := ?v34aep) rfl (by kernel_rfl) (by kernel_rfl) (by kernel_rfl) (fun _ _ _ h => h) (Or.inl ⟨by rfl, ?y34aep⟩) (by assumption) ?r34aep
                              case y34aep =>
                                intro w hSw
                                try dsimp only at hSw
                                go_simp
                                try with_reducible rfl
                              simp only [Act.put, List.setIfInBounds_toArray, List.set_cons_zero, List.set_cons_succ]
                              refine wpAnyH_take (i := 35) (oi := { dst := some 129, op := _, type := _, pos := _, after := _, guard := _ }) (v := ?v35aep) rfl (by kernel_rfl) (by kernel_rfl) (by kernel_rfl) (fun _ _ _ h => h) (Or.inl ⟨by rfl, ?y35aep⟩) (by assumption) ?r35aep
                              case y35aep =>
                                intro w hSw
                                try dsimp only at hSw
                                go_simp
                                try with_reducible rfl
                              simp only [Act.put, List.setIfInBounds_toArray, List.set_cons_zero, List.set_cons_succ]
                              refine wpAnyH_take (i := 37) (oi := { dst := some 131, op := _, type := _, pos := _, after := _, guard := _ }) (v := ?v37aep) rfl (by kernel_rfl) (by kernel_rfl) (by kernel_rfl) (fun _ _ _ h => h) (Or.inl ⟨by rfl, ?y37aep⟩) (by assumption) ?r37aep
                              case y37aep =>
                                intro w hSw
                                try dsimp only at hSw
                                go_simp
                                try with_reducible rfl
                              simp only [Act.put, List.setIfInBounds_toArray, List.set_cons_zero, List.set_cons_succ]
                              refine wpAnyH_take (i := 38) (oi := { dst := some 132, op := _, type := _, pos := _, after := _, guard := _ }) (v := ?v38aep) rfl (by kernel_rfl) (by kernel_rfl) (by kernel_rfl) (fun _ _ _ h => h) (Or.inl ⟨by rfl, ?y38aep⟩) (by assumption) ?r38aep
                              case y38aep =>
                                intro w hSw
                                try dsimp only at hSw
                                go_simp
                                try with_reducible rfl
                              simp only [Act.put, List.setIfInBounds_toArray, List.set_cons_zero, List.set_cons_succ]
                              refine wpAnyH_ready (rs := [39]) (by kernel_rfl) (by simp) ?_
                              refine AllReadyH.cons rfl (fun K hK => ?_) AllReadyH.nil
                              go_simp
                              try dsimp only
                              clear hHeld
                              refine hK.out _ _ (KP.out _) (fun hHeld => ?_)
                              clear hK K
                              try simp only [Act.put, List.setIfInBounds_toArray, List.set_cons_zero, List.set_cons_succ]
                              refine wpAnyH_done (by kernel_rfl) ?_ _
                              go_wp2_with fail
                              go_roundg (k - k)
                              case measure => omega
                              case rel => exact ⟨k, by omega, by omega, rfl, by go_num, by have := HD2.out; rw [← HEE.out, HZZ.out] at this; exact this.keep (Below.refl _ _).drew, by have := HB2.out; rw [← HEE.out, HZZ.out] at this; exact this.drew⟩
                            · go_simp
                              try dsimp only
                              clear hHeld
                              refine hK.out _ _ ⟨c1, c2, x2⟩ (fun hHeld => ?_)
                              clear hK K
                              try simp only [Act.put, List.setIfInBounds_toArray, List.set_cons_zero, List.set_cons_succ]
                              refine wpAnyH_take (i := 34) (oi := { dst := some 128, op := _, type := _, pos := _, after := _, guard := _ }) (v := ?v34aeq) rfl (by kernel_rfl) (by kernel_rfl) (by kernel_rfl) (fun _ _ _ h => h) (Or.inl ⟨by rfl, ?y34aeq⟩) (by assumption) ?r34aeq
                              case y34aeq =>
                                intro w hSw
                                try dsimp only at hSw
                                go_simp
                                try with_reducible rfl
                              simp only [Act.put, List.setIfInBounds_toArray, List.set_cons_zero, List.set_cons_succ]
                              refine wpAnyH_ready (rs := [11]) (by kernel_rfl) (by simp) ?_
                              refine AllReadyH.cons rfl (fun K hK => ?_) AllReadyH.nil
                              go_simp
                              try dsimp only
                              clear hHeld
                              refine hK.out _ _ ⟨c1, c2, x2⟩ (fun hHeld => ?_)
                              clear hK K
                              try simp only [Act.put, List.setIfInBounds_toArray, List.set_cons_zero, List.set_cons_succ]
                              refine wpAnyH_take (i := 19) (oi := { dst := some 113, op := _, type := _, pos := _, after := _, guard := _ }) (v := ?v19aeq) rfl (by kernel_rfl) (by kernel_rfl) (by kernel_rfl) (fun _ _ _ h => h) (Or.inl ⟨by rfl, ?y19aeq⟩) (by assumption) ?r19aeq
                              case y19aeq =>
                                intro w hSw
                                try dsimp only at hSw
                                go_simp
                                try with_reducible rfl
                              simp only [Act.put, List.setIfInBounds_toArray, List.set_cons_zero, List.set_cons_succ]
                              refine wpAnyH_take (i := 35) (oi := { dst := some 129, op := _, type := _, pos := _, after := _, guard := _ }) (v := ?v35aeq) rfl (by kernel_rfl) (by kernel_rfl) (by kernel_rfl) (fun _ _ _ h => h) (Or.inl ⟨by rfl, ?y35aeq⟩) (by assumption) ?r35aeq
                              case y35aeq =>
                                intro w hSw
                                try dsimp only at hSw
                                go_simp
                                try with_reducible rfl
                              simp only [Act.put, List.setIfInBounds_toArray, List.set_cons_zero, List.set_cons_succ]
                              refine wpAnyH_take (i := 37) (oi := { dst := some 131, op := _, type := _, pos := _, after := _, guard := _ }) (v := ?v37aeq) rfl (by kernel_rfl) (by kernel_rfl) (by kernel_rfl) (fun _ _ _ h => h) (Or.inl ⟨by rfl, ?y37aeq⟩) (by assumption) ?r37aeq
                              case y37aeq =>
                                intro w hSw
                                try dsimp only at hSw
                                go_simp
                                try with_reducible rfl
                              simp only [Act.put, List.setIfInBounds_toArray, List.set_cons_zero, List.set_cons_succ]
                              refine wpAnyH_take (i := 38) (oi := { dst := some 132, op := _, type := _, pos := _, after := _, guard := _ }) (v := ?v38aeq) rfl (by kernel_rfl) (by kernel_rfl) (by kernel_rfl) (fun _ _ _ h => h) (Or.inl ⟨by rfl, ?y38aeq⟩) (by assumption) ?r38aeq
                              case y38aeq =>
                                intro w hSw
                                try dsimp only at hSw
                                go_simp
                                try with_reducible rfl
                              simp only [Act.put, List.setIfInBounds_toArray, List.set_cons_zero, List.set_cons_succ]
                              refine wpAnyH_ready (rs := [39]) (by kernel_rfl) (by simp) ?_
                              refine AllReadyH.cons rfl (fun K hK => ?_) AllReadyH.nil
                              go_simp
                              try dsimp only
                              clear hHeld
                              refine hK.out _ _ (KP.out _) (fun hHeld => ?_)
                              clear hK K
                              try simp only [Act.put, List.setIfInBounds_toArray, List.set_cons_zero, List.set_cons_succ]
                              refine wpAnyH_done (by kernel_rfl) ?_ _
                              go_wp2_with fail
                              go_roundg (k - k)
                              case measure => omega
                              case rel => exact ⟨k, by omega, by omega, rfl, by go_num, by have := HD2.out; rw [← HEE.out, HZZ.out] at this; exact this.keep (Below.refl _ _).drew, by have := HB2.out; rw [← HEE.out, HZZ.out] at this; exact this.drew⟩
                        · have e : t = k := by omega
                          subst e
                          have D2 := Dm.congr (fun r' j' _ _ => partR_row F1 t l i r r' j')
                          clear Dm
                          go_wp2_with fail
                          go_roundg (i - (r + 1))
                          case measure => omega
                          case rel => exact ⟨r + 1, by omega, by omega, rfl, by go_num, D2.congr (fun r' j' _ hj' => partR_row2 F1 t l i r r' j' hj'), B⟩
                    · have e : r = i := by omega
                      subst e
                      have c2 := Dm.row hlt
                      have x2 := Dm.ent hlt hlt
                      rw [partR_old _ _ _ _ _ _ _ (by omega)] at x2
                      have HD3 := Lib.hid (show detS r (r - (k + 1)) (k + 1) (partR F1 k l r r) s1 (F1 k k) = detS r r 0 (mF M) 1 1 by
                        rw [← HD.out]
                        exact Dt.detS_congr _ _ _ _ _ _ (by omega) (fun i' j' hi' hj' hjn => partR_end F1 k l r i' j' hi' hj'))
                      have p2 : (0 : Int) ≤ (k : Int) := by omega
                      have p3 : (k : Int) < (r : Int) := by omega
                      go_wp2_with fail
                      go_roundg (r - (k + 1))
                      case measure => omega
                      case rel => exact ⟨k + 1, s1, F1 k k, partR F1 k l r r, g1, q1, by omega, rfl, by go_num, rfl, rfl, hs1', hp0, Dm, B, HD3.out⟩
                · have HD := Lib.hid (show detS i (i - (k + 1)) (k + 1) (elimF (swapF F a k) k l) (-s) (swapF F a k k k) = detS i i 0 (mF M) 1 1 by rw [← HDET.out, hkk, detS_swap HPV.out (by omega) hak]; congr 1)
                  have hp0 : swapF F a k k k ≠ 0 := by rw [swapF, if_neg (fun e => hak e.symm), if_pos rfl]; exact hz0
                  have ck := Dm.row hlt
                  have fa := Dm.O.1.2 a
                  have fk := Dm.O.1.2 k
                  have p5 : ((a : Int) != (k : Int)) = true := by rw [bne_iff_ne]; omega
                  have D1 := Dm.swap hai2 hlt hak
                  have B1 := below_set (below_set B (b := D) (i := a) Dm.B (.slice (some ⟨g k, 0, none⟩) i (q k))) (b := D) (i := k) Dm.B (.slice (some ⟨g a, 0, none⟩) i (q a))
                  obtain ⟨F1, hF1⟩ : ∃ F1, swapF F a k = F1 := ⟨_, rfl⟩
                  obtain ⟨g1, hg1⟩ : ∃ g1, (fun r => if r = a then g k else if r = k then g a else g r) = g1 := ⟨_, rfl⟩
                  obtain ⟨q1, hq1⟩ : ∃ q1, (fun r => if r = a then q k else if r = k then q a else q r) = q1 := ⟨_, rfl⟩
                  rw [hF1, hg1, hq1] at D1
                  rw [hF1] at hp0
                  have HD := Lib.hid (show detS i (i - (k + 1)) (k + 1) (elimF F1 k l) (-s) (F1 k k) = detS i i 0 (mF M) 1 1 by rw [← hF1]; exact HD.out)
                  obtain ⟨s1, hs⟩ : ∃ s1, -s = s1 := ⟨_, rfl⟩
                  rw [hs] at HD
                  have hs1' : s1 = 1 ∨ s1 = -1 := by omega
                  clear hkk hz0 Dm B hF1 hg1 hq1
                  have hne : k ≠ a := fun e => hak e.symm
                  go_wp2_with fail
                  go_loopg [10, 11] (i - (k + 1)) (fun gk s10 _ wx => ∃ r : Nat, k + 1 ≤ r ∧ r ≤ i ∧ gk = i - r ∧ s10 = .int .i64 r ∧ DM wx w.heap.size D i i g1 q1 (partR F1 k l r i) ∧ Below w.heap.size w wx)
                  case atStart => exact ⟨k + 1, Nat.le_refl _, by omega, rfl, by go_num, D1.congr (fun r j _ hj => (partR_start F1 k l i r j hj).symm), B1⟩
                  case round =>
                    clear D1 B1
                    obtain ⟨r, hr1, hr2, rfl, rfl, Dm, B⟩ := hrel
                    by_cases hri : r < i
                    · go_wp2_with fail
                      go_loopg [11] (i - k) (fun gk s11 wx => ∃ t : Nat, k ≤ t ∧ t ≤ i ∧ gk = t - k ∧ s11 = .int .i64 ((t : Int) - 1) ∧ DM wx w.heap.size D i i g1 q1 (partR F1 k l r t) ∧ Below w.heap.size w wx)
                      case atStart => exact ⟨i, by omega, Nat.le_refl _, rfl, by go_num, Dm, B⟩
                      case round =>
                        clear Dm B
                        obtain ⟨t, ht1, ht2, rfl, rfl, Dm, B⟩ := hrel
                        by_cases htk : k < t
                        · obtain ⟨j, rfl⟩ : ∃ j, t = j + 1 := ⟨t - 1, by omega⟩
                          have hji : j < i := by omega
                          have hkj : k ≤ j := by omega
                          have c1 := Dm.row hri
                          have c2 := Dm.row hlt
                          have x1 := Dm.ent hri hji
                          have x2 := Dm.ent hlt hlt
                          have x3 := Dm.ent hri hlt
                          have x4 := Dm.ent hlt hji
                          rw [partR_old _ _ _ _ _ _ _ (by omega)] at x1 x2 x3 x4
                          have f1 := (Dm.R r hri).1.2 j
                          have D2 := (Dm.store hri hji (EE F1 k r j l)).congr (fun r' j' _ _ => partR_step F1 k l r j (by omega) (by omega) r' j')
                          have B2 := below_set B (b := g1 r) (i := j) (Dm.U r hri).2 (.int .i64 (EE F1 k r j l))
                          have p0 : (0 : Int) ≤ (r : Int) := by omega
                          have p1 : (r : Int) < (i : Int) := by omega
                          have p2 : (0 : Int) ≤ (k : Int) := by omega
                          have p3 : (k : Int) < (i : Int) := by omega
                          have p5 : (0 : Int) ≤ (j : Int) := by omega
                          have p6 : (j : Int) < (i : Int) := by omega
                          have p7 : ((j + 1 : Nat) : Int) - 1 = (j : Int) := by omega
                          have hlb : (l == 0) = false := by rw [beq_eq_false_iff_ne]; exact hl0
                          have HDm := Lib.hid Dm
                          rw [p7]
                          clear Dm B p7
                          obtain ⟨ee, hee⟩ : ∃ ee, EE F1 k r j l = ee := ⟨_, rfl⟩
                          rw [hee] at D2 B2
                          rw [EE] at hee
                          obtain ⟨gr, hgr⟩ : ∃ gr, g1 r = gr := ⟨_, rfl⟩
                          obtain ⟨gk, hgk⟩ : ∃ gk, g1 k = gk := ⟨_, rfl⟩
                          have hgD : gr ≠ D := by rw [← hgr]; exact (HDm.out.U r hri).1
                          have hgg : gk ≠ gr := by rw [← hgr, ← hgk]; intro e; have := HDm.out.J k r hlt hri e; omega
                          rw [hgr] at c1 x1 x3 f1 D2 B2
                          rw [hgk] at c2 x2 x4
                          rcases Nat.lt_or_eq_of_le hkj with hkj2 | rfl
                          · obtain ⟨y1, hy1⟩ : ∃ y1, F1 r j = y1 := ⟨_, rfl⟩
                            obtain ⟨y2, hy2⟩ : ∃ y2, F1 k k = y2 := ⟨_, rfl⟩
                            obtain ⟨y3, hy3⟩ : ∃ y3, F1 r k = y3 := ⟨_, rfl⟩
                            obtain ⟨y4, hy4⟩ : ∃ y4, F1 k j = y4 := ⟨_, rfl⟩
                            rw [hy1] at x1 hee
                            rw [hy2] at x2 hee
                            rw [hy3] at x3 hee
                            rw [hy4] at x4 hee
                            have HEE := Lib.hid hee
                            have HD2 := Lib.hid D2
                            have HB2 := Lib.hid B2
                            have KP := Lib.hid (show ∀ v : Value, (wr.setCell ⟨gr, j, none⟩ v).cell? ⟨D, r, none⟩ = some (.slice (some ⟨gr, 0, none⟩) i (q1 r)) ∧ (wr.setCell ⟨gr, j, none⟩ v).cell? ⟨D, k, none⟩ = some (.slice (some ⟨gk, 0, none⟩) i (q1 k)) ∧ (wr.setCell ⟨gr, j, none⟩ v).cell? ⟨gk, k, none⟩ = some (.int .i64 y2) ∧ (wr.setCell ⟨gr, j, none⟩ v).cell? ⟨gr, k, none⟩ = some (.int .i64 y3) ∧ (wr.setCell ⟨gr, j, none⟩ v).cell? ⟨gk, j, none⟩ = some (.int .i64 y4) from fun v => ⟨(World.cell?_setCell_other _ _ _ _ (by first | (simp; done) | (simp; omega))).trans c1, (World.cell?_setCell_other _ _ _ _ (by first | (simp; done) | (simp; omega))).trans c2, (World.cell?_setCell_other _ _ _ _ (by first | (simp; done) | (simp; omega))).trans x2, (World.cell?_setCell_other _ _ _ _ (by first | (simp; done) | (simp; omega))).trans x3, (World.cell?_setCell_other _ _ _ _ (by first | (simp; done) | (simp; omega))).trans x4⟩)
                            clear hee D2 B2 hgr hgk hy1 hy2 hy3 hy4 hgD hgg HDm
                            go_wp2_with fail
                            refine wp_region_held_drew (S := (fun w' => w'.cell? ⟨D, r, none⟩ = some (.slice (some ⟨gr, 0, none⟩) i (q1 r)) ∧ w'.cell? ⟨D, k, none⟩ = some (.slice (some ⟨gk, 0, none⟩) i (q1 k)) ∧ w'.cell? ⟨gk, k, none⟩ = some (.int .i64 y2) ∧ w'.cell? ⟨gr, k, none⟩ = some (.int .i64 y3) ∧ w'.cell? ⟨gk, j, none⟩ = some (.int .i64 y4))) (by kernel_rfl) ⟨c1, c2, x2, x3, x4⟩ (fun hHeld => ?_)
                            refine wpAnyH_take (i := 0) (oi := { dst := some 94, op := _, type := _, pos := _, after := _, guard := _ }) (v := ?v0b) rfl (by kernel_rfl) (by kernel_rfl) (by kernel_rfl) (fun _ _ _ h => h) (Or.inl ⟨by rfl, ?y0b⟩) (by assumption) ?r0b
                            case y0b =>
                              intro w hSw
                              try dsimp only at hSw
                              go_simp
                              try with_reducible rfl
                            simp only [Act.put, List.setIfInBounds_toArray, List.set_cons_zero, List.set_cons_succ]
                            refine wpAnyH_take (i := 1) (oi := { dst := some 95, op := _, type := _, pos := _, after := _, guard := _ }) (v := ?v1b) rfl (by kernel_rfl) (by kernel_rfl) (by kernel_rfl) (fun _ _ _ h => h) (Or.inl ⟨by rfl, ?y1b⟩) (by assumption) ?r1b
                            case y1b =>
                              intro w hSw
                              try dsimp only at hSw
                              go_simp
                              try with_reducible rfl
                            simp only [Act.put, List.setIfInBounds_toArray, List.set_cons_zero, List.set_cons_succ]
                            refine wpAnyH_take (i := 2) (oi := { dst := some 96, op := _, type := _, pos := _, after := _, guard := _ }) (v := ?v2b) rfl (by kernel_rfl) (by kernel_rfl) (by kernel_rfl) (fun _ _ _ h => h) (Or.inl ⟨by rfl, ?y2b⟩) (by assumption) ?r2b
                            case y2b =>
                              intro w hSw
                              try dsimp only at hSw
                              go_simp
                              try with_reducible rfl
                            simp only [Act.put, List.setIfInBounds_toArray, List.set_cons_zero, List.set_cons_succ]
                            refine wpAnyH_take (i := 3) (oi := { dst := some 97, op := _, type := _, pos := _, after := _, guard := _ }) (v := ?v3b) rfl (by kernel_rfl) (by kernel_rfl) (by kernel_rfl) (fun _ _ _ h => h) (Or.inl ⟨by rfl, ?y3b⟩) (by assumption) ?r3b
                            case y3b =>
                              intro w hSw
                              try dsimp only at hSw
                              go_simp
                              try with_reducible rfl
                            simp only [Act.put, List.setIfInBounds_toArray, List.set_cons_zero, List.set_cons_succ]
                            refine wpAnyH_take (i := 4) (oi := { dst := some 98, op := _, type := _, pos := _, after := _, guard := _ }) (v := ?v4b) rfl (by kernel_rfl) (by kernel_rfl) (by kernel_rfl) (fun _ _ _ h => h) (Or.inl ⟨by rfl, ?y4b⟩) (by assumption) ?r4b
                            case y4b =>
                              intro w hSw
                              try dsimp only at hSw
                              go_simp
                              try with_reducible rfl
                            simp only [Act.put, List.setIfInBounds_toArray, List.set_cons_zero, List.set_cons_succ]
                            refine wpAnyH_take (i := 5) (oi := { dst := some 99, op := _, type := _, pos := _, after := _, guard := _ }) (v := ?v5b) rfl (by kernel_rfl) (by kernel_rfl) (by kernel_rfl) (fun _ _ _ h => h) (Or.inl ⟨by rfl, ?y5b⟩) (by assumption) ?r5b
                            case y5b =>
                              intro w hSw
                              try dsimp only at hSw
                              go_simp
                              try with_reducible rfl
                            simp only [Act.put, List.setIfInBounds_toArray, List.set_cons_zero, List.set_cons_succ]
                            refine wpAnyH_take (i := 6) (oi := { dst := some 100, op := _, type := _, pos := _, after := _, guard := _ }) (v := ?v6b) rfl (by kernel_rfl) (by kernel_rfl) (by kernel_rfl) (fun _ _ _ h => h) (Or.inl ⟨by rfl, ?y6b⟩) (by assumption) ?r6b
                            case y6b =>
                              intro w hSw
                              try dsimp only at hSw
                              go_simp
                              try with_reducible rfl
                            simp only [Act.put, List.setIfInBounds_toArray, List.set_cons_zero, List.set_cons_succ]
                            refine wpAnyH_take (i := 7) (oi := { dst := some 101, op := _, type := _, pos := _, after := _, guard := _ }) (v := ?v7b) rfl (by kernel_rfl) (by kernel_rfl) (by kernel_rfl) (fun _ _ _ h => h) (Or.inl ⟨by rfl, ?y7b⟩) (by assumption) ?r7b
                            case y7b =>
                              intro w hSw
                              try dsimp only at hSw
                              go_simp
                              try with_reducible rfl
                            simp only [Act.put, List.setIfInBounds_toArray, List.set_cons_zero, List.set_cons_succ]
                            refine wpAnyH_take (i := 8) (oi := { dst := some 102, op := _, type := _, pos := _, after := _, guard := _ }) (v := ?v8b) rfl (by kernel_rfl) (by kernel_rfl) (by kernel_rfl) (fun _ _ _ h => h) (Or.inl ⟨by rfl, ?y8b⟩) (by assumption) ?r8b
                            case y8b =>
                              intro w hSw
                              try dsimp only at hSw
                              go_simp
                              try with_reducible rfl
                            simp only [Act.put, List.setIfInBounds_toArray, List.set_cons_zero, List.set_cons_succ]
                            refine wpAnyH_take (i := 9) (oi := { dst := some 103, op := _, type := _, pos := _, after := _, guard := _ }) (v := ?v9b) rfl (by kernel_rfl) (by kernel_rfl) (by kernel_rfl) (fun _ _ _ h => h) (Or.inl ⟨by rfl, ?y9b⟩) (by assumption) ?r9b
                            case y9b =>
                              intro w hSw
                              try dsimp only at hSw
                              go_simp
                              try with_reducible rfl
                            simp only [Act.put, List.setIfInBounds_toArray, List.set_cons_zero, List.set_cons_succ]
                            refine wpAnyH_take (i := 10) (oi := { dst := some 104, op := _, type := _, pos := _, after := _, guard := _ }) (v := ?v10b) rfl (by kernel_rfl) (by kernel_rfl) (by kernel_rfl) (fun _ _ _ h => h) (Or.inl ⟨by rfl, ?y10b⟩) (by assumption) ?r10b
                            case y10b =>
                              intro w hSw
                              try dsimp only at hSw
                              go_simp
                              try with_reducible rfl
                            simp only [Act.put, List.setIfInBounds_toArray, List.set_cons_zero, List.set_cons_succ]
                            refine wpAnyH_take (i := 12) (oi := { dst := some 106, op := _, type := _, pos := _, after := _, guard := _ }) (v := ?v12b) rfl (by kernel_rfl) (by kernel_rfl) (by kernel_rfl) (fun _ _ _ h => h) (Or.inl ⟨by rfl, ?y12b⟩) (by assumption) ?r12b
                            case y12b =>
                              intro w hSw
                              try dsimp only at hSw
                              go_simp
                              try with_reducible rfl
                            simp only [Act.put, List.setIfInBounds_toArray, List.set_cons_zero, List.set_cons_succ]
                            refine wpAnyH_take (i := 13) (oi := { dst := some 107, op := _, type := _, pos := _, after := _, guard := _ }) (v := ?v13b) rfl (by kernel_rfl) (by kernel_rfl) (by kernel_rfl) (fun _ _ _ h => h) (Or.inl ⟨by rfl, ?y13b⟩) (by assumption) ?r13b
                            case y13b =>
                              intro w hSw
                              try dsimp only at hSw
                              go_simp
                              try with_reducible rfl
                            simp only [Act.put, List.setIfInBounds_toArray, List.set_cons_zero, List.set_cons_succ]
                            refine wpAnyH_take (i := 14) (oi := { dst := some 108, op := _, type := _, pos := _, after := _, guard := _ }) (v := ?v14b) rfl (by kernel_rfl) (by kernel_rfl) (by kernel_rfl) (fun _ _ _ h => h) (Or.inl ⟨by rfl, ?y14b⟩) (by assumption) ?r14b
                            case y14b =>
                              intro w hSw
                              try dsimp only at hSw
                              go_simp
                              try with_reducible rfl
                            simp only [Act.put, List.setIfInBounds_toArray, List.set_cons_zero, List.set_cons_succ]
                            refine wpAnyH_take (i := 15) (oi := { dst := some 109, op := _, type := _, pos := _, after := _, guard := _ }) (v := ?v15b) rfl (by kernel_rfl) (by kernel_rfl) (by kernel_rfl) (fun _ _ _ h => h) (Or.inl ⟨by rfl, ?y15b⟩) (by assumption) ?r15b
                            case y15b =>
                              intro w hSw
                              try dsimp only at hSw
                              go_simp
                              try with_reducible rfl
                            simp only [Act.put, List.setIfInBounds_toArray, List.set_cons_zero, List.set_cons_succ]
                            refine wpAnyH_take (i := 16) (oi := { dst := some 110, op := _, type := _, pos := _, after := _, guard := _ }) (v := ?v16b) rfl (by kernel_rfl) (by kernel_rfl) (by kernel_rfl) (fun _ _ _ h => h) (Or.inl ⟨by rfl, ?y16b⟩) (by assumption) ?r16b
                            case y16b =>
                              intro w hSw
                              try dsimp only at hSw
                              go_simp
                              try with_reducible rfl
                            simp only [Act.put, List.setIfInBounds_toArray, List.set_cons_zero, List.set_cons_succ]
                            refine wpAnyH_take (i := 17) (oi := { dst := some 111, op := _, type := _, pos := _, after := _, guard := _ }) (v := ?v17b) rfl (by kernel_rfl) (by kernel_rfl) (by kernel_rfl) (fun _ _ _ h => h) (Or.inl ⟨by rfl, ?y17b⟩) (by assumption) ?r17b
                            case y17b =>
                              intro w hSw
                              try dsimp only at hSw
                              go_simp
                              try with_reducible rfl
                            simp only [Act.put, List.setIfInBounds_toArray, List.set_cons_zero, List.set_cons_succ]
                            refine wpAnyH_take (i := 18) (oi := { dst := some 112, op := _, type := _, pos := _, after := _, guard := _ }) (v := ?v18b) rfl (by kernel_rfl) (by kernel_rfl) (by kernel_rfl) (fun _ _ _ h => h) (Or.inl ⟨by rfl, ?y18b⟩) (by assumption) ?r18b
                            case y18b =>
                              intro w hSw
                              try dsimp only at hSw
                              go_simp
                              try with_reducible rfl
                            simp only [Act.put, List.setIfInBounds_toArray, List.set_cons_zero, List.set_cons_succ]
                            refine wpAnyH_take (i := 20) (oi := { dst := some 114, op := _, type := _, pos := _, after := _, guard := _ }) (v := ?v20b) rfl (by kernel_rfl) (by kernel_rfl) (by kernel_rfl) (fun _ _ _ h => h) (Or.inl ⟨by rfl, ?y20b⟩) (by assumption) ?r20b
                            case y20b =>
                              intro w hSw
                              try dsimp only at hSw
                              go_simp
                              try with_reducible rfl
                            simp only [Act.put, List.setIfInBounds_toArray, List.set_cons_zero, List.set_cons_succ]
                            refine wpAnyH_take (i := 21) (oi := { dst := some 115, op := _, type := _, pos := _, after := _, guard := _ }) (v := ?v21b) rfl (by kernel_rfl) (by kernel_rfl) (by kernel_rfl) (fun _ _ _ h => h) (Or.inl ⟨by rfl, ?y21b⟩) (by assumption) ?r21b
                            case y21b =>
                              intro w hSw
                              try dsimp only at hSw
                              go_simp
                              try with_reducible rfl
                            simp only [Act.put, List.setIfInBounds_toArray, List.set_cons_zero, List.set_cons_succ]
                            refine wpAnyH_take (i := 22) (oi := { dst := some 116, op := _, type := _, pos := _, after := _, guard := _ }) (v := ?v22b) rfl (by kernel_rfl) (by kernel_rfl) (by kernel_rfl) (fun _ _ _ h => h) (Or.inl ⟨by rfl, ?y22b⟩) (by assumption) ?r22b
                            case y22b =>
                              intro w hSw
                              try dsimp only at hSw
                              go_simp
                              try with_reducible rfl
                            simp only [Act.put, List.setIfInBounds_toArray, List.set_cons_zero, List.set_cons_succ]
                            refine wpAnyH_take (i := 23) (oi := { dst := some 117, op := _, type := _, pos := _, after := _, guard := _ }) (v := ?v23b) rfl (by kernel_rfl) (by kernel_rfl) (by kernel_rfl) (fun _ _ _ h => h) (Or.inl ⟨by rfl, ?y23b⟩) (by assumption) ?r23b
                            case y23b =>
                              intro w hSw
                              try dsimp only at hSw
                              go_simp
                              try with_reducible rfl
                            simp only [Act.put, List.setIfInBounds_toArray, List.set_cons_zero, List.set_cons_succ]
                            refine wpAnyH_take (i := 24) (oi := { dst := some 118, op := _, type := _, pos := _, after := _, guard := _ }) (v := ?v24b) rfl (by kernel_rfl) (by kernel_rfl) (by kernel_rfl) (fun _ _ _ h => h) (Or.inl ⟨by rfl, ?y24b⟩) (by assumption) ?r24b
                            case y24b =>
                              intro w hSw
                              try dsimp only at hSw
                              go_simp
                              try with_reducible rfl
                            simp only [Act.put, List.setIfInBounds_toArray, List.set_cons_zero, List.set_cons_succ]
                            refine wpAnyH_take (i := 25) (oi := { dst := some 119, op := _, type := _, pos := _, after := _, guard := _ }) (v := ?v25b) rfl (by kernel_rfl) (by kernel_rfl) (by kernel_rfl) (fun _ _ _ h => h) (Or.inl ⟨by rfl, ?y25b⟩) (by assumption) ?r25b
                            case y25b =>
                              intro w hSw
                              try dsimp only at hSw
                              go_simp
                              try with_reducible rfl
                            simp only [Act.put, List.setIfInBounds_toArray, List.set_cons_zero, List.set_cons_succ]
                            refine wpAnyH_take (i := 26) (oi := { dst := some 120, op := _, type := _, pos := _, after := _, guard := _ }) (v := ?v26b) rfl (by kernel_rfl) (by kernel_rfl) (by kernel_rfl) (fun _ _ _ h => h) (Or.inl ⟨by rfl, ?y26b⟩) (by assumption) ?r26b
                            case y26b =>
                              intro w hSw
                              try dsimp only at hSw
                              go_simp
                              try with_reducible rfl
                            simp only [Act.put, List.setIfInBounds_toArray, List.set_cons_zero, List.set_cons_succ]
                            refine wpAnyH_take (i := 27) (oi := { dst := some 121, op := _, type := _, pos := _, after := _, guard := _ }) (v := ?v27b) rfl (by kernel_rfl) (by kernel_rfl) (by kernel_rfl) (fun _ _ _ h => h) (Or.inl ⟨by rfl, ?y27b⟩) (by assumption) ?r27b
                            case y27b =>
                              intro w hSw
                              try dsimp only at hSw
                              go_simp
                              try with_reducible rfl
                            simp only [Act.put, List.setIfInBounds_toArray, List.set_cons_zero, List.set_cons_succ]
                            refine wpAnyH_take (i := 28) (oi := { dst := some 122, op := _, type := _, pos := _, after := _, guard := _ }) (v := ?v28b) rfl (by kernel_rfl) (by kernel_rfl) (by kernel_rfl) (fun _ _ _ h => h) (Or.inl ⟨by rfl, ?y28b⟩) (by assumption) ?r28b
                            case y28b =>
                              intro w hSw
                              try dsimp only at hSw
                              go_simp
                              try with_reducible rfl
                            simp only [Act.put, List.setIfInBounds_toArray, List.set_cons_zero, List.set_cons_succ]
                            refine wpAnyH_take (i := 29) (oi := { dst := some 123, op := _, type := _, pos := _, after := _, guard := _ }) (v := ?v29b) rfl (by kernel_rfl) (by kernel_rfl) (by kernel_rfl) (fun _ _ _ h => h) (Or.inl ⟨by rfl, ?y29b⟩) (by assumption) ?r29b
                            case y29b =>
                              intro w hSw
                              try dsimp only at hSw
                              go_simp
                              try with_reducible rfl
                            simp only [Act.put, List.setIfInBounds_toArray, List.set_cons_zero, List.set_cons_succ]
                            refine wpAnyH_take (i := 30) (oi := { dst := some 124, op := _, type := _, pos := _, after := _, guard := _ }) (v := ?v30b) rfl (by kernel_rfl) (by kernel_rfl) (by kernel_rfl) (fun _ _ _ h => h) (Or.inl ⟨by rfl, ?y30b⟩) (by assumption) ?r30b
                            case y30b =>
                              intro w hSw
                              try dsimp only at hSw
                              go_simp
                              try with_reducible rfl
                            simp only [Act.put, List.setIfInBounds_toArray, List.set_cons_zero, List.set_cons_succ]
                            refine wpAnyH_take (i := 31) (oi := { dst := some 125, op := _, type := _, pos := _, after := _, guard := _ }) (v := ?v31b) rfl (by kernel_rfl) (by kernel_rfl) (by kernel_rfl) (fun _ _ _ h => h) (Or.inl ⟨by rfl, ?y31b⟩) (by assumption) ?r31b
                            case y31b =>
                              intro w hSw
                              try dsimp only at hSw
                              go_simp
                              try with_reducible rfl
                            simp only [Act.put, List.setIfInBounds_toArray, List.set_cons_zero, List.set_cons_succ]
                            refine wpAnyH_take (i := 32) (oi := { dst := some 126, op := _, type := _, pos := _, after := _, guard := _ }) (v := ?v32b) rfl (by kernel_rfl) (by kernel_rfl) (by kernel_rfl) (fun _ _ _ h => h) (Or.inl ⟨by rfl, ?y32b⟩) (by assumption) ?r32b
                            case y32b =>
                              intro w hSw
                              try dsimp only at hSw
                              go_simp
                              try with_reducible rfl
                            simp only [Act.put, List.setIfInBounds_toArray, List.set_cons_zero, List.set_cons_succ]
                            refine wpAnyH_take (i := 33) (oi := { dst := some 127, op := _, type := _, pos := _, after := _, guard := _ }) (v := ?v33b) rfl (by kernel_rfl) (by kernel_rfl) (by kernel_rfl) (fun _ _ _ h => h) (Or.inl ⟨by rfl, ?y33b⟩) (by assumption) ?r33b
                            case y33b =>
                              intro w hSw
                              try dsimp only at hSw
                              go_simp
                              try with_reducible rfl
                            simp only [Act.put, List.setIfInBounds_toArray, List.set_cons_zero, List.set_cons_succ]
                            refine wpAnyH_take (i := 34) (oi := { dst := some 128, op := _, type := _, pos := _, after := _, guard := _ }) (v := ?v34b) rfl (by kernel_rfl) (by kernel_rfl) (by kernel_rfl) (fun _ _ _ h => h) (Or.inl ⟨by rfl, ?y34b⟩) (by assumption) ?r34b
                            case y34b =>
                              intro w hSw
                              try dsimp only at hSw
                              go_simp
                              try with_reducible rfl
                            simp only [Act.put, List.setIfInBounds_toArray, List.set_cons_zero, List.set_cons_succ]
                            refine wpAnyH_take (i := 36) (oi := { dst := some 130, op := _, type := _, pos := _, after := _, guard := _ }) (v := ?v36b) rfl (by kernel_rfl) (by kernel_rfl) (by kernel_rfl) (fun _ _ _ h => h) (Or.inl ⟨by rfl, ?y36b⟩) (by assumption) ?r36b
                            case y36b =>
                              intro w hSw
                              try dsimp only at hSw
                              go_simp
                              try with_reducible rfl
                            simp only [Act.put, List.setIfInBounds_toArray, List.set_cons_zero, List.set_cons_succ]
                            refine wpAnyH_ready (rs := [11]) (by kernel_rfl) (by simp) ?_
                            refine AllReadyH.cons rfl (fun K hK => ?_) AllReadyH.nil
                            go_simp
                            try dsimp only
                            clear hHeld
                            refine hK.out _ _ ⟨c1, c2, x2, x3, x4⟩ (fun hHeld => ?_)
                            clear hK K
                            try simp only [Act.put, List.setIfInBounds_toArray, List.set_cons_zero, List.set_cons_succ]
                            refine wpAnyH_take (i := 19) (oi := { dst := some 113, op := _, type := _, pos := _, after := _, guard := _ }) (v := ?v19b) rfl (by kernel_rfl) (by kernel_rfl) (by kernel_rfl) (fun _ _ _ h => h) (Or.inl ⟨by rfl, ?y19b⟩) (by assumption) ?r19b
                            case y19b =>
                              intro w hSw
                              try dsimp only at hSw
                              go_simp
                              try with_reducible rfl
                            simp only [Act.put, List.setIfInBounds_toArray, List.set_cons_zero, List.set_cons_succ]
                            refine wpAnyH_take (i := 35) (oi := { dst := some 129, op := _, type := _, pos := _, after := _, guard := _ }) (v := ?v35b) rfl (by kernel_rfl) (by kernel_rfl) (by kernel_rfl) (fun _ _ _ h => h) (Or.inl ⟨by rfl, ?y35b⟩) (by assumption) ?r35b
                            case y35b =>
                              intro w hSw
                              try dsimp only at hSw
                              go_simp
                              try with_reducible rfl
                            simp only [Act.put, List.setIfInBounds_toArray, List.set_cons_zero, List.set_cons_succ]
                            refine wpAnyH_take (i := 37) (oi := { dst := some 131, op := _, type := _, pos := _, after := _, guard := _ }) (v := ?v37b) rfl (by kernel_rfl) (by kernel_rfl) (by kernel_rfl) (fun _ _ _ h => h) (Or.inl ⟨by rfl, ?y37b⟩) (by assumption) ?r37b
                            case y37b =>
                              intro w hSw
                              try dsimp only at hSw
                              go_simp
                              try with_reducible rfl
                            simp only [Act.put, List.setIfInBounds_toArray, List.set_cons_zero, List.set_cons_succ]
                            refine wpAnyH_take (i := 38) (oi := { dst := some 132, op := _, type := _, pos := _, after := _, guard := _ }) (v := ?v38b) rfl (by kernel_rfl) (by kernel_rfl) (by kernel_rfl) (fun _ _ _ h => h) (Or.inl ⟨by rfl, ?y38b⟩) (by assumption) ?r38b
                            case y38b =>
                              intro w hSw
                              try dsimp only at hSw
                              go_simp
                              try with_reducible rfl
                            simp only [Act.put, List.setIfInBounds_toArray, List.set_cons_zero, List.set_cons_succ]
                            refine wpAnyH_ready (rs := [39]) (by kernel_rfl) (by simp) ?_
                            refine AllReadyH.cons rfl (fun K hK => ?_) AllReadyH.nil
                            go_simp
                            try dsimp only
                            clear hHeld
                            refine hK.out _ _ (KP.out _) (fun hHeld => ?_)
                            clear hK K
                            try simp only [Act.put, List.setIfInBounds_toArray, List.set_cons_zero, List.set_cons_succ]
                            refine wpAnyH_done (by kernel_rfl) ?_ _
                            go_wp2_with fail
                            go_roundg (j - k)
                            case measure => omega
                            case rel => exact ⟨j, by omega, by omega, rfl, by go_num, by have := HD2.out; rw [← HEE.out] at this; exact this.keep (Below.refl _ _).drew, by have := HB2.out; rw [← HEE.out] at this; exact this.drew⟩
                          · obtain ⟨y1, hy1⟩ : ∃ y1, F1 r k = y1 := ⟨_, rfl⟩
                            obtain ⟨y2, hy2⟩ : ∃ y2, F1 k k = y2 := ⟨_, rfl⟩
                            rw [hy1] at x1 x3 hee
                            rw [hy2] at x2 x4 hee
                            have HEE := Lib.hid hee
                            have HZZ := Lib.hid (show wrap64 ((wrap64 (wrap64 (y1 * y2) - wrap64 (y1 * y2))).tdiv l) = wrap64 (Int.tdiv 0 l) by rw [Int.sub_self, show wrap64 0 = 0 by unfold wrap64; omega])
                            have HD2 := Lib.hid D2
                            have HB2 := Lib.hid B2
                            have KP := Lib.hid (show ∀ v : Value, (wr.setCell ⟨gr, k, none⟩ v).cell? ⟨D, r, none⟩ = some (.slice (some ⟨gr, 0, none⟩) i (q1 r)) ∧ (wr.setCell ⟨gr, k, none⟩ v).cell? ⟨D, k, none⟩ = some (.slice (some ⟨gk, 0, none⟩) i (q1 k)) ∧ (wr.setCell ⟨gr, k, none⟩ v).cell? ⟨gk, k, none⟩ = some (.int .i64 y2) from fun v => ⟨(World.cell?_setCell_other _ _ _ _ (by first | (simp; done) | (simp; omega))).trans c1, (World.cell?_setCell_other _ _ _ _ (by first | (simp; done) | (simp; omega))).trans c2, (World.cell?_setCell_other _ _ _ _ (by first | (simp; done) | (simp; omega))).trans x2⟩)
                            clear hee D2 B2 hgr hgk hy1 hy2 hgD hgg HDm x3 x4
                            go_wp2_with fail
                            refine wp_region_held_drew (S := (fun w' => w'.cell? ⟨D, r, none⟩ = some (.slice (some ⟨gr, 0, none⟩) i (q1 r)) ∧ w'.cell? ⟨D, k, none⟩ = some (.slice (some ⟨gk, 0, none⟩) i (q1 k)) ∧ w'.cell? ⟨gk, k, none⟩ = some (.int .i64 y2))) (by kernel_rfl) ⟨c1, c2, x2⟩ (fun hHeld => ?_)
                            refine wpAnyH_take (i := 0) (oi := { dst := some 94, op := _, type := _, pos := _, after := _, guard := _ }) (v := ?v0be) rfl (by kernel_rfl) (by kernel_rfl) (by kernel_rfl) (fun _ _ _ h => h) (Or.inl ⟨by rfl, ?y0be⟩) (by assumption) ?r0be
                            case y0be =>
                              intro w hSw
                              try dsimp only at hSw
                              go_simp
                              try with_reducible rfl
                            simp only [Act.put, List.setIfInBounds_toArray, List.set_cons_zero, List.set_cons_succ]
                            refine wpAnyH_take (i := 1) (oi := { dst := some 95, op := _, type := _, pos := _, after := _, guard := _ }) (v := ?v1be) rfl (by kernel_rfl) (by kernel_rfl) (by kernel_rfl) (fun _ _ _ h => h) (Or.inl ⟨by rfl, ?y1be⟩) (by assumption) ?r1be
                            case y1be =>
                              intro w hSw
                              try dsimp only at hSw
                              go_simp
                              try with_reducible rfl
                            simp only [Act.put, List.setIfInBounds_toArray, List.set_cons_zero, List.set_cons_succ]
                            refine wpAnyH_take (i := 2) (oi := { dst := some 96, op := _, type := _, pos := _, after := _, guard := _ }) (v := ?v2be) rfl (by kernel_rfl) (by kernel_rfl) (by kernel_rfl) (fun _ _ _ h => h) (Or.inl ⟨by rfl, ?y2be⟩) (by assumption) ?r2be
                            case y2be =>
                              intro w hSw
                              try dsimp only at hSw
                              go_simp
                              try with_reducible rfl
                            simp only [Act.put, List.setIfInBounds_toArray, List.set_cons_zero, List.set_cons_succ]
                            refine wpAnyH_take (i := 3) (oi := { dst := some 97, op := _, type := _, pos := _, after := _, guard := _ }) (v := ?v3be) rfl (by kernel_rfl) (by kernel_rfl) (by kernel_rfl) (fun _ _ _ h => h) (Or.inl ⟨by rfl, ?y3be⟩) (by assumption) ?r3be
                            case y3be =>
                              intro w hSw
                              try dsimp only at hSw
                              go_simp
                              try with_reducible rfl
                            simp only [Act.put, List.setIfInBounds_toArray, List.set_cons_zero, List.set_cons_succ]
                            refine wpAnyH_take (i := 4) (oi := { dst := some 98, op := _, type := _, pos := _, after := _, guard := _ }) (v := ?v4be) rfl (by kernel_rfl) (by kernel_rfl) (by kernel_rfl) (fun _ _ _ h => h) (Or.inl ⟨by rfl, ?y4be⟩) (by assumption) ?r4be
                            case y4be =>
                              intro w hSw
                              try dsimp only at hSw
                              go_simp
                              try with_reducible rfl
                            simp only [Act.put, List.setIfInBounds_toArray, List.set_cons_zero, List.set_cons_succ]
                            refine wpAnyH_take (i := 5) (oi := { dst := some 99, op := _, type := _, pos := _, after := _, guard := _ }) (v := ?v5be) rfl (by kernel_rfl) (by kernel_rfl) (by kernel_rfl) (fun _ _ _ h => h) (Or.inl ⟨by rfl, ?y5be⟩) (by assumption) ?r5be
                            case y5be =>
                              intro w hSw
                              try dsimp only at hSw
                              go_simp
                              try with_reducible rfl
                            simp only [Act.put, List.setIfInBounds_toArray, List.set_cons_zero, List.set_cons_succ]
                            refine wpAnyH_take (i := 6) (oi := { dst := some 100, op := _, type := _, pos := _, after := _, guard := _ }) (v := ?v6be) rfl (by kernel_rfl) (by kernel_rfl) (by kernel_rfl) (fun _ _ _ h => h) (Or.inl ⟨by rfl, ?y6be⟩) (by assumption) ?r6be
                            case y6be =>
                              intro w hSw
                              try dsimp only at hSw
                              go_simp
                              try with_reducible rfl
                            simp only [Act.put, List.setIfInBounds_toArray, List.set_cons_zero, List.set_cons_succ]
                            refine wpAnyH_take (i := 7) (oi := { dst := some 101, op := _, type := _, pos := _, after := _, guard := _ }) (v := ?v7be) rfl (by kernel_rfl) (by kernel_rfl) (by kernel_rfl) (fun _ _ _ h => h) (Or.inl ⟨by rfl, ?y7be⟩) (by assumption) ?r7be
                            case y7be =>
                              intro w hSw
                              try dsimp only at hSw
                              go_simp
                              try with_reducible rfl
                            simp only [Act.put, List.setIfInBounds_toArray, List.set_cons_zero, List.set_cons_succ]
                            refine wpAnyH_take (i := 8) (oi := { dst := some 102, op := _, type := _, pos := _, after := _, guard := _ }) (v := ?v8be) rfl (by kernel_rfl) (by kernel_rfl) (by kernel_rfl) (fun _ _ _ h => h) (Or.inl ⟨by rfl, ?y8be⟩) (by assumption) ?r8be
                            case y8be =>
                              intro w hSw
                              try dsimp only at hSw
                              go_simp
                              try with_reducible rfl
                            simp only [Act.put, List.setIfInBounds_toArray, List.set_cons_zero, List.set_cons_succ]
                            refine wpAnyH_take (i := 9) (oi := { dst := some 103, op := _, type := _, pos := _, after := _, guard := _ }) (v := ?v9be) rfl (by kernel_rfl) (by kernel_rfl) (by kernel_rfl) (fun _ _ _ h => h) (Or.inl ⟨by rfl, ?y9be⟩) (by assumption) ?r9be
                            case y9be =>
                              intro w hSw
                              try dsimp only at hSw
                              go_simp
                              try with_reducible rfl
                            simp only [Act.put, List.setIfInBounds_toArray, List.set_cons_zero, List.set_cons_succ]
                            refine wpAnyH_take (i := 10) (oi := { dst := some 104, op := _, type := _, pos := _, after := _, guard := _ }) (v := ?v10be) rfl (by kernel_rfl) (by kernel_rfl) (by kernel_rfl) (fun _ _ _ h => h) (Or.inl ⟨by rfl, ?y10be⟩) (by assumption) ?r10be
                            case y10be =>
                              intro w hSw
                              try dsimp only at hSw
                              go_simp
                              try with_reducible rfl
                            simp only [Act.put, List.setIfInBounds_toArray, List.set_cons_zero, List.set_cons_succ]
                            refine wpAnyH_take (i := 12) (oi := { dst := some 106, op := _, type := _, pos := _, after := _, guard := _ }) (v := ?v12be) rfl (by kernel_rfl) (by kernel_rfl) (by kernel_rfl) (fun _ _ _ h => h) (Or.inl ⟨by rfl, ?y12be⟩) (by assumption) ?r12be
                            case y12be =>
                              intro w hSw
                              try dsimp only at hSw
                              go_simp
                              try with_reducible rfl
                            simp only [Act.put, List.setIfInBounds_toArray, List.set_cons_zero, List.set_cons_succ]
                            refine wpAnyH_take (i := 13) (oi := { dst := some 107, op := _, type := _, pos := _, after := _, guard := _ }) (v := ?v13be) rfl (by kernel_rfl) (by kernel_rfl) (by kernel_rfl) (fun _ _ _ h => h) (Or.inl ⟨by rfl, ?y13be⟩) (by assumption) ?r13be
                            case y13be =>
                              intro w hSw
                              try dsimp only at hSw
                              go_simp
                              try with_reducible rfl
                            simp only [Act.put, List.setIfInBounds_toArray, List.set_cons_zero, List.set_cons_succ]
                            refine wpAnyH_take (i := 14) (oi := { dst := some 108, op := _, type := _, pos := _, after := _, guard := _ }) (v := ?v14be) rfl (by kernel_rfl) (by kernel_rfl) (by kernel_rfl) (fun _ _ _ h => h) (Or.inl ⟨by rfl, ?y14be⟩) (by assumption) ?r14be
                            case y14be =>
                              intro w hSw
                              try dsimp only at hSw
                              go_simp
                              try with_reducible rfl
                            simp only [Act.put, List.setIfInBounds_toArray, List.set_cons_zero, List.set_cons_succ]
                            refine wpAnyH_take (i := 15) (oi := { dst := some 109, op := _, type := _, pos := _, after := _, guard := _ }) (v := ?v15be) rfl (by kernel_rfl) (by kernel_rfl) (by kernel_rfl) (fun _ _ _ h => h) (Or.inl ⟨by rfl, ?y15be⟩) (by assumption) ?r15be
                            case y15be =>
                              intro w hSw
                              try dsimp only at hSw
                              go_simp
                              try with_reducible rfl
                            simp only [Act.put, List.setIfInBounds_toArray, List.set_cons_zero, List.set_cons_succ]
                            refine wpAnyH_take (i := 16) (oi := { dst := some 110, op := _, type := _, pos := _, after := _, guard := _ }) (v := ?v16be) rfl (by kernel_rfl) (by kernel_rfl) (by kernel_rfl) (fun _ _ _ h => h) (Or.inl ⟨by rfl, ?y16be⟩) (by assumption) ?r16be
                            case y16be =>
                              intro w hSw
                              try dsimp only at hSw
                              go_simp
                              try with_reducible rfl
                            simp only [Act.put, List.setIfInBounds_toArray, List.set_cons_zero, List.set_cons_succ]
                            refine wpAnyH_take (i := 17) (oi := { dst := some 111, op := _, type := _, pos := _, after := _, guard := _ }) (v := ?v17be) rfl (by kernel_rfl) (by kernel_rfl) (by kernel_rfl) (fun _ _ _ h => h) (Or.inl ⟨by rfl, ?y17be⟩) (by assumption) ?r17be
                            case y17be =>
                              intro w hSw
                              try dsimp only at hSw
                              go_simp
                              try with_reducible rfl
                            simp only [Act.put, List.setIfInBounds_toArray, List.set_cons_zero, List.set_cons_succ]
                            refine wpAnyH_take (i := 18) (oi := { dst := some 112, op := _, type := _, pos := _, after := _, guard := _ }) (v := ?v18be) rfl (by kernel_rfl) (by kernel_rfl) (by kernel_rfl) (fun _ _ _ h => h) (Or.inl ⟨by rfl, ?y18be⟩) (by assumption) ?r18be
                            case y18be =>
                              intro w hSw
                              try dsimp only at hSw
                              go_simp
                              try with_reducible rfl
                            simp only [Act.put, List.setIfInBounds_toArray, List.set_cons_zero, List.set_cons_succ]
                            refine wpAnyH_take (i := 20) (oi := { dst := some 114, op := _, type := _, pos := _, after := _, guard := _ }) (v := ?v20be) rfl (by kernel_rfl) (by kernel_rfl) (by kernel_rfl) (fun _ _ _ h => h) (Or.inl ⟨by rfl, ?y20be⟩) (by assumption) ?r20be
                            case y20be =>
                              intro w hSw
                              try dsimp only at hSw
                              go_simp
                              try with_reducible rfl
                            simp only [Act.put, List.setIfInBounds_toArray, List.set_cons_zero, List.set_cons_succ]
                            refine wpAnyH_take (i := 21) (oi := { dst := some 115, op := _, type := _, pos := _, after := _, guard := _ }) (v := ?v21be) rfl (by kernel_rfl) (by kernel_rfl) (by kernel_rfl) (fun _ _ _ h => h) (Or.inl ⟨by rfl, ?y21be⟩) (by assumption) ?r21be
                            case y21be =>
                              intro w hSw
                              try dsimp only at hSw
                              go_simp
                              try with_reducible rfl
                            simp only [Act.put, List.setIfInBounds_toArray, List.set_cons_zero, List.set_cons_succ]
                            refine wpAnyH_take (i := 22) (oi := { dst := some 116, op := _, type := _, pos := _, after := _, guard := _ }) (v := ?v22be) rfl (by kernel_rfl) (by kernel_rfl) (by kernel_rfl) (fun _ _ _ h => h) (Or.inl ⟨by rfl, ?y22be⟩) (by assumption) ?r22be
                            case y22be =>
                              intro w hSw
                              try dsimp only at hSw
                              go_simp
                              try with_reducible rfl
                            simp only [Act.put, List.setIfInBounds_toArray, List.set_cons_zero, List.set_cons_succ]
                            refine wpAnyH_take (i := 23) (oi := { dst := some 117, op := _, type := _, pos := _, after := _, guard := _ }) (v := ?v23be) rfl (by kernel_rfl) (by kernel_rfl) (by kernel_rfl) (fun _ _ _ h => h) (Or.inl ⟨by rfl, ?y23be⟩) (by assumption) ?r23be
                            case y23be =>
                              intro w hSw
                              try dsimp only at hSw
                              go_simp
                              try with_reducible rfl
                            simp only [Act.put, List.setIfInBounds_toArray, List.set_cons_zero, List.set_cons_succ]
                            refine wpAnyH_take (i := 24) (oi := { dst := some 118, op := _, type := _, pos := _, after := _, guard := _ }) (v := ?v24be) rfl (by kernel_rfl) (by kernel_rfl) (by kernel_rfl) (fun _ _ _ h => h) (Or.inl ⟨by rfl, ?y24be⟩) (by assumption) ?r24be
                            case y24be =>
                              intro w hSw
                              try dsimp only at hSw
                              go_simp
                              try with_reducible rfl
                            simp only [Act.put, List.setIfInBounds_toArray, List.set_cons_zero, List.set_cons_succ]
                            refine wpAnyH_take (i := 25) (oi := { dst := some 119, op := _, type := _, pos := _, after := _, guard := _ }) (v := ?v25be) rfl (by kernel_rfl) (by kernel_rfl) (by kernel_rfl) (fun _ _ _ h => h) (Or.inl ⟨by rfl, ?y25be⟩) (by assumption) ?r25be
                            case y25be =>
                              intro w hSw
                              try dsimp only at hSw
                              go_simp
                              try with_reducible rfl
                            simp only [Act.put, List.setIfInBounds_toArray, List.set_cons_zero, List.set_cons_succ]
                            refine wpAnyH_take (i := 27) (oi := { dst := some 121, op := _, type := _, pos := _, after := _, guard := _ }) (v := ?v27be) rfl (by kernel_rfl) (by kernel_rfl) (by kernel_rfl) (fun _ _ _ h => h) (Or.inl ⟨by rfl, ?y27be⟩) (by assumption) ?r27be
                            case y27be =>
                              intro w hSw
                              try dsimp only at hSw
                              go_simp
                              try with_reducible rfl
                            simp only [Act.put, List.setIfInBounds_toArray, List.set_cons_zero, List.set_cons_succ]
                            refine wpAnyH_take (i := 28) (oi := { dst := some 122, op := _, type := _, pos := _, after := _, guard := _ }) (v := ?v28be) rfl (by kernel_rfl) (by kernel_rfl) (by kernel_rfl) (fun _ _ _ h => h) (Or.inl ⟨by rfl, ?y28be⟩) (by assumption) ?r28be
                            case y28be =>
                              intro w hSw
                              try dsimp only at hSw
                              go_simp
                              try with_reducible rfl
                            simp only [Act.put, List.setIfInBounds_toArray, List.set_cons_zero, List.set_cons_succ]
                            refine wpAnyH_take (i := 29) (oi := { dst := some 123, op := _, type := _, pos := _, after := _, guard := _ }) (v := ?v29be) rfl (by kernel_rfl) (by kernel_rfl) (by kernel_rfl) (fun _ _ _ h => h) (Or.inl ⟨by rfl, ?y29be⟩) (by assumption) ?r29be
                            case y29be =>
                              intro w hSw
                              try dsimp only at hSw
                              go_simp
                              try with_reducible rfl
                            simp only [Act.put, List.setIfInBounds_toArray, List.set_cons_zero, List.set_cons_succ]
                            refine wpAnyH_take (i := 30) (oi := { dst := some 124, op := _, type := _, pos := _, after := _, guard := _ }) (v := ?v30be) rfl (by kernel_rfl) (by kernel_rfl) (by kernel_rfl) (fun _ _ _ h => h) (Or.inl ⟨by rfl, ?y30be⟩) (by assumption) ?r30be
                            case y30be =>
                              intro w hSw
                              try dsimp only at hSw
                              go_simp
                              try with_reducible rfl
                            simp only [Act.put, List.setIfInBounds_toArray, List.set_cons_zero, List.set_cons_succ]
                            refine wpAnyH_take (i := 31) (oi := { dst := some 125, op := _, type := _, pos := _, after := _, guard := _ }) (v := ?v31be) rfl (by kernel_rfl) (by kernel_rfl) (by kernel_rfl) (fun _ _ _ h => h) (Or.inl ⟨by rfl, ?y31be⟩) (by assumption) ?r31be
                            case y31be =>
                              intro w hSw
                              try dsimp only at hSw
                              go_simp
                              try with_reducible rfl
                            simp only [Act.put, List.setIfInBounds_toArray, List.set_cons_zero, List.set_cons_succ]
                            refine wpAnyH_take (i := 32) (oi := { dst := some 126, op := _, type := _, pos := _, after := _, guard := _ }) (v := ?v32be) rfl (by kernel_rfl) (by kernel_rfl) (by kernel_rfl) (fun _ _ _ h => h) (Or.inl ⟨by rfl, ?y32be⟩) (by assumption) ?r32be
                            case y32be =>
                              intro w hSw
                              try dsimp only at hSw
                              go_simp
                              try with_reducible rfl
                            simp only [Act.put, List.setIfInBounds_toArray, List.set_cons_zero, List.set_cons_succ]
                            refine wpAnyH_take (i := 33) (oi := { dst := some 127, op := _, type := _, pos := _, after := _, guard := _ }) (v := ?v33be) rfl (by kernel_rfl) (by kernel_rfl) (by kernel_rfl) (fun _ _ _ h => h) (Or.inl ⟨by rfl, ?y33be⟩) (by assumption) ?r33be
                            case y33be =>
                              intro w hSw
                              try dsimp only at hSw
                              go_simp
                              try with_reducible rfl
                            simp only [Act.put, List.setIfInBounds_toArray, List.set_cons_zero, List.set_cons_succ]
                            refine wpAnyH_take (i := 36) (oi := { dst := some 130, op := _, type := _, pos := _, after := _, guard := _ }) (v := ?v36be) rfl (by kernel_rfl) (by kernel_rfl) (by kernel_rfl) (fun _ _ _ h => h) (Or.inl ⟨by rfl, ?y36be⟩) (by assumption) ?r36be
                            case y36be =>
                              intro w hSw
                              try dsimp only at hSw
                              go_simp
                              try with_reducible rfl
                            simp only [Act.put, List.setIfInBounds_toArray, List.set_cons_zero, List.set_cons_succ]
                            refine wpAnyH_ready (rs := [11, 26]) (by kernel_rfl) (by simp) ?_
                            refine AllReadyH.cons rfl (fun K hK => ?_) (AllReadyH.cons rfl (fun K hK => ?_) AllReadyH.nil)
                            · go_simp
                              try dsimp only
                              clear hHeld
                              refine hK.out _ _ ⟨c1, c2, x2⟩ (fun hHeld => ?_)
                              clear hK K
                              try simp only [Act.put, List.setIfInBounds_toArray, List.set_cons_zero, List.set_cons_succ]
                              refine wpAnyH_take (i := 19) (oi := { dst := some 113, op := _, type := _, pos := _, after := _, guard := _ }) (v := ?v19bep) rfl (by kernel_rfl) (by kernel_rfl) (by kernel_rfl) (fun _ _ _ h => h) (Or.inl ⟨by rfl, ?y19bep⟩) (by assumption) ?r19bep
                              case y19bep =>
                                intro w hSw
                                try dsimp only at hSw
                                go_simp
                                try with_reducible rfl
                              simp only [Act.put, List.setIfInBounds_toArray, List.set_cons_zero, List.set_cons_succ]
                              refine wpAnyH_ready (rs := [26]) (by kernel_rfl) (by simp) ?_
                              refine AllReadyH.cons rfl (fun K hK => ?_) AllReadyH.nil
                              go_simp
                              try dsimp only
                              clear hHeld
                              refine hK.out _ _ ⟨c1, c2, x2⟩ (fun hHeld => ?_)
                              clear hK K
                              try simp only [Act.put, List.setIfInBounds_toArray, List.set_cons_zero, List.set_cons_succ]
                              refine wpAnyH_take (i := 34) (oi := { dst := some 128, op := _, type := _, pos := _, after := _, guard := _ }) (v := ?v34bep) rfl (by kernel_rfl) (by kernel_rfl) (by kernel_rfl) (fun _ _ _ h => h) (Or.inl ⟨by rfl, ?y34bep⟩) (by assumption) ?r34bep
                              case y34bep =>
                                intro w hSw
                                try dsimp only at hSw
                                go_simp
                                try with_reducible rfl
                              simp only [Act.put, List.setIfInBounds_toArray, List.set_cons_zero, List.set_cons_succ]
                              refine wpAnyH_take (i := 35) (oi := { dst := some 129, op := _, type := _, pos := _, after := _, guard := _ }) (v := ?v35bep) rfl (by kernel_rfl) (by kernel_rfl) (by kernel_rfl) (fun _ _ _ h => h) (Or.inl ⟨by rfl, ?y35bep⟩) (by assumption) ?r35bep
                              case y35bep =>
                                intro w hSw
                                try dsimp only at hSw
                                go_simp
                                try with_reducible rfl
                              simp only [Act.put, List.setIfInBounds_toArray, List.set_cons_zero, List.set_cons_succ]
                              refine wpAnyH_take (i := 37) (oi := { dst := some 131, op := _, type := _, pos := _, after := _, guard := _ }) (v := ?v37bep) rfl (by kernel_rfl) (by kernel_rfl) (by kernel_rfl) (fun _ _ _ h => h) (Or.inl ⟨by rfl, ?y37bep⟩) (by assumption) ?r37bep
                              case y37bep =>
                                intro w hSw
                                try dsimp only at hSw
                                go_simp
                                try with_reducible rfl
                              simp only [Act.put, List.setIfInBounds_toArray, List.set_cons_zero, List.set_cons_succ]
                              refine wpAnyH_take (i := 38) (oi := { dst := some 132, op := _, type := _, pos := _, after := _, guard := _ }) (v := ?v38bep) rfl (by kernel_rfl) (by kernel_rfl) (by kernel_rfl) (fun _ _ _ h => h) (Or.inl ⟨by rfl, ?y38bep⟩) (by assumption) ?r38bep
                              case y38bep =>
                                intro w hSw
                                try dsimp only at hSw
                                go_simp
                                try with_reducible rfl
                              simp only [Act.put, List.setIfInBounds_toArray, List.set_cons_zero, List.set_cons_succ]
                              refine wpAnyH_ready (rs := [39]) (by kernel_rfl) (by simp) ?_
                              refine AllReadyH.cons rfl (fun K hK => ?_) AllReadyH.nil
                              go_simp
                              try dsimp only
                              clear hHeld
                              refine hK.out _ _ (KP.out _) (fun hHeld => ?_)
                              clear hK K
                              try simp only [Act.put, List.setIfInBounds_toArray, List.set_cons_zero, List.set_cons_succ]
                              refine wpAnyH_done (by kernel_rfl) ?_ _
                              go_wp2_with fail
                              go_roundg (k - k)
                              case measure => omega
                              case rel => exact ⟨k, by omega, by omega, rfl, by go_num, by have := HD2.out; rw [← HEE.out, HZZ.out] at this; exact this.keep (Below.refl _ _).drew, by have := HB2.out; rw [← HEE.out, HZZ.out] at this; exact this.drew⟩
                            · go_simp
                              try dsimp only
                              clear hHeld
                              refine hK.out _ _ ⟨c1, c2, x2⟩ (fun hHeld => ?_)
                              clear hK K
                              try simp only [Act.put, List.setIfInBounds_toArray, List.set_cons_zero, List.set_cons_succ]
                              refine wpAnyH_take (i := 34) (oi := { dst := some 128, op := _, type := _, pos := _, after := _, guard := _ }) (v := ?v34beq) rfl (by kernel_rfl) (by kernel_rfl) (by kernel_rfl) (fun _ _ _ h => h) (Or.inl ⟨by rfl, ?y34beq⟩) (by assumption) ?r34beq
                              case y34beq =>
                                intro w hSw
                                try dsimp only at hSw
                                go_simp
                                try with_reducible rfl
                              simp only [Act.put, List.setIfInBounds_toArray, List.set_cons_zero, List.set_cons_succ]
                              refine wpAnyH_ready (rs := [11]) (by kernel_rfl) (by simp) ?_
                              refine AllReadyH.cons rfl (fun K hK => ?_) AllReadyH.nil
                              go_simp
                              try dsimp only
                              clear hHeld
                              refine hK.out _ _ ⟨c1, c2, x2⟩ (fun hHeld => ?_)
                              clear hK K
                              try simp only [Act.put, List.setIfInBounds_toArray, List.set_cons_zero, List.set_cons_succ]
                              refine wpAnyH_take (i := 19) (oi := { dst := some 113, op := _, type := _, pos := _, after := _, guard := _ }) (v := ?v19beq) rfl (by kernel_rfl) (by kernel_rfl) (by kernel_rfl) (fun _ _ _ h => h) (Or.inl ⟨by rfl, ?y19beq⟩) (by assumption) ?r19beq
                              case y19beq =>
                                intro w hSw
                                try dsimp only at hSw
                                go_simp
                                try with_reducible rfl
                              simp only [Act.put, List.setIfInBounds_toArray, List.set_cons_zero, List.set_cons_succ]
                              refine wpAnyH_take (i := 35) (oi := { dst := some 129, op := _, type := _, pos := _, after := _, guard := _ }) (v := ?v35beq) rfl (by kernel_rfl) (by kernel_rfl) (by kernel_rfl) (fun _ _ _ h => h) (Or.inl ⟨by rfl, ?y35beq⟩) (by assumption) ?r35beq
                              case y35beq =>
                                intro w hSw
                                try dsimp only at hSw
                                go_simp
                                try with_reducible rfl
                              simp only [Act.put, List.setIfInBounds_toArray, List.set_cons_zero, List.set_cons_succ]
                              refine wpAnyH_take (i := 37) (oi := { dst := some 131, op := _, type := _, pos := _, after := _, guard := _ }) (v := ?v37beq) rfl (by kernel_rfl) (by kernel_rfl) (by kernel_rfl) (fun _ _ _ h => h) (Or.inl ⟨by rfl, ?y37beq⟩) (by assumption) ?r37beq
                              case y37beq =>
                                intro w hSw
                                try dsimp only at hSw
                                go_simp
                                try with_reducible rfl
                              simp only [Act.put, List.setIfInBounds_toArray, List.set_cons_zero, List.set_cons_succ]
                              refine wpAnyH_take (i := 38) (oi := { dst := some 132, op := _, type := _, pos := _, after := _, guard := _ }) (v := ?v38beq) rfl (by kernel_rfl) (by kernel_rfl) (by kernel_rfl) (fun _ _ _ h => h) (Or.inl ⟨by rfl, ?y38beq⟩) (by assumption) ?r38beq
                              case y38beq =>
                                intro w hSw
                                try dsimp only at hSw
                                go_simp
                                try with_reducible rfl
                              simp only [Act.put, List.setIfInBounds_toArray, List.set_cons_zero, List.set_cons_succ]
                              refine wpAnyH_ready (rs := [39]) (by kernel_rfl) (by simp) ?_
                              refine AllReadyH.cons rfl (fun K hK => ?_) AllReadyH.nil
                              go_simp
                              try dsimp only
                              clear hHeld
                              refine hK.out _ _ (KP.out _) (fun hHeld => ?_)
                              clear hK K
                              try simp only [Act.put, List.setIfInBounds_toArray, List.set_cons_zero, List.set_cons_succ]
                              refine wpAnyH_done (by kernel_rfl) ?_ _
                              go_wp2_with fail
                              go_roundg (k - k)
                              case measure => omega
                              case rel => exact ⟨k, by omega, by omega, rfl, by go_num, by have := HD2.out; rw [← HEE.out, HZZ.out] at this; exact this.keep (Below.refl _ _).drew, by have := HB2.out; rw [← HEE.out, HZZ.out] at this; exact this.drew⟩
                        · have e : t = k := by omega
                          subst e
                          have D2 := Dm.congr (fun r' j' _ _ => partR_row F1 t l i r r' j')
                          clear Dm
                          go_wp2_with fail
                          go_roundg (i - (r + 1))
                          case measure => omega
                          case rel => exact ⟨r + 1, by omega, by omega, rfl, by go_num, D2.congr (fun r' j' _ hj' => partR_row2 F1 t l i r r' j' hj'), B⟩
                    · have e : r = i := by omega
                      subst e
                      have c2 := Dm.row hlt
                      have x2 := Dm.ent hlt hlt
                      rw [partR_old _ _ _ _ _ _ _ (by omega)] at x2
                      have HD3 := Lib.hid (show detS r (r - (k + 1)) (k + 1) (partR F1 k l r r) s1 (F1 k k) = detS r r 0 (mF M) 1 1 by
                        rw [← HD.out]
                        exact Dt.detS_congr _ _ _ _ _ _ (by omega) (fun i' j' hi' hj' hjn => partR_end F1 k l r i' j' hi' hj'))
                      have p2 : (0 : Int) ≤ (k : Int) := by omega
                      have p3 : (k : Int) < (r : Int) := by omega
                      go_wp2_with fail
                      go_roundg (r - (k + 1))
                      case measure => omega
                      case rel => exact ⟨k + 1, s1, F1 k k, partR F1 k l r r, g1, q1, by omega, rfl, by go_num, rfl, rfl, hs1', hp0, Dm, B, HD3.out⟩
            · have e : a = i := by omega
              subst e
              have hpv : piv F k a = a := Dt.piv_of ⟨hka, hai, HZ.out, .inl rfl⟩
              have hd0 : detS a (a - k) k F s l = 0 := by rw [show a - k = (a - k - 1) + 1 by omega]; exact detS_zero hpv
              have HD0 := Lib.hid hd0
              clear hpv hd0
              go_wp2_with fail
              go_ret
              exact ⟨ret_i (by rw [E.out, ← HDET.out, HD0.out]), B⟩
        · have e : k = i := by omega
          subst e
          have hd1 : detS k (k - k) k F s l = wrap64 (s * l) := by rw [Nat.sub_self, detS]
          have HD1 := Lib.hid hd1
          clear hd1
          go_wp2_with fail
          go_ret
          exact ⟨ret_i (by rw [E.out, ← HDET.out, HD1.out]), B⟩

end Go.Proofs.Ytepnhhehfkcgkaa
