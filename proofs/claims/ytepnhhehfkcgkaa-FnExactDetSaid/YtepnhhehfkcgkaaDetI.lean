/-
  Det of the program: what it returns.
-/
import Derived.Test.YtepnhhehfkcgkaaDetM
import Derived.Test.YtepnhhehfkcgkaaClone
import Derived.Deep.LoopGhost
import Derived.RegionTactic
import Derived.BigRegion
import Derived.Deep.RegionHeld3
import Derived.Deep.DeepCutAuto
namespace Go.Proofs.Ytepnhhehfkcgkaa
open Go.RowKit
open Dt (EE elimF swapF piv Pv detS)

/-- The numbers while row i is at work. -/
def partF (F : Nat → Nat → Int) (k : Nat) (l : Int) (i j i' j' : Nat) : Int := if k < i' ∧ k < j' ∧ (i' < i ∨ (i' = i ∧ j' < j)) then EE F k i' j' l else F i' j'
theorem partF_start (F : Nat → Nat → Int) (k : Nat) (l : Int) (i' j' : Nat) : partF F k l (k + 1) (k + 1) i' j' = F i' j' := by rw [partF, if_neg (by omega)]
theorem partF_row (F : Nat → Nat → Int) (k : Nat) (l : Int) (n i i' j' : Nat) (hj : j' < n) : partF F k l i n i' j' = partF F k l (i + 1) (k + 1) i' j' := by
  rw [partF, partF]
  by_cases h : k < i' ∧ k < j' ∧ (i' < i ∨ (i' = i ∧ j' < n))
  · rw [if_pos h, if_pos (by omega)]
  · rw [if_neg h, if_neg (by omega)]
theorem partF_end (F : Nat → Nat → Int) (k : Nat) (l : Int) (n i' j' : Nat) (hi : i' < n) : partF F k l n (k + 1) i' j' = elimF F k l i' j' := by
  rw [partF, elimF]
  by_cases h : k < i' ∧ k < j'
  · rw [if_pos h, if_pos (by omega)]
  · rw [if_neg h, if_neg (by omega)]
theorem partF_step (F : Nat → Nat → Int) (k : Nat) (l : Int) (i j : Nat) (hi : k < i) (hj : k < j) (i' j' : Nat) : (if i' = i ∧ j' = j then EE F k i j l else partF F k l i j i' j') = partF F k l i (j + 1) i' j' := by
  by_cases e : i' = i ∧ j' = j
  · obtain ⟨rfl, rfl⟩ := e
    rw [if_pos ⟨rfl, rfl⟩, partF, if_pos (by omega)]
  · rw [if_neg e, partF, partF]
    by_cases h : k < i' ∧ k < j' ∧ (i' < i ∨ (i' = i ∧ j' < j))
    · rw [if_pos h, if_pos (by omega)]
    · rw [if_neg h, if_neg (by omega)]
theorem partF_old (F : Nat → Nat → Int) (k : Nat) (l : Int) (i j i' j' : Nat) (h : ¬ (k < i' ∧ k < j' ∧ (i' < i ∨ (i' = i ∧ j' < j)))) : partF F k l i j i' j' = F i' j' := by rw [partF, if_neg h]
theorem detS_zero {n f k : Nat} {F : Nat → Nat → Int} {s l : Int} (h : piv F k n = n) : detS n (f + 1) k F s l = 0 := by rw [detS, if_pos h]
theorem detS_same {n f k : Nat} {F : Nat → Nat → Int} {s l : Int} (hk : k < n) (h : piv F k n = k) : detS n (f + 1) k F s l = detS n f (k + 1) (elimF F k l) s (F k k) := by rw [detS, if_neg (by omega), if_pos h]
theorem detS_swap {n f k a : Nat} {F : Nat → Nat → Int} {s l : Int} (h : piv F k n = a) (ha : a ≠ n) (hak : a ≠ k) : detS n (f + 1) k F s l = detS n f (k + 1) (elimF (swapF F a k) k l) (-s) (swapF F a k k k) := by
  rw [detS, h, if_neg ha, if_neg hak]

/-- One row more. -/
theorem DM.push {w : World} {base D n i g' c' cc : Nat} {g c : Nat → Nat} {F : Nat → Nat → Int} {row : List Int} (h : DM w base D n i g c F) (hi : i < n) (ho : Own w base w.heap.size 3 (some ⟨g', 0, none⟩) n cc (row.map (.int .i64))) (h1 : g' ≠ D) (h2 : ∀ r, r < i → g r ≠ g') (hF : ∀ j, j < n → F i j = (row[j]?).getD 0) :
    DM (w.setCell ⟨D, i, none⟩ (.slice (some ⟨g', 0, none⟩) n c')) base D n (i + 1) (fun r => if r = i then g' else g r) (fun r => if r = i then c' else c r) F := by
  refine ⟨(h.O.set hi _).congr (fun r hr => ?_), fun r hr => ?_, fun r s hr hs e => ?_, fun r hr => ?_, h.B⟩
  · by_cases e : r = i
    · subst e; rw [if_pos rfl, if_pos (Nat.lt_succ_self _), if_pos rfl, if_pos rfl]
    · rw [if_neg e, if_neg e, if_neg e]
      by_cases hri : r < i
      · rw [if_pos hri, if_pos (by omega)]
      · rw [if_neg hri, if_neg (by omega)]
  · by_cases e : r = i
    · subst e
      rw [if_pos rfl]
      refine Rw.far ⟨⟨(ho.2 g' 0 rfl).2, fun j => ho.frozen j⟩, fun j hj => ?_⟩ h1 _
      obtain ⟨b', off', x, hA, hx, hc⟩ := ho.sl.atI hj
      injection hA with hA; injection hA with e1 e2 _
      subst e1 e2
      rw [Nat.zero_add] at hc
      rw [hc, hF j hj, hx]; rfl
    · rw [if_neg e]; exact (h.R r (by omega)).far (h.U r (by omega)).1 _
  · by_cases e1 : r = i
    · by_cases e2 : s = i
      · omega
      · rw [if_pos e1, if_neg e2] at e; exact absurd e.symm (h2 s (by omega))
    · by_cases e2 : s = i
      · rw [if_neg e1, if_pos e2] at e; exact absurd e (h2 r (by omega))
      · rw [if_neg e1, if_neg e2] at e; exact h.J r s (by omega) (by omega) e
  · by_cases e : r = i
    · rw [if_pos e]; exact ⟨h1, (ho.2 g' 0 rfl).1⟩
    · rw [if_neg e]; exact h.U r (by omega)

set_option maxRecDepth 100000 in
set_option maxHeartbeats 8000000 in
theorem det_core (A : Option Addr) (n c : Nat) (M : List (List Int)) (w : World) (hn : n ≤ 12) (h : Mx w A n M) (hr : ∀ row ∈ M, row.length = n) :
    Calls Try.prog 56 #[.slice A n c] w fun e w' => e = .returned (.int .i64 (detS n n 0 (mF M) 1 1)) ∧ Below w.heap.size w w' := by
  have hmk := run_make_row' (P := Try.prog) 23 39 (.slice none 0 0) 24 Try.underlying23 infoIS rfl .i64 .i64 n (by omega) (by omega)
  have HRL := Lib.hid hr
  have D0 : DM (w.alloc (.cells (madeCells #[.slice none 0 0] n) 39)) w.heap.size w.heap.size n 0 (fun _ => 0) (fun _ => 0) (mF M) :=
    ⟨⟨Thaw.new _ _ _, fun i hi => by rw [(World.rowIs_made w (.slice none 0 0) n 39).cell hi]; rfl⟩, fun r hr => by omega, fun r s hr => by omega, fun r hr => by omega, Nat.le_refl _⟩
  clear hr
  go_enter Try.func56, Try.ntmps56
  go_wp2_with fail
  go_loopg [4, 5, 17] n (fun gk _ _ s17 wx => ∃ (i : Nat) (g q : Nat → Nat), i ≤ n ∧ gk = n - i ∧ s17 = .int .i64 i ∧ DM wx w.heap.size w.heap.size n i g q (mF M) ∧ Below w.heap.size w wx)
  case atStart => exact ⟨0, _, _, Nat.zero_le _, rfl, rfl, D0, below1 w _⟩
  case round =>
    clear D0
    obtain ⟨i, g, q, hi, rfl, rfl, Dm, B⟩ := hrel
    by_cases hlt : i < n
    · obtain ⟨row, b, off, r, cc, hrow, rfl, hc, hs, -⟩ := (h.below B).at_ hlt
      have hrl := HRL.out row (List.mem_of_getElem? hrow)
      rw [hrl] at hc hs
      have HROW := Lib.hid hrow
      clear hrow
      have p0 : (0 : Int) ≤ (i : Int) := by omega
      have p1 : (i : Int) < (n : Int) := by omega
      go_wp2_with fail
      refine (sclone_int r n cc _ _ (by omega) hs (ints_one row)).mono ?_; rintro e w2 ⟨C, c2, rfl, own, hb2, hle⟩
      obtain ⟨g2, rfl, hg2, hg3⟩ := own.form (by omega)
      have D2 := Dm.keep hb2
      have fD := D2.O.1.2 i
      have cD := D2.O.2 i hlt
      have zB := B.size
      have wD := Dm.O.1.1
      have D3 := D2.push (c' := c2) hlt (own.base B.size) (by omega) (fun r hr e => by have := (Dm.R r hr).1.1; omega) (fun j hj => by rw [mF, HROW.out]; rfl)
      have B3 := below_set (belowW B hb2) (b := w.heap.size) (i := i) (Nat.le_refl _) (.slice (some ⟨g2, 0, none⟩) n c2)
      clear Dm B D2 own hb2
      go_wp2_with fail
      go_roundg (n - (i + 1))
      case measure => omega
      case rel => exact ⟨i + 1, _, _, by omega, rfl, by go_num, D3, B3⟩
    · have e : i = n := by omega
      subst e
      clear hlt
      go_wp2_with fail
      go_loopg [6, 7, 8, 9, 10, 11, 30] i (fun gk s6 s7 _ _ _ _ s30 wx => ∃ (k : Nat) (s l : Int) (F : Nat → Nat → Int) (g q : Nat → Nat), k ≤ i ∧ gk = i - k ∧ s30 = .int .i64 k ∧ s6 = .int .i64 s ∧ s7 = .int .i64 l ∧ (s = 1 ∨ s = -1) ∧ l ≠ 0 ∧ DM wx w.heap.size w.heap.size i i g q F ∧ Below w.heap.size w wx ∧ detS i (i - k) k F s l = detS i i 0 (mF M) 1 1)
      case atStart => exact ⟨0, 1, 1, mF M, g, q, Nat.zero_le _, rfl, rfl, rfl, rfl, .inl rfl, by omega, Dm, B, rfl⟩
      case round =>
        clear Dm B
        obtain ⟨k, s, l, F, g, q, hk, rfl, rfl, rfl, rfl, hs1, hl0, Dm, B, hdet⟩ := hrel
        have HDET := Lib.hid hdet
        clear hdet
        by_cases hlt : k < i
        · go_wp2_with fail
          go_loopg [9] (i + 1 - k) (fun gk s9 wx => ∃ a : Nat, k ≤ a ∧ a ≤ i ∧ gk = i + 1 - a ∧ s9 = .int .i64 a ∧ (∀ r, k ≤ r → r < a → F r k = 0) ∧ DM wx w.heap.size w.heap.size i i g q F ∧ Below w.heap.size w wx)
          case atStart => exact ⟨k, Nat.le_refl _, by omega, rfl, rfl, fun r h1 h2 => by omega, Dm, B⟩
          case round =>
            clear Dm B
            obtain ⟨a, hka, hai, rfl, rfl, hz, Dm, B⟩ := hrel
            have HZ := Lib.hid hz
            clear hz
            by_cases hai2 : a < i
            · have ca := Dm.row hai2
              have ea := Dm.ent hai2 hlt
              have p0 : (0 : Int) ≤ (a : Int) := by omega
              have p1 : (a : Int) < (i : Int) := by omega
              have p2 : (0 : Int) ≤ (k : Int) := by omega
              have p3 : (k : Int) < (i : Int) := by omega
              by_cases hz0 : F a k = 0
              · have hzb : (F a k == 0) = true := by rw [hz0]; rfl
                go_wp2_with fail
                go_roundg (i + 1 - (a + 1))
                case measure => omega
                case rel => exact ⟨a + 1, by omega, by omega, rfl, by go_num, fun r h1 h2 => by
                  by_cases e : r = a
                  · subst e; exact hz0
                  · exact HZ.out r h1 (by omega), Dm, B⟩
              · have hzb : (F a k == 0) = false := by rw [beq_eq_false_iff_ne]; exact hz0
                have hpv : piv F k i = a := Dt.piv_of ⟨hka, hai, HZ.out, .inr hz0⟩
                have HPV := Lib.hid hpv
                clear hpv
                have hkk : detS i (i - k) k F s l = detS i ((i - k - 1) + 1) k F s l := by rw [show i - k - 1 + 1 = i - k by omega]
                have p4 : ((a : Int) == (i : Int)) = false := by rw [beq_eq_false_iff_ne]; omega
                have hsb : -1 ≤ s ∧ s ≤ 1 := by rcases hs1 with h | h <;> omega
                by_cases hak : a = k
                · subst hak
                  have HD := Lib.hid (show detS i (i - (a + 1)) (a + 1) (elimF F a l) s (F a a) = detS i i 0 (mF M) 1 1 by rw [← HDET.out, hkk, detS_same hlt HPV.out]; congr 1)
                  obtain ⟨k, hk'⟩ : ∃ k, k = a := ⟨_, rfl⟩
                  subst hk'
                  have hp0 := hz0
                  have D1 := Dm
                  have B1 := B
                  obtain ⟨F1, rfl⟩ : ∃ F1, F1 = F := ⟨_, rfl⟩
                  obtain ⟨g1, rfl⟩ : ∃ g1, g1 = g := ⟨_, rfl⟩
                  obtain ⟨q1, rfl⟩ : ∃ q1, q1 = q := ⟨_, rfl⟩
                  obtain ⟨s1, rfl⟩ : ∃ s1, s1 = s := ⟨_, rfl⟩
                  have hs1' := hs1
                  clear hkk hz0 Dm B
                  go_wp2_with fail
                  go_loopg [10, 11] (i - (k + 1)) (fun gk s10 _ wx => ∃ r : Nat, k + 1 ≤ r ∧ r ≤ i ∧ gk = i - r ∧ s10 = .int .i64 r ∧ DM wx w.heap.size w.heap.size i i g1 q1 (partF F1 k l r (k + 1)) ∧ Below w.heap.size w wx)
                  case atStart => exact ⟨k + 1, Nat.le_refl _, by omega, rfl, by go_num, D1.congr (fun r j _ _ => (partF_start F1 k l r j).symm), B1⟩
                  case round =>
                    clear D1 B1
                    obtain ⟨r, hr1, hr2, rfl, rfl, Dm, B⟩ := hrel
                    by_cases hri : r < i
                    · go_wp2_with fail
                      go_loopg [11] (i - (k + 1)) (fun gk s11 wx => ∃ j : Nat, k + 1 ≤ j ∧ j ≤ i ∧ gk = i - j ∧ s11 = .int .i64 j ∧ DM wx w.heap.size w.heap.size i i g1 q1 (partF F1 k l r j) ∧ Below w.heap.size w wx)
                      case atStart => exact ⟨k + 1, Nat.le_refl _, by omega, rfl, by go_num, Dm, B⟩
                      case round =>
                        clear Dm B
                        obtain ⟨j, hj1, hj2, rfl, rfl, Dm, B⟩ := hrel
                        by_cases hji : j < i
                        · have c1 := Dm.row hri
                          have c2 := Dm.row hlt
                          have x1 := Dm.ent hri hji
                          have x2 := Dm.ent hlt hlt
                          have x3 := Dm.ent hri hlt
                          have x4 := Dm.ent hlt hji
                          rw [partF_old _ _ _ _ _ _ _ (by omega)] at x1 x2 x3 x4
                          have f1 := (Dm.R r hri).1.2 j
                          have D2 := (Dm.store hri hji (EE F1 k r j l)).congr (fun r' j' _ _ => partF_step F1 k l r j (by omega) (by omega) r' j')
                          have B2 := below_set B (b := g1 r) (i := j) (Dm.U r hri).2 (.int .i64 (EE F1 k r j l))
                          have p0 : (0 : Int) ≤ (r : Int) := by omega
                          have p1 : (r : Int) < (i : Int) := by omega
                          have p2 : (0 : Int) ≤ (k : Int) := by omega
                          have p3 : (k : Int) < (i : Int) := by omega
                          have p5 : (0 : Int) ≤ (j : Int) := by omega
                          have p6 : (j : Int) < (i : Int) := by omega
                          have hlb : (l == 0) = false := by rw [beq_eq_false_iff_ne]; exact hl0
                          have HDm := Lib.hid Dm
                          clear Dm B
                          obtain ⟨ee, hee⟩ : ∃ ee, EE F1 k r j l = ee := ⟨_, rfl⟩
                          rw [hee] at D2 B2
                          rw [EE] at hee
                          obtain ⟨gr, hgr⟩ : ∃ gr, g1 r = gr := ⟨_, rfl⟩
                          obtain ⟨gk, hgk⟩ : ∃ gk, g1 k = gk := ⟨_, rfl⟩
                          obtain ⟨y1, hy1⟩ : ∃ y1, F1 r j = y1 := ⟨_, rfl⟩
                          obtain ⟨y2, hy2⟩ : ∃ y2, F1 k k = y2 := ⟨_, rfl⟩
                          obtain ⟨y3, hy3⟩ : ∃ y3, F1 r k = y3 := ⟨_, rfl⟩
                          obtain ⟨y4, hy4⟩ : ∃ y4, F1 k j = y4 := ⟨_, rfl⟩
                          rw [hgr] at c1 x1 x3 f1 D2 B2
                          rw [hgk] at c2 x2 x4
                          rw [hy1] at x1 hee
                          rw [hy2] at x2 hee
                          rw [hy3] at x3 hee
                          rw [hy4] at x4 hee
                          have HEE := Lib.hid hee
                          have HD2 := Lib.hid D2
                          have HB2 := Lib.hid B2
                          have hgD : gr ≠ w.heap.size := by rw [← hgr]; exact (HDm.out.U r hri).1
                          have hgg : gk ≠ gr := by rw [← hgr, ← hgk]; intro e; have := HDm.out.J k r hlt hri e; omega
                          have KP := Lib.hid (show ∀ v : Value, (wr.setCell ⟨gr, j, none⟩ v).cell? ⟨w.heap.size, r, none⟩ = some (.slice (some ⟨gr, 0, none⟩) i (q1 r)) ∧ (wr.setCell ⟨gr, j, none⟩ v).cell? ⟨w.heap.size, k, none⟩ = some (.slice (some ⟨gk, 0, none⟩) i (q1 k)) ∧ (wr.setCell ⟨gr, j, none⟩ v).cell? ⟨gk, k, none⟩ = some (.int .i64 y2) ∧ (wr.setCell ⟨gr, j, none⟩ v).cell? ⟨gr, k, none⟩ = some (.int .i64 y3) ∧ (wr.setCell ⟨gr, j, none⟩ v).cell? ⟨gk, j, none⟩ = some (.int .i64 y4) from fun v => ⟨(World.cell?_setCell_other _ _ _ _ (by first | (simp; done) | (simp; omega))).trans c1, (World.cell?_setCell_other _ _ _ _ (by first | (simp; done) | (simp; omega))).trans c2, (World.cell?_setCell_other _ _ _ _ (by first | (simp; done) | (simp; omega))).trans x2, (World.cell?_setCell_other _ _ _ _ (by first | (simp; done) | (simp; omega))).trans x3, (World.cell?_setCell_other _ _ _ _ (by first | (simp; done) | (simp; omega))).trans x4⟩)
                          clear hee D2 B2 hgr hgk hy1 hy2 hy3 hy4 hgD hgg HDm
                          go_wp2_with fail
                          refine wp_region_held_drew (S := (fun w' => w'.cell? ⟨w.heap.size, r, none⟩ = some (.slice (some ⟨gr, 0, none⟩) i (q1 r)) ∧ w'.cell? ⟨w.heap.size, k, none⟩ = some (.slice (some ⟨gk, 0, none⟩) i (q1 k)) ∧ w'.cell? ⟨gk, k, none⟩ = some (.int .i64 y2) ∧ w'.cell? ⟨gr, k, none⟩ = some (.int .i64 y3) ∧ w'.cell? ⟨gk, j, none⟩ = some (.int .i64 y4))) (by kernel_rfl) ⟨c1, c2, x2, x3, x4⟩ (fun hHeld => ?_)
                          refine wpAnyH_take (i := 0) (oi := { dst := some 89, op := _, type := _, pos := _, after := _, guard := _ }) (v := ?v0) rfl (by kernel_rfl) (by kernel_rfl) (by kernel_rfl) (fun _ _ _ h => h) (Or.inl ⟨by rfl, ?y0⟩) (by assumption) ?r0
                          case y0 =>
                            intro w hSw
                            try dsimp only at hSw
                            go_simp
                            try with_reducible rfl
                          simp only [Act.put, List.setIfInBounds_toArray, List.set_cons_zero, List.set_cons_succ]
                          refine wpAnyH_take (i := 1) (oi := { dst := some 90, op := _, type := _, pos := _, after := _, guard := _ }) (v := ?v1) rfl (by kernel_rfl) (by kernel_rfl) (by kernel_rfl) (fun _ _ _ h => h) (Or.inl ⟨by rfl, ?y1⟩) (by assumption) ?r1
                          case y1 =>
                            intro w hSw
                            try dsimp only at hSw
                            go_simp
                            try with_reducible rfl
                          simp only [Act.put, List.setIfInBounds_toArray, List.set_cons_zero, List.set_cons_succ]
                          refine wpAnyH_take (i := 2) (oi := { dst := some 91, op := _, type := _, pos := _, after := _, guard := _ }) (v := ?v2) rfl (by kernel_rfl) (by kernel_rfl) (by kernel_rfl) (fun _ _ _ h => h) (Or.inl ⟨by rfl, ?y2⟩) (by assumption) ?r2
                          case y2 =>
                            intro w hSw
                            try dsimp only at hSw
                            go_simp
                            try with_reducible rfl
                          simp only [Act.put, List.setIfInBounds_toArray, List.set_cons_zero, List.set_cons_succ]
                          refine wpAnyH_take (i := 3) (oi := { dst := some 92, op := _, type := _, pos := _, after := _, guard := _ }) (v := ?v3) rfl (by kernel_rfl) (by kernel_rfl) (by kernel_rfl) (fun _ _ _ h => h) (Or.inl ⟨by rfl, ?y3⟩) (by assumption) ?r3
                          case y3 =>
                            intro w hSw
                            try dsimp only at hSw
                            go_simp
                            try with_reducible rfl
                          simp only [Act.put, List.setIfInBounds_toArray, List.set_cons_zero, List.set_cons_succ]
                          refine wpAnyH_take (i := 4) (oi := { dst := some 93, op := _, type := _, pos := _, after := _, guard := _ }) (v := ?v4) rfl (by kernel_rfl) (by kernel_rfl) (by kernel_rfl) (fun _ _ _ h => h) (Or.inl ⟨by rfl, ?y4⟩) (by assumption) ?r4
                          case y4 =>
                            intro w hSw
                            try dsimp only at hSw
                            go_simp
                            try with_reducible rfl
                          simp only [Act.put, List.setIfInBounds_toArray, List.set_cons_zero, List.set_cons_succ]
                          refine wpAnyH_take (i := 5) (oi := { dst := some 94, op := _, type := _, pos := _, after := _, guard := _ }) (v := ?v5) rfl (by kernel_rfl) (by kernel_rfl) (by kernel_rfl) (fun _ _ _ h => h) (Or.inl ⟨by rfl, ?y5⟩) (by assumption) ?r5
                          case y5 =>
                            intro w hSw
                            try dsimp only at hSw
                            go_simp
                            try with_reducible rfl
                          simp only [Act.put, List.setIfInBounds_toArray, List.set_cons_zero, List.set_cons_succ]
                          refine wpAnyH_take (i := 6) (oi := { dst := some 95, op := _, type := _, pos := _, after := _, guard := _ }) (v := ?v6) rfl (by kernel_rfl) (by kernel_rfl) (by kernel_rfl) (fun _ _ _ h => h) (Or.inl ⟨by rfl, ?y6⟩) (by assumption) ?r6
                          case y6 =>
                            intro w hSw
                            try dsimp only at hSw
                            go_simp
                            try with_reducible rfl
                          simp only [Act.put, List.setIfInBounds_toArray, List.set_cons_zero, List.set_cons_succ]
                          refine wpAnyH_take (i := 7) (oi := { dst := some 96, op := _, type := _, pos := _, after := _, guard := _ }) (v := ?v7) rfl (by kernel_rfl) (by kernel_rfl) (by kernel_rfl) (fun _ _ _ h => h) (Or.inl ⟨by rfl, ?y7⟩) (by assumption) ?r7
                          case y7 =>
                            intro w hSw
                            try dsimp only at hSw
                            go_simp
                            try with_reducible rfl
                          simp only [Act.put, List.setIfInBounds_toArray, List.set_cons_zero, List.set_cons_succ]
                          refine wpAnyH_take (i := 8) (oi := { dst := some 97, op := _, type := _, pos := _, after := _, guard := _ }) (v := ?v8) rfl (by kernel_rfl) (by kernel_rfl) (by kernel_rfl) (fun _ _ _ h => h) (Or.inl ⟨by rfl, ?y8⟩) (by assumption) ?r8
                          case y8 =>
                            intro w hSw
                            try dsimp only at hSw
                            go_simp
                            try with_reducible rfl
                          simp only [Act.put, List.setIfInBounds_toArray, List.set_cons_zero, List.set_cons_succ]
                          refine wpAnyH_take (i := 9) (oi := { dst := some 98, op := _, type := _, pos := _, after := _, guard := _ }) (v := ?v9) rfl (by kernel_rfl) (by kernel_rfl) (by kernel_rfl) (fun _ _ _ h => h) (Or.inl ⟨by rfl, ?y9⟩) (by assumption) ?r9
                          case y9 =>
                            intro w hSw
                            try dsimp only at hSw
                            go_simp
                            try with_reducible rfl
                          simp only [Act.put, List.setIfInBounds_toArray, List.set_cons_zero, List.set_cons_succ]
                          refine wpAnyH_take (i := 10) (oi := { dst := some 99, op := _, type := _, pos := _, after := _, guard := _ }) (v := ?v10) rfl (by kernel_rfl) (by kernel_rfl) (by kernel_rfl) (fun _ _ _ h => h) (Or.inl ⟨by rfl, ?y10⟩) (by assumption) ?r10
                          case y10 =>
                            intro w hSw
                            try dsimp only at hSw
                            go_simp
                            try with_reducible rfl
                          simp only [Act.put, List.setIfInBounds_toArray, List.set_cons_zero, List.set_cons_succ]
                          refine wpAnyH_take (i := 12) (oi := { dst := some 101, op := _, type := _, pos := _, after := _, guard := _ }) (v := ?v12) rfl (by kernel_rfl) (by kernel_rfl) (by kernel_rfl) (fun _ _ _ h => h) (Or.inl ⟨by rfl, ?y12⟩) (by assumption) ?r12
                          case y12 =>
                            intro w hSw
                            try dsimp only at hSw
                            go_simp
                            try with_reducible rfl
                          simp only [Act.put, List.setIfInBounds_toArray, List.set_cons_zero, List.set_cons_succ]
                          refine wpAnyH_take (i := 13) (oi := { dst := some 102, op := _, type := _, pos := _, after := _, guard := _ }) (v := ?v13) rfl (by kernel_rfl) (by kernel_rfl) (by kernel_rfl) (fun _ _ _ h => h) (Or.inl ⟨by rfl, ?y13⟩) (by assumption) ?r13
                          case y13 =>
                            intro w hSw
                            try dsimp only at hSw
                            go_simp
                            try with_reducible rfl
                          simp only [Act.put, List.setIfInBounds_toArray, List.set_cons_zero, List.set_cons_succ]
                          refine wpAnyH_take (i := 14) (oi := { dst := some 103, op := _, type := _, pos := _, after := _, guard := _ }) (v := ?v14) rfl (by kernel_rfl) (by kernel_rfl) (by kernel_rfl) (fun _ _ _ h => h) (Or.inl ⟨by rfl, ?y14⟩) (by assumption) ?r14
                          case y14 =>
                            intro w hSw
                            try dsimp only at hSw
                            go_simp
                            try with_reducible rfl
                          simp only [Act.put, List.setIfInBounds_toArray, List.set_cons_zero, List.set_cons_succ]
                          refine wpAnyH_take (i := 15) (oi := { dst := some 104, op := _, type := _, pos := _, after := _, guard := _ }) (v := ?v15) rfl (by kernel_rfl) (by kernel_rfl) (by kernel_rfl) (fun _ _ _ h => h) (Or.inl ⟨by rfl, ?y15⟩) (by assumption) ?r15
                          case y15 =>
                            intro w hSw
                            try dsimp only at hSw
                            go_simp
                            try with_reducible rfl
                          simp only [Act.put, List.setIfInBounds_toArray, List.set_cons_zero, List.set_cons_succ]
                          refine wpAnyH_take (i := 16) (oi := { dst := some 105, op := _, type := _, pos := _, after := _, guard := _ }) (v := ?v16) rfl (by kernel_rfl) (by kernel_rfl) (by kernel_rfl) (fun _ _ _ h => h) (Or.inl ⟨by rfl, ?y16⟩) (by assumption) ?r16
                          case y16 =>
                            intro w hSw
                            try dsimp only at hSw
                            go_simp
                            try with_reducible rfl
                          simp only [Act.put, List.setIfInBounds_toArray, List.set_cons_zero, List.set_cons_succ]
                          refine wpAnyH_take (i := 17) (oi := { dst := some 106, op := _, type := _, pos := _, after := _, guard := _ }) (v := ?v17) rfl (by kernel_rfl) (by kernel_rfl) (by kernel_rfl) (fun _ _ _ h => h) (Or.inl ⟨by rfl, ?y17⟩) (by assumption) ?r17
                          case y17 =>
                            intro w hSw
                            try dsimp only at hSw
                            go_simp
                            try with_reducible rfl
                          simp only [Act.put, List.setIfInBounds_toArray, List.set_cons_zero, List.set_cons_succ]
                          refine wpAnyH_take (i := 18) (oi := { dst := some 107, op := _, type := _, pos := _, after := _, guard := _ }) (v := ?v18) rfl (by kernel_rfl) (by kernel_rfl) (by kernel_rfl) (fun _ _ _ h => h) (Or.inl ⟨by rfl, ?y18⟩) (by assumption) ?r18
                          case y18 =>
                            intro w hSw
                            try dsimp only at hSw
                            go_simp
                            try with_reducible rfl
                          simp only [Act.put, List.setIfInBounds_toArray, List.set_cons_zero, List.set_cons_succ]
                          refine wpAnyH_take (i := 20) (oi := { dst := some 109, op := _, type := _, pos := _, after := _, guard := _ }) (v := ?v20) rfl (by kernel_rfl) (by kernel_rfl) (by kernel_rfl) (fun _ _ _ h => h) (Or.inl ⟨by rfl, ?y20⟩) (by assumption) ?r20
                          case y20 =>
                            intro w hSw
                            try dsimp only at hSw
                            go_simp
                            try with_reducible rfl
                          simp only [Act.put, List.setIfInBounds_toArray, List.set_cons_zero, List.set_cons_succ]
                          refine wpAnyH_take (i := 21) (oi := { dst := some 110, op := _, type := _, pos := _, after := _, guard := _ }) (v := ?v21) rfl (by kernel_rfl) (by kernel_rfl) (by kernel_rfl) (fun _ _ _ h => h) (Or.inl ⟨by rfl, ?y21⟩) (by assumption) ?r21
                          case y21 =>
                            intro w hSw
                            try dsimp only at hSw
                            go_simp
                            try with_reducible rfl
                          simp only [Act.put, List.setIfInBounds_toArray, List.set_cons_zero, List.set_cons_succ]
                          refine wpAnyH_take (i := 22) (oi := { dst := some 111, op := _, type := _, pos := _, after := _, guard := _ }) (v := ?v22) rfl (by kernel_rfl) (by kernel_rfl) (by kernel_rfl) (fun _ _ _ h => h) (Or.inl ⟨by rfl, ?y22⟩) (by assumption) ?r22
                          case y22 =>
                            intro w hSw
                            try dsimp only at hSw
                            go_simp
                            try with_reducible rfl
                          simp only [Act.put, List.setIfInBounds_toArray, List.set_cons_zero, List.set_cons_succ]
                          refine wpAnyH_take (i := 23) (oi := { dst := some 112, op := _, type := _, pos := _, after := _, guard := _ }) (v := ?v23) rfl (by kernel_rfl) (by kernel_rfl) (by kernel_rfl) (fun _ _ _ h => h) (Or.inl ⟨by rfl, ?y23⟩) (by assumption) ?r23
                          case y23 =>
                            intro w hSw
                            try dsimp only at hSw
                            go_simp
                            try with_reducible rfl
                          simp only [Act.put, List.setIfInBounds_toArray, List.set_cons_zero, List.set_cons_succ]
                          refine wpAnyH_take (i := 24) (oi := { dst := some 113, op := _, type := _, pos := _, after := _, guard := _ }) (v := ?v24) rfl (by kernel_rfl) (by kernel_rfl) (by kernel_rfl) (fun _ _ _ h => h) (Or.inl ⟨by rfl, ?y24⟩) (by assumption) ?r24
                          case y24 =>
                            intro w hSw
                            try dsimp only at hSw
                            go_simp
                            try with_reducible rfl
                          simp only [Act.put, List.setIfInBounds_toArray, List.set_cons_zero, List.set_cons_succ]
                          refine wpAnyH_take (i := 25) (oi := { dst := some 114, op := _, type := _, pos := _, after := _, guard := _ }) (v := ?v25) rfl (by kernel_rfl) (by kernel_rfl) (by kernel_rfl) (fun _ _ _ h => h) (Or.inl ⟨by rfl, ?y25⟩) (by assumption) ?r25
                          case y25 =>
                            intro w hSw
                            try dsimp only at hSw
                            go_simp
                            try with_reducible rfl
                          simp only [Act.put, List.setIfInBounds_toArray, List.set_cons_zero, List.set_cons_succ]
                          refine wpAnyH_take (i := 26) (oi := { dst := some 115, op := _, type := _, pos := _, after := _, guard := _ }) (v := ?v26) rfl (by kernel_rfl) (by kernel_rfl) (by kernel_rfl) (fun _ _ _ h => h) (Or.inl ⟨by rfl, ?y26⟩) (by assumption) ?r26
                          case y26 =>
                            intro w hSw
                            try dsimp only at hSw
                            go_simp
                            try with_reducible rfl
                          simp only [Act.put, List.setIfInBounds_toArray, List.set_cons_zero, List.set_cons_succ]
                          refine wpAnyH_take (i := 27) (oi := { dst := some 116, op := _, type := _, pos := _, after := _, guard := _ }) (v := ?v27) rfl (by kernel_rfl) (by kernel_rfl) (by kernel_rfl) (fun _ _ _ h => h) (Or.inl ⟨by rfl, ?y27⟩) (by assumption) ?r27
                          case y27 =>
                            intro w hSw
                            try dsimp only at hSw
                            go_simp
                            try with_reducible rfl
                          simp only [Act.put, List.setIfInBounds_toArray, List.set_cons_zero, List.set_cons_succ]
                          refine wpAnyH_take (i := 28) (oi := { dst := some 117, op := _, type := _, pos := _, after := _, guard := _ }) (v := ?v28) rfl (by kernel_rfl) (by kernel_rfl) (by kernel_rfl) (fun _ _ _ h => h) (Or.inl ⟨by rfl, ?y28⟩) (by assumption) ?r28
                          case y28 =>
                            intro w hSw
                            try dsimp only at hSw
                            go_simp
                            try with_reducible rfl
                          simp only [Act.put, List.setIfInBounds_toArray, List.set_cons_zero, List.set_cons_succ]
                          refine wpAnyH_take (i := 29) (oi := { dst := some 118, op := _, type := _, pos := _, after := _, guard := _ }) (v := ?v29) rfl (by kernel_rfl) (by kernel_rfl) (by kernel_rfl) (fun _ _ _ h => h) (Or.inl ⟨by rfl, ?y29⟩) (by assumption) ?r29
                          case y29 =>
                            intro w hSw
                            try dsimp only at hSw
                            go_simp
                            try with_reducible rfl
                          simp only [Act.put, List.setIfInBounds_toArray, List.set_cons_zero, List.set_cons_succ]
                          refine wpAnyH_take (i := 30) (oi := { dst := some 119, op := _, type := _, pos := _, after := _, guard := _ }) (v := ?v30) rfl (by kernel_rfl) (by kernel_rfl) (by kernel_rfl) (fun _ _ _ h => h) (Or.inl ⟨by rfl, ?y30⟩) (by assumption) ?r30
                          case y30 =>
                            intro w hSw
                            try dsimp only at hSw
                            go_simp
                            try with_reducible rfl
                          simp only [Act.put, List.setIfInBounds_toArray, List.set_cons_zero, List.set_cons_succ]
                          refine wpAnyH_take (i := 31) (oi := { dst := some 120, op := _, type := _, pos := _, after := _, guard := _ }) (v := ?v31) rfl (by kernel_rfl) (by kernel_rfl) (by kernel_rfl) (fun _ _ _ h => h) (Or.inl ⟨by rfl, ?y31⟩) (by assumption) ?r31
                          case y31 =>
                            intro w hSw
                            try dsimp only at hSw
                            go_simp
                            try with_reducible rfl
                          simp only [Act.put, List.setIfInBounds_toArray, List.set_cons_zero, List.set_cons_succ]
                          refine wpAnyH_take (i := 32) (oi := { dst := some 121, op := _, type := _, pos := _, after := _, guard := _ }) (v := ?v32) rfl (by kernel_rfl) (by kernel_rfl) (by kernel_rfl) (fun _ _ _ h => h) (Or.inl ⟨by rfl, ?y32⟩) (by assumption) ?r32
                          case y32 =>
                            intro w hSw
                            try dsimp only at hSw
                            go_simp
                            try with_reducible rfl
                          simp only [Act.put, List.setIfInBounds_toArray, List.set_cons_zero, List.set_cons_succ]
                          refine wpAnyH_take (i := 33) (oi := { dst := some 122, op := _, type := _, pos := _, after := _, guard := _ }) (v := ?v33) rfl (by kernel_rfl) (by kernel_rfl) (by kernel_rfl) (fun _ _ _ h => h) (Or.inl ⟨by rfl, ?y33⟩) (by assumption) ?r33
                          case y33 =>
                            intro w hSw
                            try dsimp only at hSw
                            go_simp
                            try with_reducible rfl
                          simp only [Act.put, List.setIfInBounds_toArray, List.set_cons_zero, List.set_cons_succ]
                          refine wpAnyH_take (i := 34) (oi := { dst := some 123, op := _, type := _, pos := _, after := _, guard := _ }) (v := ?v34) rfl (by kernel_rfl) (by kernel_rfl) (by kernel_rfl) (fun _ _ _ h => h) (Or.inl ⟨by rfl, ?y34⟩) (by assumption) ?r34
                          case y34 =>
                            intro w hSw
                            try dsimp only at hSw
                            go_simp
                            try with_reducible rfl
                          simp only [Act.put, List.setIfInBounds_toArray, List.set_cons_zero, List.set_cons_succ]
                          refine wpAnyH_take (i := 36) (oi := { dst := some 125, op := _, type := _, pos := _, after := _, guard := _ }) (v := ?v36) rfl (by kernel_rfl) (by kernel_rfl) (by kernel_rfl) (fun _ _ _ h => h) (Or.inl ⟨by rfl, ?y36⟩) (by assumption) ?r36
                          case y36 =>
                            intro w hSw
                            try dsimp only at hSw
                            go_simp
                            try with_reducible rfl
                          simp only [Act.put, List.setIfInBounds_toArray, List.set_cons_zero, List.set_cons_succ]
                          refine wpAnyH_ready (rs := [11]) (by kernel_rfl) (by simp) ?_
                          refine AllReadyH.cons rfl (fun K hK => ?_) AllReadyH.nil
                          go_simp
                          try dsimp only
                          clear hHeld
                          refine hK.out _ _ ⟨c1, c2, x2, x3, x4⟩ (fun hHeld => ?_)
                          clear hK K
                          try simp only [Act.put, List.setIfInBounds_toArray, List.set_cons_zero, List.set_cons_succ]
                          refine wpAnyH_take (i := 19) (oi := { dst := some 108, op := _, type := _, pos := _, after := _, guard := _ }) (v := ?v19) rfl (by kernel_rfl) (by kernel_rfl) (by kernel_rfl) (fun _ _ _ h => h) (Or.inl ⟨by rfl, ?y19⟩) (by assumption) ?r19
                          case y19 =>
                            intro w hSw
                            try dsimp only at hSw
                            go_simp
                            try with_reducible rfl
                          simp only [Act.put, List.setIfInBounds_toArray, List.set_cons_zero, List.set_cons_succ]
                          refine wpAnyH_take (i := 35) (oi := { dst := some 124, op := _, type := _, pos := _, after := _, guard := _ }) (v := ?v35) rfl (by kernel_rfl) (by kernel_rfl) (by kernel_rfl) (fun _ _ _ h => h) (Or.inl ⟨by rfl, ?y35⟩) (by assumption) ?r35
                          case y35 =>
                            intro w hSw
                            try dsimp only at hSw
                            go_simp
                            try with_reducible rfl
                          simp only [Act.put, List.setIfInBounds_toArray, List.set_cons_zero, List.set_cons_succ]
                          refine wpAnyH_take (i := 37) (oi := { dst := some 126, op := _, type := _, pos := _, after := _, guard := _ }) (v := ?v37) rfl (by kernel_rfl) (by kernel_rfl) (by kernel_rfl) (fun _ _ _ h => h) (Or.inl ⟨by rfl, ?y37⟩) (by assumption) ?r37
                          case y37 =>
                            intro w hSw
                            try dsimp only at hSw
                            go_simp
                            try with_reducible rfl
                          simp only [Act.put, List.setIfInBounds_toArray, List.set_cons_zero, List.set_cons_succ]
                          refine wpAnyH_take (i := 38) (oi := { dst := some 127, op := _, type := _, pos := _, after := _, guard := _ }) (v := ?v38) rfl (by kernel_rfl) (by kernel_rfl) (by kernel_rfl) (fun _ _ _ h => h) (Or.inl ⟨by rfl, ?y38⟩) (by assumption) ?r38
                          case y38 =>
                            intro w hSw
                            try dsimp only at hSw
                            go_simp
                            try with_reducible rfl
                          simp only [Act.put, List.setIfInBounds_toArray, List.set_cons_zero, List.set_cons_succ]
                          refine wpAnyH_ready (rs := [39]) (by kernel_rfl) (by simp) ?_
                          refine AllReadyH.cons rfl (fun K hK => ?_) AllReadyH.nil
                          go_simp
                          try dsimp only
                          clear hHeld
                          refine hK.out _ _ (KP.out _) (fun hHeld => ?_)
                          clear hK K
                          try simp only [Act.put, List.setIfInBounds_toArray, List.set_cons_zero, List.set_cons_succ]
                          refine wpAnyH_done (by kernel_rfl) ?_ _
                          all_goals
                            go_wp2_with fail
                            go_roundg (i - (j + 1))
                            case measure => omega
                            case rel => exact ⟨j + 1, by omega, by omega, rfl, by go_num, by have := HD2.out; rw [← HEE.out] at this; exact this.keep (Below.refl _ _).drew, by have := HB2.out; rw [← HEE.out] at this; exact this.drew⟩
                        · have e : j = i := by omega
                          subst e
                          have D2 := Dm.congr (fun r' j' _ hj' => partF_row F1 k l j r r' j' hj')
                          clear Dm
                          go_wp2_with fail
                          go_roundg (j - (r + 1))
                          case measure => omega
                          case rel => exact ⟨r + 1, by omega, by omega, rfl, by go_num, D2, B⟩
                    · have e : r = i := by omega
                      subst e
                      have D2 := Dm.congr (fun r' j' hr' _ => partF_end F1 k l r r' j' hr')
                      have c2 := D2.row hlt
                      have x2 := D2.ent hlt hlt
                      rw [elimF, if_neg (by omega)] at x2
                      have p2 : (0 : Int) ≤ (k : Int) := by omega
                      have p3 : (k : Int) < (r : Int) := by omega
                      clear Dm
                      go_wp2_with fail
                      go_roundg (r - (k + 1))
                      case measure => omega
                      case rel => exact ⟨k + 1, s1, F1 k k, elimF F1 k l, g1, q1, by omega, rfl, by go_num, rfl, rfl, hs1', hp0, D2, B, HD.out⟩
                · have HD := Lib.hid (show detS i (i - (k + 1)) (k + 1) (elimF (swapF F a k) k l) (-s) (swapF F a k k k) = detS i i 0 (mF M) 1 1 by rw [← HDET.out, hkk, detS_swap HPV.out (by omega) hak]; congr 1)
                  have hp0 : swapF F a k k k ≠ 0 := by rw [swapF, if_neg (fun e => hak e.symm), if_pos rfl]; exact hz0
                  have ck := Dm.row hlt
                  have fa := Dm.O.1.2 a
                  have fk := Dm.O.1.2 k
                  have p5 : ((a : Int) != (k : Int)) = true := by rw [bne_iff_ne]; omega
                  have D1 := (Dm.swap hai2 hlt hak).keep (Below.refl _ _).drew
                  have B1 := (below_set (below_set B (b := w.heap.size) (i := a) (Nat.le_refl _) (.slice (some ⟨g k, 0, none⟩) i (q k))) (b := w.heap.size) (i := k) (Nat.le_refl _) (.slice (some ⟨g a, 0, none⟩) i (q a))).drew
                  clear hkk hz0 Dm B
                  go_wp2_with fail
                  go_region
                  obtain ⟨F1, hF1⟩ : ∃ F1, swapF F a k = F1 := ⟨_, rfl⟩
                  obtain ⟨g1, hg1⟩ : ∃ g1, (fun r => if r = a then g k else if r = k then g a else g r) = g1 := ⟨_, rfl⟩
                  obtain ⟨q1, hq1⟩ : ∃ q1, (fun r => if r = a then q k else if r = k then q a else q r) = q1 := ⟨_, rfl⟩
                  rw [hF1, hg1, hq1] at D1
                  rw [hF1] at hp0
                  have HD := Lib.hid (show detS i (i - (k + 1)) (k + 1) (elimF F1 k l) (-s) (F1 k k) = detS i i 0 (mF M) 1 1 by rw [← hF1]; exact HD.out)
                  obtain ⟨s1, hs⟩ : ∃ s1, -s = s1 := ⟨_, rfl⟩
                  rw [hs] at HD
                  have hs1' : s1 = 1 ∨ s1 = -1 := by omega
                  clear ck fa fk hF1 hg1 hq1 p5 hzb ca ea
                  go_wp2_with fail
                  go_loopg [10, 11] (i - (k + 1)) (fun gk s10 _ wx => ∃ r : Nat, k + 1 ≤ r ∧ r ≤ i ∧ gk = i - r ∧ s10 = .int .i64 r ∧ DM wx w.heap.size w.heap.size i i g1 q1 (partF F1 k l r (k + 1)) ∧ Below w.heap.size w wx)
                  case atStart => exact ⟨k + 1, Nat.le_refl _, by omega, rfl, by go_num, D1.congr (fun r j _ _ => (partF_start F1 k l r j).symm), B1⟩
                  case round =>
                    clear D1 B1
                    obtain ⟨r, hr1, hr2, rfl, rfl, Dm, B⟩ := hrel
                    by_cases hri : r < i
                    · go_wp2_with fail
                      go_loopg [11] (i - (k + 1)) (fun gk s11 wx => ∃ j : Nat, k + 1 ≤ j ∧ j ≤ i ∧ gk = i - j ∧ s11 = .int .i64 j ∧ DM wx w.heap.size w.heap.size i i g1 q1 (partF F1 k l r j) ∧ Below w.heap.size w wx)
                      case atStart => exact ⟨k + 1, Nat.le_refl _, by omega, rfl, by go_num, Dm, B⟩
                      case round =>
                        clear Dm B
                        obtain ⟨j, hj1, hj2, rfl, rfl, Dm, B⟩ := hrel
                        by_cases hji : j < i
                        · have c1 := Dm.row hri
                          have c2 := Dm.row hlt
                          have x1 := Dm.ent hri hji
                          have x2 := Dm.ent hlt hlt
                          have x3 := Dm.ent hri hlt
                          have x4 := Dm.ent hlt hji
                          rw [partF_old _ _ _ _ _ _ _ (by omega)] at x1 x2 x3 x4
                          have f1 := (Dm.R r hri).1.2 j
                          have D2 := (Dm.store hri hji (EE F1 k r j l)).congr (fun r' j' _ _ => partF_step F1 k l r j (by omega) (by omega) r' j')
                          have B2 := below_set B (b := g1 r) (i := j) (Dm.U r hri).2 (.int .i64 (EE F1 k r j l))
                          have p0 : (0 : Int) ≤ (r : Int) := by omega
                          have p1 : (r : Int) < (i : Int) := by omega
                          have p2 : (0 : Int) ≤ (k : Int) := by omega
                          have p3 : (k : Int) < (i : Int) := by omega
                          have p5 : (0 : Int) ≤ (j : Int) := by omega
                          have p6 : (j : Int) < (i : Int) := by omega
                          have hlb : (l == 0) = false := by rw [beq_eq_false_iff_ne]; exact hl0
                          have HDm := Lib.hid Dm
                          clear Dm B
                          obtain ⟨ee, hee⟩ : ∃ ee, EE F1 k r j l = ee := ⟨_, rfl⟩
                          rw [hee] at D2 B2
                          rw [EE] at hee
                          obtain ⟨gr, hgr⟩ : ∃ gr, g1 r = gr := ⟨_, rfl⟩
                          obtain ⟨gk, hgk⟩ : ∃ gk, g1 k = gk := ⟨_, rfl⟩
                          obtain ⟨y1, hy1⟩ : ∃ y1, F1 r j = y1 := ⟨_, rfl⟩
                          obtain ⟨y2, hy2⟩ : ∃ y2, F1 k k = y2 := ⟨_, rfl⟩
                          obtain ⟨y3, hy3⟩ : ∃ y3, F1 r k = y3 := ⟨_, rfl⟩
                          obtain ⟨y4, hy4⟩ : ∃ y4, F1 k j = y4 := ⟨_, rfl⟩
                          rw [hgr] at c1 x1 x3 f1 D2 B2
                          rw [hgk] at c2 x2 x4
                          rw [hy1] at x1 hee
                          rw [hy2] at x2 hee
                          rw [hy3] at x3 hee
                          rw [hy4] at x4 hee
                          have HEE := Lib.hid hee
                          have HD2 := Lib.hid D2
                          have HB2 := Lib.hid B2
                          have hgD : gr ≠ w.heap.size := by rw [← hgr]; exact (HDm.out.U r hri).1
                          have hgg : gk ≠ gr := by rw [← hgr, ← hgk]; intro e; have := HDm.out.J k r hlt hri e; omega
                          have KP := Lib.hid (show ∀ v : Value, (wr.setCell ⟨gr, j, none⟩ v).cell? ⟨w.heap.size, r, none⟩ = some (.slice (some ⟨gr, 0, none⟩) i (q1 r)) ∧ (wr.setCell ⟨gr, j, none⟩ v).cell? ⟨w.heap.size, k, none⟩ = some (.slice (some ⟨gk, 0, none⟩) i (q1 k)) ∧ (wr.setCell ⟨gr, j, none⟩ v).cell? ⟨gk, k, none⟩ = some (.int .i64 y2) ∧ (wr.setCell ⟨gr, j, none⟩ v).cell? ⟨gr, k, none⟩ = some (.int .i64 y3) ∧ (wr.setCell ⟨gr, j, none⟩ v).cell? ⟨gk, j, none⟩ = some (.int .i64 y4) from fun v => ⟨(World.cell?_setCell_other _ _ _ _ (by first | (simp; done) | (simp; omega))).trans c1, (World.cell?_setCell_other _ _ _ _ (by first | (simp; done) | (simp; omega))).trans c2, (World.cell?_setCell_other _ _ _ _ (by first | (simp; done) | (simp; omega))).trans x2, (World.cell?_setCell_other _ _ _ _ (by first | (simp; done) | (simp; omega))).trans x3, (World.cell?_setCell_other _ _ _ _ (by first | (simp; done) | (simp; omega))).trans x4⟩)
                          clear hee D2 B2 hgr hgk hy1 hy2 hy3 hy4 hgD hgg HDm
                          go_wp2_with fail
                          refine wp_region_held_drew (S := (fun w' => w'.cell? ⟨w.heap.size, r, none⟩ = some (.slice (some ⟨gr, 0, none⟩) i (q1 r)) ∧ w'.cell? ⟨w.heap.size, k, none⟩ = some (.slice (some ⟨gk, 0, none⟩) i (q1 k)) ∧ w'.cell? ⟨gk, k, none⟩ = some (.int .i64 y2) ∧ w'.cell? ⟨gr, k, none⟩ = some (.int .i64 y3) ∧ w'.cell? ⟨gk, j, none⟩ = some (.int .i64 y4))) (by kernel_rfl) ⟨c1, c2, x2, x3, x4⟩ (fun hHeld => ?_)
                          refine wpAnyH_take (i := 0) (oi := { dst := some 89, op := _, type := _, pos := _, after := _, guard := _ }) (v := ?v0b) rfl (by kernel_rfl) (by kernel_rfl) (by kernel_rfl) (fun _ _ _ h => h) (Or.inl ⟨by rfl, ?y0b⟩) (by assumption) ?r0b
                          case y0b =>
                            intro w hSw
                            try dsimp only at hSw
                            go_simp
                            try with_reducible rfl
                          simp only [Act.put, List.setIfInBounds_toArray, List.set_cons_zero, List.set_cons_succ]
                          refine wpAnyH_take (i := 1) (oi := { dst := some 90, op := _, type := _, pos := _, after := _, guard := _ }) (v := ?v1b) rfl (by kernel_rfl) (by kernel_rfl) (by kernel_rfl) (fun _ _ _ h => h) (Or.inl ⟨by rfl, ?y1b⟩) (by assumption) ?r1b
                          case y1b =>
                            intro w hSw
                            try dsimp only at hSw
                            go_simp
                            try with_reducible rfl
                          simp only [Act.put, List.setIfInBounds_toArray, List.set_cons_zero, List.set_cons_succ]
                          refine wpAnyH_take (i := 2) (oi := { dst := some 91, op := _, type := _, pos := _, after := _, guard := _ }) (v := ?v2b) rfl (by kernel_rfl) (by kernel_rfl) (by kernel_rfl) (fun _ _ _ h => h) (Or.inl ⟨by rfl, ?y2b⟩) (by assumption) ?r2b
                          case y2b =>
                            intro w hSw
                            try dsimp only at hSw
                            go_simp
                            try with_reducible rfl
                          simp only [Act.put, List.setIfInBounds_toArray, List.set_cons_zero, List.set_cons_succ]
                          refine wpAnyH_take (i := 3) (oi := { dst := some 92, op := _, type := _, pos := _, after := _, guard := _ }) (v := ?v3b) rfl (by kernel_rfl) (by kernel_rfl) (by kernel_rfl) (fun _ _ _ h => h) (Or.inl ⟨by rfl, ?y3b⟩) (by assumption) ?r3b
                          case y3b =>
                            intro w hSw
                            try dsimp only at hSw
                            go_simp
                            try with_reducible rfl
                          simp only [Act.put, List.setIfInBounds_toArray, List.set_cons_zero, List.set_cons_succ]
                          refine wpAnyH_take (i := 4) (oi := { dst := some 93, op := _, type := _, pos := _, after := _, guard := _ }) (v := ?v4b) rfl (by kernel_rfl) (by kernel_rfl) (by kernel_rfl) (fun _ _ _ h => h) (Or.inl ⟨by rfl, ?y4b⟩) (by assumption) ?r4b
                          case y4b =>
                            intro w hSw
                            try dsimp only at hSw
                            go_simp
                            try with_reducible rfl
                          simp only [Act.put, List.setIfInBounds_toArray, List.set_cons_zero, List.set_cons_succ]
                          refine wpAnyH_take (i := 5) (oi := { dst := some 94, op := _, type := _, pos := _, after := _, guard := _ }) (v := ?v5b) rfl (by kernel_rfl) (by kernel_rfl) (by kernel_rfl) (fun _ _ _ h => h) (Or.inl ⟨by rfl, ?y5b⟩) (by assumption) ?r5b
                          case y5b =>
                            intro w hSw
                            try dsimp only at hSw
                            go_simp
                            try with_reducible rfl
                          simp only [Act.put, List.setIfInBounds_toArray, List.set_cons_zero, List.set_cons_succ]
                          refine wpAnyH_take (i := 6) (oi := { dst := some 95, op := _, type := _, pos := _, after := _, guard := _ }) (v := ?v6b) rfl (by kernel_rfl) (by kernel_rfl) (by kernel_rfl) (fun _ _ _ h => h) (Or.inl ⟨by rfl, ?y6b⟩) (by assumption) ?r6b
                          case y6b =>
                            intro w hSw
                            try dsimp only at hSw
                            go_simp
                            try with_reducible rfl
                          simp only [Act.put, List.setIfInBounds_toArray, List.set_cons_zero, List.set_cons_succ]
                          refine wpAnyH_take (i := 7) (oi := { dst := some 96, op := _, type := _, pos := _, after := _, guard := _ }) (v := ?v7b) rfl (by kernel_rfl) (by kernel_rfl) (by kernel_rfl) (fun _ _ _ h => h) (Or.inl ⟨by rfl, ?y7b⟩) (by assumption) ?r7b
                          case y7b =>
                            intro w hSw
                            try dsimp only at hSw
                            go_simp
                            try with_reducible rfl
                          simp only [Act.put, List.setIfInBounds_toArray, List.set_cons_zero, List.set_cons_succ]
                          refine wpAnyH_take (i := 8) (oi := { dst := some 97, op := _, type := _, pos := _, after := _, guard := _ }) (v := ?v8b) rfl (by kernel_rfl) (by kernel_rfl) (by kernel_rfl) (fun _ _ _ h => h) (Or.inl ⟨by rfl, ?y8b⟩) (by assumption) ?r8b
                          case y8b =>
                            intro w hSw
                            try dsimp only at hSw
                            go_simp
                            try with_reducible rfl
                          simp only [Act.put, List.setIfInBounds_toArray, List.set_cons_zero, List.set_cons_succ]
                          refine wpAnyH_take (i := 9) (oi := { dst := some 98, op := _, type := _, pos := _, after := _, guard := _ }) (v := ?v9b) rfl (by kernel_rfl) (by kernel_rfl) (by kernel_rfl) (fun _ _ _ h => h) (Or.inl ⟨by rfl, ?y9b⟩) (by assumption) ?r9b
                          case y9b =>
                            intro w hSw
                            try dsimp only at hSw
                            go_simp
                            try with_reducible rfl
                          simp only [Act.put, List.setIfInBounds_toArray, List.set_cons_zero, List.set_cons_succ]
                          refine wpAnyH_take (i := 10) (oi := { dst := some 99, op := _, type := _, pos := _, after := _, guard := _ }) (v := ?v10b) rfl (by kernel_rfl) (by kernel_rfl) (by kernel_rfl) (fun _ _ _ h => h) (Or.inl ⟨by rfl, ?y10b⟩) (by assumption) ?r10b
                          case y10b =>
                            intro w hSw
                            try dsimp only at hSw
                            go_simp
                            try with_reducible rfl
                          simp only [Act.put, List.setIfInBounds_toArray, List.set_cons_zero, List.set_cons_succ]
                          refine wpAnyH_take (i := 12) (oi := { dst := some 101, op := _, type := _, pos := _, after := _, guard := _ }) (v := ?v12b) rfl (by kernel_rfl) (by kernel_rfl) (by kernel_rfl) (fun _ _ _ h => h) (Or.inl ⟨by rfl, ?y12b⟩) (by assumption) ?r12b
                          case y12b =>
                            intro w hSw
                            try dsimp only at hSw
                            go_simp
                            try with_reducible rfl
                          simp only [Act.put, List.setIfInBounds_toArray, List.set_cons_zero, List.set_cons_succ]
                          refine wpAnyH_take (i := 13) (oi := { dst := some 102, op := _, type := _, pos := _, after := _, guard := _ }) (v := ?v13b) rfl (by kernel_rfl) (by kernel_rfl) (by kernel_rfl) (fun _ _ _ h => h) (Or.inl ⟨by rfl, ?y13b⟩) (by assumption) ?r13b
                          case y13b =>
                            intro w hSw
                            try dsimp only at hSw
                            go_simp
                            try with_reducible rfl
                          simp only [Act.put, List.setIfInBounds_toArray, List.set_cons_zero, List.set_cons_succ]
                          refine wpAnyH_take (i := 14) (oi := { dst := some 103, op := _, type := _, pos := _, after := _, guard := _ }) (v := ?v14b) rfl (by kernel_rfl) (by kernel_rfl) (by kernel_rfl) (fun _ _ _ h => h) (Or.inl ⟨by rfl, ?y14b⟩) (by assumption) ?r14b
                          case y14b =>
                            intro w hSw
                            try dsimp only at hSw
                            go_simp
                            try with_reducible rfl
                          simp only [Act.put, List.setIfInBounds_toArray, List.set_cons_zero, List.set_cons_succ]
                          refine wpAnyH_take (i := 15) (oi := { dst := some 104, op := _, type := _, pos := _, after := _, guard := _ }) (v := ?v15b) rfl (by kernel_rfl) (by kernel_rfl) (by kernel_rfl) (fun _ _ _ h => h) (Or.inl ⟨by rfl, ?y15b⟩) (by assumption) ?r15b
                          case y15b =>
                            intro w hSw
                            try dsimp only at hSw
                            go_simp
                            try with_reducible rfl
                          simp only [Act.put, List.setIfInBounds_toArray, List.set_cons_zero, List.set_cons_succ]
                          refine wpAnyH_take (i := 16) (oi := { dst := some 105, op := _, type := _, pos := _, after := _, guard := _ }) (v := ?v16b) rfl (by kernel_rfl) (by kernel_rfl) (by kernel_rfl) (fun _ _ _ h => h) (Or.inl ⟨by rfl, ?y16b⟩) (by assumption) ?r16b
                          case y16b =>
                            intro w hSw
                            try dsimp only at hSw
                            go_simp
                            try with_reducible rfl
                          simp only [Act.put, List.setIfInBounds_toArray, List.set_cons_zero, List.set_cons_succ]
                          refine wpAnyH_take (i := 17) (oi := { dst := some 106, op := _, type := _, pos := _, after := _, guard := _ }) (v := ?v17b) rfl (by kernel_rfl) (by kernel_rfl) (by kernel_rfl) (fun _ _ _ h => h) (Or.inl ⟨by rfl, ?y17b⟩) (by assumption) ?r17b
                          case y17b =>
                            intro w hSw
                            try dsimp only at hSw
                            go_simp
                            try with_reducible rfl
                          simp only [Act.put, List.setIfInBounds_toArray, List.set_cons_zero, List.set_cons_succ]
                          refine wpAnyH_take (i := 18) (oi := { dst := some 107, op := _, type := _, pos := _, after := _, guard := _ }) (v := ?v18b) rfl (by kernel_rfl) (by kernel_rfl) (by kernel_rfl) (fun _ _ _ h => h) (Or.inl ⟨by rfl, ?y18b⟩) (by assumption) ?r18b
                          case y18b =>
                            intro w hSw
                            try dsimp only at hSw
                            go_simp
                            try with_reducible rfl
                          simp only [Act.put, List.setIfInBounds_toArray, List.set_cons_zero, List.set_cons_succ]
                          refine wpAnyH_take (i := 20) (oi := { dst := some 109, op := _, type := _, pos := _, after := _, guard := _ }) (v := ?v20b) rfl (by kernel_rfl) (by kernel_rfl) (by kernel_rfl) (fun _ _ _ h => h) (Or.inl ⟨by rfl, ?y20b⟩) (by assumption) ?r20b
                          case y20b =>
                            intro w hSw
                            try dsimp only at hSw
                            go_simp
                            try with_reducible rfl
                          simp only [Act.put, List.setIfInBounds_toArray, List.set_cons_zero, List.set_cons_succ]
                          refine wpAnyH_take (i := 21) (oi := { dst := some 110, op := _, type := _, pos := _, after := _, guard := _ }) (v := ?v21b) rfl (by kernel_rfl) (by kernel_rfl) (by kernel_rfl) (fun _ _ _ h => h) (Or.inl ⟨by rfl, ?y21b⟩) (by assumption) ?r21b
                          case y21b =>
                            intro w hSw
                            try dsimp only at hSw
                            go_simp
                            try with_reducible rfl
                          simp only [Act.put, List.setIfInBounds_toArray, List.set_cons_zero, List.set_cons_succ]
                          refine wpAnyH_take (i := 22) (oi := { dst := some 111, op := _, type := _, pos := _, after := _, guard := _ }) (v := ?v22b) rfl (by kernel_rfl) (by kernel_rfl) (by kernel_rfl) (fun _ _ _ h => h) (Or.inl ⟨by rfl, ?y22b⟩) (by assumption) ?r22b
                          case y22b =>
                            intro w hSw
                            try dsimp only at hSw
                            go_simp
                            try with_reducible rfl
                          simp only [Act.put, List.setIfInBounds_toArray, List.set_cons_zero, List.set_cons_succ]
                          refine wpAnyH_take (i := 23) (oi := { dst := some 112, op := _, type := _, pos := _, after := _, guard := _ }) (v := ?v23b) rfl (by kernel_rfl) (by kernel_rfl) (by kernel_rfl) (fun _ _ _ h => h) (Or.inl ⟨by rfl, ?y23b⟩) (by assumption) ?r23b
                          case y23b =>
                            intro w hSw
                            try dsimp only at hSw
                            go_simp
                            try with_reducible rfl
                          simp only [Act.put, List.setIfInBounds_toArray, List.set_cons_zero, List.set_cons_succ]
                          refine wpAnyH_take (i := 24) (oi := { dst := some 113, op := _, type := _, pos := _, after := _, guard := _ }) (v := ?v24b) rfl (by kernel_rfl) (by kernel_rfl) (by kernel_rfl) (fun _ _ _ h => h) (Or.inl ⟨by rfl, ?y24b⟩) (by assumption) ?r24b
                          case y24b =>
                            intro w hSw
                            try dsimp only at hSw
                            go_simp
                            try with_reducible rfl
                          simp only [Act.put, List.setIfInBounds_toArray, List.set_cons_zero, List.set_cons_succ]
                          refine wpAnyH_take (i := 25) (oi := { dst := some 114, op := _, type := _, pos := _, after := _, guard := _ }) (v := ?v25b) rfl (by kernel_rfl) (by kernel_rfl) (by kernel_rfl) (fun _ _ _ h => h) (Or.inl ⟨by rfl, ?y25b⟩) (by assumption) ?r25b
                          case y25b =>
                            intro w hSw
                            try dsimp only at hSw
                            go_simp
                            try with_reducible rfl
                          simp only [Act.put, List.setIfInBounds_toArray, List.set_cons_zero, List.set_cons_succ]
                          refine wpAnyH_take (i := 26) (oi := { dst := some 115, op := _, type := _, pos := _, after := _, guard := _ }) (v := ?v26b) rfl (by kernel_rfl) (by kernel_rfl) (by kernel_rfl) (fun _ _ _ h => h) (Or.inl ⟨by rfl, ?y26b⟩) (by assumption) ?r26b
                          case y26b =>
                            intro w hSw
                            try dsimp only at hSw
                            go_simp
                            try with_reducible rfl
                          simp only [Act.put, List.setIfInBounds_toArray, List.set_cons_zero, List.set_cons_succ]
                          refine wpAnyH_take (i := 27) (oi := { dst := some 116, op := _, type := _, pos := _, after := _, guard := _ }) (v := ?v27b) rfl (by kernel_rfl) (by kernel_rfl) (by kernel_rfl) (fun _ _ _ h => h) (Or.inl ⟨by rfl, ?y27b⟩) (by assumption) ?r27b
                          case y27b =>
                            intro w hSw
                            try dsimp only at hSw
                            go_simp
                            try with_reducible rfl
                          simp only [Act.put, List.setIfInBounds_toArray, List.set_cons_zero, List.set_cons_succ]
                          refine wpAnyH_take (i := 28) (oi := { dst := some 117, op := _, type := _, pos := _, after := _, guard := _ }) (v := ?v28b) rfl (by kernel_rfl) (by kernel_rfl) (by kernel_rfl) (fun _ _ _ h => h) (Or.inl ⟨by rfl, ?y28b⟩) (by assumption) ?r28b
                          case y28b =>
                            intro w hSw
                            try dsimp only at hSw
                            go_simp
                            try with_reducible rfl
                          simp only [Act.put, List.setIfInBounds_toArray, List.set_cons_zero, List.set_cons_succ]
                          refine wpAnyH_take (i := 29) (oi := { dst := some 118, op := _, type := _, pos := _, after := _, guard := _ }) (v := ?v29b) rfl (by kernel_rfl) (by kernel_rfl) (by kernel_rfl) (fun _ _ _ h => h) (Or.inl ⟨by rfl, ?y29b⟩) (by assumption) ?r29b
                          case y29b =>
                            intro w hSw
                            try dsimp only at hSw
                            go_simp
                            try with_reducible rfl
                          simp only [Act.put, List.setIfInBounds_toArray, List.set_cons_zero, List.set_cons_succ]
                          refine wpAnyH_take (i := 30) (oi := { dst := some 119, op := _, type := _, pos := _, after := _, guard := _ }) (v := ?v30b) rfl (by kernel_rfl) (by kernel_rfl) (by kernel_rfl) (fun _ _ _ h => h) (Or.inl ⟨by rfl, ?y30b⟩) (by assumption) ?r30b
                          case y30b =>
                            intro w hSw
                            try dsimp only at hSw
                            go_simp
                            try with_reducible rfl
                          simp only [Act.put, List.setIfInBounds_toArray, List.set_cons_zero, List.set_cons_succ]
                          refine wpAnyH_take (i := 31) (oi := { dst := some 120, op := _, type := _, pos := _, after := _, guard := _ }) (v := ?v31b) rfl (by kernel_rfl) (by kernel_rfl) (by kernel_rfl) (fun _ _ _ h => h) (Or.inl ⟨by rfl, ?y31b⟩) (by assumption) ?r31b
                          case y31b =>
                            intro w hSw
                            try dsimp only at hSw
                            go_simp
                            try with_reducible rfl
                          simp only [Act.put, List.setIfInBounds_toArray, List.set_cons_zero, List.set_cons_succ]
                          refine wpAnyH_take (i := 32) (oi := { dst := some 121, op := _, type := _, pos := _, after := _, guard := _ }) (v := ?v32b) rfl (by kernel_rfl) (by kernel_rfl) (by kernel_rfl) (fun _ _ _ h => h) (Or.inl ⟨by rfl, ?y32b⟩) (by assumption) ?r32b
                          case y32b =>
                            intro w hSw
                            try dsimp only at hSw
                            go_simp
                            try with_reducible rfl
                          simp only [Act.put, List.setIfInBounds_toArray, List.set_cons_zero, List.set_cons_succ]
                          refine wpAnyH_take (i := 33) (oi := { dst := some 122, op := _, type := _, pos := _, after := _, guard := _ }) (v := ?v33b) rfl (by kernel_rfl) (by kernel_rfl) (by kernel_rfl) (fun _ _ _ h => h) (Or.inl ⟨by rfl, ?y33b⟩) (by assumption) ?r33b
                          case y33b =>
                            intro w hSw
                            try dsimp only at hSw
                            go_simp
                            try with_reducible rfl
                          simp only [Act.put, List.setIfInBounds_toArray, List.set_cons_zero, List.set_cons_succ]
                          refine wpAnyH_take (i := 34) (oi := { dst := some 123, op := _, type := _, pos := _, after := _, guard := _ }) (v := ?v34b) rfl (by kernel_rfl) (by kernel_rfl) (by kernel_rfl) (fun _ _ _ h => h) (Or.inl ⟨by rfl, ?y34b⟩) (by assumption) ?r34b
                          case y34b =>
                            intro w hSw
                            try dsimp only at hSw
                            go_simp
                            try with_reducible rfl
                          simp only [Act.put, List.setIfInBounds_toArray, List.set_cons_zero, List.set_cons_succ]
                          refine wpAnyH_take (i := 36) (oi := { dst := some 125, op := _, type := _, pos := _, after := _, guard := _ }) (v := ?v36b) rfl (by kernel_rfl) (by kernel_rfl) (by kernel_rfl) (fun _ _ _ h => h) (Or.inl ⟨by rfl, ?y36b⟩) (by assumption) ?r36b
                          case y36b =>
                            intro w hSw
                            try dsimp only at hSw
                            go_simp
                            try with_reducible rfl
                          simp only [Act.put, List.setIfInBounds_toArray, List.set_cons_zero, List.set_cons_succ]
                          refine wpAnyH_ready (rs := [11]) (by kernel_rfl) (by simp) ?_
                          refine AllReadyH.cons rfl (fun K hK => ?_) AllReadyH.nil
                          go_simp
                          try dsimp only
                          clear hHeld
                          refine hK.out _ _ ⟨c1, c2, x2, x3, x4⟩ (fun hHeld => ?_)
                          clear hK K
                          try simp only [Act.put, List.setIfInBounds_toArray, List.set_cons_zero, List.set_cons_succ]
                          refine wpAnyH_take (i := 19) (oi := { dst := some 108, op := _, type := _, pos := _, after := _, guard := _ }) (v := ?v19b) rfl (by kernel_rfl) (by kernel_rfl) (by kernel_rfl) (fun _ _ _ h => h) (Or.inl ⟨by rfl, ?y19b⟩) (by assumption) ?r19b
                          case y19b =>
                            intro w hSw
                            try dsimp only at hSw
                            go_simp
                            try with_reducible rfl
                          simp only [Act.put, List.setIfInBounds_toArray, List.set_cons_zero, List.set_cons_succ]
                          refine wpAnyH_take (i := 35) (oi := { dst := some 124, op := _, type := _, pos := _, after := _, guard := _ }) (v := ?v35b) rfl (by kernel_rfl) (by kernel_rfl) (by kernel_rfl) (fun _ _ _ h => h) (Or.inl ⟨by rfl, ?y35b⟩) (by assumption) ?r35b
                          case y35b =>
                            intro w hSw
                            try dsimp only at hSw
                            go_simp
                            try with_reducible rfl
                          simp only [Act.put, List.setIfInBounds_toArray, List.set_cons_zero, List.set_cons_succ]
                          refine wpAnyH_take (i := 37) (oi := { dst := some 126, op := _, type := _, pos := _, after := _, guard := _ }) (v := ?v37b) rfl (by kernel_rfl) (by kernel_rfl) (by kernel_rfl) (fun _ _ _ h => h) (Or.inl ⟨by rfl, ?y37b⟩) (by assumption) ?r37b
                          case y37b =>
                            intro w hSw
                            try dsimp only at hSw
                            go_simp
                            try with_reducible rfl
                          simp only [Act.put, List.setIfInBounds_toArray, List.set_cons_zero, List.set_cons_succ]
                          refine wpAnyH_take (i := 38) (oi := { dst := some 127, op := _, type := _, pos := _, after := _, guard := _ }) (v := ?v38b) rfl (by kernel_rfl) (by kernel_rfl) (by kernel_rfl) (fun _ _ _ h => h) (Or.inl ⟨by rfl, ?y38b⟩) (by assumption) ?r38b
                          case y38b =>
                            intro w hSw
                            try dsimp only at hSw
                            go_simp
                            try with_reducible rfl
                          simp only [Act.put, List.setIfInBounds_toArray, List.set_cons_zero, List.set_cons_succ]
                          refine wpAnyH_ready (rs := [39]) (by kernel_rfl) (by simp) ?_
                          refine AllReadyH.cons rfl (fun K hK => ?_) AllReadyH.nil
                          go_simp
                          try dsimp only
                          clear hHeld
                          refine hK.out _ _ (KP.out _) (fun hHeld => ?_)
                          clear hK K
                          try simp only [Act.put, List.setIfInBounds_toArray, List.set_cons_zero, List.set_cons_succ]
                          refine wpAnyH_done (by kernel_rfl) ?_ _
                          all_goals
                            go_wp2_with fail
                            go_roundg (i - (j + 1))
                            case measure => omega
                            case rel => exact ⟨j + 1, by omega, by omega, rfl, by go_num, by have := HD2.out; rw [← HEE.out] at this; exact this.keep (Below.refl _ _).drew, by have := HB2.out; rw [← HEE.out] at this; exact this.drew⟩
                        · have e : j = i := by omega
                          subst e
                          have D2 := Dm.congr (fun r' j' _ hj' => partF_row F1 k l j r r' j' hj')
                          clear Dm
                          go_wp2_with fail
                          go_roundg (j - (r + 1))
                          case measure => omega
                          case rel => exact ⟨r + 1, by omega, by omega, rfl, by go_num, D2, B⟩
                    · have e : r = i := by omega
                      subst e
                      have D2 := Dm.congr (fun r' j' hr' _ => partF_end F1 k l r r' j' hr')
                      have c2 := D2.row hlt
                      have x2 := D2.ent hlt hlt
                      rw [elimF, if_neg (by omega)] at x2
                      have p2 : (0 : Int) ≤ (k : Int) := by omega
                      have p3 : (k : Int) < (r : Int) := by omega
                      clear Dm
                      go_wp2_with fail
                      go_roundg (r - (k + 1))
                      case measure => omega
                      case rel => exact ⟨k + 1, s1, F1 k k, elimF F1 k l, g1, q1, by omega, rfl, by go_num, rfl, rfl, hs1', hp0, D2, B, HD.out⟩
            · have e : a = i := by omega
              subst e
              have hpv : piv F k a = a := Dt.piv_of ⟨hka, hai, HZ.out, .inl rfl⟩
              have hd0 : detS a (a - k) k F s l = 0 := by rw [show a - k = (a - k - 1) + 1 by omega]; exact detS_zero hpv
              have HD0 := Lib.hid hd0
              clear hpv hd0
              go_wp2_with fail
              go_ret
              exact ⟨ret_i (by rw [← HDET.out, HD0.out]), B⟩
        · have e : k = i := by omega
          subst e
          have hd1 : detS k (k - k) k F s l = wrap64 (s * l) := by rw [Nat.sub_self, detS]
          have HD1 := Lib.hid hd1
          clear hd1
          go_wp2_with fail
          go_ret
          exact ⟨ret_i (by rw [← HDET.out, HD1.out]), B⟩

end Go.Proofs.Ytepnhhehfkcgkaa
