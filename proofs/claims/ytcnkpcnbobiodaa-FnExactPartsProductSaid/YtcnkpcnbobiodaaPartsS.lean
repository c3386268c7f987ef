/-
  PartsOf and PartsMany of the reference: what they return.
-/
import Derived.Test.YtcnkpcnbobiodaaPartsI
import Derived.Test.YtcnkpcnbobiodaaApp
import Derived.IntWalk
namespace Go.Proofs.Ytcnkpcnbobiodaa
open Go.RowKit

theorem pairS_len (W k : Nat) (o : List Int) : (Parts.pairS W k o).length = o.length := by
  have h1 : ∀ k t o, (Parts.lookS k t o).length = o.length := by intro k t o; rw [Parts.lookS]; split <;> simp
  have h2 : (Parts.westS W k o).length = o.length := by rw [Parts.westS]; split; exact h1 _ _ _; rfl
  rw [Parts.pairS, Parts.southS]; split
  · rw [h1, h2]
  · exact h2
theorem westS_len (W k : Nat) (o : List Int) : (Parts.westS W k o).length = o.length := by
  rw [Parts.westS]; split
  · rw [Parts.lookS]; split <;> simp
  · rfl
theorem cellsS_len (W : Nat) (o : List Int) : ∀ k, (Parts.cellsS W o k).length = o.length
  | 0 => rfl
  | k + 1 => by rw [Parts.cellsS, pairS_len, cellsS_len W o k]
def partAtS (W T : Nat) (bs : List Bool) (r : Nat) : List Int := Parts.iter (fun o => Parts.cellsS W o (W * T)) (Parts.startL bs (W * T)) r
theorem partAtS_len (W T : Nat) (bs : List Bool) : ∀ r, (partAtS W T bs r).length = W * T
  | 0 => startL_len _ _
  | r + 1 => by rw [partAtS, Parts.iter, cellsS_len]; exact partAtS_len W T bs r
theorem partS_eq {W T : Nat} {bs : List Bool} (hW : 1 ≤ W) : partAtS W T bs (W * T) = partL W T bs := (Parts.parts_eq hW).symm

set_option maxRecDepth 100000 in
set_option maxHeartbeats 4000000 in
theorem partsOf_spec_ok (A : Option Addr) (n c W T : Nat) (bs : List Bool) (w : World) (V : Valid W T n bs) (h : Sl w A n (bs.map .bool)) :
    Calls Try.prog 59 #[.agg #[.int .i64 W, .int .i64 T, .slice A n c]] w fun e w' => OutL w w' e (partL W T bs) := by
  have n36 := V.n36
  have v0 := V.w0
  have v1 := V.w1
  have v2 := V.t0
  have v3 := V.t1
  have hsz := Lib.hid V.size
  have HL := Lib.hid V.len
  have HV := Lib.hid V.ok
  have hW1 : (1 : Int) ≤ (W : Int) := by omega
  have hW0 : W ≠ 0 := by omega
  have R0 := (P1.new w (.int .i64 W) (.int .i64 T) (.slice A n c) 27).alloc (.cells #[] 3)
  have o0 : Own ((w.alloc (.cells #[.int .i64 W, .int .i64 T, .slice A n c] 27)).alloc (.cells #[] 3)) (w.heap.size + 1) (w.heap.size + 2) 3 (some ⟨w.heap.size + 1, 0, none⟩) 0 0 [] := by
    simpa using Own.made (w := w.alloc (.cells #[.int .i64 W, .int .i64 T, .slice A n c] 27)) (base := w.heap.size + 1) (e := 3) (cs := #[]) (n := 0) (by simp) (by unfold maxLen; omega) rfl
  go_enter Try.func59, Try.ntmps59
  go_wp2_with fail
  refine (valid_spec A n c W T bs _ (by omega) ((h.alloc _).alloc _)).mono ?_; rintro e w1 ⟨rfl, hb1⟩
  rw [HV.out]
  have R1 := R0.below hb1
  have o1 := (o0.below hb1).top (show w.heap.size + 2 ≤ w1.heap.size by have := hb1.size; simpa using this)
  clear hb1 R0 o0
  have k1 := R1.X.1
  have k2 := R1.X.2.1
  have k3 := R1.X.2.2
  go_wp2_with fail
  go_loopg [3, 4] n (fun gk s i wr => ∃ (k : Nat) (D : Option Addr) (q : Nat), k ≤ n ∧ gk = n - k ∧ i = .int .i64 k ∧ s = .slice D k q ∧ Own wr (w.heap.size + 1) wr.heap.size 3 D k q (((Parts.startL bs n).take k).map (.int .i64)) ∧ P1 w (.int .i64 W) (.int .i64 T) (.slice A n c) wr)
  case atStart => exact ⟨0, _, _, Nat.zero_le _, rfl, rfl, rfl, by simpa using o1, R1⟩
  case round =>
    clear o1 R1 k1 k2 k3
    obtain ⟨k, D, q, hk, rfl, rfl, rfl, own, R⟩ := hrel
    have k1 := R.X.1
    have k2 := R.X.2.1
    have k3 := R.X.2.2
    by_cases hlt : k < n
    · obtain ⟨b, off, x, rfl, hx, -⟩ := (h.below R.B).atB hlt
      have HX := Lib.hid hx
      have hz := R.z
      clear hx
      have ST : Hid ((Parts.startL bs n).take (k + 1) = (Parts.startL bs n).take k ++ [if x then (k : Int) else -1]) := by show _ = _; exact take_snoc (startL_get hlt HX.out)
      cases x
      all_goals
        go_wp2_with (at_builtin; refine wpList_append1 rfl _ _ 33 rfl 3 (.int .i64 0) 8 Try.underlying33 Try.infoInt rfl (own.alloc _) rfl wr.heap.size (.int .i64 (-1)) rfl (by simp) rfl (by omega) (by omega) (by simp; omega) ?_; intro D' q' w2 own2 hg hn; have R2 := (R.alloc (.cells #[.int .i64 (-1)] 3)).grown hg (own.alloc _) (Nat.le_refl _); have c1 := R2.X.1; have c2 := R2.X.2.1; have c3 := R2.X.2.2; have c4 := (h.below R2.B).cellB HX.out; obtain ⟨g', hg', hg1, hg2⟩ := own2.form (by omega); subst hg'; have f1 := own2.frozen k; obtain ⟨v', f2⟩ := own2.cellAt (show k < k + 1 by omega))
      · go_roundg (n - (k + 1))
        case measure => omega
        case rel => exact ⟨k + 1, _, _, by omega, rfl, by go_num, rfl, by rw [ST.out, List.map_append]; exact own2, R2⟩
      · go_roundg (n - (k + 1))
        case measure => omega
        case rel => exact ⟨k + 1, _, _, by omega, rfl, by go_num, rfl, by rw [ST.out, List.map_append]; have o3 := own2.stored k (by omega) (.int .i64 k); rw [List.set_append_right _ _ (by rw [List.length_map, List.length_take]; omega), List.length_map, List.length_take, startL_len, show k - min k n = 0 by omega] at o3; have o4 := o3.top (show w2.heap.size ≤ (w2.setCell ⟨g', k, none⟩ (.int .i64 k)).heap.size by rw [World.size_setCell]; exact Nat.le_refl _); simpa using o4, R2.set hg1 _⟩
    · have e : k = n := by omega
      subst e
      obtain ⟨g, hgD, hg1, hg2⟩ := own.form (by have := hsz.out; have := Nat.mul_le_mul v0 v2; omega)
      subst hgD
      rw [List.take_of_length_le (by rw [startL_len]; exact Nat.le_refl _)] at own
      obtain ⟨top, htop⟩ : ∃ top, top = wr.heap.size := ⟨_, rfl⟩
      have own0 : Own wr (w.heap.size + 1) top 3 (some ⟨g, 0, none⟩) k q ((partAtS W T bs 0).map (.int .i64)) := by rw [partAtS, Parts.iter, ← hsz.out, htop]; exact own
      have hz2 : top ≤ wr.heap.size := by omega
      clear own htop
      go_wp2_with fail
      clear k1 k2 k3
      go_loopg [5, 6] k (fun gk i _ wr => ∃ r : Nat, r ≤ k ∧ gk = k - r ∧ i = .int .i64 r ∧ Own wr (w.heap.size + 1) top 3 (some ⟨g, 0, none⟩) k q ((partAtS W T bs r).map (.int .i64)) ∧ P1 w (.int .i64 W) (.int .i64 T) (.slice A k c) wr ∧ top ≤ wr.heap.size)
      case atStart => exact ⟨0, Nat.zero_le _, rfl, rfl, own0, R, hz2⟩
      case round =>
        clear own0 R hz2
        obtain ⟨r, hr, rfl, rfl, own, R, hz2⟩ := hrel
        by_cases hrt : r < k
        · go_wp2_with fail
          obtain ⟨n, rfl⟩ : ∃ n, n = k := ⟨_, rfl⟩
          go_loopg [6] n (fun gk i wr => ∃ k : Nat, k ≤ n ∧ gk = n - k ∧ i = .int .i64 k ∧ Own wr (w.heap.size + 1) top 3 (some ⟨g, 0, none⟩) n q ((Parts.cellsS W (partAtS W T bs r) k).map (.int .i64)) ∧ P1 w (.int .i64 W) (.int .i64 T) (.slice A n c) wr ∧ top ≤ wr.heap.size)
          case atStart => exact ⟨0, Nat.zero_le _, rfl, rfl, own, R, hz2⟩
          case round =>
            clear own R hz2
            obtain ⟨k, hk, rfl, rfl, own, R, hz3⟩ := hrel
            have k1 := R.X.1
            by_cases hlt : k < n
            · obtain ⟨o, ho⟩ : ∃ o, Parts.cellsS W (partAtS W T bs r) k = o := ⟨_, rfl⟩
              rw [ho] at own
              have HO := Lib.hid ho
              have HLO : Hid (o.length = n) := by show _ = _; rw [← ho, cellsS_len, partAtS_len]; exact hsz.out.symm
              clear ho
              obtain ⟨z, hz⟩ : ∃ z, o[k]? = some z := ⟨_, List.getElem?_eq_getElem (by rw [HLO.out]; exact hlt)⟩
              have HZ := Lib.hid (lab_get hz)
              have d1 := own.cellI hz
              have e1 := own.frozen k
              have p2 : (0 : Int) ≤ (k : Int) := by omega
              have p3 : (k : Int) < (n : Int) := by omega
              obtain ⟨x, hxm⟩ : ∃ x, k % W = x := ⟨_, rfl⟩
              have hmod : (k : Int) % (W : Int) = (x : Int) := by rw [← hxm]; simp
              have hxk : x ≤ k := by rw [← hxm]; exact Nat.mod_le k W
              have HXM := Lib.hid hxm
              clear hz hxm
              by_cases g0 : 0 ≤ z
              · by_cases gx : 0 < x
                · obtain ⟨u, hu⟩ : ∃ u, o[k - 1]? = some u := ⟨_, List.getElem?_eq_getElem (by rw [HLO.out]; omega)⟩
                  have HU := Lib.hid (lab_get hu)
                  have d2 := own.cellI hu
                  have e2 := own.frozen (k - 1)
                  have s1 : ((k : Int) - 1).toNat = k - 1 := by omega
                  have s2 : (0 : Int) ≤ (k : Int) - 1 := by omega
                  have s3 : (k : Int) - 1 < (n : Int) := by omega
                  have s4 : IntKind.i64.wrap ((k : Int) - 1) = (k : Int) - 1 := IntWalk.i64_in _ (by omega)
                  have s5 : k ≠ k - 1 := by omega
                  clear hu
                  by_cases gu : 0 ≤ u
                  · by_cases gm : u < z
                    · have HO1 : Hid (Parts.westS W k o = (o.set k u).set (k - 1) u) := by show _ = _; rw [Parts.westS, HXM.out, if_pos gx, Parts.lookS, HZ.out, HU.out, if_pos ⟨g0, gu⟩, min_if, if_pos gm]
                      go_wp2_with fail
                      go_region
                      have wao : Own (wr.setCell ⟨g, k, none⟩ (.int .i64 u)).drew (w.heap.size + 1) top 3 (some ⟨g, 0, none⟩) n q ((o.set (k) u).map (.int .i64)) := by rw [List.map_set]; exact (own.stored (k) hlt (.int .i64 u)).drew
                      have waR := (R.set (p := ⟨g, k, none⟩) hg1 (.int .i64 u)).drew
                      have waz : top ≤ (wr.setCell ⟨g, k, none⟩ (.int .i64 u)).drew.heap.size := by show top ≤ (wr.setCell _ _).heap.size; rw [World.size_setCell]; exact hz3
                      generalize (wr.setCell ⟨g, k, none⟩ (.int .i64 u)).drew = wa at wao waR waz ⊢
                      have b1 := wao.cellI (k := k) (x := u) (List.getElem?_set_self (by rw [HLO.out]; exact hlt))
                      have b2 := wao.frozen (k - 1)
                      obtain ⟨b3, b4⟩ := wao.cellAt (k := k - 1) (by omega)
                      have own1 : Own (wa.setCell ⟨g, k - 1, none⟩ (.int .i64 u)) (w.heap.size + 1) top 3 (some ⟨g, 0, none⟩) n q (((o.set k u).set (k - 1) u).map (.int .i64)) := by rw [List.map_set]; exact wao.stored (k - 1) (by omega) (.int .i64 u)
                      have R1 := waR.set (p := ⟨g, k - 1, none⟩) hg1 (.int .i64 u)
                      have hz4 : top ≤ (wa.setCell ⟨g, k - 1, none⟩ (.int .i64 u)).heap.size := by rw [World.size_setCell]; exact waz
                      have HL1 : Hid (((o.set k u).set (k - 1) u).length = n) := by show _ = _; rw [List.length_set, List.length_set]; exact HLO.out
                      obtain ⟨o1, ho1⟩ : ∃ o1, (o.set k u).set (k - 1) u = o1 := ⟨_, rfl⟩
                      rw [ho1] at own1
                      have HO1 : Hid (Parts.westS W k o = o1) := by show _ = _; rw [← ho1]; exact HO1.out
                      have HL1 : Hid (o1.length = n) := by show _ = _; rw [← ho1]; exact HL1.out
                      clear ho1 d1 d2 e1 e2 k1
                      obtain ⟨z1, hz1⟩ : ∃ z1, o1[k]? = some z1 := ⟨_, List.getElem?_eq_getElem (by rw [HL1.out]; exact hlt)⟩
                      have HZ1 := Lib.hid (lab_get hz1)
                      have d1 := own1.cellI hz1
                      have e1 := own1.frozen k
                      have j1 := R1.X.1
                      have PS : Hid (Parts.pairS W k o = Parts.southS W k o1) := by show _ = _; rw [Parts.pairS, HO1.out]
                      clear hz1
                      by_cases g1 : 0 ≤ z1
                      · by_cases g2 : W ≤ k
                        · obtain ⟨y1, hy1⟩ : ∃ y1, o1[k - W]? = some y1 := ⟨_, List.getElem?_eq_getElem (by rw [HL1.out]; omega)⟩
                          have HY1 := Lib.hid (lab_get hy1)
                          have d2 := own1.cellI hy1
                          have e2 := own1.frozen (k - W)
                          have sub2 : ((k : Int) - (W : Int)).toNat = k - W := by omega
                          have sub3 : (0 : Int) ≤ (k : Int) - (W : Int) := by omega
                          have sub4 : (k : Int) - (W : Int) < (n : Int) := by omega
                          have sub5 : (W : Int) ≤ (k : Int) := by omega
                          have sub6 : IntKind.i64.wrap ((k : Int) - (W : Int)) = (k : Int) - (W : Int) := IntWalk.i64_in _ (by omega)
                          have nkW : k ≠ k - W := by omega
                          clear hy1
                          by_cases g3 : 0 ≤ y1
                          · by_cases g4 : y1 < z1
                            · have FIN : Hid (Parts.southS W k o1 = (o1.set k y1).set (k - W) y1) := by show _ = _; rw [Parts.southS, if_pos g2, Parts.lookS, HZ1.out, HY1.out, if_pos ⟨g1, g3⟩, min_if, if_pos g4]
                              go_wp2_with fail
                              go_region
                              have wdo : Own ((wa.setCell ⟨g, k - 1, none⟩ (.int .i64 u)).setCell ⟨g, k, none⟩ (.int .i64 y1)).drew (w.heap.size + 1) top 3 (some ⟨g, 0, none⟩) n q ((o1.set (k) y1).map (.int .i64)) := by rw [List.map_set]; exact (own1.stored (k) hlt (.int .i64 y1)).drew
                              have wdR := (R1.set (p := ⟨g, k, none⟩) hg1 (.int .i64 y1)).drew
                              have wdz : top ≤ ((wa.setCell ⟨g, k - 1, none⟩ (.int .i64 u)).setCell ⟨g, k, none⟩ (.int .i64 y1)).drew.heap.size := by show top ≤ ((wa.setCell ⟨g, k - 1, none⟩ (.int .i64 u)).setCell _ _).heap.size; rw [World.size_setCell]; exact hz4
                              generalize ((wa.setCell ⟨g, k - 1, none⟩ (.int .i64 u)).setCell ⟨g, k, none⟩ (.int .i64 y1)).drew = wd at wdo wdR wdz ⊢
                              have t1 := wdo.cellI (k := k) (x := y1) (List.getElem?_set_self (by rw [HL1.out]; exact hlt))
                              have t2 := wdo.frozen (k - W)
                              obtain ⟨t3, t4⟩ := wdo.cellAt (k := k - W) (by omega)
                              have t5 := wdR.X.1
                              clear d1 d2 e1 e2
                              go_wp2_with fail
                              go_region
                              have weo : Own (wd.setCell ⟨g, k - W, none⟩ (.int .i64 y1)).drew (w.heap.size + 1) top 3 (some ⟨g, 0, none⟩) n q (((o1.set k y1).set (k - W) y1).map (.int .i64)) := by rw [List.map_set]; exact (wdo.stored (k - W) (show k - W < n by omega) (.int .i64 y1)).drew
                              have weR := (wdR.set (p := ⟨g, k - W, none⟩) hg1 (.int .i64 y1)).drew
                              have wez : top ≤ (wd.setCell ⟨g, k - W, none⟩ (.int .i64 y1)).drew.heap.size := by show top ≤ (wd.setCell _ _).heap.size; rw [World.size_setCell]; exact wdz
                              generalize (wd.setCell ⟨g, k - W, none⟩ (.int .i64 y1)).drew = we at weo weR wez ⊢
                              go_wp2_with fail
                              go_roundg (n - (k + 1))
                              case measure => omega
                              case rel => exact ⟨k + 1, by omega, rfl, by go_num, by rw [Parts.cellsS, HO.out, PS.out, FIN.out]; exact weo, weR, wez⟩
                            · have FIN : Hid (Parts.southS W k o1 = (o1.set k z1).set (k - W) z1) := by show _ = _; rw [Parts.southS, if_pos g2, Parts.lookS, HZ1.out, HY1.out, if_pos ⟨g1, g3⟩, min_if, if_neg g4]
                              go_wp2_with fail
                              go_region
                              have wdo : Own ((wa.setCell ⟨g, k - 1, none⟩ (.int .i64 u)).setCell ⟨g, k, none⟩ (.int .i64 z1)).drew (w.heap.size + 1) top 3 (some ⟨g, 0, none⟩) n q ((o1.set (k) z1).map (.int .i64)) := by rw [List.map_set]; exact (own1.stored (k) hlt (.int .i64 z1)).drew
                              have wdR := (R1.set (p := ⟨g, k, none⟩) hg1 (.int .i64 z1)).drew
                              have wdz : top ≤ ((wa.setCell ⟨g, k - 1, none⟩ (.int .i64 u)).setCell ⟨g, k, none⟩ (.int .i64 z1)).drew.heap.size := by show top ≤ ((wa.setCell ⟨g, k - 1, none⟩ (.int .i64 u)).setCell _ _).heap.size; rw [World.size_setCell]; exact hz4
                              generalize ((wa.setCell ⟨g, k - 1, none⟩ (.int .i64 u)).setCell ⟨g, k, none⟩ (.int .i64 z1)).drew = wd at wdo wdR wdz ⊢
                              have t1 := wdo.cellI (k := k) (x := z1) (List.getElem?_set_self (by rw [HL1.out]; exact hlt))
                              have t2 := wdo.frozen (k - W)
                              obtain ⟨t3, t4⟩ := wdo.cellAt (k := k - W) (by omega)
                              have t5 := wdR.X.1
                              clear d1 d2 e1 e2
                              go_wp2_with fail
                              go_region
                              have weo : Own (wd.setCell ⟨g, k - W, none⟩ (.int .i64 z1)).drew (w.heap.size + 1) top 3 (some ⟨g, 0, none⟩) n q (((o1.set k z1).set (k - W) z1).map (.int .i64)) := by rw [List.map_set]; exact (wdo.stored (k - W) (show k - W < n by omega) (.int .i64 z1)).drew
                              have weR := (wdR.set (p := ⟨g, k - W, none⟩) hg1 (.int .i64 z1)).drew
                              have wez : top ≤ (wd.setCell ⟨g, k - W, none⟩ (.int .i64 z1)).drew.heap.size := by show top ≤ (wd.setCell _ _).heap.size; rw [World.size_setCell]; exact wdz
                              generalize (wd.setCell ⟨g, k - W, none⟩ (.int .i64 z1)).drew = we at weo weR wez ⊢
                              go_wp2_with fail
                              go_roundg (n - (k + 1))
                              case measure => omega
                              case rel => exact ⟨k + 1, by omega, rfl, by go_num, by rw [Parts.cellsS, HO.out, PS.out, FIN.out]; exact weo, weR, wez⟩
                          · have FIN : Hid (Parts.southS W k o1 = o1) := by show _ = _; rw [Parts.southS, if_pos g2, Parts.lookS, HZ1.out, HY1.out, if_neg (by omega)]
                            go_wp2_with fail
                            go_roundg (n - (k + 1))
                            case measure => omega
                            case rel => exact ⟨k + 1, by omega, rfl, by go_num, by rw [Parts.cellsS, HO.out, PS.out, FIN.out]; exact own1, R1, hz4⟩
                        · have FIN : Hid (Parts.southS W k o1 = o1) := by show _ = _; rw [Parts.southS, if_neg g2]
                          have sub5 : (k : Int) < (W : Int) := by omega
                          go_wp2_with fail
                          go_roundg (n - (k + 1))
                          case measure => omega
                          case rel => exact ⟨k + 1, by omega, rfl, by go_num, by rw [Parts.cellsS, HO.out, PS.out, FIN.out]; exact own1, R1, hz4⟩
                      · have FIN : Hid (Parts.southS W k o1 = o1) := by
                          show _ = _
                          rw [Parts.southS]
                          split
                          · rw [Parts.lookS, HZ1.out, if_neg (by omega)]
                          · rfl
                        go_wp2_with fail
                        go_roundg (n - (k + 1))
                        case measure => omega
                        case rel => exact ⟨k + 1, by omega, rfl, by go_num, by rw [Parts.cellsS, HO.out, PS.out, FIN.out]; exact own1, R1, hz4⟩
                    · have HO1 : Hid (Parts.westS W k o = (o.set k z).set (k - 1) z) := by show _ = _; rw [Parts.westS, HXM.out, if_pos gx, Parts.lookS, HZ.out, HU.out, if_pos ⟨g0, gu⟩, min_if, if_neg gm]
                      go_wp2_with fail
                      go_region
                      have wao : Own (wr.setCell ⟨g, k, none⟩ (.int .i64 z)).drew (w.heap.size + 1) top 3 (some ⟨g, 0, none⟩) n q ((o.set (k) z).map (.int .i64)) := by rw [List.map_set]; exact (own.stored (k) hlt (.int .i64 z)).drew
                      have waR := (R.set (p := ⟨g, k, none⟩) hg1 (.int .i64 z)).drew
                      have waz : top ≤ (wr.setCell ⟨g, k, none⟩ (.int .i64 z)).drew.heap.size := by show top ≤ (wr.setCell _ _).heap.size; rw [World.size_setCell]; exact hz3
                      generalize (wr.setCell ⟨g, k, none⟩ (.int .i64 z)).drew = wa at wao waR waz ⊢
                      have b1 := wao.cellI (k := k) (x := z) (List.getElem?_set_self (by rw [HLO.out]; exact hlt))
                      have b2 := wao.frozen (k - 1)
                      obtain ⟨b3, b4⟩ := wao.cellAt (k := k - 1) (by omega)
                      have own1 : Own (wa.setCell ⟨g, k - 1, none⟩ (.int .i64 z)) (w.heap.size + 1) top 3 (some ⟨g, 0, none⟩) n q (((o.set k z).set (k - 1) z).map (.int .i64)) := by rw [List.map_set]; exact wao.stored (k - 1) (by omega) (.int .i64 z)
                      have R1 := waR.set (p := ⟨g, k - 1, none⟩) hg1 (.int .i64 z)
                      have hz4 : top ≤ (wa.setCell ⟨g, k - 1, none⟩ (.int .i64 z)).heap.size := by rw [World.size_setCell]; exact waz
                      have HL1 : Hid (((o.set k z).set (k - 1) z).length = n) := by show _ = _; rw [List.length_set, List.length_set]; exact HLO.out
                      obtain ⟨o1, ho1⟩ : ∃ o1, (o.set k z).set (k - 1) z = o1 := ⟨_, rfl⟩
                      rw [ho1] at own1
                      have HO1 : Hid (Parts.westS W k o = o1) := by show _ = _; rw [← ho1]; exact HO1.out
                      have HL1 : Hid (o1.length = n) := by show _ = _; rw [← ho1]; exact HL1.out
                      clear ho1 d1 d2 e1 e2 k1
                      obtain ⟨z1, hz1⟩ : ∃ z1, o1[k]? = some z1 := ⟨_, List.getElem?_eq_getElem (by rw [HL1.out]; exact hlt)⟩
                      have HZ1 := Lib.hid (lab_get hz1)
                      have d1 := own1.cellI hz1
                      have e1 := own1.frozen k
                      have j1 := R1.X.1
                      have PS : Hid (Parts.pairS W k o = Parts.southS W k o1) := by show _ = _; rw [Parts.pairS, HO1.out]
                      clear hz1
                      by_cases g1 : 0 ≤ z1
                      · by_cases g2 : W ≤ k
                        · obtain ⟨y1, hy1⟩ : ∃ y1, o1[k - W]? = some y1 := ⟨_, List.getElem?_eq_getElem (by rw [HL1.out]; omega)⟩
                          have HY1 := Lib.hid (lab_get hy1)
                          have d2 := own1.cellI hy1
                          have e2 := own1.frozen (k - W)
                          have sub2 : ((k : Int) - (W : Int)).toNat = k - W := by omega
                          have sub3 : (0 : Int) ≤ (k : Int) - (W : Int) := by omega
                          have sub4 : (k : Int) - (W : Int) < (n : Int) := by omega
                          have sub5 : (W : Int) ≤ (k : Int) := by omega
                          have sub6 : IntKind.i64.wrap ((k : Int) - (W : Int)) = (k : Int) - (W : Int) := IntWalk.i64_in _ (by omega)
                          have nkW : k ≠ k - W := by omega
                          clear hy1
                          by_cases g3 : 0 ≤ y1
                          · by_cases g4 : y1 < z1
                            · have FIN : Hid (Parts.southS W k o1 = (o1.set k y1).set (k - W) y1) := by show _ = _; rw [Parts.southS, if_pos g2, Parts.lookS, HZ1.out, HY1.out, if_pos ⟨g1, g3⟩, min_if, if_pos g4]
                              go_wp2_with fail
                              go_region
                              have wdo : Own ((wa.setCell ⟨g, k - 1, none⟩ (.int .i64 z)).setCell ⟨g, k, none⟩ (.int .i64 y1)).drew (w.heap.size + 1) top 3 (some ⟨g, 0, none⟩) n q ((o1.set (k) y1).map (.int .i64)) := by rw [List.map_set]; exact (own1.stored (k) hlt (.int .i64 y1)).drew
                              have wdR := (R1.set (p := ⟨g, k, none⟩) hg1 (.int .i64 y1)).drew
                              have wdz : top ≤ ((wa.setCell ⟨g, k - 1, none⟩ (.int .i64 z)).setCell ⟨g, k, none⟩ (.int .i64 y1)).drew.heap.size := by show top ≤ ((wa.setCell ⟨g, k - 1, none⟩ (.int .i64 z)).setCell _ _).heap.size; rw [World.size_setCell]; exact hz4
                              generalize ((wa.setCell ⟨g, k - 1, none⟩ (.int .i64 z)).setCell ⟨g, k, none⟩ (.int .i64 y1)).drew = wd at wdo wdR wdz ⊢
                              have t1 := wdo.cellI (k := k) (x := y1) (List.getElem?_set_self (by rw [HL1.out]; exact hlt))
                              have t2 := wdo.frozen (k - W)
                              obtain ⟨t3, t4⟩ := wdo.cellAt (k := k - W) (by omega)
                              have t5 := wdR.X.1
                              clear d1 d2 e1 e2
                              go_wp2_with fail
                              go_region
                              have weo : Own (wd.setCell ⟨g, k - W, none⟩ (.int .i64 y1)).drew (w.heap.size + 1) top 3 (some ⟨g, 0, none⟩) n q (((o1.set k y1).set (k - W) y1).map (.int .i64)) := by rw [List.map_set]; exact (wdo.stored (k - W) (show k - W < n by omega) (.int .i64 y1)).drew
                              have weR := (wdR.set (p := ⟨g, k - W, none⟩) hg1 (.int .i64 y1)).drew
                              have wez : top ≤ (wd.setCell ⟨g, k - W, none⟩ (.int .i64 y1)).drew.heap.size := by show top ≤ (wd.setCell _ _).heap.size; rw [World.size_setCell]; exact wdz
                              generalize (wd.setCell ⟨g, k - W, none⟩ (.int .i64 y1)).drew = we at weo weR wez ⊢
                              go_wp2_with fail
                              go_roundg (n - (k + 1))
                              case measure => omega
                              case rel => exact ⟨k + 1, by omega, rfl, by go_num, by rw [Parts.cellsS, HO.out, PS.out, FIN.out]; exact weo, weR, wez⟩
                            · have FIN : Hid (Parts.southS W k o1 = (o1.set k z1).set (k - W) z1) := by show _ = _; rw [Parts.southS, if_pos g2, Parts.lookS, HZ1.out, HY1.out, if_pos ⟨g1, g3⟩, min_if, if_neg g4]
                              go_wp2_with fail
                              go_region
                              have wdo : Own ((wa.setCell ⟨g, k - 1, none⟩ (.int .i64 z)).setCell ⟨g, k, none⟩ (.int .i64 z1)).drew (w.heap.size + 1) top 3 (some ⟨g, 0, none⟩) n q ((o1.set (k) z1).map (.int .i64)) := by rw [List.map_set]; exact (own1.stored (k) hlt (.int .i64 z1)).drew
                              have wdR := (R1.set (p := ⟨g, k, none⟩) hg1 (.int .i64 z1)).drew
                              have wdz : top ≤ ((wa.setCell ⟨g, k - 1, none⟩ (.int .i64 z)).setCell ⟨g, k, none⟩ (.int .i64 z1)).drew.heap.size := by show top ≤ ((wa.setCell ⟨g, k - 1, none⟩ (.int .i64 z)).setCell _ _).heap.size; rw [World.size_setCell]; exact hz4
                              generalize ((wa.setCell ⟨g, k - 1, none⟩ (.int .i64 z)).setCell ⟨g, k, none⟩ (.int .i64 z1)).drew = wd at wdo wdR wdz ⊢
                              have t1 := wdo.cellI (k := k) (x := z1) (List.getElem?_set_self (by rw [HL1.out]; exact hlt))
                              have t2 := wdo.frozen (k - W)
                              obtain ⟨t3, t4⟩ := wdo.cellAt (k := k - W) (by omega)
                              have t5 := wdR.X.1
                              clear d1 d2 e1 e2
                              go_wp2_with fail
                              go_region
                              have weo : Own (wd.setCell ⟨g, k - W, none⟩ (.int .i64 z1)).drew (w.heap.size + 1) top 3 (some ⟨g, 0, none⟩) n q (((o1.set k z1).set (k - W) z1).map (.int .i64)) := by rw [List.map_set]; exact (wdo.stored (k - W) (show k - W < n by omega) (.int .i64 z1)).drew
                              have weR := (wdR.set (p := ⟨g, k - W, none⟩) hg1 (.int .i64 z1)).drew
                              have wez : top ≤ (wd.setCell ⟨g, k - W, none⟩ (.int .i64 z1)).drew.heap.size := by show top ≤ (wd.setCell _ _).heap.size; rw [World.size_setCell]; exact wdz
                              generalize (wd.setCell ⟨g, k - W, none⟩ (.int .i64 z1)).drew = we at weo weR wez ⊢
                              go_wp2_with fail
                              go_roundg (n - (k + 1))
                              case measure => omega
                              case rel => exact ⟨k + 1, by omega, rfl, by go_num, by rw [Parts.cellsS, HO.out, PS.out, FIN.out]; exact weo, weR, wez⟩
                          · have FIN : Hid (Parts.southS W k o1 = o1) := by show _ = _; rw [Parts.southS, if_pos g2, Parts.lookS, HZ1.out, HY1.out, if_neg (by omega)]
                            go_wp2_with fail
                            go_roundg (n - (k + 1))
                            case measure => omega
                            case rel => exact ⟨k + 1, by omega, rfl, by go_num, by rw [Parts.cellsS, HO.out, PS.out, FIN.out]; exact own1, R1, hz4⟩
                        · have FIN : Hid (Parts.southS W k o1 = o1) := by show _ = _; rw [Parts.southS, if_neg g2]
                          have sub5 : (k : Int) < (W : Int) := by omega
                          go_wp2_with fail
                          go_roundg (n - (k + 1))
                          case measure => omega
                          case rel => exact ⟨k + 1, by omega, rfl, by go_num, by rw [Parts.cellsS, HO.out, PS.out, FIN.out]; exact own1, R1, hz4⟩
                      · have FIN : Hid (Parts.southS W k o1 = o1) := by
                          show _ = _
                          rw [Parts.southS]
                          split
                          · rw [Parts.lookS, HZ1.out, if_neg (by omega)]
                          · rfl
                        go_wp2_with fail
                        go_roundg (n - (k + 1))
                        case measure => omega
                        case rel => exact ⟨k + 1, by omega, rfl, by go_num, by rw [Parts.cellsS, HO.out, PS.out, FIN.out]; exact own1, R1, hz4⟩
                  · have HO1 : Hid (Parts.westS W k o = o) := by
                      show _ = _
                      rw [Parts.westS, HXM.out, if_pos gx, Parts.lookS, HZ.out, HU.out, if_neg (by omega)]
                    obtain ⟨o1, rfl⟩ : ∃ o1, o1 = o := ⟨_, rfl⟩
                    have own1 := own
                    have R1 := R
                    have HL1 := HLO
                    have hz4 := hz3
                    obtain ⟨z1, hz1⟩ : ∃ z1, o1[k]? = some z1 := ⟨_, List.getElem?_eq_getElem (by rw [HL1.out]; exact hlt)⟩
                    have HZ1 := Lib.hid (lab_get hz1)
                    have d1 := own1.cellI hz1
                    have e1 := own1.frozen k
                    have j1 := R1.X.1
                    have PS : Hid (Parts.pairS W k o1 = Parts.southS W k o1) := by show _ = _; rw [Parts.pairS, HO1.out]
                    clear hz1
                    obtain rfl : z1 = z := HZ1.out.symm.trans HZ.out
                    have g1 := g0
                    by_cases g2 : W ≤ k
                    · obtain ⟨y1, hy1⟩ : ∃ y1, o1[k - W]? = some y1 := ⟨_, List.getElem?_eq_getElem (by rw [HL1.out]; omega)⟩
                      have HY1 := Lib.hid (lab_get hy1)
                      have d2 := own1.cellI hy1
                      have e2 := own1.frozen (k - W)
                      have sub2 : ((k : Int) - (W : Int)).toNat = k - W := by omega
                      have sub3 : (0 : Int) ≤ (k : Int) - (W : Int) := by omega
                      have sub4 : (k : Int) - (W : Int) < (n : Int) := by omega
                      have sub5 : (W : Int) ≤ (k : Int) := by omega
                      have sub6 : IntKind.i64.wrap ((k : Int) - (W : Int)) = (k : Int) - (W : Int) := IntWalk.i64_in _ (by omega)
                      have nkW : k ≠ k - W := by omega
                      clear hy1
                      by_cases g3 : 0 ≤ y1
                      · by_cases g4 : y1 < z1
                        · have FIN : Hid (Parts.southS W k o1 = (o1.set k y1).set (k - W) y1) := by show _ = _; rw [Parts.southS, if_pos g2, Parts.lookS, HZ1.out, HY1.out, if_pos ⟨g1, g3⟩, min_if, if_pos g4]
                          go_wp2_with fail
                          go_region
                          have wdo : Own (wr.setCell ⟨g, k, none⟩ (.int .i64 y1)).drew (w.heap.size + 1) top 3 (some ⟨g, 0, none⟩) n q ((o1.set (k) y1).map (.int .i64)) := by rw [List.map_set]; exact (own1.stored (k) hlt (.int .i64 y1)).drew
                          have wdR := (R1.set (p := ⟨g, k, none⟩) hg1 (.int .i64 y1)).drew
                          have wdz : top ≤ (wr.setCell ⟨g, k, none⟩ (.int .i64 y1)).drew.heap.size := by show top ≤ (wr.setCell _ _).heap.size; rw [World.size_setCell]; exact hz4
                          generalize (wr.setCell ⟨g, k, none⟩ (.int .i64 y1)).drew = wd at wdo wdR wdz ⊢
                          have t1 := wdo.cellI (k := k) (x := y1) (List.getElem?_set_self (by rw [HL1.out]; exact hlt))
                          have t2 := wdo.frozen (k - W)
                          obtain ⟨t3, t4⟩ := wdo.cellAt (k := k - W) (by omega)
                          have t5 := wdR.X.1
                          clear d1 d2 e1 e2
                          go_wp2_with fail
                          go_region
                          have weo : Own (wd.setCell ⟨g, k - W, none⟩ (.int .i64 y1)).drew (w.heap.size + 1) top 3 (some ⟨g, 0, none⟩) n q (((o1.set k y1).set (k - W) y1).map (.int .i64)) := by rw [List.map_set]; exact (wdo.stored (k - W) (show k - W < n by omega) (.int .i64 y1)).drew
                          have weR := (wdR.set (p := ⟨g, k - W, none⟩) hg1 (.int .i64 y1)).drew
                          have wez : top ≤ (wd.setCell ⟨g, k - W, none⟩ (.int .i64 y1)).drew.heap.size := by show top ≤ (wd.setCell _ _).heap.size; rw [World.size_setCell]; exact wdz
                          generalize (wd.setCell ⟨g, k - W, none⟩ (.int .i64 y1)).drew = we at weo weR wez ⊢
                          go_wp2_with fail
                          go_roundg (n - (k + 1))
                          case measure => omega
                          case rel => exact ⟨k + 1, by omega, rfl, by go_num, by rw [Parts.cellsS, HO.out, PS.out, FIN.out]; exact weo, weR, wez⟩
                        · have FIN : Hid (Parts.southS W k o1 = (o1.set k z1).set (k - W) z1) := by show _ = _; rw [Parts.southS, if_pos g2, Parts.lookS, HZ1.out, HY1.out, if_pos ⟨g1, g3⟩, min_if, if_neg g4]
                          go_wp2_with fail
                          go_region
                          have wdo : Own (wr.setCell ⟨g, k, none⟩ (.int .i64 z1)).drew (w.heap.size + 1) top 3 (some ⟨g, 0, none⟩) n q ((o1.set (k) z1).map (.int .i64)) := by rw [List.map_set]; exact (own1.stored (k) hlt (.int .i64 z1)).drew
                          have wdR := (R1.set (p := ⟨g, k, none⟩) hg1 (.int .i64 z1)).drew
                          have wdz : top ≤ (wr.setCell ⟨g, k, none⟩ (.int .i64 z1)).drew.heap.size := by show top ≤ (wr.setCell _ _).heap.size; rw [World.size_setCell]; exact hz4
                          generalize (wr.setCell ⟨g, k, none⟩ (.int .i64 z1)).drew = wd at wdo wdR wdz ⊢
                          have t1 := wdo.cellI (k := k) (x := z1) (List.getElem?_set_self (by rw [HL1.out]; exact hlt))
                          have t2 := wdo.frozen (k - W)
                          obtain ⟨t3, t4⟩ := wdo.cellAt (k := k - W) (by omega)
                          have t5 := wdR.X.1
                          clear d1 d2 e1 e2
                          go_wp2_with fail
                          go_region
                          have weo : Own (wd.setCell ⟨g, k - W, none⟩ (.int .i64 z1)).drew (w.heap.size + 1) top 3 (some ⟨g, 0, none⟩) n q (((o1.set k z1).set (k - W) z1).map (.int .i64)) := by rw [List.map_set]; exact (wdo.stored (k - W) (show k - W < n by omega) (.int .i64 z1)).drew
                          have weR := (wdR.set (p := ⟨g, k - W, none⟩) hg1 (.int .i64 z1)).drew
                          have wez : top ≤ (wd.setCell ⟨g, k - W, none⟩ (.int .i64 z1)).drew.heap.size := by show top ≤ (wd.setCell _ _).heap.size; rw [World.size_setCell]; exact wdz
                          generalize (wd.setCell ⟨g, k - W, none⟩ (.int .i64 z1)).drew = we at weo weR wez ⊢
                          go_wp2_with fail
                          go_roundg (n - (k + 1))
                          case measure => omega
                          case rel => exact ⟨k + 1, by omega, rfl, by go_num, by rw [Parts.cellsS, HO.out, PS.out, FIN.out]; exact weo, weR, wez⟩
                      · have FIN : Hid (Parts.southS W k o1 = o1) := by show _ = _; rw [Parts.southS, if_pos g2, Parts.lookS, HZ1.out, HY1.out, if_neg (by omega)]
                        go_wp2_with fail
                        go_roundg (n - (k + 1))
                        case measure => omega
                        case rel => exact ⟨k + 1, by omega, rfl, by go_num, by rw [Parts.cellsS, HO.out, PS.out, FIN.out]; exact own1, R1, hz4⟩
                    · have FIN : Hid (Parts.southS W k o1 = o1) := by show _ = _; rw [Parts.southS, if_neg g2]
                      have sub5 : (k : Int) < (W : Int) := by omega
                      go_wp2_with fail
                      go_roundg (n - (k + 1))
                      case measure => omega
                      case rel => exact ⟨k + 1, by omega, rfl, by go_num, by rw [Parts.cellsS, HO.out, PS.out, FIN.out]; exact own1, R1, hz4⟩
                · have HO1 : Hid (Parts.westS W k o = o) := by
                    show _ = _
                    rw [Parts.westS, HXM.out, if_neg gx]
                  obtain ⟨o1, rfl⟩ : ∃ o1, o1 = o := ⟨_, rfl⟩
                  have own1 := own
                  have R1 := R
                  have HL1 := HLO
                  have hz4 := hz3
                  obtain ⟨z1, hz1⟩ : ∃ z1, o1[k]? = some z1 := ⟨_, List.getElem?_eq_getElem (by rw [HL1.out]; exact hlt)⟩
                  have HZ1 := Lib.hid (lab_get hz1)
                  have d1 := own1.cellI hz1
                  have e1 := own1.frozen k
                  have j1 := R1.X.1
                  have PS : Hid (Parts.pairS W k o1 = Parts.southS W k o1) := by show _ = _; rw [Parts.pairS, HO1.out]
                  clear hz1
                  obtain rfl : z1 = z := HZ1.out.symm.trans HZ.out
                  have g1 := g0
                  by_cases g2 : W ≤ k
                  · obtain ⟨y1, hy1⟩ : ∃ y1, o1[k - W]? = some y1 := ⟨_, List.getElem?_eq_getElem (by rw [HL1.out]; omega)⟩
                    have HY1 := Lib.hid (lab_get hy1)
                    have d2 := own1.cellI hy1
                    have e2 := own1.frozen (k - W)
                    have sub2 : ((k : Int) - (W : Int)).toNat = k - W := by omega
                    have sub3 : (0 : Int) ≤ (k : Int) - (W : Int) := by omega
                    have sub4 : (k : Int) - (W : Int) < (n : Int) := by omega
                    have sub5 : (W : Int) ≤ (k : Int) := by omega
                    have sub6 : IntKind.i64.wrap ((k : Int) - (W : Int)) = (k : Int) - (W : Int) := IntWalk.i64_in _ (by omega)
                    have nkW : k ≠ k - W := by omega
                    clear hy1
                    by_cases g3 : 0 ≤ y1
                    · by_cases g4 : y1 < z1
                      · have FIN : Hid (Parts.southS W k o1 = (o1.set k y1).set (k - W) y1) := by show _ = _; rw [Parts.southS, if_pos g2, Parts.lookS, HZ1.out, HY1.out, if_pos ⟨g1, g3⟩, min_if, if_pos g4]
                        go_wp2_with fail
                        go_region
                        have wdo : Own (wr.setCell ⟨g, k, none⟩ (.int .i64 y1)).drew (w.heap.size + 1) top 3 (some ⟨g, 0, none⟩) n q ((o1.set (k) y1).map (.int .i64)) := by rw [List.map_set]; exact (own1.stored (k) hlt (.int .i64 y1)).drew
                        have wdR := (R1.set (p := ⟨g, k, none⟩) hg1 (.int .i64 y1)).drew
                        have wdz : top ≤ (wr.setCell ⟨g, k, none⟩ (.int .i64 y1)).drew.heap.size := by show top ≤ (wr.setCell _ _).heap.size; rw [World.size_setCell]; exact hz4
                        generalize (wr.setCell ⟨g, k, none⟩ (.int .i64 y1)).drew = wd at wdo wdR wdz ⊢
                        have t1 := wdo.cellI (k := k) (x := y1) (List.getElem?_set_self (by rw [HL1.out]; exact hlt))
                        have t2 := wdo.frozen (k - W)
                        obtain ⟨t3, t4⟩ := wdo.cellAt (k := k - W) (by omega)
                        have t5 := wdR.X.1
                        clear d1 d2 e1 e2
                        go_wp2_with fail
                        go_region
                        have weo : Own (wd.setCell ⟨g, k - W, none⟩ (.int .i64 y1)).drew (w.heap.size + 1) top 3 (some ⟨g, 0, none⟩) n q (((o1.set k y1).set (k - W) y1).map (.int .i64)) := by rw [List.map_set]; exact (wdo.stored (k - W) (show k - W < n by omega) (.int .i64 y1)).drew
                        have weR := (wdR.set (p := ⟨g, k - W, none⟩) hg1 (.int .i64 y1)).drew
                        have wez : top ≤ (wd.setCell ⟨g, k - W, none⟩ (.int .i64 y1)).drew.heap.size := by show top ≤ (wd.setCell _ _).heap.size; rw [World.size_setCell]; exact wdz
                        generalize (wd.setCell ⟨g, k - W, none⟩ (.int .i64 y1)).drew = we at weo weR wez ⊢
                        go_wp2_with fail
                        go_roundg (n - (k + 1))
                        case measure => omega
                        case rel => exact ⟨k + 1, by omega, rfl, by go_num, by rw [Parts.cellsS, HO.out, PS.out, FIN.out]; exact weo, weR, wez⟩
                      · have FIN : Hid (Parts.southS W k o1 = (o1.set k z1).set (k - W) z1) := by show _ = _; rw [Parts.southS, if_pos g2, Parts.lookS, HZ1.out, HY1.out, if_pos ⟨g1, g3⟩, min_if, if_neg g4]
                        go_wp2_with fail
                        go_region
                        have wdo : Own (wr.setCell ⟨g, k, none⟩ (.int .i64 z1)).drew (w.heap.size + 1) top 3 (some ⟨g, 0, none⟩) n q ((o1.set (k) z1).map (.int .i64)) := by rw [List.map_set]; exact (own1.stored (k) hlt (.int .i64 z1)).drew
                        have wdR := (R1.set (p := ⟨g, k, none⟩) hg1 (.int .i64 z1)).drew
                        have wdz : top ≤ (wr.setCell ⟨g, k, none⟩ (.int .i64 z1)).drew.heap.size := by show top ≤ (wr.setCell _ _).heap.size; rw [World.size_setCell]; exact hz4
                        generalize (wr.setCell ⟨g, k, none⟩ (.int .i64 z1)).drew = wd at wdo wdR wdz ⊢
                        have t1 := wdo.cellI (k := k) (x := z1) (List.getElem?_set_self (by rw [HL1.out]; exact hlt))
                        have t2 := wdo.frozen (k - W)
                        obtain ⟨t3, t4⟩ := wdo.cellAt (k := k - W) (by omega)
                        have t5 := wdR.X.1
                        clear d1 d2 e1 e2
                        go_wp2_with fail
                        go_region
                        have weo : Own (wd.setCell ⟨g, k - W, none⟩ (.int .i64 z1)).drew (w.heap.size + 1) top 3 (some ⟨g, 0, none⟩) n q (((o1.set k z1).set (k - W) z1).map (.int .i64)) := by rw [List.map_set]; exact (wdo.stored (k - W) (show k - W < n by omega) (.int .i64 z1)).drew
                        have weR := (wdR.set (p := ⟨g, k - W, none⟩) hg1 (.int .i64 z1)).drew
                        have wez : top ≤ (wd.setCell ⟨g, k - W, none⟩ (.int .i64 z1)).drew.heap.size := by show top ≤ (wd.setCell _ _).heap.size; rw [World.size_setCell]; exact wdz
                        generalize (wd.setCell ⟨g, k - W, none⟩ (.int .i64 z1)).drew = we at weo weR wez ⊢
                        go_wp2_with fail
                        go_roundg (n - (k + 1))
                        case measure => omega
                        case rel => exact ⟨k + 1, by omega, rfl, by go_num, by rw [Parts.cellsS, HO.out, PS.out, FIN.out]; exact weo, weR, wez⟩
                    · have FIN : Hid (Parts.southS W k o1 = o1) := by show _ = _; rw [Parts.southS, if_pos g2, Parts.lookS, HZ1.out, HY1.out, if_neg (by omega)]
                      go_wp2_with fail
                      go_roundg (n - (k + 1))
                      case measure => omega
                      case rel => exact ⟨k + 1, by omega, rfl, by go_num, by rw [Parts.cellsS, HO.out, PS.out, FIN.out]; exact own1, R1, hz4⟩
                  · have FIN : Hid (Parts.southS W k o1 = o1) := by show _ = _; rw [Parts.southS, if_neg g2]
                    have sub5 : (k : Int) < (W : Int) := by omega
                    go_wp2_with fail
                    go_roundg (n - (k + 1))
                    case measure => omega
                    case rel => exact ⟨k + 1, by omega, rfl, by go_num, by rw [Parts.cellsS, HO.out, PS.out, FIN.out]; exact own1, R1, hz4⟩
              · have HO1 : Hid (Parts.westS W k o = o) := by
                  show _ = _
                  rw [Parts.westS]
                  split
                  · rw [Parts.lookS, HZ.out, if_neg (by omega)]
                  · rfl
                obtain ⟨o1, rfl⟩ : ∃ o1, o1 = o := ⟨_, rfl⟩
                have own1 := own
                have R1 := R
                have HL1 := HLO
                have hz4 := hz3
                obtain ⟨z1, hz1⟩ : ∃ z1, o1[k]? = some z1 := ⟨_, List.getElem?_eq_getElem (by rw [HL1.out]; exact hlt)⟩
                have HZ1 := Lib.hid (lab_get hz1)
                have d1 := own1.cellI hz1
                have e1 := own1.frozen k
                have j1 := R1.X.1
                have PS : Hid (Parts.pairS W k o1 = Parts.southS W k o1) := by show _ = _; rw [Parts.pairS, HO1.out]
                clear hz1
                obtain rfl : z1 = z := HZ1.out.symm.trans HZ.out
                have FIN : Hid (Parts.southS W k o1 = o1) := by
                  show _ = _
                  rw [Parts.southS]
                  split
                  · rw [Parts.lookS, HZ1.out, if_neg (by omega)]
                  · rfl
                go_wp2_with fail
                go_roundg (n - (k + 1))
                case measure => omega
                case rel => exact ⟨k + 1, by omega, rfl, by go_num, by rw [Parts.cellsS, HO.out, PS.out, FIN.out]; exact own1, R1, hz4⟩
            · have e : k = n := by omega
              subst e
              go_wp2_with fail
              go_roundg (k - (r + 1))
              case measure => omega
              case rel => exact ⟨r + 1, by omega, rfl, by go_num, by rw [partAtS, Parts.iter]; rw [partAtS, hsz.out] at own; rw [hsz.out]; exact own, R, hz3⟩
        · have e : r = k := by omega
          subst e
          go_wp2_with fail
          go_ret
          refine OutL.mkL (c0 := q) (n := r) ?_ (by omega) ?_ R.B
          · rw [partL, partAt_len]; exact hsz.out.symm
          · rw [← partS_eq v0, ← hsz.out]
            exact (own.base (show w.heap.size ≤ w.heap.size + 1 by omega)).top hz2

end Go.Proofs.Ytcnkpcnbobiodaa
