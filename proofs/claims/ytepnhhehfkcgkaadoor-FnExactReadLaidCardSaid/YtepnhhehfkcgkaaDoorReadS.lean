/-
  ReadRegion of the reference: what it returns.
-/
import Derived.Test.YtepnhhehfkcgkaaDoorReadM
import Derived.Test.YtepnhhehfkcgkaaDoorTextS
import Derived.Deep.RegionLaw
import Derived.BigRegion
import Derived.Deep.LoopGhost
import Derived.Deep.DrawnRows
namespace Go.Proofs.YtepnhhehfkcgkaaDoor
open Go.RowKit Go.PlainAid
attribute [local go_sem ↓] Go.wp_at_zero Go.wp_at_succ

def rdB (S : ByteArray) : Bool := regOkL (cutL S.data.toList)
def rdW (S : ByteArray) : Int := if rdB S then rowW (cutL S.data.toList) else 0
def rdT (S : ByteArray) : Int := if rdB S then (cutL S.data.toList).length else 0
def rdC (S : ByteArray) : List Bool := if rdB S then (signsL (cutL S.data.toList)).map onS else []
theorem rd_yes {S : ByteArray} (h : rdB S = true) : rdW S = rowW (cutL S.data.toList) ∧ rdT S = (cutL S.data.toList).length ∧ rdC S = (signsL (cutL S.data.toList)).map onS := by
  rw [rdW, rdT, rdC, if_pos h, if_pos h, if_pos h]; exact ⟨rfl, rfl, rfl⟩
theorem rd_no {S : ByteArray} (h : rdB S = false) : rdW S = 0 ∧ rdT S = 0 ∧ rdC S = [] := by
  rw [rdW, rdT, rdC, h]; exact ⟨rfl, rfl, rfl⟩

set_option maxRecDepth 100000 in
set_option maxHeartbeats 4000000 in
theorem read_spec (S : ByteArray) (w : World) (hs : S.size ≤ 1048576) :
    Calls Tryd.prog 5 #[.string S] w fun e w' => OutRB w w' e (rdW S) (rdT S) (rdC S) (rdB S) := by
  obtain ⟨r, hr⟩ : ∃ r, cutL S.data.toList = r := ⟨_, rfl⟩
  obtain ⟨T, hT⟩ : ∃ T, (rowsB S).length = T := ⟨_, rfl⟩
  have hTr : r.length = T := by rw [← hT, ← hr, rowsB_len]
  have hT1 : 1 ≤ T := by rw [← hT]; exact rowsB_pos S
  have hT2 : T ≤ 1048577 := by have := rowsB_le S; omega
  have hfl : r.flatten.length ≤ 1048576 := by have := flat_le S; rw [hr] at this; omega
  obtain ⟨X0, hX0, hW0⟩ := rowsB_head S
  rw [hr] at hW0
  have hX0s : X0.size ≤ 1048576 := by have := rowsB_mem (List.mem_of_getElem? hX0); omega
  have HR := Lib.hid hr
  have HT := Lib.hid hT
  have HTr := Lib.hid hTr
  have HFL := Lib.hid hfl
  have HW0 := Lib.hid hW0
  have HX0 := Lib.hid hX0
  clear hr hT hTr hfl hW0 hX0
  go_enter Tryd.func5, Tryd.ntmps5
  go_wp2_with fail
  refine (cut_spec S _ hs).mono ?_; rintro e w1 ⟨A, c, rfl, o1, hb1⟩
  rw [HT.out] at o1
  rw [HT.out]
  obtain ⟨g, rfl, hg0, hg1⟩ := o1.form (by omega)
  have z1 : w.heap.size + 1 ≤ w1.heap.size := by have h := hb1.size; simp only [World.size_alloc] at h; exact h
  have t1 := (Thaw.new w #[.int .i64 0, .int .i64 0, .slice none 0 0] 24).below hb1
  have r1 := (Box.new w (.int .i64 0) (.int .i64 0) (.slice none 0 0) 24).below hb1
  have B1 := belowW (below1 w _) hb1
  have s1 := o1.sl
  have R1 : Rd w w1.heap.size g T ((rowsB S).map .string) X0.size none 0 0 [] (w1.alloc (.cells #[.int .i64 X0.size, .int .i64 T, .slice none 0 0] 24)) :=
    ⟨s1.alloc _, hg1, r1.alloc _, t1.alloc _, Box.new _ _ _ _ _, Thaw.new _ _ _, own_nil _ _ _ _, belowA B1, z1⟩
  have c0 : w1.cell? ⟨g, 0, none⟩ = some (.string X0) := by
    obtain ⟨b', off', hA, hc⟩ := s1.2 (by omega)
    injection hA with hA
    injection hA with h1 h2 _
    subst h1 h2
    exact hc 0 _ (by rw [List.getElem?_map, HX0.out]; rfl)
  have q0 : (0 : Int) < (T : Int) := by omega
  clear hb1 o1 s1 t1 r1
  go_wp2_with fail
  go_loopg [6, 7] (T + 1) (fun gk s6 _ wx => ∃ (i : Nat) (D : Option Addr) (q : Nat), i ≤ T ∧ gk = T - i + 1 ∧ s6 = .int .i64 ((T : Int) - 1 - i) ∧ Rd w w1.heap.size g T ((rowsB S).map .string) X0.size D (preL r i).length q (((preL r i).map hashS).map .bool) wx)
  case atStart => exact ⟨0, none, 0, Nat.zero_le _, rfl, by go_num, R1⟩
  case round =>
    clear R1 B1 c0 q0
    obtain ⟨i, D, q, hi, rfl, rfl, R⟩ := hrel
    obtain ⟨wo, hwo⟩ : ∃ wo, wo = wr := ⟨_, rfl⟩
    subst hwo
    by_cases hiT : i < T
    · obtain ⟨y, hy⟩ : ∃ y, T - 1 - i = y := ⟨_, rfl⟩
      have ey : (T : Int) - 1 - i = (y : Int) := by omega
      have hyT : y < T := by omega
      obtain ⟨X, hX, hx⟩ := rowsB_get (S := S) (y := y) (by rw [HT.out]; exact hyT)
      rw [HR.out] at hx
      have hXs : X.size ≤ 1048576 := by have := rowsB_mem (List.mem_of_getElem? hX); omega
      have hxl : X.data.toList.length = X.size := (Lib.size_eq X).symm
      have HROW : Hid (((rowsB S).map Value.string)[y]? = some (.string X)) := by show _ = _; rw [List.getElem?_map, hX]; rfl
      have HP := fun j => part_len (r := r) (i := i) (by rw [HTr.out]; exact hy) (by rw [HTr.out]; exact hiT) hx j
      have HPL := Lib.hid HP
      have HSU := Lib.hid (preL_succ (r := r) (i := i) (by rw [HTr.out]; exact hy) (by rw [HTr.out]; exact hiT) hx)
      have HEY := Lib.hid ey
      obtain ⟨p, hp⟩ : ∃ p, preL r i = p := ⟨_, rfl⟩
      have HPP := Lib.hid hp
      rw [ey]
      rw [hp] at R
      have c1 := R.row HROW.out
      have p0 : (0 : Int) ≤ (y : Int) := by omega
      have p1 : (y : Int) < (T : Int) := by omega
      have HXL := Lib.hid hxl
      have hb := get_bt X
      clear hy ey hX hx HP hp hxl
      go_wp2_with fail
      go_loopg [7] (X.size + 1) (fun gk s7 wx => ∃ (j : Nat) (D : Option Addr) (q : Nat), j ≤ X.size ∧ gk = X.size - j + 1 ∧ s7 = .int .i64 j ∧ Rd w w1.heap.size g T ((rowsB S).map .string) X0.size D (p ++ X.data.toList.take j).length q (((p ++ X.data.toList.take j).map hashS).map .bool) wx)
      case atStart => exact ⟨0, D, q, Nat.zero_le _, rfl, rfl, by rw [List.take_zero, List.append_nil]; exact R⟩
      case round =>
        clear R c1
        obtain ⟨j, D, q, hj, rfl, rfl, R⟩ := hrel
        have c1 := R.row HROW.out
        by_cases hjX : j < X.size
        · have hpl := HPL.out j
          rw [HPP.out] at hpl
          obtain ⟨ch, hch, hbt⟩ := bt_byte hjX
          obtain ⟨v, hv⟩ : ∃ v, (bt X j == 35) = v := ⟨_, rfl⟩
          have hvc : hashS ch = v := by
            rw [← hv, hbt, hashS, Bool.eq_iff_iff, beq_iff_eq, beq_iff_eq]
            exact ⟨fun h => by rw [h]; rfl, fun h => u8_of (n := 35) h (by decide)⟩
          obtain ⟨l, hl⟩ : ∃ l, p ++ X.data.toList.take j = l := ⟨_, rfl⟩
          have HLS : Hid (p ++ X.data.toList.take (j + 1) = l ++ [ch]) := by show _ = _; rw [part_succ hch, hl]
          rw [hl] at R hpl
          have hln : l.length ≤ 1048576 := by have := HFL.out; omega
          have HVC := Lib.hid hvc
          have q3 := R.X.2.2
          have hl1 := R.TX.1
          have hne1 := Nat.ne_of_lt hl1
          have hgb := R.gb
          have hne2 : g ≠ wr.heap.size := by omega
          have hne3 : g ≠ w1.heap.size := by omega
          have j0 : (0 : Int) ≤ (j : Int) := by omega
          have j1 : (j : Int) < (X.size : Int) := by omega
          clear hch hbt hl hvc hpl
          go_wp2_with fail
          go_region_law (first | (refine step_append1 (by rfl) (.tmp 34) (.tmp 42) 22 (by rfl) 4 (.bool false) 1 Tryd.underlying22 Tryd.infoBool rfl (R.own.alloc (.cells #[.bool v] 4)).drew (by rfl) wr.heap.size (.bool v) (by rfl) (cell0_new _ _ _) (by rfl) (by omega) (by omega) (by simp; omega) ?_; intro D' q' w4 hown4 hg4 hn4; have hx4 := (R.X.alloc (.cells #[.bool v] 4)).drew.grown hg4 (R.own.offBox (.inl (Nat.lt_succ_self _))); have ht4 := (R.TX.alloc (.cells #[.bool v] 4)).drew.grown hg4 (R.own.offBox (.inl (Nat.lt_succ_self _))); have q4 := hx4.2.2; have f4 := ht4.2 2) | fail)
          all_goals
            go_wp2_with fail
            have R4 := R.step hown4 hg4
            go_roundg (X.size - (j + 1) + 1)
            case measure => omega
            case rel =>
              refine ⟨j + 1, D', q', by omega, rfl, by go_num, ?_⟩
              rw [HLS.out, List.length_append, List.map_append, List.map_append, List.map_singleton, List.map_singleton, HVC.out]
              exact R4
        · have ej : j = X.size := by omega
          subst ej
          rw [List.take_of_length_le (by rw [HXL.out]; exact Nat.le_refl _), ← HPP.out, ← HSU.out] at R
          go_wp2_with fail
          go_roundg (T - (i + 1) + 1)
          case measure => omega
          case rel => exact ⟨i + 1, D, q, by omega, rfl, by have := HEY.out; rw [show (T : Int) - 1 - ((i + 1 : Nat) : Int) = (y : Int) - 1 by omega], R⟩
    · have ei : i = T := by omega
      subst ei
      have e1 := preL_full r
      rw [HTr.out] at e1
      rw [e1] at R
      have HLAW := Lib.hid (reg_law S.data.toList)
      have hnl : (signsL r).length ≤ 1048576 := by have := preL_len r i; rw [e1] at this; have := HFL.out; omega
      clear e1
      have k1 := R.X.1
      have k2 := R.X.2.1
      have k3 := R.X.2.2
      by_cases hS : S.toList = []
      · have E : Hid (rdB S = false) := by show _ = _; rw [rdB, ← HLAW.out, specOkR, ← Lib.toList_data, hS]; rfl
        have f1 := R.TZ.2 0
        have f2 := R.TZ.2 1
        have f3 := R.TZ.2 2
        have k4 := R.Z.1
        have k5 := R.Z.2.1
        have k6 := R.Z.2.2
        go_wp2_with fail
        obtain ⟨e1, e2, e3⟩ := rd_no E.out
        exact bodyPost_ret (v := .tuple #[.agg #[.int .i64 0, .int .i64 0, .slice none 0 0], .bool false]) (by simp [results, Tryd.results5, go_sem, k4, k5, k6]) rfl (by rw [e1, e2, e3, E.out]; exact outRB_zero w R.fin)
      · have HS := Lib.hid hS
        have hsn : (S.toList == []) = false := by simpa using hS
        obtain ⟨x, hx⟩ : ∃ x, rtextF (X0.size : Int) (i : Int) (signsL r).length ((signsL r).map hashS) = x := ⟨_, rfl⟩
        have E0 : Hid (rdB S = (x == S.toList)) := by
          show _ = _
          rw [rdB, ← HLAW.out, specOkR, HR.out, ← HW0.out, HTr.out, hx, ← Lib.toList_data, hsn]; rfl
        have HX := Lib.hid hx
        clear hx
        go_wp2_with fail
        refine (rtext_spec D (signsL r).length q X0.size i ((signsL r).map hashS) _ hnl R.own.sl).mono ?_; rintro e w2 ⟨rfl, hb2⟩
        rw [HX.out]
        have R2 := R.below hb2
        clear hb2 R k1 k2 k3
        have k1 := R2.X.1
        have k2 := R2.X.2.1
        have k3 := R2.X.2.2
        have f1 := R2.TZ.2 0
        have f2 := R2.TZ.2 1
        have f3 := R2.TZ.2 2
        have k4 := R2.Z.1
        have k5 := R2.Z.2.1
        have k6 := R2.Z.2.2
        have hne : w1.heap.size ≠ w.heap.size := by omega
        by_cases hX : x = S.toList
        · have E : Hid (rdB S = true) := by show _ = _; rw [E0.out, hX]; simp
          go_wp2_with fail
          obtain ⟨e1, e2, e3⟩ := rd_yes E.out
          have eC : (signsL r).map onS = (signsL r).map hashS := by
            have h := E.out
            rw [rdB, regOkL, Bool.and_eq_true, HR.out] at h
            exact (hash_on (rows_of h.1).2.2.2).symm
          exact bodyPost_ret (v := .tuple #[.agg #[.int .i64 X0.size, .int .i64 i, .slice D (signsL r).length q], .bool true]) (by simp [results, Tryd.results5, go_sem, k4, k5, k6]) rfl (by rw [e1, e2, e3, E.out, HR.out, HTr.out, ← HW0.out, eC]; exact OutRB.mk (by simp) (by omega) R2.out R2.fin)
        · have E : Hid (rdB S = false) := by show _ = _; rw [E0.out]; simpa using hX
          have hxn : (x == S.toList) = false := by simpa using hX
          clear hX
          go_wp2_with fail
          obtain ⟨e1, e2, e3⟩ := rd_no E.out
          exact bodyPost_ret (v := .tuple #[.agg #[.int .i64 0, .int .i64 0, .slice none 0 0], .bool false]) (by simp [results, Tryd.results5, go_sem, k4, k5, k6]) rfl (by rw [e1, e2, e3, E.out]; exact outRB_zero w R2.fin)

end Go.Proofs.YtepnhhehfkcgkaaDoor
