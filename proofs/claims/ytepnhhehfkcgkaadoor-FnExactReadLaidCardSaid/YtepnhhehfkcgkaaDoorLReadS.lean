/-
  ReadLaid of the reference: what it returns.
-/
import Derived.Test.YtepnhhehfkcgkaaDoorLReadM
import Derived.Test.YtepnhhehfkcgkaaDoorLTextS
import Derived.Test.YtepnhhehfkcgkaaDoorReadR
import Derived.Deep.RegionLaw
import Derived.BigRegion
import Derived.Deep.LoopGhost
import Derived.Deep.DrawnRows
namespace Go.Proofs.YtepnhhehfkcgkaaDoor
open Go.RowKit Go.PlainAid
attribute [local go_sem ↓] Go.wp_at_zero Go.wp_at_succ

/-- The last of the signs 1 .. k - 1 that a byte is; 0 if none. -/
def wayP (c : UInt8) : Nat → Int
  | 0 => 0
  | k + 1 => if k ≠ 0 ∧ c = signZ k then k else wayP c k
theorem wayP_one (c : UInt8) : wayP c 1 = 0 := by rw [wayP, if_neg (by simp), wayP]
theorem wayP_hit {c : UInt8} {k : Nat} (hk : k ≠ 0) (h : c = signZ k) : wayP c (k + 1) = k := by rw [wayP, if_pos ⟨hk, h⟩]
theorem wayP_miss {c : UInt8} {k : Nat} (h : c ≠ signZ k) : wayP c (k + 1) = wayP c k := by rw [wayP, if_neg (fun e => h e.2)]
theorem wayP_five (c : UInt8) : wayP c 5 = wayS c := by
  rcases idxS_six c with (rfl | rfl | rfl | rfl | rfl) | ⟨h1, h2, h3, h4, h5⟩
  · rfl
  · rfl
  · rfl
  · rfl
  · rfl
  · rw [wayP_miss (k := 4) h5, wayP_miss (k := 3) h4, wayP_miss (k := 2) h3, wayP_miss (k := 1) h2, wayP_one, wayS, if_neg h2, if_neg h3, if_neg h4, if_neg h5]

set_option maxRecDepth 100000 in
set_option maxHeartbeats 8000000 in
theorem lread_spec (S : ByteArray) (w : World) (hs : S.size ≤ 1048576) :
    Calls Tryd.prog 10 #[.string S] w fun e w' => OutRLB w w' e (ldW S) (ldT S) (ldC S) (ldZ S) (ldB S) := by
  obtain ⟨r, hr⟩ : ∃ r, cutL S.data.toList = r := ⟨_, rfl⟩
  obtain ⟨T, hT⟩ : ∃ T, (rowsB S).length = T := ⟨_, rfl⟩
  have hTr : r.length = T := by rw [← hT, ← hr, rowsB_len]
  have hT1 : 1 ≤ T := by rw [← hT]; exact rowsB_pos S
  have hT2 : T ≤ 1048577 := by have := rowsB_le S; omega
  have hfl : r.flatten.length ≤ 1048576 := by have := flat_le S; rw [hr] at this; omega
  obtain ⟨X0, hX0, hW0⟩ := rowsB_head S
  rw [hr] at hW0
  have hX0s : X0.size ≤ 1048576 := by have := rowsB_mem (List.mem_of_getElem? hX0); omega
  have HR := Lib.hid hr
  have HT := Lib.hid hT
  have HTr := Lib.hid hTr
  have HFL := Lib.hid hfl
  have HW0 := Lib.hid hW0
  have HX0 := Lib.hid hX0
  clear hr hT hTr hfl hW0 hX0
  go_enter Tryd.func10, Tryd.ntmps10
  go_wp2_with fail
  refine (cut_spec S _ hs).mono ?_; rintro e w1 ⟨A, c, rfl, o1, hb1⟩
  rw [HT.out] at o1
  rw [HT.out]
  obtain ⟨g, rfl, hg0, hg1⟩ := o1.form (by omega)
  have z1 : w.heap.size + 1 ≤ w1.heap.size := by have h := hb1.size; simp only [World.size_alloc] at h; exact h
  have t1 := (Thaw.new w #[.int .i64 0, .int .i64 0, .slice none 0 0] 24).below hb1
  have r1 := (Box.new w (.int .i64 0) (.int .i64 0) (.slice none 0 0) 24).below hb1
  have B1 := belowW (below1 w _) hb1
  have s1 := o1.sl
  have R1 : Rd w w1.heap.size g T ((rowsB S).map .string) X0.size none 0 0 [] (w1.alloc (.cells #[.int .i64 X0.size, .int .i64 T, .slice none 0 0] 24)) :=
    ⟨s1.alloc _, hg1, r1.alloc _, t1.alloc _, Box.new _ _ _ _ _, Thaw.new _ _ _, own_nil _ _ _ _, belowA B1, z1⟩
  have L1 : Rl w w1.heap.size g T ((rowsB S).map .string) X0.size none 0 0 [] (some ⟨w1.heap.size + 1, 0, none⟩) 0 0 [] ((w1.alloc (.cells #[.int .i64 X0.size, .int .i64 T, .slice none 0 0] 24)).alloc (.cells #[] 3)) := by
    refine ⟨R1.below (below1 _ _), ?_, fun _ _ h => (by cases h), fun _ _ _ h => (by cases h)⟩
    have := own_empty (w1.alloc (.cells #[.int .i64 X0.size, .int .i64 T, .slice none 0 0] 24))
    simp only [World.size_alloc] at this
    exact this.top (by simp)
  have c0 : w1.cell? ⟨g, 0, none⟩ = some (.string X0) := by
    obtain ⟨b', off', hA, hc⟩ := s1.2 (by omega)
    injection hA with hA
    injection hA with h1 h2 _
    subst h1 h2
    exact hc 0 _ (by rw [List.getElem?_map, HX0.out]; rfl)
  have q0 : (0 : Int) < (T : Int) := by omega
  clear hb1 o1 s1 t1 r1 R1
  go_wp2_with fail
  go_loopg [7, 8, 9, 10, 11] (T + 1) (fun gk s7 s8 _ _ _ wx => ∃ (i : Nat) (D : Option Addr) (q : Nat) (B : Option Addr) (d : Nat), i ≤ T ∧ gk = T - i + 1 ∧ s7 = .slice B (preL r i).length d ∧ s8 = .int .i64 ((T : Int) - 1 - i) ∧ Rl w w1.heap.size g T ((rowsB S).map .string) X0.size D (preL r i).length q (((preL r i).map onS).map .bool) B (preL r i).length d (((preL r i).map wayS).map (.int .i64)) wx)
  case atStart => exact ⟨0, none, 0, _, 0, Nat.zero_le _, rfl, rfl, by go_num, L1⟩
  case round =>
    clear L1 B1 c0 q0
    obtain ⟨i, D, q, B, d, hi, rfl, rfl, rfl, R⟩ := hrel
    obtain ⟨wo, hwo⟩ : ∃ wo, wo = wr := ⟨_, rfl⟩
    subst hwo
    by_cases hiT : i < T
    · obtain ⟨y, hy⟩ : ∃ y, T - 1 - i = y := ⟨_, rfl⟩
      have ey : (T : Int) - 1 - i = (y : Int) := by omega
      have hyT : y < T := by omega
      obtain ⟨X, hX, hx⟩ := rowsB_get (S := S) (y := y) (by rw [HT.out]; exact hyT)
      rw [HR.out] at hx
      have hXs : X.size ≤ 1048576 := by have := rowsB_mem (List.mem_of_getElem? hX); omega
      have hxl : X.data.toList.length = X.size := (Lib.size_eq X).symm
      have HROW : Hid (((rowsB S).map Value.string)[y]? = some (.string X)) := by show _ = _; rw [List.getElem?_map, hX]; rfl
      have HP := fun j => part_len (r := r) (i := i) (by rw [HTr.out]; exact hy) (by rw [HTr.out]; exact hiT) hx j
      have HPL := Lib.hid HP
      have HSU := Lib.hid (preL_succ (r := r) (i := i) (by rw [HTr.out]; exact hy) (by rw [HTr.out]; exact hiT) hx)
      have HEY := Lib.hid ey
      obtain ⟨p, hp⟩ : ∃ p, preL r i = p := ⟨_, rfl⟩
      have HPP := Lib.hid hp
      rw [ey]
      rw [hp] at R
      rw [hp]
      have c1 := R.R.row HROW.out
      have p0 : (0 : Int) ≤ (y : Int) := by omega
      have p1 : (y : Int) < (T : Int) := by omega
      have HXL := Lib.hid hxl
      have hb := get_bt X
      clear hy ey hX hx HP hp hxl
      go_wp2_with fail
      go_loopg [7, 9, 10, 11] (X.size + 1) (fun gk s7 s9 _ _ wx => ∃ (j : Nat) (D : Option Addr) (q : Nat) (B : Option Addr) (d : Nat), j ≤ X.size ∧ gk = X.size - j + 1 ∧ s7 = .slice B (p ++ X.data.toList.take j).length d ∧ s9 = .int .i64 j ∧ Rl w w1.heap.size g T ((rowsB S).map .string) X0.size D (p ++ X.data.toList.take j).length q (((p ++ X.data.toList.take j).map onS).map .bool) B (p ++ X.data.toList.take j).length d (((p ++ X.data.toList.take j).map wayS).map (.int .i64)) wx)
      case atStart => exact ⟨0, D, q, B, d, Nat.zero_le _, rfl, by rw [List.take_zero, List.append_nil], rfl, by rw [List.take_zero, List.append_nil]; exact R⟩
      case round =>
        clear R c1
        obtain ⟨j, D, q, B, d, hj, rfl, rfl, rfl, R⟩ := hrel
        have c1 := R.R.row HROW.out
        by_cases hjX : j < X.size
        · have hpl := HPL.out j
          rw [HPP.out] at hpl
          obtain ⟨ch, hch, hbt⟩ := bt_byte hjX
          obtain ⟨v, hv⟩ : ∃ v, (bt X j != 46) = v := ⟨_, rfl⟩
          have hvc : onS ch = v := by
            rw [← hv, hbt, onS, Bool.eq_iff_iff, bne_iff_ne, bne_iff_ne]
            exact ⟨fun h e => h (u8_of (n := 46) e (by decide)), fun h e => h (by rw [e]; rfl)⟩
          obtain ⟨l, hl⟩ : ∃ l, p ++ X.data.toList.take j = l := ⟨_, rfl⟩
          have HLS : Hid (p ++ X.data.toList.take (j + 1) = l ++ [ch]) := by show _ = _; rw [part_succ hch, hl]
          rw [hl] at R hpl
          rw [hl]
          have hln : l.length ≤ 1048576 := by have := HFL.out; omega
          have HVC := Lib.hid hvc
          have HBT := Lib.hid hbt
          have q3 := R.R.X.2.2
          have hl1 := R.R.TX.1
          have hne1 := Nat.ne_of_lt hl1
          have hgb := R.R.gb
          have hne2 : g ≠ wr.heap.size := by omega
          have hne3 : g ≠ w1.heap.size := by omega
          have j0 : (0 : Int) ≤ (j : Int) := by omega
          have j1 : (j : Int) < (X.size : Int) := by omega
          clear hch hbt hl hvc hpl
          go_wp2_with fail
          go_region_law (first | (refine step_append1 (by rfl) (.tmp 39) (.tmp 47) 22 (by rfl) 4 (.bool false) 1 Tryd.underlying22 Tryd.infoBool rfl (R.R.own.alloc (.cells #[.bool v] 4)).drew (by rfl) wr.heap.size (.bool v) (by rfl) (cell0_new _ _ _) (by rfl) (by omega) (by omega) (by simp; omega) ?_; intro D' q' w4 hown4 hg4 hn4; have hx4 := (R.R.X.alloc (.cells #[.bool v] 4)).drew.grown hg4 (R.R.own.offBox (.inl (Nat.lt_succ_self _))); have ht4 := (R.R.TX.alloc (.cells #[.bool v] 4)).drew.grown hg4 (R.R.own.offBox (.inl (Nat.lt_succ_self _))); have q4 := hx4.2.2; have f4 := ht4.2 2) | fail)
          all_goals
            go_wp2_with fail
            have R4 := R.stepC hown4 hg4 hn4
            clear R c1 q3 q4 f4 hx4 ht4 hown4 hg4 hn4 hl1 hne1 hne2
            go_loopg [10, 11] 4 (fun gk s10 s11 wx => ∃ k : Nat, 1 ≤ k ∧ k ≤ 5 ∧ gk = 5 - k ∧ s10 = .int .i64 (wayP ch k) ∧ s11 = .int .i64 k ∧ Rl w w1.heap.size g T ((rowsB S).map .string) X0.size D' (l.length + 1) q' ((l.map onS).map .bool ++ [.bool v]) B l.length d ((l.map wayS).map (.int .i64)) wx)
            case atStart => exact ⟨1, by omega, by omega, rfl, by rw [wayP_one], rfl, R4⟩
            case round =>
              clear R4
              obtain ⟨k, hk1, hk5, rfl, rfl, rfl, R⟩ := hrel
              have c1 := R.R.row HROW.out
              have hgl := R.R.gb
              have hbl := R.R.TX.1
              have hne2 : g ≠ wr.heap.size := by omega
              have hk : k = 1 ∨ k = 2 ∨ k = 3 ∨ k = 4 ∨ k = 5 := by omega
              rcases hk with rfl | rfl | rfl | rfl | rfl
              · obtain ⟨u, hu⟩ : ∃ u, (bt X j == 101) = u := ⟨_, rfl⟩
                have hw : Hid (wayP ch (1 + 1) = if u then (1 : Int) else wayP ch 1) := by
                  show _ = _
                  have e := HBT.out
                  by_cases h : ch = 101
                  · rw [wayP_hit (k := 1) (by omega) h, ← hu, e, h]; rfl
                  · rw [wayP_miss (k := 1) h, ← hu, e, if_neg (fun h2 => h (u8_of (n := 101) (by simpa using h2) (by decide)))]
                have R5 := R.below (below1 wr (.cells #[.int .u8 35, .int .u8 101, .int .u8 110, .int .u8 119, .int .u8 115] 5)).drew
                have c2 : (wr.alloc (.cells #[.int .u8 35, .int .u8 101, .int .u8 110, .int .u8 119, .int .u8 115] 5)).cell? ⟨g, y, none⟩ = some (.string X) := R5.R.row HROW.out
                have c3 : (wr.alloc (.cells #[.int .u8 35, .int .u8 101, .int .u8 110, .int .u8 119, .int .u8 115] 5)).cell? ⟨wr.heap.size, 1, none⟩ = some (.int .u8 101) := by rw [World.cell?_alloc_at _ _ _ _ rfl]; rfl
                have HR5 := Lib.hid R5
                clear R R5
                go_wp2_with fail
                go_region
                all_goals
                  cases u
                  · go_wp2_with fail
                    go_roundg (5 - (1 + 1))
                    case measure => omega
                    case rel => exact ⟨1 + 1, by omega, by omega, rfl, by rw [hw.out]; rfl, rfl, HR5.out⟩
                  · go_wp2_with fail
                    go_roundg (5 - (1 + 1))
                    case measure => omega
                    case rel => exact ⟨1 + 1, by omega, by omega, rfl, by rw [hw.out]; rfl, rfl, HR5.out⟩
              · obtain ⟨u, hu⟩ : ∃ u, (bt X j == 110) = u := ⟨_, rfl⟩
                have hw : Hid (wayP ch (2 + 1) = if u then (2 : Int) else wayP ch 2) := by
                  show _ = _
                  have e := HBT.out
                  by_cases h : ch = 110
                  · rw [wayP_hit (k := 2) (by omega) h, ← hu, e, h]; rfl
                  · rw [wayP_miss (k := 2) h, ← hu, e, if_neg (fun h2 => h (u8_of (n := 110) (by simpa using h2) (by decide)))]
                have R5 := R.below (below1 wr (.cells #[.int .u8 35, .int .u8 101, .int .u8 110, .int .u8 119, .int .u8 115] 5)).drew
                have c2 : (wr.alloc (.cells #[.int .u8 35, .int .u8 101, .int .u8 110, .int .u8 119, .int .u8 115] 5)).cell? ⟨g, y, none⟩ = some (.string X) := R5.R.row HROW.out
                have c3 : (wr.alloc (.cells #[.int .u8 35, .int .u8 101, .int .u8 110, .int .u8 119, .int .u8 115] 5)).cell? ⟨wr.heap.size, 2, none⟩ = some (.int .u8 110) := by rw [World.cell?_alloc_at _ _ _ _ rfl]; rfl
                have HR5 := Lib.hid R5
                clear R R5
                go_wp2_with fail
                go_region
                all_goals
                  cases u
                  · go_wp2_with fail
                    go_roundg (5 - (2 + 1))
                    case measure => omega
                    case rel => exact ⟨2 + 1, by omega, by omega, rfl, by rw [hw.out]; rfl, rfl, HR5.out⟩
                  · go_wp2_with fail
                    go_roundg (5 - (2 + 1))
                    case measure => omega
                    case rel => exact ⟨2 + 1, by omega, by omega, rfl, by rw [hw.out]; rfl, rfl, HR5.out⟩
              · obtain ⟨u, hu⟩ : ∃ u, (bt X j == 119) = u := ⟨_, rfl⟩
                have hw : Hid (wayP ch (3 + 1) = if u then (3 : Int) else wayP ch 3) := by
                  show _ = _
                  have e := HBT.out
                  by_cases h : ch = 119
                  · rw [wayP_hit (k := 3) (by omega) h, ← hu, e, h]; rfl
                  · rw [wayP_miss (k := 3) h, ← hu, e, if_neg (fun h2 => h (u8_of (n := 119) (by simpa using h2) (by decide)))]
                have R5 := R.below (below1 wr (.cells #[.int .u8 35, .int .u8 101, .int .u8 110, .int .u8 119, .int .u8 115] 5)).drew
                have c2 : (wr.alloc (.cells #[.int .u8 35, .int .u8 101, .int .u8 110, .int .u8 119, .int .u8 115] 5)).cell? ⟨g, y, none⟩ = some (.string X) := R5.R.row HROW.out
                have c3 : (wr.alloc (.cells #[.int .u8 35, .int .u8 101, .int .u8 110, .int .u8 119, .int .u8 115] 5)).cell? ⟨wr.heap.size, 3, none⟩ = some (.int .u8 119) := by rw [World.cell?_alloc_at _ _ _ _ rfl]; rfl
                have HR5 := Lib.hid R5
                clear R R5
                go_wp2_with fail
                go_region
                all_goals
                  cases u
                  · go_wp2_with fail
                    go_roundg (5 - (3 + 1))
                    case measure => omega
                    case rel => exact ⟨3 + 1, by omega, by omega, rfl, by rw [hw.out]; rfl, rfl, HR5.out⟩
                  · go_wp2_with fail
                    go_roundg (5 - (3 + 1))
                    case measure => omega
                    case rel => exact ⟨3 + 1, by omega, by omega, rfl, by rw [hw.out]; rfl, rfl, HR5.out⟩
              · obtain ⟨u, hu⟩ : ∃ u, (bt X j == 115) = u := ⟨_, rfl⟩
                have hw : Hid (wayP ch (4 + 1) = if u then (4 : Int) else wayP ch 4) := by
                  show _ = _
                  have e := HBT.out
                  by_cases h : ch = 115
                  · rw [wayP_hit (k := 4) (by omega) h, ← hu, e, h]; rfl
                  · rw [wayP_miss (k := 4) h, ← hu, e, if_neg (fun h2 => h (u8_of (n := 115) (by simpa using h2) (by decide)))]
                have R5 := R.below (below1 wr (.cells #[.int .u8 35, .int .u8 101, .int .u8 110, .int .u8 119, .int .u8 115] 5)).drew
                have c2 : (wr.alloc (.cells #[.int .u8 35, .int .u8 101, .int .u8 110, .int .u8 119, .int .u8 115] 5)).cell? ⟨g, y, none⟩ = some (.string X) := R5.R.row HROW.out
                have c3 : (wr.alloc (.cells #[.int .u8 35, .int .u8 101, .int .u8 110, .int .u8 119, .int .u8 115] 5)).cell? ⟨wr.heap.size, 4, none⟩ = some (.int .u8 115) := by rw [World.cell?_alloc_at _ _ _ _ rfl]; rfl
                have HR5 := Lib.hid R5
                clear R R5
                go_wp2_with fail
                go_region
                all_goals
                  cases u
                  · go_wp2_with fail
                    go_roundg (5 - (4 + 1))
                    case measure => omega
                    case rel => exact ⟨4 + 1, by omega, by omega, rfl, by rw [hw.out]; rfl, rfl, HR5.out⟩
                  · go_wp2_with fail
                    go_roundg (5 - (4 + 1))
                    case measure => omega
                    case rel => exact ⟨4 + 1, by omega, by omega, rfl, by rw [hw.out]; rfl, rfl, HR5.out⟩
              · rw [wayP_five]
                obtain ⟨z, hz⟩ : ∃ z, wayS ch = z := ⟨_, rfl⟩
                rw [hz]
                have HZ := Lib.hid hz
                clear hz c1
                go_wp2_with (at_builtin; go_loud (refine wpList_append1 rfl _ _ 30 rfl 3 (.int .i64 0) 8 Tryd.underlying30 Tryd.infoInt rfl (R.L.alloc _) rfl wr.heap.size (.int .i64 z) rfl (cell0_new _ _ _) rfl (by omega) (by omega) (by simp; omega) ?_; intro B4 d4 w6 O4 hg4 hn4))
                have R6 := R.stepL O4 hg4 hn4
                go_roundg (X.size - (j + 1) + 1)
                case measure => omega
                case rel =>
                  refine ⟨j + 1, D', q', B4, d4, by omega, rfl, ?_, by go_num, ?_⟩
                  · rw [HLS.out, List.length_append]; rfl
                  · rw [HLS.out, List.length_append, List.map_append, List.map_append, List.map_append, List.map_append, List.map_singleton, List.map_singleton, List.map_singleton, List.map_singleton, HVC.out, HZ.out]
                    exact R6
        · have ej : j = X.size := by omega
          subst ej
          rw [List.take_of_length_le (by rw [HXL.out]; exact Nat.le_refl _), ← HPP.out, ← HSU.out] at R
          rw [List.take_of_length_le (by rw [HXL.out]; exact Nat.le_refl _), ← HPP.out, ← HSU.out]
          go_wp2_with fail
          go_roundg (T - (i + 1) + 1)
          case measure => omega
          case rel => exact ⟨i + 1, D, q, B, d, by omega, rfl, rfl, by have := HEY.out; rw [show (T : Int) - 1 - ((i + 1 : Nat) : Int) = (y : Int) - 1 by omega], R⟩
    · have ei : i = T := by omega
      subst ei
      have e1 := preL_full r
      rw [HTr.out] at e1
      rw [e1] at R
      rw [e1]
      have HLAW := Lib.hid (laid_law S.data.toList)
      have hnl : (signsL r).length ≤ 1048576 := by have := preL_len r i; rw [e1] at this; have := HFL.out; omega
      clear e1
      have k1 := R.R.X.1
      have k2 := R.R.X.2.1
      have k3 := R.R.X.2.2
      by_cases hS : S.toList = []
      · have E : Hid (ldB S = false) := by show _ = _; rw [ldB, ← HLAW.out, specOkL, ← Lib.toList_data, hS]; rfl
        have f1 := R.R.TZ.2 0
        have f2 := R.R.TZ.2 1
        have f3 := R.R.TZ.2 2
        have k4 := R.R.Z.1
        have k5 := R.R.Z.2.1
        have k6 := R.R.Z.2.2
        have hl1 := Nat.ne_of_lt R.R.TZ.1
        have R2 := R.R.below (below1 wo (.cells #[] 3))
        have fa := R2.TZ.2 0
        have fb := R2.TZ.2 1
        have fc := R2.TZ.2 2
        have ka := R2.Z.1
        have kb := R2.Z.2.1
        have kc := R2.Z.2.2
        go_wp2_with fail
        obtain ⟨e1, e2, e3, e4⟩ := ld_no E.out
        exact bodyPost_ret (v := .tuple #[.agg #[.int .i64 0, .int .i64 0, .slice none 0 0], .slice (some ⟨wo.heap.size, 0, none⟩) 0 0, .bool false]) (by simp [results, Tryd.results10, go_sem, ka, kb, kc]) rfl (by rw [e1, e2, e3, e4, E.out]; exact outRLB_empty w (empty_out R.R.B R.R.TZ.1) R2.fin)
      · have HS := Lib.hid hS
        have hsn : (S.toList == []) = false := by simpa using hS
        obtain ⟨x, hx⟩ : ∃ x, ltextF (X0.size : Int) (i : Int) (signsL r).length ((signsL r).map onS) (signsL r).length ((signsL r).map wayS) = x := ⟨_, rfl⟩
        have E0 : Hid (ldB S = (x == S.toList)) := by
          show _ = _
          rw [ldB, ← HLAW.out, specOkL, HR.out, ← HW0.out, HTr.out, hx, ← Lib.toList_data, hsn]; rfl
        have HX := Lib.hid hx
        clear hx
        go_wp2_with fail
        refine (ltext_spec D (signsL r).length q X0.size i ((signsL r).map onS) B (signsL r).length d ((signsL r).map wayS) _ hnl R.R.own.sl hnl R.L.sl (ways_in _)).mono ?_; rintro e w2 ⟨rfl, hb2⟩
        rw [HX.out]
        have R3 := R.below hb2
        clear hb2 R k1 k2 k3
        have k1 := R3.R.X.1
        have k2 := R3.R.X.2.1
        have k3 := R3.R.X.2.2
        have f1 := R3.R.TZ.2 0
        have f2 := R3.R.TZ.2 1
        have f3 := R3.R.TZ.2 2
        have k4 := R3.R.Z.1
        have k5 := R3.R.Z.2.1
        have k6 := R3.R.Z.2.2
        have hne : w1.heap.size ≠ w.heap.size := by omega
        by_cases hX : x = S.toList
        · have E : Hid (ldB S = true) := by show _ = _; rw [E0.out, hX]; simp
          go_wp2_with fail
          obtain ⟨e1, e2, e3, e4⟩ := ld_yes E.out
          exact bodyPost_ret (v := .tuple #[.agg #[.int .i64 X0.size, .int .i64 i, .slice D (signsL r).length q], .slice B (signsL r).length d, .bool true]) (by simp [results, Tryd.results10, go_sem, k4, k5, k6]) rfl (by rw [e1, e2, e3, e4, E.out, HR.out, HTr.out, ← HW0.out]; exact OutRLB.mk (by simp) (by simp) (by omega) (by omega) R3.R.out R3.outL R3.fa R3.fb R3.R.fin)
        · have E : Hid (ldB S = false) := by show _ = _; rw [E0.out]; simpa using hX
          have hxn : (x == S.toList) = false := by simpa using hX
          have hl1 := Nat.ne_of_lt R3.R.TZ.1
          have R4 := R3.R.below (below1 w2 (.cells #[] 3))
          have fa := R4.TZ.2 0
          have fb := R4.TZ.2 1
          have fc := R4.TZ.2 2
          have ka := R4.Z.1
          have kb := R4.Z.2.1
          have kc := R4.Z.2.2
          clear hX
          go_wp2_with fail
          obtain ⟨e1, e2, e3, e4⟩ := ld_no E.out
          exact bodyPost_ret (v := .tuple #[.agg #[.int .i64 0, .int .i64 0, .slice none 0 0], .slice (some ⟨w2.heap.size, 0, none⟩) 0 0, .bool false]) (by simp [results, Tryd.results10, go_sem, ka, kb, kc]) rfl (by rw [e1, e2, e3, e4, E.out]; exact outRLB_empty w (empty_out R3.R.B R3.R.TZ.1) R4.fin)

end Go.Proofs.YtepnhhehfkcgkaaDoor
