/-
  readRows of the program: what it returns, with either of its two callers' tests of a sign.
-/
import Derived.Test.YtepnhhehfkcgkaaDoorReadJ
import Derived.Test.YtepnhhehfkcgkaaDoorCutN
import Derived.Test.YtepnhhehfkcgkaaDoorRBox
import Derived.Test.YtepnhhehfkcgkaaDoorAt
import Derived.Test.YtepnhhehfkcgkaaDoorValid
import Derived.Deep.RegionHeld3
import Derived.BigRegion
import Derived.Deep.LoopGhost
import Derived.OwnWalk
namespace Go.Proofs.YtepnhhehfkcgkaaDoor
open Go.RowKit Go.PlainAid

theorem infoU : (Tryd.prog.info? 5).map (fun i => (i.zero, i.size, i.bytes)) = some (some (.int .u8 0), 1, 1) := by kernel_rfl
theorem rows_no_width {P : UInt8 → Bool} {r : List (List UInt8)} {x : List UInt8} {i : Nat} (hx : r[i]? = some x) (h : x.length ≠ rowW r) : rowsOk P r = false := by
  cases e : rowsOk P r with
  | false => rfl
  | true => exact absurd ((rows_of e).2.2.1 x (List.mem_of_getElem? hx)) h
theorem rows_no_sign {P : UInt8 → Bool} {r : List (List UInt8)} {x : List UInt8} {i j : Nat} {c : UInt8} (hx : r[i]? = some x) (hc : x[j]? = some c) (h : P c = false) : rowsOk P r = false := by
  cases e : rowsOk P r with
  | false => rfl
  | true =>
    have hm : c ∈ signsL r := by rw [signsL, List.mem_flatten]; exact ⟨x, List.mem_reverse.2 (List.mem_of_getElem? hx), List.mem_of_getElem? hc⟩
    have := (rows_of e).2.2.2 c hm
    rw [h] at this; cases this
theorem rows_no_wide {P : UInt8 → Bool} {r : List (List UInt8)} (h : inB (rowW r : Int) 1 6 = false) : rowsOk P r = false := by rw [rowsOk, h]; rfl
theorem rows_no_tall {P : UInt8 → Bool} {r : List (List UInt8)} (h : inB (r.length : Int) 1 6 = false) : rowsOk P r = false := by rw [rowsOk, h]; simp

set_option maxRecDepth 100000 in
set_option maxHeartbeats 4000000 in
theorem rows_reg (P : UInt8 → Bool) (S : ByteArray) (w : World) (hs : S.size ≤ 1048576)
    (hf : ∀ (c : UInt8) w', Calls Tryd.prog 18 #[.int .u8 (c.toNat : Int)] w' fun e w'' => e = .returned (.bool (P c)) ∧ w'' = w') :
    Calls Tryd.prog 17 #[.string S, .func (.func 18) #[] #[]] w fun e w' => OutS P S w w' e := by
  obtain ⟨r, hr⟩ : ∃ r, cutL S.data.toList = r := ⟨_, rfl⟩
  obtain ⟨T, hT⟩ : ∃ T, (rowsB S).length = T := ⟨_, rfl⟩
  have hTr : r.length = T := by rw [← hT, ← hr, rowsB_len]
  have hT1 : 1 ≤ T := by rw [← hT]; exact rowsB_pos S
  have hT2 : T ≤ 1048577 := by have := rowsB_le S; omega
  obtain ⟨X0, hX0, hW0⟩ := rowsB_head S
  rw [hr] at hW0
  have hX0s : X0.size ≤ 1048576 := by have := rowsB_mem (List.mem_of_getElem? hX0); omega
  have HR := Lib.hid hr
  have HT := Lib.hid hT
  have HTr := Lib.hid hTr
  have HX0 := Lib.hid hX0
  have HF := Lib.hid hf
  obtain ⟨W, hW⟩ : ∃ W, X0.size = W := ⟨_, rfl⟩
  rw [hW] at hW0 hX0s
  have HW0 := Lib.hid hW0
  clear hr hT hTr hW0 hX0 hf
  go_enter Tryd.func17, Tryd.ntmps17
  go_wp2_with fail
  refine (split_any S _ hs).mono ?_; rintro e w1 ⟨g, rfl, o1, hb1⟩
  rw [HT.out] at o1
  rw [HT.out]
  have hg := o1.2 g 0 rfl
  have z1 : w.heap.size + 1 ≤ w1.heap.size := by have h := hb1.size; simp only [World.size_alloc] at h; exact h
  have t1 := (Thaw.new w #[.int .i64 0, .int .i64 0, .slice none 0 0] 24).below hb1
  have r1 := (Box.new w (.int .i64 0) (.int .i64 0) (.slice none 0 0) 24).below hb1
  have B1 := belowW (below1 w _) hb1
  have s1 := o1.sl
  have c0 : w1.cell? ⟨g, 0, none⟩ = some (.string X0) := by
    obtain ⟨b', off', hA, hc⟩ := s1.2 (by omega)
    injection hA with hA
    injection hA with h1 h2 _
    subst h1 h2
    exact hc 0 _ (by rw [List.getElem?_map, HX0.out]; rfl)
  have q0 : (0 : Int) < (T : Int) := by omega
  have hg0 : w.heap.size + 1 ≤ g := by have := hg.1; simp only [World.size_alloc] at this; exact this
  have hg1 := hg.2
  clear hb1 o1 hg
  have no0 : Below w.heap.size w (((w1.setCell ⟨w.heap.size, 0, none⟩ (.int .i64 0)).setCell ⟨w.heap.size, 1, none⟩ (.int .i64 0)).setCell ⟨w.heap.size, 2, none⟩ (.slice none 0 0)) := ((B1.setCell (Nat.le_refl _) _).setCell (Nat.le_refl _) _).setCell (Nat.le_refl _) _
  have NO0 := Lib.hid no0
  clear no0
  by_cases hiw : inB (W : Int) 1 6 = true
  · by_cases hit : inB (T : Int) 1 6 = true
    · have b1 := inB_iff.1 hiw
      have b2 := inB_iff.1 hit
      have hW6 : W ≤ 6 := by omega
      have hT6 : T ≤ 6 := by omega
      have hW1 : 1 ≤ W := by omega
      obtain ⟨m, hm⟩ : ∃ m, W * T = m := ⟨_, rfl⟩
      have hm36 : m ≤ 36 := by rw [← hm]; exact Nat.mul_le_mul hW6 hT6
      have hmi : (W : Int) * (T : Int) = (m : Int) := by rw [← hm]; simp
      have HM := Lib.hid hm
      have HIW := Lib.hid hiw
      have HIT := Lib.hid hit
      clear b1 b2 hm
      go_wp2_with (go_at_call 29; refine (in_any _ _ _ _).mono ?_; rintro e w' ⟨rfl, rfl⟩)
      refine (field_any W T m _ hW6 hT6 HM.out.symm).mono ?_; rintro e w2 ⟨gc, rfl, o2, hb2⟩
      have hgc := o2.2 gc 0 rfl
      have B2 := belowW B1 hb2
      have s2 := s1.below hb2
      have t2 := t1.below hb2
      have r2 := r1.below hb2
      have z2 : w1.heap.size ≤ w2.heap.size := hb2.size
      obtain ⟨i0, hi0, hz0, hz1, hz2⟩ := info_parts infoU
      clear hb2 s1 t1 r1 B1 c0 NO0
      go_wp2_with (at_make; go_loud (refine wpList_make_full _ rfl _ _ 38 rfl (w2.heap.size + 1) 5 i0 (.int .u8 0) 1 Tryd.underlying38 hi0 hz0 hz1 .i64 .i64 (m : Int) (m : Int) m rfl rfl rfl rfl (by rw [hz2]; omega) (by unfold maxLen; omega) (by simp) ?_; intro w3 hown3 hg3; have O3 := Own.mk hown3))
      have hb3 : Below (w2.alloc (.cells #[.int .i64 W, .int .i64 T, .slice (some ⟨gc, 0, none⟩) m m] 24)).heap.size (w2.alloc (.cells #[.int .i64 W, .int .i64 T, .slice (some ⟨gc, 0, none⟩) m m] 24)) w3 := ⟨hg3.os, hg3.tape, hg3.output, hg3.size, fun b hb => hg3.block b hb (by simp)⟩
      have O4 : Own w3 (w2.heap.size + 1) w3.heap.size 5 (some ⟨w2.heap.size + 1, 0, none⟩) m m ((outA T W r 0).map bV) := by
        rw [out_zero, List.map_replicate, HM.out, show bV none = .int .u8 0 from rfl]
        simpa [Value.cells, toList_madeCells_one] using O3
      have z3 := (O4.2 _ 0 rfl).2
      have R3 : Rq w w2.heap.size g gc T m ((rowsB S).map .string) W (outA T W r 0) (outA T W r 0) w3 := by
        refine ⟨(s2.alloc _).below hb3, hg0, by omega, by omega, (r2.alloc _).below hb3, (t2.alloc _).below hb3, (Box.new _ _ _ _ _).below hb3, ?_, ⟨O4.1, fun b off hA => ⟨(O4.2 b off hA).1, ?_⟩⟩, belowW (belowA B2) hb3, by omega⟩
        · rw [out_zero, List.map_replicate, HM.out]
          exact ((o2.base z1).alloc _).below hb3
        · injection hA with hA; injection hA with h4 _ _; omega
      clear hb3 O3 O4 hown3 hg3 s2 t2 r2 B2 o2 hi0 hz0 hz1 hz2
      go_wp2_with fail
      go_loopg [12, 13, 14, 15, 42, 53] (T + 1) (fun gk _ _ _ _ s42 _ wx => ∃ i : Nat, i ≤ T ∧ gk = T - i + 1 ∧ s42 = .int .i64 i ∧ (∀ a ∈ r.take i, a.length = W ∧ a.all P = true) ∧ Rq w w2.heap.size g gc T m ((rowsB S).map .string) W (outA T W r i) (outA T W r i) wx)
      case atStart => exact ⟨0, Nat.zero_le _, rfl, rfl, by simp, R3⟩
      case round =>
        clear R3
        obtain ⟨i, hi, rfl, rfl, hall, R⟩ := hrel
        obtain ⟨wo, hwo⟩ : ∃ wo, wo = wr := ⟨_, rfl⟩
        subst hwo
        have HALL := Lib.hid hall
        clear hall
        by_cases hiT : i < T
        · obtain ⟨y, hy⟩ : ∃ y, T - 1 - i = y := ⟨_, rfl⟩
          have ey : (T : Int) - 1 - i = (y : Int) := by omega
          have hyT : y < T := by omega
          obtain ⟨X, hX, hx⟩ := rowsB_get (S := S) (y := i) (by rw [HT.out]; exact hiT)
          rw [HR.out] at hx
          have hXs : X.size ≤ 1048576 := by have := rowsB_mem (List.mem_of_getElem? hX); omega
          have hxl : X.data.toList.length = X.size := (Lib.size_eq X).symm
          have HROW : Hid (((rowsB S).map Value.string)[i]? = some (.string X)) := by show _ = _; rw [List.getElem?_map, hX]; rfl
          have HX := Lib.hid hx
          have HY := Lib.hid hy
          have HEY := Lib.hid ey
          have c1 := R.row HROW.out
          have p0 : (0 : Int) ≤ (i : Int) := by omega
          have p1 : (i : Int) < (T : Int) := by omega
          have HXL := Lib.hid hxl
          clear hX hx hxl hy ey
          by_cases hXW : X.size = W
          · have hxw : X.data.toList.length = W := by rw [HXL.out]; exact hXW
            have hne : ((X.size : Int) != (W : Int)) = false := by rw [hXW]; simp
            have HXW := Lib.hid hxw
            have HXS := Lib.hid hXW
            have hb := get_bt X
            rw [arr_zero r X.data.toList hiT, HY.out] at R
            clear hxw hXW
            go_wp2_with fail
            go_loopg [14, 15, 53] (W + 1) (fun gk _ _ s53 wx => ∃ j : Nat, j ≤ W ∧ gk = W - j + 1 ∧ s53 = .int .i64 j ∧ (X.data.toList.take j).all P = true ∧ Rq w w2.heap.size g gc T m ((rowsB S).map .string) W (arrA (y * W) W j X.data.toList (sufL r i)) (arrA (y * W) W j X.data.toList (sufL r i)) wx)
            case atStart => exact ⟨0, Nat.zero_le _, rfl, rfl, by simp, R⟩
            case round =>
              clear R c1 hne
              obtain ⟨j, hj, rfl, rfl, hall, R⟩ := hrel
              by_cases hjW : j < W
              · have hjX : j < X.size := by rw [HXS.out]; exact hjW
                obtain ⟨ch, hch, hbt⟩ := bt_byte hjX
                have ey := HEY.out
                have hij := at_index hjW hyT
                rw [HM.out] at hij
                obtain ⟨k, hk⟩ : ∃ k, y * W + j = k := ⟨_, rfl⟩
                rw [hk] at hij
                have c1 : (y : Int) * (W : Int) + (j : Int) = (k : Int) := by rw [← hk]; push_cast; rfl
                have c2 : (0 : Int) ≤ (y : Int) * (W : Int) := by exact_mod_cast Nat.zero_le (y * W)
                have c3 : (y : Int) * (W : Int) ≤ 36 := by omega
                have fS := R.signs.frozen k
                obtain ⟨vS, cS⟩ := R.signs.cellAt hij
                obtain ⟨pv, hpv⟩ : ∃ pv, P ch = pv := ⟨_, rfl⟩
                have sgn : Hid (∀ w', Calls Tryd.prog 18 #[.int .u8 (bt X j)] w' fun e w'' => e = .returned (.bool pv) ∧ w'' = w') := by
                  show ∀ w', _
                  intro w'
                  rw [hbt, ← hpv]
                  exact HF.out ch w'
                obtain ⟨v, hv⟩ : ∃ v, (bt X j != 46) = v := ⟨_, rfl⟩
                have hvc : onS ch = v := by
                  rw [← hv, hbt, onS, Bool.eq_iff_iff, bne_iff_ne, bne_iff_ne]
                  exact ⟨fun h e => h (u8_of (n := 46) e (by decide)), fun h e => h (by rw [e]; rfl)⟩
                have R2 := R.setS hij ch
                have R3 := R2.setC hij ch
                have HRZ := Lib.hid R.Z
                have HRT := Lib.hid R.TZ
                have hn1 : w.heap.size ≠ w2.heap.size + 1 := by have := R.gz; have := R.gb; have := R.cb; omega
                have hn2 : w.heap.size ≠ gc := by have := R.gz; have := R.gb; omega
                rw [← hbt] at R2
                rw [hvc, ← hbt] at R3
                have q3 := R2.X.2.2
                have fC := R2.cells.frozen k
                obtain ⟨vC, cC⟩ := R2.cells.cellAt hij
                have es : (arrA (y * W) W j X.data.toList (sufL r i)).set k (some ch) = arrA (y * W) W (j + 1) X.data.toList (sufL r i) := by rw [← hk]; exact arr_set hjW hch
                rw [es] at R3
                have HR3 := Lib.hid R3
                have HPV := Lib.hid hpv
                have HCH := Lib.hid hch
                have HALL2 := Lib.hid hall
                have j0 : (0 : Int) ≤ (j : Int) := by omega
                have j1 : (j : Int) < (X.size : Int) := by omega
                clear hch hbt hvc R2 R3 hpv hall hk R es
                go_wp2_with fail
                go_region
                all_goals
                  go_wp2_with fail
                  refine (sgn.out _).mono ?_; rintro e w4 ⟨rfl, rfl⟩
                  have R3 := HR3.out
                  have R4 := R3.drew
                  cases pv
                  · have HNO := Lib.hid (rows_no_sign HX.out HCH.out HPV.out)
                    have f1 := HRT.out.2 0
                    have f2 := HRT.out.2 1
                    have f3 := HRT.out.2 2
                    have k1 := HRZ.out.1
                    have k2 := HRZ.out.2.1
                    have k3 := HRZ.out.2.2
                    have k4 := R3.Z.1
                    have k5 := R3.Z.2.1
                    have k6 := R3.Z.2.2
                    go_wp2_with fail
                    exact bodyPost_ret (v := .tuple #[.agg #[.int .i64 0, .int .i64 0, .slice none 0 0], .slice none 0 0, .bool false]) (by simp [results, Tryd.results17, go_sem, k4, k5, k6]) rfl (.inr ⟨by rw [HR.out]; exact HNO.out, rfl, R4.fin⟩)
                  · go_wp2_with fail
                    go_roundg (W - (j + 1) + 1)
                    case measure => omega
                    case rel => exact ⟨j + 1, by omega, rfl, by go_num, by rw [take_snoc HCH.out, List.all_append, HALL2.out]; simp [HPV.out], R4⟩
              · have ej : j = W := by omega
                subst ej
                rw [← HY.out, arr_full HXW.out HX.out] at R
                rw [List.take_of_length_le (by rw [HXW.out]; exact Nat.le_refl _)] at hall
                have HALL2 := Lib.hid hall
                clear hall
                go_wp2_with fail
                go_roundg (T - (i + 1) + 1)
                case measure => omega
                case rel =>
                  refine ⟨i + 1, by omega, rfl, by go_num, fun a ha => ?_, R⟩
                  rw [take_snoc HX.out] at ha
                  rcases List.mem_append.1 ha with ha | ha
                  · exact HALL.out a ha
                  · obtain rfl := List.mem_singleton.1 ha
                    exact ⟨HXW.out, HALL2.out⟩
          · have hne : ((X.size : Int) != (W : Int)) = true := by rw [bne_iff_ne]; omega
            have HNO := Lib.hid (rows_no_width (P := P) HX.out (by rw [HXL.out, ← HW0.out]; exact hXW))
            have f1 := R.TZ.2 0
            have f2 := R.TZ.2 1
            have f3 := R.TZ.2 2
            have k4 := R.Z.1
            have k5 := R.Z.2.1
            have k6 := R.Z.2.2
            clear hXW
            go_wp2_with fail
            exact bodyPost_ret (v := .tuple #[.agg #[.int .i64 0, .int .i64 0, .slice none 0 0], .slice none 0 0, .bool false]) (by simp [results, Tryd.results17, go_sem, k4, k5, k6]) rfl (.inr ⟨by rw [HR.out]; exact HNO.out, rfl, R.fin⟩)
        · have ei : i = T := by omega
          subst ei
          have hall := HALL.out
          rw [List.take_of_length_le (by rw [HTr.out]; exact Nat.le_refl _)] at hall
          have e0 := out_full W r
          rw [HTr.out] at e0
          rw [e0] at R
          have OK := Lib.hid (rowsOk_mk (P := P) (r := r) (by rw [← HW0.out]; exact HIW.out) (by rw [HTr.out]; exact HIT.out) (fun a ha => ⟨by rw [← HW0.out]; exact (hall a ha).1, (hall a ha).2⟩))
          have hml : m = (signsL r).length := by
            have := signs_len (fun a ha => (hall a ha).1)
            rw [HTr.out, HM.out] at this; exact this.symm
          have HML := Lib.hid hml
          have sC : Sl wo (some ⟨gc, 0, none⟩) m (((signsL r).map onS).map .bool) := by have := R.cells.sl; rwa [map_oV] at this
          have k1 := R.X.1
          have k2 := R.X.2.1
          have k3 := R.X.2.2
          have k4 := R.Z.1
          have k5 := R.Z.2.1
          have k6 := R.Z.2.2
          have hne1 : w.heap.size ≠ w2.heap.size := by have := R.gz; have := R.gb; have := R.cb; omega
          have hne2 : w2.heap.size ≠ w.heap.size := fun e => hne1 e.symm
          clear hall e0 hml
          obtain ⟨vb, hvb⟩ : ∃ vb, validB (W : Int) (i : Int) m ((signsL r).map onS) = vb := ⟨_, rfl⟩
          have HVB := Lib.hid hvb
          have val : Hid (∀ w', Below wo.heap.size wo w' → Calls Tryd.prog 31 #[.agg #[.int .i64 W, .int .i64 i, .slice (some ⟨gc, 0, none⟩) m m]] w' fun e w'' => e = .returned (.bool vb) ∧ Below w'.heap.size w' w'') := by
            show ∀ w', _
            intro w' hb
            rw [← hvb]
            exact valid_impl _ m m W i _ w' (by omega) (sC.below hb)
          clear hvb sC
          go_wp2_with fail
          go_region_held3 (fun w' => w'.cell? ⟨w2.heap.size, 0, none⟩ = some (.int .i64 W) ∧ w'.cell? ⟨w2.heap.size, 1, none⟩ = some (.int .i64 i) ∧ w'.cell? ⟨w2.heap.size, 2, none⟩ = some (.slice (some ⟨gc, 0, none⟩) m m))
            (first | exact ⟨k1, k2, k3⟩ | exact ⟨c1, c2, c3⟩ | go_keep)
            (first
              | (go_at_call 31; refine (val.out _ (Below.refl _ _).drew).mono ?_; rintro e w4 ⟨rfl, hb4⟩; have R5 := R.drew.below hb4; have c1 := R5.X.1; have c2 := R5.X.2.1; have c3 := R5.X.2.2; have c4 := R5.Z.1; have c5 := R5.Z.2.1; have c6 := R5.Z.2.2; have f1 := R5.TZ.2 0; have f2 := R5.TZ.2 1; have f3 := R5.TZ.2 2)
              | fail)
          all_goals
            go_wp2_with fail
            have OC := R5.outC (v0 := .int .i64 W) (v1 := .int .i64 i) (v2 := .slice (some ⟨gc, 0, none⟩) m m)
            have OS := R5.outS (v0 := .int .i64 W) (v1 := .int .i64 i) (v2 := .slice (some ⟨gc, 0, none⟩) m m)
            rw [map_oV] at OC
            rw [map_bV] at OS
            exact bodyPost_ret (v := .tuple #[.agg #[.int .i64 W, .int .i64 i, .slice (some ⟨gc, 0, none⟩) m m], .slice (some ⟨w2.heap.size + 1, 0, none⟩) m m, .bool vb]) (by simp [results, Tryd.results17, go_sem, c4, c5, c6]) rfl
              (.inl (by rw [HR.out, HTr.out, ← HW0.out]; exact ⟨OK.out, gc, w2.heap.size + 1, m, HML.out, by rw [HVB.out], OC, OS, R5.fin⟩))
    · have e2 : inB (T : Int) 1 6 = false := by simpa using hit
      have HNO := Lib.hid (rows_no_tall (P := P) (r := r) (by rw [HTr.out]; exact e2))
      clear hit
      have f1 := t1.2 0
      have f2 := t1.2 1
      have f3 := t1.2 2
      have k4 := r1.1
      have k5 := r1.2.1
      have k6 := r1.2.2
      go_wp2_with (go_at_call 29; refine (in_any _ _ _ _).mono ?_; rintro e w' ⟨rfl, rfl⟩)
      exact bodyPost_ret (v := .tuple #[.agg #[.int .i64 0, .int .i64 0, .slice none 0 0], .slice none 0 0, .bool false]) (by simp [results, Tryd.results17, go_sem, k4, k5, k6]) rfl (.inr ⟨by rw [HR.out]; exact HNO.out, rfl, NO0.out⟩)
  · have e2 : inB (W : Int) 1 6 = false := by simpa using hiw
    have HNO := Lib.hid (rows_no_wide (P := P) (r := r) (by rw [← HW0.out]; exact e2))
    clear hiw
    have f1 := t1.2 0
    have f2 := t1.2 1
    have f3 := t1.2 2
    have k4 := r1.1
    have k5 := r1.2.1
    have k6 := r1.2.2
    go_wp2_with (go_at_call 29; refine (in_any _ _ _ _).mono ?_; rintro e w' ⟨rfl, rfl⟩)
    exact bodyPost_ret (v := .tuple #[.agg #[.int .i64 0, .int .i64 0, .slice none 0 0], .slice none 0 0, .bool false]) (by simp [results, Tryd.results17, go_sem, k4, k5, k6]) rfl (.inr ⟨by rw [HR.out]; exact HNO.out, rfl, NO0.out⟩)
set_option maxRecDepth 100000 in
set_option maxHeartbeats 4000000 in
theorem rows_lay (P : UInt8 → Bool) (S : ByteArray) (w : World) (hs : S.size ≤ 1048576)
    (hf : ∀ (c : UInt8) w', Calls Tryd.prog 23 #[.int .u8 (c.toNat : Int)] w' fun e w'' => e = .returned (.bool (P c)) ∧ w'' = w') :
    Calls Tryd.prog 17 #[.string S, .func (.func 23) #[] #[]] w fun e w' => OutS P S w w' e := by
  obtain ⟨r, hr⟩ : ∃ r, cutL S.data.toList = r := ⟨_, rfl⟩
  obtain ⟨T, hT⟩ : ∃ T, (rowsB S).length = T := ⟨_, rfl⟩
  have hTr : r.length = T := by rw [← hT, ← hr, rowsB_len]
  have hT1 : 1 ≤ T := by rw [← hT]; exact rowsB_pos S
  have hT2 : T ≤ 1048577 := by have := rowsB_le S; omega
  obtain ⟨X0, hX0, hW0⟩ := rowsB_head S
  rw [hr] at hW0
  have hX0s : X0.size ≤ 1048576 := by have := rowsB_mem (List.mem_of_getElem? hX0); omega
  have HR := Lib.hid hr
  have HT := Lib.hid hT
  have HTr := Lib.hid hTr
  have HX0 := Lib.hid hX0
  have HF := Lib.hid hf
  obtain ⟨W, hW⟩ : ∃ W, X0.size = W := ⟨_, rfl⟩
  rw [hW] at hW0 hX0s
  have HW0 := Lib.hid hW0
  clear hr hT hTr hW0 hX0 hf
  go_enter Tryd.func17, Tryd.ntmps17
  go_wp2_with fail
  refine (split_any S _ hs).mono ?_; rintro e w1 ⟨g, rfl, o1, hb1⟩
  rw [HT.out] at o1
  rw [HT.out]
  have hg := o1.2 g 0 rfl
  have z1 : w.heap.size + 1 ≤ w1.heap.size := by have h := hb1.size; simp only [World.size_alloc] at h; exact h
  have t1 := (Thaw.new w #[.int .i64 0, .int .i64 0, .slice none 0 0] 24).below hb1
  have r1 := (Box.new w (.int .i64 0) (.int .i64 0) (.slice none 0 0) 24).below hb1
  have B1 := belowW (below1 w _) hb1
  have s1 := o1.sl
  have c0 : w1.cell? ⟨g, 0, none⟩ = some (.string X0) := by
    obtain ⟨b', off', hA, hc⟩ := s1.2 (by omega)
    injection hA with hA
    injection hA with h1 h2 _
    subst h1 h2
    exact hc 0 _ (by rw [List.getElem?_map, HX0.out]; rfl)
  have q0 : (0 : Int) < (T : Int) := by omega
  have hg0 : w.heap.size + 1 ≤ g := by have := hg.1; simp only [World.size_alloc] at this; exact this
  have hg1 := hg.2
  clear hb1 o1 hg
  have no0 : Below w.heap.size w (((w1.setCell ⟨w.heap.size, 0, none⟩ (.int .i64 0)).setCell ⟨w.heap.size, 1, none⟩ (.int .i64 0)).setCell ⟨w.heap.size, 2, none⟩ (.slice none 0 0)) := ((B1.setCell (Nat.le_refl _) _).setCell (Nat.le_refl _) _).setCell (Nat.le_refl _) _
  have NO0 := Lib.hid no0
  clear no0
  by_cases hiw : inB (W : Int) 1 6 = true
  · by_cases hit : inB (T : Int) 1 6 = true
    · have b1 := inB_iff.1 hiw
      have b2 := inB_iff.1 hit
      have hW6 : W ≤ 6 := by omega
      have hT6 : T ≤ 6 := by omega
      have hW1 : 1 ≤ W := by omega
      obtain ⟨m, hm⟩ : ∃ m, W * T = m := ⟨_, rfl⟩
      have hm36 : m ≤ 36 := by rw [← hm]; exact Nat.mul_le_mul hW6 hT6
      have hmi : (W : Int) * (T : Int) = (m : Int) := by rw [← hm]; simp
      have HM := Lib.hid hm
      have HIW := Lib.hid hiw
      have HIT := Lib.hid hit
      clear b1 b2 hm
      go_wp2_with (go_at_call 29; refine (in_any _ _ _ _).mono ?_; rintro e w' ⟨rfl, rfl⟩)
      refine (field_any W T m _ hW6 hT6 HM.out.symm).mono ?_; rintro e w2 ⟨gc, rfl, o2, hb2⟩
      have hgc := o2.2 gc 0 rfl
      have B2 := belowW B1 hb2
      have s2 := s1.below hb2
      have t2 := t1.below hb2
      have r2 := r1.below hb2
      have z2 : w1.heap.size ≤ w2.heap.size := hb2.size
      obtain ⟨i0, hi0, hz0, hz1, hz2⟩ := info_parts infoU
      clear hb2 s1 t1 r1 B1 c0 NO0
      go_wp2_with (at_make; go_loud (refine wpList_make_full _ rfl _ _ 38 rfl (w2.heap.size + 1) 5 i0 (.int .u8 0) 1 Tryd.underlying38 hi0 hz0 hz1 .i64 .i64 (m : Int) (m : Int) m rfl rfl rfl rfl (by rw [hz2]; omega) (by unfold maxLen; omega) (by simp) ?_; intro w3 hown3 hg3; have O3 := Own.mk hown3))
      have hb3 : Below (w2.alloc (.cells #[.int .i64 W, .int .i64 T, .slice (some ⟨gc, 0, none⟩) m m] 24)).heap.size (w2.alloc (.cells #[.int .i64 W, .int .i64 T, .slice (some ⟨gc, 0, none⟩) m m] 24)) w3 := ⟨hg3.os, hg3.tape, hg3.output, hg3.size, fun b hb => hg3.block b hb (by simp)⟩
      have O4 : Own w3 (w2.heap.size + 1) w3.heap.size 5 (some ⟨w2.heap.size + 1, 0, none⟩) m m ((outA T W r 0).map bV) := by
        rw [out_zero, List.map_replicate, HM.out, show bV none = .int .u8 0 from rfl]
        simpa [Value.cells, toList_madeCells_one] using O3
      have z3 := (O4.2 _ 0 rfl).2
      have R3 : Rq w w2.heap.size g gc T m ((rowsB S).map .string) W (outA T W r 0) (outA T W r 0) w3 := by
        refine ⟨(s2.alloc _).below hb3, hg0, by omega, by omega, (r2.alloc _).below hb3, (t2.alloc _).below hb3, (Box.new _ _ _ _ _).below hb3, ?_, ⟨O4.1, fun b off hA => ⟨(O4.2 b off hA).1, ?_⟩⟩, belowW (belowA B2) hb3, by omega⟩
        · rw [out_zero, List.map_replicate, HM.out]
          exact ((o2.base z1).alloc _).below hb3
        · injection hA with hA; injection hA with h4 _ _; omega
      clear hb3 O3 O4 hown3 hg3 s2 t2 r2 B2 o2 hi0 hz0 hz1 hz2
      go_wp2_with fail
      go_loopg [12, 13, 14, 15, 42, 53] (T + 1) (fun gk _ _ _ _ s42 _ wx => ∃ i : Nat, i ≤ T ∧ gk = T - i + 1 ∧ s42 = .int .i64 i ∧ (∀ a ∈ r.take i, a.length = W ∧ a.all P = true) ∧ Rq w w2.heap.size g gc T m ((rowsB S).map .string) W (outA T W r i) (outA T W r i) wx)
      case atStart => exact ⟨0, Nat.zero_le _, rfl, rfl, by simp, R3⟩
      case round =>
        clear R3
        obtain ⟨i, hi, rfl, rfl, hall, R⟩ := hrel
        obtain ⟨wo, hwo⟩ : ∃ wo, wo = wr := ⟨_, rfl⟩
        subst hwo
        have HALL := Lib.hid hall
        clear hall
        by_cases hiT : i < T
        · obtain ⟨y, hy⟩ : ∃ y, T - 1 - i = y := ⟨_, rfl⟩
          have ey : (T : Int) - 1 - i = (y : Int) := by omega
          have hyT : y < T := by omega
          obtain ⟨X, hX, hx⟩ := rowsB_get (S := S) (y := i) (by rw [HT.out]; exact hiT)
          rw [HR.out] at hx
          have hXs : X.size ≤ 1048576 := by have := rowsB_mem (List.mem_of_getElem? hX); omega
          have hxl : X.data.toList.length = X.size := (Lib.size_eq X).symm
          have HROW : Hid (((rowsB S).map Value.string)[i]? = some (.string X)) := by show _ = _; rw [List.getElem?_map, hX]; rfl
          have HX := Lib.hid hx
          have HY := Lib.hid hy
          have HEY := Lib.hid ey
          have c1 := R.row HROW.out
          have p0 : (0 : Int) ≤ (i : Int) := by omega
          have p1 : (i : Int) < (T : Int) := by omega
          have HXL := Lib.hid hxl
          clear hX hx hxl hy ey
          by_cases hXW : X.size = W
          · have hxw : X.data.toList.length = W := by rw [HXL.out]; exact hXW
            have hne : ((X.size : Int) != (W : Int)) = false := by rw [hXW]; simp
            have HXW := Lib.hid hxw
            have HXS := Lib.hid hXW
            have hb := get_bt X
            rw [arr_zero r X.data.toList hiT, HY.out] at R
            clear hxw hXW
            go_wp2_with fail
            go_loopg [14, 15, 53] (W + 1) (fun gk _ _ s53 wx => ∃ j : Nat, j ≤ W ∧ gk = W - j + 1 ∧ s53 = .int .i64 j ∧ (X.data.toList.take j).all P = true ∧ Rq w w2.heap.size g gc T m ((rowsB S).map .string) W (arrA (y * W) W j X.data.toList (sufL r i)) (arrA (y * W) W j X.data.toList (sufL r i)) wx)
            case atStart => exact ⟨0, Nat.zero_le _, rfl, rfl, by simp, R⟩
            case round =>
              clear R c1 hne
              obtain ⟨j, hj, rfl, rfl, hall, R⟩ := hrel
              by_cases hjW : j < W
              · have hjX : j < X.size := by rw [HXS.out]; exact hjW
                obtain ⟨ch, hch, hbt⟩ := bt_byte hjX
                have ey := HEY.out
                have hij := at_index hjW hyT
                rw [HM.out] at hij
                obtain ⟨k, hk⟩ : ∃ k, y * W + j = k := ⟨_, rfl⟩
                rw [hk] at hij
                have c1 : (y : Int) * (W : Int) + (j : Int) = (k : Int) := by rw [← hk]; push_cast; rfl
                have c2 : (0 : Int) ≤ (y : Int) * (W : Int) := by exact_mod_cast Nat.zero_le (y * W)
                have c3 : (y : Int) * (W : Int) ≤ 36 := by omega
                have fS := R.signs.frozen k
                obtain ⟨vS, cS⟩ := R.signs.cellAt hij
                obtain ⟨pv, hpv⟩ : ∃ pv, P ch = pv := ⟨_, rfl⟩
                have sgn : Hid (∀ w', Calls Tryd.prog 23 #[.int .u8 (bt X j)] w' fun e w'' => e = .returned (.bool pv) ∧ w'' = w') := by
                  show ∀ w', _
                  intro w'
                  rw [hbt, ← hpv]
                  exact HF.out ch w'
                obtain ⟨v, hv⟩ : ∃ v, (bt X j != 46) = v := ⟨_, rfl⟩
                have hvc : onS ch = v := by
                  rw [← hv, hbt, onS, Bool.eq_iff_iff, bne_iff_ne, bne_iff_ne]
                  exact ⟨fun h e => h (u8_of (n := 46) e (by decide)), fun h e => h (by rw [e]; rfl)⟩
                have R2 := R.setS hij ch
                have R3 := R2.setC hij ch
                have HRZ := Lib.hid R.Z
                have HRT := Lib.hid R.TZ
                have hn1 : w.heap.size ≠ w2.heap.size + 1 := by have := R.gz; have := R.gb; have := R.cb; omega
                have hn2 : w.heap.size ≠ gc := by have := R.gz; have := R.gb; omega
                rw [← hbt] at R2
                rw [hvc, ← hbt] at R3
                have q3 := R2.X.2.2
                have fC := R2.cells.frozen k
                obtain ⟨vC, cC⟩ := R2.cells.cellAt hij
                have es : (arrA (y * W) W j X.data.toList (sufL r i)).set k (some ch) = arrA (y * W) W (j + 1) X.data.toList (sufL r i) := by rw [← hk]; exact arr_set hjW hch
                rw [es] at R3
                have HR3 := Lib.hid R3
                have HPV := Lib.hid hpv
                have HCH := Lib.hid hch
                have HALL2 := Lib.hid hall
                have j0 : (0 : Int) ≤ (j : Int) := by omega
                have j1 : (j : Int) < (X.size : Int) := by omega
                clear hch hbt hvc R2 R3 hpv hall hk R es
                go_wp2_with fail
                go_region
                all_goals
                  go_wp2_with fail
                  refine (sgn.out _).mono ?_; rintro e w4 ⟨rfl, rfl⟩
                  have R3 := HR3.out
                  have R4 := R3.drew
                  cases pv
                  · have HNO := Lib.hid (rows_no_sign HX.out HCH.out HPV.out)
                    have f1 := HRT.out.2 0
                    have f2 := HRT.out.2 1
                    have f3 := HRT.out.2 2
                    have k1 := HRZ.out.1
                    have k2 := HRZ.out.2.1
                    have k3 := HRZ.out.2.2
                    have k4 := R3.Z.1
                    have k5 := R3.Z.2.1
                    have k6 := R3.Z.2.2
                    go_wp2_with fail
                    exact bodyPost_ret (v := .tuple #[.agg #[.int .i64 0, .int .i64 0, .slice none 0 0], .slice none 0 0, .bool false]) (by simp [results, Tryd.results17, go_sem, k4, k5, k6]) rfl (.inr ⟨by rw [HR.out]; exact HNO.out, rfl, R4.fin⟩)
                  · go_wp2_with fail
                    go_roundg (W - (j + 1) + 1)
                    case measure => omega
                    case rel => exact ⟨j + 1, by omega, rfl, by go_num, by rw [take_snoc HCH.out, List.all_append, HALL2.out]; simp [HPV.out], R4⟩
              · have ej : j = W := by omega
                subst ej
                rw [← HY.out, arr_full HXW.out HX.out] at R
                rw [List.take_of_length_le (by rw [HXW.out]; exact Nat.le_refl _)] at hall
                have HALL2 := Lib.hid hall
                clear hall
                go_wp2_with fail
                go_roundg (T - (i + 1) + 1)
                case measure => omega
                case rel =>
                  refine ⟨i + 1, by omega, rfl, by go_num, fun a ha => ?_, R⟩
                  rw [take_snoc HX.out] at ha
                  rcases List.mem_append.1 ha with ha | ha
                  · exact HALL.out a ha
                  · obtain rfl := List.mem_singleton.1 ha
                    exact ⟨HXW.out, HALL2.out⟩
          · have hne : ((X.size : Int) != (W : Int)) = true := by rw [bne_iff_ne]; omega
            have HNO := Lib.hid (rows_no_width (P := P) HX.out (by rw [HXL.out, ← HW0.out]; exact hXW))
            have f1 := R.TZ.2 0
            have f2 := R.TZ.2 1
            have f3 := R.TZ.2 2
            have k4 := R.Z.1
            have k5 := R.Z.2.1
            have k6 := R.Z.2.2
            clear hXW
            go_wp2_with fail
            exact bodyPost_ret (v := .tuple #[.agg #[.int .i64 0, .int .i64 0, .slice none 0 0], .slice none 0 0, .bool false]) (by simp [results, Tryd.results17, go_sem, k4, k5, k6]) rfl (.inr ⟨by rw [HR.out]; exact HNO.out, rfl, R.fin⟩)
        · have ei : i = T := by omega
          subst ei
          have hall := HALL.out
          rw [List.take_of_length_le (by rw [HTr.out]; exact Nat.le_refl _)] at hall
          have e0 := out_full W r
          rw [HTr.out] at e0
          rw [e0] at R
          have OK := Lib.hid (rowsOk_mk (P := P) (r := r) (by rw [← HW0.out]; exact HIW.out) (by rw [HTr.out]; exact HIT.out) (fun a ha => ⟨by rw [← HW0.out]; exact (hall a ha).1, (hall a ha).2⟩))
          have hml : m = (signsL r).length := by
            have := signs_len (fun a ha => (hall a ha).1)
            rw [HTr.out, HM.out] at this; exact this.symm
          have HML := Lib.hid hml
          have sC : Sl wo (some ⟨gc, 0, none⟩) m (((signsL r).map onS).map .bool) := by have := R.cells.sl; rwa [map_oV] at this
          have k1 := R.X.1
          have k2 := R.X.2.1
          have k3 := R.X.2.2
          have k4 := R.Z.1
          have k5 := R.Z.2.1
          have k6 := R.Z.2.2
          have hne1 : w.heap.size ≠ w2.heap.size := by have := R.gz; have := R.gb; have := R.cb; omega
          have hne2 : w2.heap.size ≠ w.heap.size := fun e => hne1 e.symm
          clear hall e0 hml
          obtain ⟨vb, hvb⟩ : ∃ vb, validB (W : Int) (i : Int) m ((signsL r).map onS) = vb := ⟨_, rfl⟩
          have HVB := Lib.hid hvb
          have val : Hid (∀ w', Below wo.heap.size wo w' → Calls Tryd.prog 31 #[.agg #[.int .i64 W, .int .i64 i, .slice (some ⟨gc, 0, none⟩) m m]] w' fun e w'' => e = .returned (.bool vb) ∧ Below w'.heap.size w' w'') := by
            show ∀ w', _
            intro w' hb
            rw [← hvb]
            exact valid_impl _ m m W i _ w' (by omega) (sC.below hb)
          clear hvb sC
          go_wp2_with fail
          go_region_held3 (fun w' => w'.cell? ⟨w2.heap.size, 0, none⟩ = some (.int .i64 W) ∧ w'.cell? ⟨w2.heap.size, 1, none⟩ = some (.int .i64 i) ∧ w'.cell? ⟨w2.heap.size, 2, none⟩ = some (.slice (some ⟨gc, 0, none⟩) m m))
            (first | exact ⟨k1, k2, k3⟩ | exact ⟨c1, c2, c3⟩ | go_keep)
            (first
              | (go_at_call 31; refine (val.out _ (Below.refl _ _).drew).mono ?_; rintro e w4 ⟨rfl, hb4⟩; have R5 := R.drew.below hb4; have c1 := R5.X.1; have c2 := R5.X.2.1; have c3 := R5.X.2.2; have c4 := R5.Z.1; have c5 := R5.Z.2.1; have c6 := R5.Z.2.2; have f1 := R5.TZ.2 0; have f2 := R5.TZ.2 1; have f3 := R5.TZ.2 2)
              | fail)
          all_goals
            go_wp2_with fail
            have OC := R5.outC (v0 := .int .i64 W) (v1 := .int .i64 i) (v2 := .slice (some ⟨gc, 0, none⟩) m m)
            have OS := R5.outS (v0 := .int .i64 W) (v1 := .int .i64 i) (v2 := .slice (some ⟨gc, 0, none⟩) m m)
            rw [map_oV] at OC
            rw [map_bV] at OS
            exact bodyPost_ret (v := .tuple #[.agg #[.int .i64 W, .int .i64 i, .slice (some ⟨gc, 0, none⟩) m m], .slice (some ⟨w2.heap.size + 1, 0, none⟩) m m, .bool vb]) (by simp [results, Tryd.results17, go_sem, c4, c5, c6]) rfl
              (.inl (by rw [HR.out, HTr.out, ← HW0.out]; exact ⟨OK.out, gc, w2.heap.size + 1, m, HML.out, by rw [HVB.out], OC, OS, R5.fin⟩))
    · have e2 : inB (T : Int) 1 6 = false := by simpa using hit
      have HNO := Lib.hid (rows_no_tall (P := P) (r := r) (by rw [HTr.out]; exact e2))
      clear hit
      have f1 := t1.2 0
      have f2 := t1.2 1
      have f3 := t1.2 2
      have k4 := r1.1
      have k5 := r1.2.1
      have k6 := r1.2.2
      go_wp2_with (go_at_call 29; refine (in_any _ _ _ _).mono ?_; rintro e w' ⟨rfl, rfl⟩)
      exact bodyPost_ret (v := .tuple #[.agg #[.int .i64 0, .int .i64 0, .slice none 0 0], .slice none 0 0, .bool false]) (by simp [results, Tryd.results17, go_sem, k4, k5, k6]) rfl (.inr ⟨by rw [HR.out]; exact HNO.out, rfl, NO0.out⟩)
  · have e2 : inB (W : Int) 1 6 = false := by simpa using hiw
    have HNO := Lib.hid (rows_no_wide (P := P) (r := r) (by rw [← HW0.out]; exact e2))
    clear hiw
    have f1 := t1.2 0
    have f2 := t1.2 1
    have f3 := t1.2 2
    have k4 := r1.1
    have k5 := r1.2.1
    have k6 := r1.2.2
    go_wp2_with (go_at_call 29; refine (in_any _ _ _ _).mono ?_; rintro e w' ⟨rfl, rfl⟩)
    exact bodyPost_ret (v := .tuple #[.agg #[.int .i64 0, .int .i64 0, .slice none 0 0], .slice none 0 0, .bool false]) (by simp [results, Tryd.results17, go_sem, k4, k5, k6]) rfl (.inr ⟨by rw [HR.out]; exact HNO.out, rfl, NO0.out⟩)

end Go.Proofs.YtepnhhehfkcgkaaDoor
