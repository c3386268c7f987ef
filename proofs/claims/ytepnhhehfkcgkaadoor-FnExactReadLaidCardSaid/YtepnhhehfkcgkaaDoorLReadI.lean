/-
  ReadLaid of the program: what it returns.
-/
import Derived.Test.YtepnhhehfkcgkaaDoorReadR
import Derived.Test.YtepnhhehfkcgkaaDoorLReadM
import Derived.Test.YtepnhhehfkcgkaaDoorLaysD
import Derived.Test.YtepnhhehfkcgkaaDoorLaid
namespace Go.Proofs.YtepnhhehfkcgkaaDoor
open Go.RowKit Go.PlainAid

theorem idx_any (c : UInt8) (w : World) : Calls Tryd.prog 24 #[.string ⟨#[35, 101, 110, 119, 115]⟩, .int .u8 (c.toNat : Int)] w fun e w' => e = .returned (.int .i64 (idxS c)) ∧ w' = w := by
  have m := Any.strings_IndexByte Tryd.lays137 ⟨#[35, 101, 110, 119, 115]⟩ (c.toNat : Int) w
  have e1 : (c.toNat : Int).toNat.toUInt8 = c := by rw [Int.toNat_natCast]; exact UInt8.ofNat_toNat
  have e2 : Lib.indexByte (ByteArray.mk #[35, 101, 110, 119, 115]).data.toList (c.toNat : Int).toNat.toUInt8 = idxS c := by rw [e1]; exact idxS_byte c
  rw [e2] at m
  exact m

set_option maxHeartbeats 400000 in
theorem signL_any (c : UInt8) (w : World) : Calls Tryd.prog 23 #[.int .u8 (c.toNat : Int)] w fun e w' => e = .returned (.bool (signL2 c)) ∧ w' = w := by
  have h2 : ((c.toNat : Int) == 46) = (c == 46) := u8_beq (d := 46)
  have E := Lib.hid (idxS_sign c)
  rw [E.out]
  obtain ⟨a, ha⟩ : ∃ a, (c == 46) = a := ⟨_, rfl⟩
  rw [ha] at h2
  rw [ha]
  clear ha
  cases a
  · go_enter Tryd.func23, Tryd.ntmps23
    go_wp2_with (go_at_call 24; refine (idx_any c _).mono ?_; rintro e w' ⟨rfl, rfl⟩)
    go_ret
    exact ⟨rfl, rfl⟩
  · go_enter Tryd.func23, Tryd.ntmps23
    go_wp2_with fail
    go_ret
    exact ⟨rfl, rfl⟩

set_option maxRecDepth 100000 in
set_option maxHeartbeats 2000000 in
theorem lread_impl (S : ByteArray) (w : World) (hs : S.size ≤ 1048576) :
    Calls Tryd.prog 11 #[.string S] w fun e w' => OutRLB w w' e (ldW S) (ldT S) (ldC S) (ldZ S) (ldB S) := by
  have hsm := signs_small S
  go_enter Tryd.func11, Tryd.ntmps11
  go_wp2_with fail
  refine (rows_lay signL2 S _ hs (fun c w' => signL_any c w')).mono ?_
  rintro e w1 (⟨ok, gc, gs, n, hn, rfl, oC, oS, hb1⟩ | ⟨no, rfl, hb1⟩)
  · have z1 : w.heap.size + 1 ≤ w1.heap.size := by have h := hb1.size; simp only [World.size_alloc] at h; exact h
    have t1 := (Thaw.new w #[.int .i64 0, .int .i64 0, .slice none 0 0] 24).below hb1
    have r1 := (Box.new w (.int .i64 0) (.int .i64 0) (.slice none 0 0) 24).below hb1
    have B1 := belowW (below1 w _) hb1
    obtain ⟨b1, b2, hall, _⟩ := rows_of ok
    have hnWT : n = rowW (cutL S.data.toList) * (cutL S.data.toList).length := by rw [hn, signs_len hall]
    obtain ⟨vb, hvb⟩ : ∃ vb, validB (rowW (cutL S.data.toList)) ((cutL S.data.toList).length : Nat) n ((signsL (cutL S.data.toList)).map onS) = vb := ⟨_, rfl⟩
    rw [hvb]
    have E : Hid (ldB S = (vb && laysAll (rowW (cutL S.data.toList)) (cutL S.data.toList).length ((signsL (cutL S.data.toList)).map onS) ((signsL (cutL S.data.toList)).map wayS) n)) := by
      show _ = _
      rw [ldB, laidOkL, ok, Bool.true_and, ← hn, laidB, hvb, decide_eq_true rfl, Bool.true_and]; rfl
    obtain ⟨sg, hsg⟩ : ∃ sg, signsL (cutL S.data.toList) = sg := ⟨_, rfl⟩
    obtain ⟨Wn, hWn⟩ : ∃ Wn, rowW (cutL S.data.toList) = Wn := ⟨_, rfl⟩
    obtain ⟨Tn, hTn⟩ : ∃ Tn, (cutL S.data.toList).length = Tn := ⟨_, rfl⟩
    have EY : Hid (ldB S = true → ldW S = Wn ∧ ldT S = Tn ∧ ldC S = sg.map onS ∧ ldZ S = sg.map wayS) := by
      show ldB S = true → _
      intro h
      obtain ⟨e1, e2, e3, e4⟩ := ld_yes h
      rw [e1, e2, e3, e4, hsg, hWn, hTn]
      exact ⟨rfl, rfl, rfl, rfl⟩
    rw [hsg, hWn, hTn] at E hvb
    rw [hsg] at oC oS hn
    rw [hWn, hTn] at hnWT
    rw [hWn] at b1
    rw [hTn] at b2
    rw [hWn, hTn]
    have HVB := Lib.hid hvb
    have HN := Lib.hid hn
    have HNWT := Lib.hid hnWT
    have hnn : n ≤ 1048576 := by rw [hsg] at hsm; omega
    have f1 := t1.2 0
    have f2 := t1.2 1
    have f3 := t1.2 2
    have k4 := r1.1
    have k5 := r1.2.1
    have k6 := r1.2.2
    have hn0 : w.heap.size ≠ w1.heap.size := by omega
    have r2 := r1.alloc (.cells #[.int .i64 Wn, .int .i64 Tn, .slice (some ⟨gc, 0, none⟩) n n] 24)
    have t2 := t1.alloc (.cells #[.int .i64 Wn, .int .i64 Tn, .slice (some ⟨gc, 0, none⟩) n n] 24)
    have oC' : Own (w1.alloc (.cells #[.int .i64 Wn, .int .i64 Tn, .slice (some ⟨gc, 0, none⟩) n n] 24)) (w.heap.size + 1) w1.heap.size 4 (some ⟨gc, 0, none⟩) n n ((sg.map onS).map .bool) := (oC.base (by simp)).alloc _
    have oS' := (oS.base (show w.heap.size + 1 ≤ _ by simp)).alloc (.cells #[.int .i64 Wn, .int .i64 Tn, .slice (some ⟨gc, 0, none⟩) n n] 24)
    have f4 := t2.2 0
    have f5 := t2.2 1
    have f6 := t2.2 2
    have k7 := r2.1
    have k8 := r2.2.1
    have k9 := r2.2.2
    clear hsg hWn hTn hvb oC oS hsm hb1 hn hnWT ok hall
    cases vb
    · have E2 : Hid (ldB S = false) := by show _ = _; rw [E.out]; rfl
      go_wp2_with fail
      obtain ⟨e1, e2, e3, e4⟩ := ld_no E2.out
      exact bodyPost_ret (v := .tuple #[.agg #[.int .i64 0, .int .i64 0, .slice none 0 0], .slice none 0 0, .bool false]) (by simp [results, Tryd.results11, go_sem, k7, k8, k9]) rfl (by rw [e1, e2, e3, e4, E2.out]; exact outRLB_nil w ((((belowA B1).setCell (Nat.le_refl _) _).setCell (Nat.le_refl _) _).setCell (Nat.le_refl _) _))
    · obtain ⟨i0, hi0, hz0, hz1, hz2⟩ := info_parts Tryd.infoInt
      go_wp2_with (at_make; go_loud (refine wpList_make_full _ rfl _ _ 30 rfl (w1.heap.size + 1) 3 i0 (.int .i64 0) 1 Tryd.underlying30 hi0 hz0 hz1 .i64 .i64 (n : Int) (n : Int) n rfl rfl rfl rfl (by rw [hz2]; omega) (by unfold maxLen; omega) (by simp) ?_; intro w3 hown3 hg3; have O3 := Own.mk hown3))
      obtain ⟨Wv, Tv, eW, eT, V⟩ := valid_of HVB.out (by rw [List.length_map, HN.out])
      have hb3 : Below (w1.alloc (.cells #[.int .i64 Wn, .int .i64 Tn, .slice (some ⟨gc, 0, none⟩) n n] 24)).heap.size (w1.alloc (.cells #[.int .i64 Wn, .int .i64 Tn, .slice (some ⟨gc, 0, none⟩) n n] 24)) w3 := ⟨hg3.os, hg3.tape, hg3.output, hg3.size, fun b hb => hg3.block b hb (by simp)⟩
      have O4 : Own w3 (w1.heap.size + 1) w3.heap.size 3 (some ⟨w1.heap.size + 1, 0, none⟩) n n (wayA n 0 sg) := by
        rw [wayA_zero]
        simpa [Value.cells, toList_madeCells_one] using O3
      have z3 := (O4.2 _ 0 rfl).2
      have R3 : Lq w w1.heap.size gc gs n Wn Tn (sg.map onS) sg (wayA n 0 sg) w3 :=
        ⟨z1, (oS'.2 gs 0 rfl).2, r2.below hb3, t2.below hb3, (Box.new _ _ _ _ _).below hb3, oC'.below hb3, oS'.sl.below hb3, ⟨O4.1, fun b off hA => ⟨(O4.2 b off hA).1, by injection hA with hA; injection hA with h4 _ _; omega⟩⟩, belowW (belowA B1) hb3, by omega⟩
      have eW' : Wv = Wn := by omega
      have eT' : Tv = Tn := by omega
      subst eW' eT'
      clear hb3 O3 O4 hown3 hg3 oC' oS' r1 r2 t1 t2 B1 hi0 hz0 hz1 hz2 f1 f2 f3 f4 f5 f6 k4 k5 k6 k7 k8 k9 eW eT
      have HV := Lib.hid V
      clear V
      go_wp2_with fail
      go_loopg [9, 10, 25] (n + 1) (fun gk _ _ s25 wx => ∃ k : Nat, k ≤ n ∧ gk = n - k + 1 ∧ s25 = .int .i64 k ∧ Lq w w1.heap.size gc gs n Wv Tv (sg.map onS) sg (wayA n k sg) wx)
      case atStart => exact ⟨0, Nat.zero_le _, rfl, rfl, R3⟩
      case round =>
        clear R3
        obtain ⟨k, hk, rfl, rfl, R⟩ := hrel
        by_cases hkn : k < n
        · have hkl : k < sg.length := by have := HN.out; omega
          obtain ⟨c, hc⟩ : ∃ c, sg[k]? = some c := ⟨_, List.getElem?_eq_getElem hkl⟩
          have c1 := R.sign hc
          obtain ⟨x, hx⟩ : ∃ x, idxS c = x := ⟨_, rfl⟩
          have hxl := idxS_le c
          have hw := idxS_way c
          have idx : Hid (∀ w', Calls Tryd.prog 24 #[.string ⟨#[35, 101, 110, 119, 115]⟩, .int .u8 (c.toNat : Int)] w' fun e w'' => e = .returned (.int .i64 x) ∧ w'' = w') := by
            show ∀ w', _
            intro w'
            rw [← hx]
            exact idx_any c w'
          rw [hx] at hxl hw
          have fL := R.laid.frozen k
          obtain ⟨vL, cL⟩ := R.laid.cellAt hkn
          have R2 := R.set hkn (wayS c)
          rw [wayA_set hkn hc] at R2
          have HR2 := Lib.hid R2
          have HW := Lib.hid hw
          have p0 : (0 : Int) ≤ (k : Int) := by omega
          have p1 : (k : Int) < (n : Int) := by omega
          clear hc hx hkl R R2 hw
          have hw : wayS c = max 0 x := by rw [HW.out]; split <;> omega
          have R3 := HR2.out
          rw [hw] at R3
          have HR3 := Lib.hid R3
          clear hw R3
          go_wp2_with (go_at_call 24; refine (idx.out _).mono ?_; rintro e w' ⟨rfl, rfl⟩)
          go_roundg (n - (k + 1) + 1)
          case measure => omega
          case rel => exact ⟨k + 1, by omega, rfl, by go_num, HR3.out⟩
        · have ek : k = n := by omega
          subst ek
          rw [wayA_full HN.out] at R
          have k1 := R.X.1
          have k2 := R.X.2.1
          have k3 := R.X.2.2
          go_wp2_with fail
          refine (lays_any (some ⟨gc, 0, none⟩) k k Wv Tv (sg.map onS) (some ⟨w1.heap.size + 1, 0, none⟩) k k (sg.map wayS) _ HV.out R.cells.sl hnn R.laid.sl).mono ?_; rintro e w4 ⟨rfl, hb4⟩
          rw [decide_eq_true rfl, Bool.true_and]
          obtain ⟨lv, hlv⟩ : ∃ lv, laysAll Wv Tv (sg.map onS) (sg.map wayS) k = lv := ⟨_, rfl⟩
          rw [hlv]
          have E2 : Hid (ldB S = lv) := by show _ = _; rw [E.out, hlv]; rfl
          have R5 := R.below hb4
          clear hlv hb4 R k1 k2 k3
          have k1 := R5.X.1
          have k2 := R5.X.2.1
          have k3 := R5.X.2.2
          have k4 := R5.Z.1
          have k5 := R5.Z.2.1
          have k6 := R5.Z.2.2
          have f1 := R5.TZ.2 0
          have f2 := R5.TZ.2 1
          have f3 := R5.TZ.2 2
          cases lv
          · go_wp2_with fail
            obtain ⟨e1, e2, e3, e4⟩ := ld_no E2.out
            exact bodyPost_ret (v := .tuple #[.agg #[.int .i64 0, .int .i64 0, .slice none 0 0], .slice none 0 0, .bool false]) (by simp [results, Tryd.results11, go_sem, k4, k5, k6]) rfl (by rw [e1, e2, e3, e4, E2.out]; exact outRLB_nil w R5.fin)
          · go_wp2_with fail
            obtain ⟨e1, e2, e3, e4⟩ := EY.out E2.out
            have OC := R5.outC (v0 := .int .i64 Wv) (v1 := .int .i64 Tv) (v2 := .slice (some ⟨gc, 0, none⟩) k k)
            have OL := R5.outL (v0 := .int .i64 Wv) (v1 := .int .i64 Tv) (v2 := .slice (some ⟨gc, 0, none⟩) k k)
            have gcb := (R5.cells.2 gc 0 rfl).2
            exact bodyPost_ret (v := .tuple #[.agg #[.int .i64 Wv, .int .i64 Tv, .slice (some ⟨gc, 0, none⟩) k k], .slice (some ⟨w1.heap.size + 1, 0, none⟩) k k, .bool true]) (by simp [results, Tryd.results11, go_sem, k4, k5, k6]) rfl
              (by rw [e1, e2, e3, e4, E2.out]; exact OutRLB.mk (by rw [List.length_map, HN.out]) (by rw [List.length_map, HN.out]) (by omega) (by omega) OC OL (fun b off hA => by injection hA with hA; injection hA with h4 _ _; simp only [Option.map_some, ne_eq, Option.some.injEq]; omega) (fun b off hA => by injection hA with hA; injection hA with h4 _ _; simp only [Option.map_some, ne_eq, Option.some.injEq]; omega) R5.fin)
  · have t1 := (Thaw.new w #[.int .i64 0, .int .i64 0, .slice none 0 0] 24).below hb1
    have r1 := (Box.new w (.int .i64 0) (.int .i64 0) (.slice none 0 0) 24).below hb1
    have B1 := belowW (below1 w _) hb1
    have z1 : w.heap.size + 1 ≤ w1.heap.size := by have h := hb1.size; simp only [World.size_alloc] at h; exact h
    have E : Hid (ldB S = false) := by show _ = _; rw [ldB, laidOkL, no]; rfl
    have f1 := t1.2 0
    have f2 := t1.2 1
    have f3 := t1.2 2
    have k4 := r1.1
    have k5 := r1.2.1
    have k6 := r1.2.2
    have hn0 : w.heap.size ≠ w1.heap.size := by omega
    have r2 := r1.alloc (.cells #[.int .i64 0, .int .i64 0, .slice none 0 0] 24)
    have t2 := t1.alloc (.cells #[.int .i64 0, .int .i64 0, .slice none 0 0] 24)
    have f4 := t2.2 0
    have f5 := t2.2 1
    have f6 := t2.2 2
    have k7 := r2.1
    have k8 := r2.2.1
    have k9 := r2.2.2
    clear no hsm hb1 t1 t2
    go_wp2_with fail
    obtain ⟨e1, e2, e3, e4⟩ := ld_no E.out
    exact bodyPost_ret (v := .tuple #[.agg #[.int .i64 0, .int .i64 0, .slice none 0 0], .slice none 0 0, .bool false]) (by simp [results, Tryd.results11, go_sem, k7, k8, k9]) rfl (by rw [e1, e2, e3, e4, E.out]; exact outRLB_nil w ((((belowA B1).setCell (Nat.le_refl _) _).setCell (Nat.le_refl _) _).setCell (Nat.le_refl _) _))

end Go.Proofs.YtepnhhehfkcgkaaDoor
