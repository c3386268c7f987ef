/-
  ReadRegion of the program: what it returns.
-/
import Derived.Test.YtepnhhehfkcgkaaDoorReadI
import Derived.Test.YtepnhhehfkcgkaaDoorReadS
namespace Go.Proofs.YtepnhhehfkcgkaaDoor
open Go.RowKit Go.PlainAid

theorem u8_beq {c d : UInt8} : ((c.toNat : Int) == (d.toNat : Int)) = (c == d) := by
  rw [Bool.eq_iff_iff, beq_iff_eq, beq_iff_eq]
  exact ⟨fun h => UInt8.toNat_inj.1 (by omega), fun h => by rw [h]⟩
theorem signs_small (S : ByteArray) : (signsL (cutL S.data.toList)).length ≤ S.size := by
  have h1 := flat_le S
  have h2 := preL_len (cutL S.data.toList) (cutL S.data.toList).length
  rw [preL_full] at h2
  omega

theorem signR_any (c : UInt8) (w : World) : Calls Tryd.prog 18 #[.int .u8 (c.toNat : Int)] w fun e w' => e = .returned (.bool (signR2 c)) ∧ w' = w := by
  have h1 : ((c.toNat : Int) == 35) = (c == 35) := u8_beq (d := 35)
  have h2 : ((c.toNat : Int) == 46) = (c == 46) := u8_beq (d := 46)
  have E : Hid (signR2 c = (c == 35 || c == 46)) := rfl
  rw [E.out]
  obtain ⟨a, ha⟩ : ∃ a, (c == 35) = a := ⟨_, rfl⟩
  obtain ⟨b, hb⟩ : ∃ b, (c == 46) = b := ⟨_, rfl⟩
  rw [ha] at h1
  rw [hb] at h2
  rw [ha, hb]
  clear ha hb
  cases a
  · go_enter Tryd.func18, Tryd.ntmps18
    go_wp2_with fail
    go_ret
    exact ⟨rfl, rfl⟩
  · go_enter Tryd.func18, Tryd.ntmps18
    go_wp2_with fail
    go_ret
    exact ⟨rfl, rfl⟩

set_option maxHeartbeats 1000000 in
theorem read_impl (S : ByteArray) (w : World) (hs : S.size ≤ 1048576) :
    Calls Tryd.prog 6 #[.string S] w fun e w' => OutRB w w' e (rdW S) (rdT S) (rdC S) (rdB S) := by
  have hsm := signs_small S
  go_enter Tryd.func6, Tryd.ntmps6
  go_wp2_with fail
  refine (rows_reg signR2 S _ hs (fun c w' => signR_any c w')).mono ?_
  rintro e w1 (⟨ok, gc, gs, n, hn, rfl, oC, oS, hb1⟩ | ⟨no, rfl, hb1⟩)
  · have z1 : w.heap.size + 1 ≤ w1.heap.size := by have h := hb1.size; simp only [World.size_alloc] at h; exact h
    have t1 := (Thaw.new w #[.int .i64 0, .int .i64 0, .slice none 0 0] 24).below hb1
    have r1 := (Box.new w (.int .i64 0) (.int .i64 0) (.slice none 0 0) 24).below hb1
    have B1 := belowW (below1 w _) hb1
    obtain ⟨vb, hvb⟩ : ∃ vb, validB (rowW (cutL S.data.toList)) ((cutL S.data.toList).length : Nat) n ((signsL (cutL S.data.toList)).map onS) = vb := ⟨_, rfl⟩
    rw [hvb]
    have E : Hid (rdB S = vb) := by show _ = _; rw [rdB, regOkL, ok, Bool.true_and, ← hn, hvb]
    obtain ⟨cs, hcs⟩ : ∃ cs, (signsL (cutL S.data.toList)).map onS = cs := ⟨_, rfl⟩
    have hcl : cs.length = n := by rw [← hcs, List.length_map, hn]
    obtain ⟨Wd, hWd⟩ : ∃ Wd : Int, ((rowW (cutL S.data.toList) : Nat) : Int) = Wd := ⟨_, rfl⟩
    obtain ⟨Td, hTd⟩ : ∃ Td : Int, (((cutL S.data.toList).length : Nat) : Int) = Td := ⟨_, rfl⟩
    rw [hWd, hTd]
    have EY : Hid (vb = true → rdW S = Wd ∧ rdT S = Td ∧ rdC S = cs) := by
      show vb = true → _
      intro h
      obtain ⟨e1, e2, e3⟩ := rd_yes (S := S) (by rw [E.out]; exact h)
      exact ⟨e1.trans hWd, e2.trans hTd, e3.trans hcs⟩
    have f1 := t1.2 0
    have f2 := t1.2 1
    have f3 := t1.2 2
    have k4 := r1.1
    have k5 := r1.2.1
    have k6 := r1.2.2
    have hn0 : w.heap.size ≠ w1.heap.size := by omega
    have oC' : Own w1 (w.heap.size + 1) w1.heap.size 4 (some ⟨gc, 0, none⟩) n n (cs.map .bool) := by rw [← hcs]; exact oC.base (by simp)
    have hnn : n ≤ 1048576 := by omega
    have t2 := t1.alloc (.cells #[.int .i64 Wd, .int .i64 Td, .slice (some ⟨gc, 0, none⟩) n n] 24)
    have f4 := t2.2 0
    have f5 := t2.2 1
    have f6 := t2.2 2
    clear hcs hWd hTd hvb oC oS hsm hb1 hn t1 t2
    have r2 := r1.alloc (.cells #[.int .i64 Wd, .int .i64 Td, .slice (some ⟨gc, 0, none⟩) n n] 24)
    have k7 := r2.1
    have k8 := r2.2.1
    have k9 := r2.2.2
    cases vb
    · go_wp2_with fail
      obtain ⟨e1, e2, e3⟩ := rd_no E.out
      exact bodyPost_ret (v := .tuple #[.agg #[.int .i64 0, .int .i64 0, .slice none 0 0], .bool false]) (by simp [results, Tryd.results6, go_sem, k7, k8, k9]) rfl (by rw [e1, e2, e3, E.out]; exact outRB_zero w ((((belowA B1).setCell (Nat.le_refl _) _).setCell (Nat.le_refl _) _).setCell (Nat.le_refl _) _))
    · go_wp2_with fail
      obtain ⟨e1, e2, e3⟩ := EY.out (by trivial)
      have o9 : Own ((((w1.alloc (.cells #[.int .i64 Wd, .int .i64 Td, .slice (some ⟨gc, 0, none⟩) n n] 24)).setCell ⟨w.heap.size, 0, none⟩ (.int .i64 Wd)).setCell ⟨w.heap.size, 1, none⟩ (.int .i64 Td)).setCell ⟨w.heap.size, 2, none⟩ (.slice (some ⟨gc, 0, none⟩) n n)) w.heap.size ((((w1.alloc (.cells #[.int .i64 Wd, .int .i64 Td, .slice (some ⟨gc, 0, none⟩) n n] 24)).setCell ⟨w.heap.size, 0, none⟩ (.int .i64 Wd)).setCell ⟨w.heap.size, 1, none⟩ (.int .i64 Td)).setCell ⟨w.heap.size, 2, none⟩ (.slice (some ⟨gc, 0, none⟩) n n)).heap.size 4 (some ⟨gc, 0, none⟩) n n (cs.map .bool) := by
        refine (((((oC'.alloc _).setBelow ?_ _).setBelow ?_ _).setBelow ?_ _).base (by omega)).top (by simp) <;> show w.heap.size < w.heap.size + 1 <;> omega
      exact bodyPost_ret (v := .tuple #[.agg #[.int .i64 Wd, .int .i64 Td, .slice (some ⟨gc, 0, none⟩) n n], .bool true]) (by simp [results, Tryd.results6, go_sem, k7, k8, k9]) rfl (by rw [e1, e2, e3, E.out]; exact OutRB.mk hcl (by omega) o9 ((((belowA B1).setCell (Nat.le_refl _) _).setCell (Nat.le_refl _) _).setCell (Nat.le_refl _) _))
  · have t1 := (Thaw.new w #[.int .i64 0, .int .i64 0, .slice none 0 0] 24).below hb1
    have r1 := (Box.new w (.int .i64 0) (.int .i64 0) (.slice none 0 0) 24).below hb1
    have B1 := belowW (below1 w _) hb1
    have z1 : w.heap.size + 1 ≤ w1.heap.size := by have h := hb1.size; simp only [World.size_alloc] at h; exact h
    have E : Hid (rdB S = false) := by show _ = _; rw [rdB, regOkL, no]; rfl
    have f1 := t1.2 0
    have f2 := t1.2 1
    have f3 := t1.2 2
    have k4 := r1.1
    have k5 := r1.2.1
    have k6 := r1.2.2
    have hn0 : w.heap.size ≠ w1.heap.size := by omega
    have r2 := r1.alloc (.cells #[.int .i64 0, .int .i64 0, .slice none 0 0] 24)
    have k7 := r2.1
    have k8 := r2.2.1
    have k9 := r2.2.2
    have t2 := t1.alloc (.cells #[.int .i64 0, .int .i64 0, .slice none 0 0] 24)
    have f4 := t2.2 0
    have f5 := t2.2 1
    have f6 := t2.2 2
    clear no hsm hb1 t1 t2
    go_wp2_with fail
    obtain ⟨e1, e2, e3⟩ := rd_no E.out
    exact bodyPost_ret (v := .tuple #[.agg #[.int .i64 0, .int .i64 0, .slice none 0 0], .bool false]) (by simp [results, Tryd.results6, go_sem, k7, k8, k9]) rfl (by rw [e1, e2, e3, E.out]; exact outRB_zero w ((((belowA B1).setCell (Nat.le_refl _) _).setCell (Nat.le_refl _) _).setCell (Nat.le_refl _) _))

end Go.Proofs.YtepnhhehfkcgkaaDoor
