/-
  ForcedOf of the reference: what it returns.
-/
import Derived.Test.YtcnkpcnbobiodaaForced
namespace Go.Proofs.Ytcnkpcnbobiodaa
open Go.RowKit

theorem forG_none {W T n : Nat} {bs : List Bool} (h : Til.cntA W T n 0 bs = 0) : ∀ k q, forG W T n bs k q = false := by
  intro k q
  rw [forG, h]
  cases onR bs k <;> rfl

set_option maxRecDepth 100000 in
set_option maxHeartbeats 4000000 in
theorem forced_spec (A : Option Addr) (n c : Nat) (W T : Int) (bs : List Bool) (w : World) (hn : n ≤ 1048576) (h : Sl w A n (bs.map .bool)) :
    Calls Try.prog 23 #[.agg #[.int .i64 W, .int .i64 T, .slice A n c]] w fun e w' => OutL w w' e (forcedF W T n bs) := by
  have hl := h.1
  rw [List.length_map] at hl
  have x0 := (P1.new w (.int .i64 W) (.int .i64 T) (.slice A n c) 27).alloc (.cells #[] 3)
  have o0 : Own ((w.alloc (.cells #[.int .i64 W, .int .i64 T, .slice A n c] 27)).alloc (.cells #[] 3)) (w.heap.size + 1) (w.heap.size + 2) 3 (some ⟨w.heap.size + 1, 0, none⟩) 0 0 [] := by
    simpa using Own.made (w := w.alloc (.cells #[.int .i64 W, .int .i64 T, .slice A n c] 27)) (base := w.heap.size + 1) (e := 3) (cs := #[]) (n := 0) (by simp) (by unfold maxLen; omega) rfl
  have k1 := x0.X.1
  have k2 := x0.X.2.1
  have k3 := x0.X.2.2
  by_cases hcase : validB W T n bs = true ∧ 0 < tilF W T n bs
  · obtain ⟨hv, htp⟩ := hcase
    obtain ⟨W, T, rfl, rfl, V⟩ := valid_of hv hl
    have n36 := V.n36
    have HV := Lib.hid hv
    have E : Hid (forcedF W T n bs = forL (forG W T n bs) n) := by show _ = _; rw [forcedF, if_pos hv]; rfl
    rw [E.out]
    obtain ⟨tot, htot⟩ : ∃ tot, Til.cntA W T n 0 bs = tot := ⟨_, rfl⟩
    have hTF : tilF W T n bs = (tot : Int) := by rw [tilF, if_pos hv, Int.toNat_natCast, Int.toNat_natCast, htot]
    have htl : tot ≤ 68719476736 := by rw [← htot]; exact tot_le _ _ _ _ n36
    have ht1 : (0 : Int) < (tot : Int) := by rw [← hTF]; exact htp
    have HT0 := Lib.hid (show 0 < tot by omega)
    have ht2 := HT0.out
    have HTOT := Lib.hid htot
    have HTF := Lib.hid hTF
    clear hl hv htot htp hTF
    go_enter Try.func23, Try.ntmps23
    go_wp2_with fail
    refine (til_many_spec A n c W T bs _ hn (h.below x0.B)).mono ?_; rintro e w2 ⟨rfl, hb2⟩
    rw [HTF.out]
    have R2 := x0.below hb2
    have o2 := (o0.below hb2).top (top' := w2.heap.size) (by have := hb2.size; simp only [World.size_alloc] at this; omega)
    clear x0 o0 hb2 k1 k2 k3
    go_wp2_with fail
    go_loopg [3, 5, 6] n (fun gk s4 s16 _ wx => ∃ (k : Nat) (D : Option Addr) (q : Nat), k ≤ n ∧ gk = n - k ∧ s16 = .int .i64 k ∧ s4 = .slice D (forL (forG W T n bs) k).length q ∧ Own wx (w.heap.size + 1) wx.heap.size 3 D (forL (forG W T n bs) k).length q ((forL (forG W T n bs) k).map (.int .i64)) ∧ P1 w (.int .i64 W) (.int .i64 T) (.slice A n c) wx)
    case atStart => exact ⟨0, _, 0, Nat.zero_le _, rfl, rfl, rfl, o2, R2⟩
    case round =>
      clear R2 o2
      obtain ⟨k, D, q, hk, rfl, rfl, rfl, own, R⟩ := hrel
      obtain ⟨wo, hwo⟩ : ∃ wo, wo = wr := ⟨_, rfl⟩
      subst hwo
      have k1 := R.X.1
      have k2 := R.X.2.1
      have k3 := R.X.2.2
      have hfl := forL_len (forG W T n bs) k
      obtain ⟨L, hL⟩ : ∃ L, forL (forG W T n bs) k = L := ⟨_, rfl⟩
      rw [hL] at own hfl
      rw [hL]
      have HL := Lib.hid hL
      clear hL
      by_cases hlt : k < n
      · obtain ⟨b, off, x, rfl, hx, hc⟩ := (h.below R.B).atB hlt
        have HX := Lib.hid hx
        clear hx hc
        go_wp2_with fail
        go_loopg [3, 6] 4 (fun gk s4 s7 wx => ∃ (y : Nat) (D : Option Addr) (q : Nat), y ≤ 4 ∧ gk = 4 - y ∧ s7 = .int .i64 ((y + 1 : Nat) : Int) ∧ s4 = .slice D (L ++ forW (forG W T n bs k) k y).length q ∧ Own wx (w.heap.size + 1) wx.heap.size 3 D (L ++ forW (forG W T n bs k) k y).length q ((L ++ forW (forG W T n bs k) k y).map (.int .i64)) ∧ P1 w (.int .i64 W) (.int .i64 T) (.slice (some ⟨b, off, none⟩) n c) wx)
        case atStart => exact ⟨0, D, q, Nat.zero_le _, rfl, rfl, by rw [forW, List.append_nil], by rw [forW, List.append_nil]; exact own, R⟩
        case round =>
          clear own R k1 k2 k3
          obtain ⟨y, D, q, hy, rfl, rfl, rfl, own, R⟩ := hrel
          have k1 := R.X.1
          have k2 := R.X.2.1
          have k3 := R.X.2.2
          have hc := (h.below R.B).cellB HX.out
          have hwl := forW_len (forG W T n bs k) k y
          obtain ⟨M, hM⟩ : ∃ M, L ++ forW (forG W T n bs k) k y = M := ⟨_, rfl⟩
          have hml : M.length ≤ 4 * k + y := by rw [← hM, List.length_append]; omega
          rw [hM] at own
          rw [hM]
          have HM := Lib.hid hM
          clear hM hwl
          by_cases hy4 : y < 4
          · have hyi : (((y + 1 : Nat) : Int)) = (y : Int) + 1 := by omega
            have HS := Lib.hid (show L ++ forW (forG W T n bs k) k (y + 1) = M ++ (if forG W T n bs k (y + 1) then [(k : Int)] else []) by rw [← HM.out, forW, List.append_assoc])
            rw [hyi]
            cases x
            · have HS2 := Lib.hid (show L ++ forW (forG W T n bs k) k (y + 1) = M by rw [HS.out, forG, onR_of HX.out]; simp)
              clear hyi
              go_wp2_with fail
              go_roundg (4 - (y + 1))
              case measure => omega
              case rel => exact ⟨y + 1, D, q, by omega, rfl, by go_num, by rw [HS2.out], by rw [HS2.out]; exact own, R⟩
            · go_wp2_with fail
              refine (with_spec (some ⟨b, off, none⟩) n c W T bs k ((y : Int) + 1) _ hn (h.below R.B) ⟨by omega, by omega⟩ ⟨by omega, by omega⟩).mono ?_; rintro e w4 ⟨rfl, hb4⟩
              have own4 := (own.below hb4).top hb4.size
              have R4 := R.below hb4
              clear own R k1 k2 k3 hb4 hc
              obtain ⟨v, hv⟩ : ∃ v, withF W T n bs k ((y : Int) + 1) = v := ⟨_, rfl⟩
              rw [hv]
              have HG := Lib.hid (show forG W T n bs k (y + 1) = (v == (tot : Int)) by rw [forG, onR_of HX.out, HTOT.out, decide_eq_true HT0.out, show (((y + 1 : Nat) : Nat) : Int) = (y : Int) + 1 by omega, hv]; rfl)
              clear hv hyi
              cases hvt : (v == (tot : Int))
              · have HS2 := Lib.hid (show L ++ forW (forG W T n bs k) k (y + 1) = M by rw [HS.out, HG.out, hvt]; simp)
                go_wp2_with fail
                go_roundg (4 - (y + 1))
                case measure => omega
                case rel => exact ⟨y + 1, D, q, by omega, rfl, by go_num, by rw [HS2.out], by rw [HS2.out]; exact own4, R4⟩
              · have HS2 := Lib.hid (show L ++ forW (forG W T n bs k) k (y + 1) = M ++ [(k : Int)] by rw [HS.out, HG.out, hvt]; rfl)
                have z4 := R4.z
                go_wp2_with (at_builtin; refine wpList_append1 rfl _ _ 33 rfl 3 (.int .i64 0) 8 Try.underlying33 Try.infoInt rfl (own4.alloc _) rfl w4.heap.size _ rfl (cell0_new _ _ _) rfl (by omega) (by omega) (by simp; omega) ?_; intro D6 q6 w6 own6 hg6 hn6)
                have R6 := (R4.alloc _).grown hg6 (own4.alloc _) (Nat.le_refl _)
                go_roundg (4 - (y + 1))
                case measure => omega
                case rel => exact ⟨y + 1, D6, q6, by omega, rfl, by go_num, by rw [HS2.out, List.length_append]; rfl, by rw [HS2.out, List.length_append, List.map_append]; exact own6, R6⟩
          · obtain rfl : y = 4 := by omega
            have hfin : M = forL (forG W T n bs) (k + 1) := by rw [← HM.out, forL, HL.out]
            go_wp2_with fail
            go_roundg (n - (k + 1))
            case measure => omega
            case rel => exact ⟨k + 1, D, q, by omega, rfl, by go_num, by rw [← hfin], by rw [← hfin]; exact own, R⟩
      · obtain rfl : k = n := by omega
        go_wp2_with fail
        go_ret
        exact OutL.mkL (c0 := q) (by rw [HL.out]) (by omega) (by rw [HL.out]; exact own.base (by omega)) R.B
  · have E : forcedF W T n bs = [] := by
      rw [forcedF]
      split
      · rename_i hv
        obtain ⟨W, T, rfl, rfl, V⟩ := valid_of hv hl
        refine forL_no (forG_none ?_) n
        have : ¬ 0 < tilF W T n bs := fun h => hcase ⟨hv, h⟩
        rw [tilF, if_pos hv, Int.toNat_natCast, Int.toNat_natCast] at this
        rw [Int.toNat_natCast, Int.toNat_natCast]
        omega
      · rfl
    obtain ⟨t, ht⟩ : ∃ t, tilF W T n bs = t := ⟨_, rfl⟩
    have ht0 : ¬ 0 < t := by
      intro h0
      rw [← ht] at h0
      by_cases hv : validB W T n bs = true
      · exact hcase ⟨hv, h0⟩
      · rw [tilF, if_neg hv] at h0; omega
    have hd : decide (0 < t) = false := decide_eq_false ht0
    rw [E]
    have HT := Lib.hid ht
    clear hcase ht E hl ht0
    go_enter Try.func23, Try.ntmps23
    go_wp2_with fail
    refine (til_many_spec A n c W T bs _ hn (h.below x0.B)).mono ?_; rintro e w2 ⟨rfl, hb2⟩
    rw [HT.out]
    have R2 := x0.below hb2
    have o2 := (o0.below hb2).top (top' := w2.heap.size) (by have := hb2.size; simp only [World.size_alloc] at this; omega)
    clear x0 o0 hb2 k1 k2 k3
    have k1 := R2.X.1
    have k2 := R2.X.2.1
    have k3 := R2.X.2.2
    go_wp2_with fail
    go_loopg [3, 5, 6] 0 (fun gk s4 s16 _ wx => w2 = wx ∧ gk = 0 ∧ s16 = .int .i64 0 ∧ s4 = .slice (some ⟨w.heap.size + 1, 0, none⟩) 0 0)
    case atStart => exact ⟨rfl, rfl, rfl, rfl⟩
    case round =>
      obtain ⟨rfl, rfl, rfl, rfl⟩ := hrel
      by_cases hn0 : n = 0
      · subst hn0
        go_wp2_with fail
        go_ret
        exact OutL.mk rfl (by omega) (o2.base (by omega)) R2.B
      · have hn1 : (0 : Int) < (n : Int) := by omega
        clear hn0
        go_wp2_with fail
        go_ret
        exact OutL.mk rfl (by omega) (o2.base (by omega)) R2.B

end Go.Proofs.Ytcnkpcnbobiodaa
