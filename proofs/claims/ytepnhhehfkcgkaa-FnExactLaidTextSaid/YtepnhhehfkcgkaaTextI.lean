/-
  rowsText and RegionText of the program: what they return.
-/
import Derived.Test.YtepnhhehfkcgkaaTextP
import Derived.Test.YtepnhhehfkcgkaaJoinN
import Derived.Test.YtepnhhehfkcgkaaP1
import Derived.Test.YtepnhhehfkcgkaaValid
import Derived.Test.YtepnhhehfkcgkaaAt
import Derived.Deep.LoopGhost
import Derived.Laws.IdiomStrings
import Derived.Laws.BytesString
namespace Go.Proofs.Ytepnhhehfkcgkaa
open Go.RowKit

def byteT (b : UInt8) : Value := .int .u8 b.toNat
theorem infoStr : (Try.prog.info? 9).map (fun i => (i.zero, i.size, i.bytes)) = some (some (.string ⟨#[]⟩), 1, 16) := by kernel_rfl
theorem infoByt : (Try.prog.info? 5).map (fun i => (i.zero, i.size, i.bytes)) = some (some (.int .u8 0), 1, 1) := by kernel_rfl

theorem bytes_convert {w : World} {base top g m q : Nat} {word : List UInt8} (h : Own w base top 5 (some ⟨g, 0, none⟩) m q (word.map byteT)) (hm : word.length = m) :
    (convert 22 9 (.slice (some ⟨g, 0, none⟩) m q)).run Try.prog w = .ok (.string ⟨word.toArray⟩) w := by
  subst hm
  refine run_convert_bytes_back (P := Try.prog) w 22 9 5 ⟨g, 0, none⟩ q word Try.underlying22 Try.underlying5 Try.underlying9 (fun k hk => ?_)
  obtain ⟨b, off, hA, hc⟩ := h.sl.2 (by omega)
  injection hA with hA
  injection hA with h1 h2 _
  subst h1 h2
  have := hc k (byteT word[k]) (by rw [List.getElem?_map, List.getElem?_eq_getElem hk]; rfl)
  rw [show (⟨g, 0, none⟩ : Addr).add k = ⟨g, 0 + k, none⟩ by unfold Addr.add; split <;> simp_all]
  exact this

/-- A row of which j signs are written. -/
def rowZ (f : Nat → UInt8) (W y j : Nat) : List UInt8 := rowL f W y j ++ List.replicate (W - j) 0
theorem rowZ_zero (f : Nat → UInt8) (W y : Nat) : (rowZ f W y 0).map byteT = List.replicate W (.int .u8 0) := by simp [rowZ, rowL, byteT]
theorem rowZ_full (f : Nat → UInt8) (W y : Nat) : rowZ f W y W = rowL f W y W := by simp [rowZ]
theorem rowZ_set {f : Nat → UInt8} {W y j : Nat} (h : j < W) : ((rowZ f W y j).map byteT).set j (byteT (f (y * W + j))) = (rowZ f W y (j + 1)).map byteT := by
  rw [← List.map_set, rowZ, List.set_append_right _ _ (by rw [rowL_len]; exact Nat.le_refl _), rowL_len, Nat.sub_self, show W - j = (W - (j + 1)) + 1 by omega, List.replicate_succ, List.set_cons_zero, rowZ, rowL_succ, List.append_assoc]; rfl

theorem join_rows (f : Nat → UInt8) (W T : Nat) (hT : 1 ≤ T) (hT6 : T ≤ 6) (hW6 : W ≤ 6) (D : Option Addr) (q base top : Nat) (w : World) (own : Own w base top 9 D T q ((rowsL f W T T).map .string)) :
    Calls Try.prog 89 #[.slice D T q, .string ⟨#[47]⟩] w fun e w' => e = .returned (.string ⟨(textL f W T).toArray⟩) ∧ Below w.heap.size w w' := by
  obtain ⟨g, rfl, hg, -⟩ := own.form (by omega)
  obtain ⟨b, off, hA, hc⟩ := own.sl.2 (by omega)
  injection hA with hA
  injection hA with h1 h2 _
  subst h1 h2
  have hlt : g < w.heap.size := (own.1.lt g rfl).2
  have m := join_any g 0 q (rowsL f W T T) ⟨#[47]⟩ w (fun j x hx => hc j _ (by rw [List.getElem?_map, hx]; rfl)) hlt (by rw [rowsL_len]; omega) (by rw [rowsL_len]; exact own.cap) (by
    show (Lib.join _ [47]).length ≤ _
    rw [textL_join, textL]
    have h1 := textA_len f W T T
    have h2 : T * (W + 1) ≤ 6 * 7 := Nat.mul_le_mul (by omega) (by omega)
    omega)
  rw [rowsL_len] at m
  refine m.mono ?_
  rintro e w' ⟨rfl, hb⟩
  refine ⟨?_, hb⟩
  show Ending.returned (.string ⟨(Lib.join _ [47]).toArray⟩) = _
  rw [textL_join]

set_option maxHeartbeats 400000 in
theorem sign_any (bx : Nat) (A : Option Addr) (n c W T : Nat) (bs : List Bool) (k : Nat) (w : World) (hX : Box w bx (.int .i64 W) (.int .i64 T) (.slice A n c)) (h : Sl w A n (bs.map .bool)) (hk : k < n) :
    Calls Try.prog 71 #[.int .i64 k, .pointer (some ⟨bx, 0, none⟩)] w fun e w' => e = .returned (.int .u8 ((signR bs k).toNat : Int)) ∧ w' = w := by
  obtain ⟨b, off, x, rfl, hx, hc⟩ := h.atB hk
  have HX := Lib.hid hx
  clear hx
  have k1 := hX.1
  have k2 := hX.2.1
  have k3 := hX.2.2
  cases x
  · have E : Hid ((signR bs k).toNat = 46) := by show _ = _; rw [signR, onR_of HX.out]; rfl
    rw [E.out]
    go_enter Try.func71, Try.ntmps71
    go_wp2_with fail
    go_ret
    exact ⟨rfl, rfl⟩
  · have E : Hid ((signR bs k).toNat = 35) := by show _ = _; rw [signR, onR_of HX.out]; rfl
    rw [E.out]
    go_enter Try.func71, Try.ntmps71
    go_wp2_with fail
    go_ret
    exact ⟨rfl, rfl⟩

set_option maxRecDepth 100000 in
set_option maxHeartbeats 4000000 in
theorem rows_region (bx : Nat) (A : Option Addr) (n c W T : Nat) (bs : List Bool) (w : World) (V : Valid W T n bs) (hX : Box w bx (.int .i64 W) (.int .i64 T) (.slice A n c)) (h : Sl w A n (bs.map .bool)) :
    Calls Try.prog 70 #[.agg #[.int .i64 W, .int .i64 T, .slice A n c], .func (.func 71) #[] #[.pointer (some ⟨bx, 0, none⟩)]] w fun e w' => e = .returned (.string ⟨(textL (signR bs) W T).toArray⟩) ∧ Below w.heap.size w w' := by
  have n36 := V.n36
  have v0 := V.w0
  have v1 := V.w1
  have v2 := V.t0
  have v3 := V.t1
  have HVS := Lib.hid V.size
  go_enter Try.func70, Try.ntmps70
  go_wp2_with fail
  go_loopg [5, 6, 7, 8, 21] (T + 1) (fun gk s5 s6 _ _ _ wx => ∃ (k : Nat) (D : Option Addr) (q : Nat), k ≤ T ∧ gk = T - k + 1 ∧ s5 = .slice D k q ∧ s6 = .int .i64 ((T : Int) - 1 - k) ∧ Own wx (w.heap.size + 1) wx.heap.size 9 D k q ((rowsL (signR bs) W T k).map .string) ∧ P1 w (.int .i64 W) (.int .i64 T) (.slice A n c) wx)
  case atStart => exact ⟨0, none, 0, Nat.zero_le _, rfl, rfl, by go_num, own_nil _ _ _ _, P1.new _ _ _ _ _⟩
  case round =>
    obtain ⟨k, D, q, hk, rfl, rfl, rfl, own, R⟩ := hrel
    obtain ⟨wo, hwo⟩ : ∃ wo, wo = wr := ⟨_, rfl⟩
    subst hwo
    have k1 := R.X.1
    have k2 := R.X.2.1
    have k3 := R.X.2.2
    have z := R.z
    by_cases hkT : k < T
    · obtain ⟨y, hy⟩ : ∃ y, T - 1 - k = y := ⟨_, rfl⟩
      have ey : (T : Int) - 1 - k = (y : Int) := by omega
      have HY := Lib.hid hy
      have hyT : y < T := by omega
      rw [ey]
      clear hy ey
      obtain ⟨i0, hi0, hz0, hz1, hz2⟩ := info_parts infoByt
      go_wp2_with (at_make; go_loud (refine wpList_make_full _ rfl _ _ 22 rfl wo.heap.size 5 i0 (.int .u8 0) 1 Try.underlying22 hi0 hz0 hz1 .i64 .i64 (W : Int) (W : Int) W rfl rfl rfl rfl (by rw [hz2]; omega) (by unfold maxLen; omega) (Nat.le_refl _) ?_; intro w1 hown1 hg1; have O1 := Own.mk hown1))
      have R1 : P1 w (.int .i64 W) (.int .i64 T) (.slice A n c) w1 := R.below ⟨hg1.os, hg1.tape, hg1.output, hg1.size, fun b hb => hg1.block b hb (by simp)⟩
      have own1 := own.grown hg1 (by simp)
      have O1' : Own w1 wo.heap.size w1.heap.size 5 (some ⟨wo.heap.size, 0, none⟩) W W ((rowZ (signR bs) W y 0).map byteT) := by rw [rowZ_zero]; simpa [Value.cells, toList_madeCells_one] using O1
      have z1 := hg1.size
      have lt1 : wo.heap.size < w1.heap.size := (O1.2 _ 0 rfl).2
      clear hown1 O1 k1 k2 k3 hi0 hz0 hz1 hz2
      go_loopg [8, 21] (W + 1) (fun gk _ s21 wx => ∃ j : Nat, j ≤ W ∧ gk = W - j + 1 ∧ s21 = .int .i64 j ∧ Own wx wo.heap.size w1.heap.size 5 (some ⟨wo.heap.size, 0, none⟩) W W ((rowZ (signR bs) W y j).map byteT) ∧ Own wx (w.heap.size + 1) wo.heap.size 9 D k q ((rowsL (signR bs) W T k).map .string) ∧ P1 w (.int .i64 W) (.int .i64 T) (.slice A n c) wx ∧ w1.heap.size ≤ wx.heap.size)
      case atStart => exact ⟨0, Nat.zero_le _, rfl, rfl, O1', own1, R1, Nat.le_refl _⟩
      case round =>
        clear O1' own1 R1 hg1
        obtain ⟨j, hj, rfl, rfl, O, own2, R2, z2⟩ := hrel
        have k1 := R2.X.1
        have k2 := R2.X.2.1
        have k3 := R2.X.2.2
        by_cases hjW : j < W
        · have hij := at_index hjW hyT
          have c2 : (y : Int) * (W : Int) + (j : Int) < (n : Int) := by rw [HVS.out]; exact_mod_cast hij
          have c1 : (0 : Int) ≤ (y : Int) * (W : Int) := by exact_mod_cast Nat.zero_le (y * W)
          have hkn : y * W + j < n := by rw [HVS.out]; exact hij
          have hq : ((y * W + j : Nat) : Int) = (y : Int) * W + j := by push_cast; rfl
          obtain ⟨u, hu⟩ : ∃ u, signR bs (y * W + j) = u := ⟨_, rfl⟩
          have sgn : Hid (∀ w', Below w.heap.size w w' → Calls Try.prog 71 #[.int .i64 ((y : Int) * W + j), .pointer (some ⟨bx, 0, none⟩)] w' fun e w'' => e = .returned (.int .u8 (u.toNat : Int)) ∧ w'' = w') := by
            show ∀ w', _
            intro w' hb
            rw [← hq, ← hu]
            exact sign_any bx A n c W T bs (y * W + j) w' (hX.below hb) (h.below hb) hkn
          have HSET := Lib.hid (rowZ_set (f := signR bs) (y := y) hjW)
          have HU := Lib.hid hu
          have q3 := O.frozen j
          obtain ⟨v', q2⟩ := O.cellAt hjW
          have hz8 : Below w.heap.size w wr := R2.B
          clear hij hkn hq hu
          go_wp2_with fail
          refine (sgn.out _ R2.B).mono ?_; rintro e w3 ⟨rfl, rfl⟩
          go_wp2_with fail
          go_roundg (W - (j + 1) + 1)
          case measure => omega
          case rel =>
            refine ⟨j + 1, by omega, rfl, by go_num, ?_, own2.setFar (fun b off hA => ?_) _, R2.set (show w.heap.size + 1 ≤ wo.heap.size by omega) _, by rw [World.size_setCell]; exact z2⟩
            · have m := O.stored j hjW (byteT u)
              rw [← HU.out, HSET.out] at m
              rw [← HU.out]
              exact m
            · have := own2.2 b off hA; show b ≠ wo.heap.size; omega
        · have ej : j = W := by omega
          subst ej
          have hcv := bytes_convert O (by rw [rowZ_full, rowL_len])
          have hRL := rowsL_len (signR bs) j T k
          have HSN0 := Lib.hid (rowsL_succ (signR bs) j T k)
          rw [rowZ_full] at hcv
          obtain ⟨X, hX2⟩ : ∃ X : ByteArray, ⟨(rowL (signR bs) j y j).toArray⟩ = X := ⟨_, rfl⟩
          have HX := Lib.hid hX2
          rw [hX2] at hcv
          clear hX2
          have own3 := own2.top (show wo.heap.size ≤ wr.heap.size by omega)
          go_wp2_with (at_builtin; go_loud (refine wpList_append1 rfl _ _ 74 rfl 9 (.string ⟨#[]⟩) 16 Try.underlying74 infoStr rfl (own3.alloc _) rfl wr.heap.size (.string X) rfl (cell0_new _ _ _) rfl (by omega) (by omega) (by simp; omega) ?_; intro D2 q2 w4 O4 hg4 hn4))
          have R4 := (R2.alloc (.cells #[.string X] 9)).grown hg4 (own3.alloc _) (Nat.le_refl _)
          have hSN := rowsL_succ (signR bs) j T k
          rw [HY.out, HX.out] at hSN
          have O5 : Own w4 (w.heap.size + 1) w4.heap.size 9 D2 (k + 1) q2 ((rowsL (signR bs) j T (k + 1)).map .string) := by rw [hSN, List.map_append]; exact O4
          clear hSN O4
          go_roundg (T - (k + 1) + 1)
          case measure => omega
          case rel =>
            refine ⟨k + 1, D2, q2, by omega, rfl, rfl, ?_, O5, R4⟩
            · have := HY.out
              rw [show (T : Int) - 1 - ((k + 1 : Nat) : Int) = (y : Int) - 1 by omega]
    · have ek : k = T := by omega
      subst ek
      go_wp2_with fail
      refine (join_rows (signR bs) W k v2 v3 v1 D q _ _ _ own).mono ?_; rintro e w2 ⟨rfl, hb2⟩
      go_wp2_with fail
      go_ret
      exact ⟨rfl, belowW R.B hb2⟩

set_option maxHeartbeats 1000000 in
theorem rtext_impl (A : Option Addr) (n c : Nat) (W T : Int) (bs : List Bool) (w : World) (hn : n ≤ 1048576) (h : Sl w A n (bs.map .bool)) :
    Calls Try.prog 36 #[.agg #[.int .i64 W, .int .i64 T, .slice A n c]] w fun e w' => e = .returned (.string ⟨(rtextF W T n bs).toArray⟩) ∧ Below w.heap.size w w' := by
  have hl := h.1
  rw [List.length_map] at hl
  by_cases hv : validB W T n bs = true
  · obtain ⟨W, T, rfl, rfl, V⟩ := valid_of hv hl
    have HV := Lib.hid hv
    have E : Hid (rtextF W T n bs = textL (signR bs) W T) := by show _ = _; rw [rtextF, if_pos hv]; rfl
    rw [E.out]
    clear hl hv
    go_enter Try.func36, Try.ntmps36
    go_wp2_with fail
    refine (valid_impl A n c W T bs _ (by omega) (h.alloc _)).mono ?_; rintro e w1 ⟨rfl, hb1⟩
    rw [HV.out]
    have R1 := P1.of hb1
    clear hb1
    have k1 := R1.X.1
    have k2 := R1.X.2.1
    have k3 := R1.X.2.2
    go_wp2_with fail
    refine (rows_region w.heap.size A n c W T bs _ V R1.X (h.below R1.B)).mono ?_; rintro e w2 ⟨rfl, hb2⟩
    go_wp2_with fail
    go_ret
    exact ⟨rfl, belowW R1.B hb2⟩
  · have hv' : validB W T n bs = false := by simpa using hv
    have E : Hid (rtextF W T n bs = []) := by show _ = _; rw [rtextF, if_neg hv]
    have HV := Lib.hid hv'
    rw [E.out]
    clear hl hv hv'
    go_enter Try.func36, Try.ntmps36
    go_wp2_with fail
    refine (valid_impl A n c W T bs _ (by omega) (h.alloc _)).mono ?_; rintro e w1 ⟨rfl, hb1⟩
    rw [HV.out]
    go_wp2_with fail
    go_ret
    exact ⟨rfl, belowW (below1 w _) hb1⟩
end Go.Proofs.Ytepnhhehfkcgkaa
