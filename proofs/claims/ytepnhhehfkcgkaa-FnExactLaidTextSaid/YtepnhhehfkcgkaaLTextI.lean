/-
  LaidText of the program: what it returns.
-/
import Derived.Test.YtepnhhehfkcgkaaLTextP
import Derived.Test.YtepnhhehfkcgkaaTextI
namespace Go.Proofs.Ytepnhhehfkcgkaa
open Go.RowKit

set_option maxHeartbeats 1000000 in
theorem lsign_any (bx bl : Nat) (A : Option Addr) (n c W T : Nat) (bs : List Bool) (B : Option Addr) (d : Nat) (zs : List Int) (k : Nat) (w : World) (hX : Box w bx (.int .i64 W) (.int .i64 T) (.slice A n c)) (hL : w.cell? ⟨bl, 0, none⟩ = some (.slice B n d)) (h : Sl w A n (bs.map .bool)) (h' : Sl w B n (zs.map (.int .i64))) (hla : laysAll W T bs zs n = true) (hk : k < n) :
    Calls Try.prog 74 #[.int .i64 k, .pointer (some ⟨bx, 0, none⟩), .pointer (some ⟨bl, 0, none⟩)] w fun e w' => e = .returned (.int .u8 ((signL bs zs k).toNat : Int)) ∧ w' = w := by
  obtain ⟨b, off, x, rfl, hx, hc⟩ := h.atB hk
  obtain ⟨b2, off2, z, rfl, hz, hc2⟩ := h'.atI hk
  have hw := lays_way hk hla
  have HX := Lib.hid hx
  have he := ent_of hz
  rw [he] at hw
  have HE := Lib.hid he
  clear hx hz he hla
  have k1 := hX.1
  have k2 := hX.2.1
  have k3 := hX.2.2
  cases x
  · have E : Hid ((signL bs zs k).toNat = 46) := by show _ = _; rw [signL_off (onR_of HX.out)]; rfl
    rw [E.out]
    clear hw
    go_enter Try.func74, Try.ntmps74
    go_wp2_with fail
    go_ret
    exact ⟨rfl, rfl⟩
  · have E : Hid (signL bs zs k = signZ z) := by show _ = _; exact signL_on (onR_of HX.out) HE.out
    rw [E.out]
    have h5 := five hw
    clear hw
    rcases h5 with rfl | rfl | rfl | rfl | rfl
    all_goals
      go_enter Try.func74, Try.ntmps74
      go_wp2_with fail
      go_ret
      exact ⟨rfl, rfl⟩

set_option maxRecDepth 100000 in
set_option maxHeartbeats 4000000 in
theorem rows_laid (bx bl : Nat) (A : Option Addr) (n c W T : Nat) (bs : List Bool) (f : Nat → UInt8) (w : World) (V : Valid W T n bs)
    (hf : ∀ (k : Nat) w', k < n → Below w.heap.size w w' → Calls Try.prog 74 #[.int .i64 k, .pointer (some ⟨bx, 0, none⟩), .pointer (some ⟨bl, 0, none⟩)] w' fun e w'' => e = .returned (.int .u8 ((f k).toNat : Int)) ∧ w'' = w') :
    Calls Try.prog 70 #[.agg #[.int .i64 W, .int .i64 T, .slice A n c], .func (.func 74) #[] #[.pointer (some ⟨bx, 0, none⟩), .pointer (some ⟨bl, 0, none⟩)]] w fun e w' => e = .returned (.string ⟨(textL f W T).toArray⟩) ∧ Below w.heap.size w w' := by
  have n36 := V.n36
  have v0 := V.w0
  have v1 := V.w1
  have v2 := V.t0
  have v3 := V.t1
  have HVS := Lib.hid V.size
  have HF := Lib.hid hf
  clear hf
  go_enter Try.func70, Try.ntmps70
  go_wp2_with fail
  go_loopg [5, 6, 7, 8, 21] (T + 1) (fun gk s5 s6 _ _ _ wx => ∃ (k : Nat) (D : Option Addr) (q : Nat), k ≤ T ∧ gk = T - k + 1 ∧ s5 = .slice D k q ∧ s6 = .int .i64 ((T : Int) - 1 - k) ∧ Own wx (w.heap.size + 1) wx.heap.size 9 D k q ((rowsL f W T k).map .string) ∧ P1 w (.int .i64 W) (.int .i64 T) (.slice A n c) wx)
  case atStart => exact ⟨0, none, 0, Nat.zero_le _, rfl, rfl, by go_num, own_nil _ _ _ _, P1.new _ _ _ _ _⟩
  case round =>
    obtain ⟨k, D, q, hk, rfl, rfl, rfl, own, R⟩ := hrel
    obtain ⟨wo, hwo⟩ : ∃ wo, wo = wr := ⟨_, rfl⟩
    subst hwo
    have k1 := R.X.1
    have k2 := R.X.2.1
    have k3 := R.X.2.2
    have z := R.z
    by_cases hkT : k < T
    · obtain ⟨y, hy⟩ : ∃ y, T - 1 - k = y := ⟨_, rfl⟩
      have ey : (T : Int) - 1 - k = (y : Int) := by omega
      have HY := Lib.hid hy
      have hyT : y < T := by omega
      rw [ey]
      clear hy ey
      obtain ⟨i0, hi0, hz0, hz1, hz2⟩ := info_parts infoByt
      go_wp2_with (at_make; go_loud (refine wpList_make_full _ rfl _ _ 22 rfl wo.heap.size 5 i0 (.int .u8 0) 1 Try.underlying22 hi0 hz0 hz1 .i64 .i64 (W : Int) (W : Int) W rfl rfl rfl rfl (by rw [hz2]; omega) (by unfold maxLen; omega) (Nat.le_refl _) ?_; intro w1 hown1 hg1; have O1 := Own.mk hown1))
      have R1 : P1 w (.int .i64 W) (.int .i64 T) (.slice A n c) w1 := R.below ⟨hg1.os, hg1.tape, hg1.output, hg1.size, fun b hb => hg1.block b hb (by simp)⟩
      have own1 := own.grown hg1 (by simp)
      have O1' : Own w1 wo.heap.size w1.heap.size 5 (some ⟨wo.heap.size, 0, none⟩) W W ((rowZ f W y 0).map byteT) := by rw [rowZ_zero]; simpa [Value.cells, toList_madeCells_one] using O1
      have z1 := hg1.size
      have lt1 : wo.heap.size < w1.heap.size := (O1.2 _ 0 rfl).2
      clear hown1 O1 k1 k2 k3 hi0 hz0 hz1 hz2
      go_loopg [8, 21] (W + 1) (fun gk _ s21 wx => ∃ j : Nat, j ≤ W ∧ gk = W - j + 1 ∧ s21 = .int .i64 j ∧ Own wx wo.heap.size w1.heap.size 5 (some ⟨wo.heap.size, 0, none⟩) W W ((rowZ f W y j).map byteT) ∧ Own wx (w.heap.size + 1) wo.heap.size 9 D k q ((rowsL f W T k).map .string) ∧ P1 w (.int .i64 W) (.int .i64 T) (.slice A n c) wx ∧ w1.heap.size ≤ wx.heap.size)
      case atStart => exact ⟨0, Nat.zero_le _, rfl, rfl, O1', own1, R1, Nat.le_refl _⟩
      case round =>
        clear O1' own1 R1 hg1
        obtain ⟨j, hj, rfl, rfl, O, own2, R2, z2⟩ := hrel
        have k1 := R2.X.1
        have k2 := R2.X.2.1
        have k3 := R2.X.2.2
        by_cases hjW : j < W
        · have hij := at_index hjW hyT
          have c2 : (y : Int) * (W : Int) + (j : Int) < (n : Int) := by rw [HVS.out]; exact_mod_cast hij
          have c1 : (0 : Int) ≤ (y : Int) * (W : Int) := by exact_mod_cast Nat.zero_le (y * W)
          have hkn : y * W + j < n := by rw [HVS.out]; exact hij
          have hq : ((y * W + j : Nat) : Int) = (y : Int) * W + j := by push_cast; rfl
          obtain ⟨u, hu⟩ : ∃ u, f (y * W + j) = u := ⟨_, rfl⟩
          have sgn : Hid (∀ w', Below w.heap.size w w' → Calls Try.prog 74 #[.int .i64 ((y : Int) * W + j), .pointer (some ⟨bx, 0, none⟩), .pointer (some ⟨bl, 0, none⟩)] w' fun e w'' => e = .returned (.int .u8 (u.toNat : Int)) ∧ w'' = w') := by
            show ∀ w', _
            intro w' hb
            rw [← hq, ← hu]
            exact HF.out (y * W + j) w' hkn hb
          have HSET := Lib.hid (rowZ_set (f := f) (y := y) hjW)
          have HU := Lib.hid hu
          have q3 := O.frozen j
          obtain ⟨v', q2⟩ := O.cellAt hjW
          have hz8 : Below w.heap.size w wr := R2.B
          clear hij hkn hq hu
          go_wp2_with fail
          refine (sgn.out _ R2.B).mono ?_; rintro e w3 ⟨rfl, rfl⟩
          go_wp2_with fail
          go_roundg (W - (j + 1) + 1)
          case measure => omega
          case rel =>
            refine ⟨j + 1, by omega, rfl, by go_num, ?_, own2.setFar (fun b off hA => ?_) _, R2.set (show w.heap.size + 1 ≤ wo.heap.size by omega) _, by rw [World.size_setCell]; exact z2⟩
            · have m := O.stored j hjW (byteT u)
              rw [← HU.out, HSET.out] at m
              rw [← HU.out]
              exact m
            · have := own2.2 b off hA; show b ≠ wo.heap.size; omega
        · have ej : j = W := by omega
          subst ej
          have hcv := bytes_convert O (by rw [rowZ_full, rowL_len])
          have hRL := rowsL_len f j T k
          have HSN0 := Lib.hid (rowsL_succ f j T k)
          rw [rowZ_full] at hcv
          obtain ⟨X, hX2⟩ : ∃ X : ByteArray, ⟨(rowL f j y j).toArray⟩ = X := ⟨_, rfl⟩
          have HX := Lib.hid hX2
          rw [hX2] at hcv
          clear hX2
          have own3 := own2.top (show wo.heap.size ≤ wr.heap.size by omega)
          go_wp2_with (at_builtin; go_loud (refine wpList_append1 rfl _ _ 74 rfl 9 (.string ⟨#[]⟩) 16 Try.underlying74 infoStr rfl (own3.alloc _) rfl wr.heap.size (.string X) rfl (cell0_new _ _ _) rfl (by omega) (by omega) (by simp; omega) ?_; intro D2 q2 w4 O4 hg4 hn4))
          have R4 := (R2.alloc (.cells #[.string X] 9)).grown hg4 (own3.alloc _) (Nat.le_refl _)
          have hSN := rowsL_succ f j T k
          rw [HY.out, HX.out] at hSN
          have O5 : Own w4 (w.heap.size + 1) w4.heap.size 9 D2 (k + 1) q2 ((rowsL f j T (k + 1)).map .string) := by rw [hSN, List.map_append]; exact O4
          clear hSN O4
          go_roundg (T - (k + 1) + 1)
          case measure => omega
          case rel =>
            refine ⟨k + 1, D2, q2, by omega, rfl, rfl, ?_, O5, R4⟩
            · have := HY.out
              rw [show (T : Int) - 1 - ((k + 1 : Nat) : Int) = (y : Int) - 1 by omega]
    · have ek : k = T := by omega
      subst ek
      go_wp2_with fail
      refine (join_rows f W k v2 v3 v1 D q _ _ _ own).mono ?_; rintro e w2 ⟨rfl, hb2⟩
      go_wp2_with fail
      go_ret
      exact ⟨rfl, belowW R.B hb2⟩


theorem ltext_box (w : World) (p0 p1 p2 v : Value) (t t2 : TypeId) : (((w.alloc (.cells #[p0, p1, p2] t)).alloc (.cells #[v] t2))).cell? ⟨w.heap.size + 1, 0, none⟩ = some v := by
  have := cell0_new (w.alloc (.cells #[p0, p1, p2] t)) v t2
  rwa [World.size_alloc] at this

set_option maxHeartbeats 1000000 in
theorem ltext_impl (A : Option Addr) (n c : Nat) (W T : Int) (bs : List Bool) (B : Option Addr) (m d : Nat) (zs : List Int) (w : World) (hn : n ≤ 1048576) (h : Sl w A n (bs.map .bool)) (hm : m ≤ 1048576) (h' : Sl w B m (zs.map (.int .i64))) (hz : ∀ z ∈ zs, I64 z) :
    Calls Try.prog 39 #[.agg #[.int .i64 W, .int .i64 T, .slice A n c], .slice B m d] w fun e w' => e = .returned (.string ⟨(ltextF W T n bs m zs).toArray⟩) ∧ Below w.heap.size w w' := by
  have hl := h.1
  rw [List.length_map] at hl
  have HZ := Lib.hid hz
  clear hz
  by_cases hv : laidB W T n bs m zs = true
  · have E0 : ltextF W T n bs m zs = textL (signL bs zs) W.toNat T.toNat := by rw [ltextF, if_pos hv]
    obtain ⟨W, T, rfl, rfl, V, rfl, hla⟩ := laid_of' hv hl
    have E : Hid (ltextF W T m bs m zs = textL (signL bs zs) W T) := E0
    have HV := Lib.hid hv
    rw [E.out]
    clear hl hv E0
    have X0 := (Box.new w (.int .i64 W) (.int .i64 T) (.slice A m c) 34).alloc (.cells #[.slice B m d] 39)
    have L0 := ltext_box w (.int .i64 W) (.int .i64 T) (.slice A m c) (.slice B m d) 34 39
    have B0 : Below w.heap.size w ((w.alloc (.cells #[.int .i64 W, .int .i64 T, .slice A m c] 34)).alloc (.cells #[.slice B m d] 39)) := belowA (below1 w _)
    go_enter Try.func39, Try.ntmps39
    go_wp2_with fail
    refine (laid_impl A m c W T bs B m d zs _ (by omega) (h.below B0) (by omega) (h'.below B0) HZ.out).mono ?_; rintro e w1 ⟨rfl, hb1⟩
    rw [HV.out]
    have X1 := X0.below hb1
    have L1 : w1.cell? ⟨w.heap.size + 1, 0, none⟩ = some (.slice B m d) := (World.cell?_of_block (w := (w.alloc (.cells #[.int .i64 W, .int .i64 T, .slice A m c] 34)).alloc (.cells #[.slice B m d] 39)) (hb1.block _ (by simp))).trans L0
    have B1 := belowW B0 hb1
    clear hb1 X0 L0 B0
    have k1 := X1.1
    have k2 := X1.2.1
    have k3 := X1.2.2
    go_wp2_with fail
    refine (rows_laid w.heap.size (w.heap.size + 1) A m c W T bs (signL bs zs) _ V (fun k w' hk hb => lsign_any _ _ A m c W T bs B d zs k w' (X1.below hb) ((World.cell?_of_block (w := w1) (hb.block _ (World.block_lt_of_cell? w1 _ L1))).trans L1) ((h.below B1).below hb) ((h'.below B1).below hb) hla hk)).mono ?_; rintro e w2 ⟨rfl, hb2⟩
    go_wp2_with fail
    go_ret
    exact ⟨rfl, belowW B1 hb2⟩
  · have hv' : laidB W T n bs m zs = false := by simpa using hv
    have E : Hid (ltextF W T n bs m zs = []) := by show _ = _; rw [ltextF, if_neg hv]
    have HV := Lib.hid hv'
    rw [E.out]
    clear hl hv hv'
    have B0 : Below w.heap.size w ((w.alloc (.cells #[.int .i64 W, .int .i64 T, .slice A n c] 34)).alloc (.cells #[.slice B m d] 39)) := belowA (below1 w _)
    go_enter Try.func39, Try.ntmps39
    go_wp2_with fail
    refine (laid_impl A n c W T bs B m d zs _ hn (h.below B0) hm (h'.below B0) HZ.out).mono ?_; rintro e w1 ⟨rfl, hb1⟩
    rw [HV.out]
    go_wp2_with fail
    go_ret
    exact ⟨rfl, belowW B0 hb1⟩
end Go.Proofs.Ytepnhhehfkcgkaa
