/-
  FaultsOf, both sides: what it returns.
-/
import Derived.Test.YtfilbcnhbadbbaaAcross
import Derived.Test.YtfilbcnhbadbbaaClone
namespace Go.Proofs.Ytfilbcnhbadbbaa
open Go.RowKit

set_option maxRecDepth 100000 in
set_option maxHeartbeats 1000000 in
theorem faults_impl (A : Option Addr) (n c : Nat) (W T : Int) (bs : List Bool) (B : Option Addr) (m d : Nat) (zs : List Int) (w : World) (hn : n ≤ 1048576) (h : Sl w A n (bs.map .bool)) (hm : m ≤ 1048576) (h' : Sl w B m (zs.map (.int .i64))) (hz : ∀ z ∈ zs, I64 z) :
    Calls Try.prog 53 #[.agg #[.int .i64 W, .int .i64 T, .slice A n c], .slice B m d] w fun e w' => OutL w w' e (faultsF W T n bs m zs) := by
  have hl := h.1
  rw [List.length_map] at hl
  have HZ0 := Lib.hid hz
  clear hz
  cases hv : laidB W T n bs m zs
  · have E : faultsF W T n bs m zs = [] := by rw [faultsF, hv]; rfl
    rw [E]
    have HV := Lib.hid hv
    clear hl hv E
    go_enter Try.func53, Try.ntmps53
    go_wp2_with fail
    refine (laid_impl A n c W T bs B m d zs _ hn (h.alloc _) hm (h'.alloc _) HZ0.out).mono ?_; rintro e w1 ⟨rfl, hb1⟩
    rw [HV.out]
    go_wp2_with fail
    go_ret
    exact outL_nil w (belowW (below1 w _) hb1)
  · have E : faultsF W T n bs m zs = colsL (fun x => noWest W.toNat zs x T.toNat) (W.toNat - 1) := by rw [faultsF, if_pos hv]
    rw [E]
    have HV := Lib.hid hv
    obtain ⟨W, T, rfl, rfl, V, e, hall⟩ := laid_of hv hl
    subst e
    clear hl hv E
    rw [Int.toNat_natCast, Int.toNat_natCast, faults_acr V.size hall]
    obtain ⟨f, hf⟩ : ∃ f : Nat → Bool, f = fun x => acrN W zs x T == 0 := ⟨_, rfl⟩
    rw [← hf]
    have HF := Lib.hid hf
    clear hf hall
    have v0 := V.w0
    have v1 := V.w1
    go_enter Try.func53, Try.ntmps53
    go_wp2_with fail
    refine (laid_impl A m c W T bs B m d zs _ hn (h.alloc _) hm (h'.alloc _) HZ0.out).mono ?_; rintro e w1 ⟨rfl, hb1⟩
    rw [HV.out]
    have R1 := P1.of hb1
    clear hb1
    have k1 := R1.X.1
    have k2 := R1.X.2.1
    have k3 := R1.X.2.2
    go_wp2_with fail
    go_loopg [5, 6] (W - 1) (fun gk s i wr => ∃ (k : Nat) (D : Option Addr) (q : Nat), k ≤ W - 1 ∧ gk = W - 1 - k ∧ i = .int .i64 ((k : Int) + 1) ∧ s = .slice D (colsL f k).length q ∧ Own wr (w.heap.size + 1) wr.heap.size 3 D (colsL f k).length q ((colsL f k).map (.int .i64)) ∧ P1 w (.int .i64 W) (.int .i64 T) (.slice A m c) wr)
    case atStart => exact ⟨0, none, 0, Nat.zero_le _, rfl, rfl, rfl, own_nil _ _ _ _, R1⟩
    case round =>
      clear R1 k1 k2 k3
      obtain ⟨k, D, q, hk, rfl, rfl, rfl, own, R⟩ := hrel
      have k1 := R.X.1
      have k2 := R.X.2.1
      have k3 := R.X.2.2
      have hz := R.z
      have hll := colsL_len f k
      by_cases hlt : k + 1 < W
      · have hi : ((k : Int) + 1) = ((k + 1 : Nat) : Int) := by omega
        have HI := Lib.hid hi
        clear hi
        cases hfk : f (k + 1)
        · have HA : Hid ((((acrN W zs (k + 1) T : Nat) : Int) == 0) = false) := by
            show _ = _
            have := hfk; rw [HF.out] at this
            rw [Bool.eq_iff_iff, beq_iff_eq]
            rw [Bool.eq_iff_iff, beq_iff_eq] at this
            constructor
            · intro h; exact this.1 (by omega)
            · intro h; cases h
          have CL : Hid (colsL f (k + 1) = colsL f k) := by show _ = _; rw [colsL, hfk]; simp
          clear hfk
          go_wp2_with fail
          rw [HI.out]
          refine (across_any A m c W T bs B d zs (k + 1) _ V (h'.below R.B) (by omega) hlt).mono ?_; rintro e w2 ⟨rfl, hb2⟩
          have R2 := R.below hb2
          have own2 := (own.below hb2).top hb2.size
          have HA2 := HA.out
          clear hb2 R own
          go_wp2_with fail
          go_roundg (W - 1 - (k + 1))
          case measure => omega
          case rel => exact ⟨k + 1, D, q, by omega, rfl, by go_num, by rw [CL.out], by rw [CL.out]; exact own2, R2⟩
        · have HA : Hid ((((acrN W zs (k + 1) T : Nat) : Int) == 0) = true) := by
            show _ = _
            have := hfk; rw [HF.out] at this
            rw [beq_iff_eq] at this ⊢; omega
          have CL : Hid (colsL f (k + 1) = colsL f k ++ [((k + 1 : Nat) : Int)]) := by show _ = _; rw [colsL, hfk]; rfl
          have CLL : Hid ((colsL f (k + 1)).length = (colsL f k).length + 1) := by show _ = _; rw [CL.out, List.length_append]; rfl
          clear hfk
          go_wp2_with fail
          rw [HI.out]
          refine (across_any A m c W T bs B d zs (k + 1) _ V (h'.below R.B) (by omega) hlt).mono ?_; rintro e w2 ⟨rfl, hb2⟩
          have R2 := R.below hb2
          have own2 := (own.below hb2).top hb2.size
          have HA2 := HA.out
          have hz2 := R2.z
          clear hb2 R own k1 k2 k3
          go_wp2_with (at_builtin; refine wpList_append1 rfl _ _ 35 rfl 3 (.int .i64 0) 8 Try.underlying35 Try.infoInt rfl (own2.alloc _) rfl w2.heap.size (.int .i64 ((k : Int) + 1)) rfl (by simp) rfl (by omega) (by omega) (by simp; omega) ?_; intro D' q' w3 own3 hg hn; have R3 := (R2.alloc (.cells #[.int .i64 ((k : Int) + 1)] 3)).grown hg (own2.alloc _) (Nat.le_refl _))
          go_roundg (W - 1 - (k + 1))
          case measure => omega
          case rel => exact ⟨k + 1, D', q', by omega, rfl, by go_num, by rw [CLL.out], by rw [CLL.out, CL.out, List.map_append, ← HI.out]; exact own3, R3⟩
      · have e : k = W - 1 := by omega
        subst e
        go_wp2_with fail
        refine (sclip_int D (colsL f (W - 1)).length q _ (by omega) own.cap).mono ?_; rintro e w3 ⟨rfl, rfl⟩
        go_wp2_with fail
        go_ret
        exact OutL.mkL (c0 := q) rfl (by omega) (own.base (by omega)) R.B

set_option maxRecDepth 100000 in
set_option maxHeartbeats 1000000 in
theorem faults_spec (A : Option Addr) (n c : Nat) (W T : Int) (bs : List Bool) (B : Option Addr) (m d : Nat) (zs : List Int) (w : World) (hn : n ≤ 1048576) (h : Sl w A n (bs.map .bool)) (hm : m ≤ 1048576) (h' : Sl w B m (zs.map (.int .i64))) (hz : ∀ z ∈ zs, I64 z) :
    Calls Try.prog 52 #[.agg #[.int .i64 W, .int .i64 T, .slice A n c], .slice B m d] w fun e w' => OutL w w' e (faultsF W T n bs m zs) := by
  have hl := h.1
  rw [List.length_map] at hl
  have HZ0 := Lib.hid hz
  clear hz
  have R0 := (P1.new w (.int .i64 W) (.int .i64 T) (.slice A n c) 25).alloc (.cells #[] 3)
  have o0 : Own ((w.alloc (.cells #[.int .i64 W, .int .i64 T, .slice A n c] 25)).alloc (.cells #[] 3)) (w.heap.size + 1) ((w.alloc (.cells #[.int .i64 W, .int .i64 T, .slice A n c] 25)).alloc (.cells #[] 3)).heap.size 3 (some ⟨w.heap.size + 1, 0, none⟩) 0 0 [] := by
    simpa using Own.made (w := w.alloc (.cells #[.int .i64 W, .int .i64 T, .slice A n c] 25)) (base := w.heap.size + 1) (e := 3) (cs := #[]) (n := 0) (by simp) (by unfold maxLen; omega) rfl
  cases hv : laidB W T n bs m zs
  · have E : faultsF W T n bs m zs = [] := by rw [faultsF, hv]; rfl
    rw [E]
    have HV := Lib.hid hv
    clear hl hv E
    have k1 := R0.X.1
    have k2 := R0.X.2.1
    have k3 := R0.X.2.2
    by_cases h1W : 1 < W
    · go_enter Try.func52, Try.ntmps52
      go_wp2_with fail
      go_loopg [5, 6] 0 (fun gk s i wr => s = .slice (some ⟨w.heap.size + 1, 0, none⟩) 0 0 ∧ ((w.alloc (.cells #[.int .i64 W, .int .i64 T, .slice A n c] 25)).alloc (.cells #[] 3)) = wr ∧ gk = 0 ∧ i = .int .i64 1)
      case atStart => exact ⟨rfl, rfl, rfl, rfl⟩
      case round =>
        obtain ⟨rfl, rfl, rfl, rfl⟩ := hrel
        go_wp2_with fail
        refine (laid_spec A n c W T bs B m d zs _ hn (h.below R0.B) hm (h'.below R0.B) HZ0.out).mono ?_; rintro e w1 ⟨rfl, hb1⟩
        rw [HV.out]
        have o1 := (o0.below hb1).top hb1.size
        go_wp2_with fail
        go_ret
        exact OutL.mk (zs := []) (n := 0) rfl (by omega) (by simpa using o1.base (show w.heap.size ≤ w.heap.size + 1 by omega)) (belowW R0.B hb1)
    · go_enter Try.func52, Try.ntmps52
      go_wp2_with fail
      go_loopg [5, 6] 0 (fun gk s i wr => s = .slice (some ⟨w.heap.size + 1, 0, none⟩) 0 0 ∧ ((w.alloc (.cells #[.int .i64 W, .int .i64 T, .slice A n c] 25)).alloc (.cells #[] 3)) = wr ∧ gk = 0 ∧ i = .int .i64 1)
      case atStart => exact ⟨rfl, rfl, rfl, rfl⟩
      case round =>
        obtain ⟨rfl, rfl, rfl, rfl⟩ := hrel
        go_wp2_with fail
        go_ret
        exact OutL.mk (zs := []) (n := 0) rfl (by omega) (by simpa using o0.base (show w.heap.size ≤ w.heap.size + 1 by omega)) R0.B
  · have E : faultsF W T n bs m zs = colsL (fun x => noWest W.toNat zs x T.toNat) (W.toNat - 1) := by rw [faultsF, if_pos hv]
    rw [E]
    have HV := Lib.hid hv
    obtain ⟨W, T, rfl, rfl, V, e, -⟩ := laid_of hv hl
    subst e
    clear hl hv E
    rw [Int.toNat_natCast, Int.toNat_natCast]
    obtain ⟨f, hf⟩ : ∃ f : Nat → Bool, f = fun x => noWest W zs x T := ⟨_, rfl⟩
    rw [← hf]
    have HF := Lib.hid hf
    clear hf
    have v0 := V.w0
    have v1 := V.w1
    have v2 := V.t0
    have v3 := V.t1
    have hsz := Lib.hid V.size
    have m36 := V.n36
    have k1 := R0.X.1
    have k2 := R0.X.2.1
    have k3 := R0.X.2.2
    go_enter Try.func52, Try.ntmps52
    go_wp2_with fail
    go_loopg [5, 6, 7, 8] (W - 1) (fun gk s i _ _ wr => ∃ (k : Nat) (D : Option Addr) (q : Nat), k ≤ W - 1 ∧ gk = W - 1 - k ∧ i = .int .i64 ((k : Int) + 1) ∧ s = .slice D (colsL f k).length q ∧ Own wr (w.heap.size + 1) wr.heap.size 3 D (colsL f k).length q ((colsL f k).map (.int .i64)) ∧ P1 w (.int .i64 W) (.int .i64 T) (.slice A m c) wr)
    case atStart => exact ⟨0, _, _, Nat.zero_le _, rfl, rfl, rfl, o0, R0⟩
    case round =>
      clear R0 o0 k1 k2 k3
      obtain ⟨k, D, q, hk, rfl, rfl, rfl, own, R⟩ := hrel
      have k1 := R.X.1
      have k2 := R.X.2.1
      have k3 := R.X.2.2
      have hll := colsL_len f k
      by_cases hlt : k + 1 < W
      · go_wp2_with fail
        refine (laid_spec A m c W T bs B m d zs _ hn (h.below R.B) hm (h'.below R.B) HZ0.out).mono ?_; rintro e w2 ⟨rfl, hb2⟩
        rw [HV.out]
        have R2 := R.below hb2
        have own2 := (own.below hb2).top hb2.size
        clear hb2 R own k1 k2 k3
        have k1 := R2.X.1
        have k2 := R2.X.2.1
        have k3 := R2.X.2.2
        go_wp2_with fail
        go_loopg [7, 8] T (fun gk fr i wx => w2 = wx ∧ ∃ y : Nat, y ≤ T ∧ gk = T - y ∧ i = .int .i64 y ∧ fr = .bool (noWest W zs (k + 1) y))
        case atStart => exact ⟨rfl, 0, Nat.zero_le _, rfl, rfl, rfl⟩
        case round =>
          obtain ⟨rfl, y, hy, rfl, rfl, rfl⟩ := hrel
          by_cases hyT : y < T
          · obtain ⟨q1, q2⟩ := acr_index (x := k + 1) (by omega) hlt hyT
            obtain ⟨b, off, z, rfl, hz, hc⟩ := (h'.below R2.B).atI (show y * W + (k + 1) < m by rw [hsz.out]; exact q2)
            have HZ := Lib.hid (ent_of hz)
            obtain ⟨m0, m1⟩ := mul_nb (a := (y : Int)) (b := (W : Int)) (by omega) (by omega) (by omega) (by omega)
            have hyW : ((y : Int) * (W : Int)) = ((y * W : Nat) : Int) := by push_cast; rfl
            have c3 : ((y : Int) * (W : Int) + ((k : Int) + 1)).toNat = y * W + (k + 1) := by rw [hyW]; omega
            have c4 : (0 : Int) ≤ (y : Int) * (W : Int) + ((k : Int) + 1) := by omega
            have c5 : (y : Int) * (W : Int) + ((k : Int) + 1) < (m : Int) := by rw [hyW]; have := hsz.out; omega
            obtain ⟨s, hs⟩ : ∃ s, noWest W zs (k + 1) y = s := ⟨_, rfl⟩
            rw [hs]
            have HS := Lib.hid hs
            clear hz hs hyW
            cases s
            · go_wp2_with fail
              go_roundg (T - (y + 1))
              case measure => omega
              case rel => exact ⟨rfl, y + 1, by omega, rfl, by go_num, by rw [noWest, HS.out]; rfl⟩
            · cases hz3 : (z != 3)
              · have HZ3 := Lib.hid hz3
                go_wp2_with fail
                go_roundg (T - (y + 1))
                case measure => omega
                case rel => exact ⟨rfl, y + 1, by omega, rfl, by go_num, by rw [noWest, HS.out, HZ.out, HZ3.out]; rfl⟩
              · have HZ3 := Lib.hid hz3
                go_wp2_with fail
                go_roundg (T - (y + 1))
                case measure => omega
                case rel => exact ⟨rfl, y + 1, by omega, rfl, by go_num, by rw [noWest, HS.out, HZ.out, HZ3.out]; rfl⟩
          · have e : y = T := by omega
            subst e
            have hi : ((k : Int) + 1) = ((k + 1 : Nat) : Int) := by omega
            have HI := Lib.hid hi
            have hz2 := R2.z
            clear hi
            cases hfk : noWest W zs (k + 1) y
            · have CL : Hid (colsL f (k + 1) = colsL f k) := by
                show _ = _
                have e : f (k + 1) = false := by rw [HF.out]; exact hfk
                rw [colsL, e]; simp
              clear hfk
              go_wp2_with fail
              go_roundg (W - 1 - (k + 1))
              case measure => omega
              case rel => exact ⟨k + 1, D, q, by omega, rfl, by go_num, by rw [CL.out], by rw [CL.out]; exact own2, R2⟩
            · have CL : Hid (colsL f (k + 1) = colsL f k ++ [((k + 1 : Nat) : Int)]) := by
                show _ = _
                have e : f (k + 1) = true := by rw [HF.out]; exact hfk
                rw [colsL, e]; rfl
              have CLL : Hid ((colsL f (k + 1)).length = (colsL f k).length + 1) := by show _ = _; rw [CL.out, List.length_append]; rfl
              clear hfk
              go_wp2_with (at_builtin; refine wpList_append1 rfl _ _ 35 rfl 3 (.int .i64 0) 8 Try.underlying35 Try.infoInt rfl (own2.alloc _) rfl w2.heap.size (.int .i64 ((k : Int) + 1)) rfl (by simp) rfl (by omega) (by omega) (by simp; omega) ?_; intro D' q' w3 own3 hg hn; have R3 := (R2.alloc (.cells #[.int .i64 ((k : Int) + 1)] 3)).grown hg (own2.alloc _) (Nat.le_refl _))
              go_roundg (W - 1 - (k + 1))
              case measure => omega
              case rel => exact ⟨k + 1, D', q', by omega, rfl, by go_num, by rw [CLL.out], by rw [CLL.out, CL.out, List.map_append, ← HI.out]; exact own3, R3⟩
      · have e : k = W - 1 := by omega
        subst e
        go_wp2_with fail
        go_ret
        exact OutL.mk rfl (by omega) (own.base (by omega)) R.B

end Go.Proofs.Ytfilbcnhbadbbaa
