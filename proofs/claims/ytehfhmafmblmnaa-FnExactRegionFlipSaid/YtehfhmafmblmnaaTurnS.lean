/-
  RegionTurn and RegionFlip of the reference: what they return.
-/
import Derived.Test.YtehfhmafmblmnaaTurnI
import Derived.Test.YtehfhmafmblmnaaStepTo
import Derived.BigRegion
import Derived.Deep.RegionHeld3
import Derived.Deep.DeepCutAuto
import Derived.IntWalk
namespace Go.Proofs.Ytehfhmafmblmnaa
open Go.RowKit

/-- What lies there when the empty region has been made. -/
def MadeZ (w : World) (n : Nat) (W T : Int) (A : Option Addr) (c : Nat) (P Q : Int) (s : Value) (wx : World) : Prop :=
  ∃ b g : Nat, s = .pointer (some ⟨b, 0, none⟩) ∧ w.heap.size + 2 ≤ b ∧ g ≠ b ∧ Box wx b (.int .i64 P) (.int .i64 Q) (.slice (some ⟨g, 0, none⟩) n n) ∧ Own wx (w.heap.size + 2) wx.heap.size 4 (some ⟨g, 0, none⟩) n n (List.replicate n (.bool false)) ∧
    PR w (.int .i64 W) (.int .i64 T) (.slice A n c) wx
theorem own_zeros (w : World) (n base : Nat) (hb : base ≤ w.heap.size) (hn : n ≤ 4194304) : Own (w.alloc (.cells (madeCells #[.bool false] n) 4)) base (w.alloc (.cells (madeCells #[.bool false] n) 4)).heap.size 4 (some ⟨w.heap.size, 0, none⟩) n n (List.replicate n (.bool false)) := by
  have := Own.made (w := w) (base := base) (e := 4) (cs := madeCells #[.bool false] n) (n := n) hb (by unfold maxLen; omega) (by rw [← Array.length_toList, toList_madeCells_one, List.length_replicate])
  rw [toList_madeCells_one] at this
  exact this.top (by simp)
theorem madeZ_late {w w2 : World} {n c : Nat} {W T P Q : Int} {A : Option Addr} (R : PR w (.int .i64 W) (.int .i64 T) (.slice A n c) w2) (hn : n ≤ 4194304) :
    MadeZ w n W T A c P Q (.pointer (some ⟨w2.heap.size + 1, 0, none⟩)) ((w2.alloc (.cells (madeCells #[.bool false] n) 4)).alloc (.cells #[.int .i64 P, .int .i64 Q, .slice (some ⟨w2.heap.size, 0, none⟩) n n] 27)) := by
  have z := R.z
  exact ⟨w2.heap.size + 1, w2.heap.size, rfl, by omega, by omega, by simpa using Box.new (w2.alloc (.cells (madeCells #[.bool false] n) 4)) (.int .i64 P) (.int .i64 Q) (.slice (some ⟨w2.heap.size, 0, none⟩) n n) 27, ((own_zeros w2 n (w.heap.size + 2) z hn).alloc _).top (by simp), (R.alloc _).alloc _⟩
theorem madeZ_early {w w2 : World} {n c : Nat} {W T P Q : Int} {A : Option Addr} (R : PR w (.int .i64 W) (.int .i64 T) (.slice A n c) w2) (hn : n ≤ 4194304) :
    MadeZ w n W T A c P Q (.pointer (some ⟨w2.heap.size, 0, none⟩)) ((w2.alloc (.cells #[.int .i64 P, .int .i64 Q, .slice (some ⟨w2.heap.size + 1, 0, none⟩) n n] 27)).alloc (.cells (madeCells #[.bool false] n) 4)) := by
  have z := R.z
  have o := own_zeros (w2.alloc (.cells #[.int .i64 P, .int .i64 Q, .slice (some ⟨w2.heap.size + 1, 0, none⟩) n n] 27)) n (w.heap.size + 2) (by simp; omega) hn
  simp only [World.size_alloc] at o
  exact ⟨w2.heap.size, w2.heap.size + 1, rfl, z, by omega, (Box.new w2 _ _ _ 27).alloc _, by simpa using o, (R.alloc _).alloc _⟩

/-- the arithmetic of the place to put a cell at -/
theorem put_wraps {a b x y p : Int} (h0 : 0 ≤ a * b) (h1 : a * b ≤ 42) (hx : 0 ≤ x) (hx' : x ≤ 7) (hy : 0 ≤ y) (hy' : y ≤ 40) (hp : a * b + x - 1 - y = p) :
    IntKind.i64.wrap (a * b) = a * b ∧ IntKind.i64.wrap (a * b + x) = a * b + x ∧ IntKind.i64.wrap (a * b + x - 1) = a * b + x - 1 ∧ IntKind.i64.wrap (a * b + x - 1 - y) = p := by
  refine ⟨IntWalk.i64_in _ (by omega), IntWalk.i64_in _ (by omega), IntWalk.i64_in _ (by omega), ?_⟩
  rw [IntWalk.i64_in _ (by omega)]; exact hp

set_option maxHeartbeats 1000000 in
theorem turn_spec (A : Option Addr) (n c : Nat) (W T : Int) (bs : List Bool) (w : World) (hn : n ≤ 1048576) (h : Sl w A n (bs.map .bool)) :
    Calls Try.prog 41 #[.agg #[.int .i64 W, .int .i64 T, .slice A n c]] w fun e w' => OutR w w' e (turnW W T n bs) (turnH W T n bs) (turnC W T n bs) := by
  have hl := h.1
  rw [List.length_map] at hl
  by_cases hv : validB W T n bs = true
  · obtain ⟨W, T, rfl, rfl, V⟩ := valid_of hv hl
    obtain ⟨e1, e2, e3⟩ := turn_yes hv
    rw [e1, e2, e3]
    have HV := Lib.hid hv
    clear hl e1 e2 e3 hv
    have n36 := V.n36
    have v0 := V.w0
    have v1 := V.w1
    have v2 := V.t0
    have v3 := V.t1
    have hmk := run_make_row' (P := Try.prog) 22 4 (.bool false) 1 Try.underlying22 Try.infoBool rfl .i64 .i64 n (by omega) (by omega)
    go_enter Try.func41, Try.ntmps41
    go_wp2_with fail
    refine (valid_spec A n c W T bs _ (by omega) ((h.alloc _).alloc _)).mono ?_; rintro e w1 ⟨rfl, hb1⟩
    rw [HV.out]
    have R1 := PR.of hb1
    clear hb1
    have k1 := R1.X.1
    have k2 := R1.X.2.1
    have k3 := R1.X.2.2
    have n1 : w1.heap.size ≠ w.heap.size := by have := R1.z; omega
    have n2 : w1.heap.size + 1 ≠ w.heap.size := by have := R1.z; omega
    go_upto_region 3 with fail
    go_cut [3] (fun s wx => MadeZ w n W T A c T W s wx)
    case first =>
      go_region_held3 (fun w' => w'.cell? ⟨w.heap.size, 0, none⟩ = some (.int .i64 W) ∧ w'.cell? ⟨w.heap.size, 1, none⟩ = some (.int .i64 T) ∧ w'.cell? ⟨w.heap.size, 2, none⟩ = some (.slice A n c))
        (first | exact ⟨k1, k2, k3⟩ | go_keep)
        (first | fail | fail)
      · go_wp2_with fail
        go_meet
        have m := madeZ_late (P := T) (Q := W) R1.drew (show n ≤ 4194304 by omega)
        exact m
      · go_wp2_with fail
        go_meet
        have m := madeZ_early (P := T) (Q := W) R1.drew (show n ≤ 4194304 by omega)
        exact m
    case rest =>
      obtain ⟨b1, g, rfl, hb1, hgb, x1, o1, R2⟩ := hcut
      clear R1 k1 k2 k3 n1 n2 hmk
      have hg := o1.2 g 0 rfl
      have o2 : Own wc (w.heap.size + 2) wc.heap.size 4 (some ⟨g, 0, none⟩) n n ((putL n (turnT W T) bs 0).map .bool) := by rw [putL, List.map_replicate]; exact o1
      clear o1
      go_wp2_with fail
      go_loopw [4] (fun i wr => ∃ k : Nat, k ≤ n ∧ i = .int .i64 k ∧ Own wr (w.heap.size + 2) wc.heap.size 4 (some ⟨g, 0, none⟩) n n ((putL n (turnT W T) bs k).map .bool) ∧ Box wr b1 (.int .i64 T) (.int .i64 W) (.slice (some ⟨g, 0, none⟩) n n) ∧ PR w (.int .i64 W) (.int .i64 T) (.slice A n c) wr ∧ wc.heap.size ≤ wr.heap.size) (fun i _ => n - (intOf i).toNat)
      case atStart => exact ⟨0, Nat.zero_le _, rfl, o2, x1, R2, Nat.le_refl _⟩
      case round =>
        clear o2 x1 R2
        obtain ⟨k, hk, rfl, hown, hx, R, hsz⟩ := hrel
        have k1 := R.X.1
        have k2 := R.X.2.1
        have k3 := R.X.2.2
        by_cases hlt : k < n
        · have hkWT : k < W * T := by rw [← V.size]; exact hlt
          have hto : turnT W T k < n := by rw [V.size]; exact turnT_lt v0 hkWT
          obtain ⟨b, off, z, rfl, hz, hc⟩ := (h.below R.B).atB hlt
          have hbz : b < w.heap.size := (h.block (by omega)).elim fun b' hh => by
            obtain ⟨off', hA, hh⟩ := hh; injection hA with hA; injection hA with hA _ _; omega
          have S := stepIn_of v0 v1 v2 v3 hkWT
          obtain ⟨x, hxx⟩ : ∃ x, k % W = x := ⟨_, rfl⟩
          obtain ⟨y, hyy⟩ : ∃ y, k / W = y := ⟨_, rfl⟩
          rw [hxx, hyy] at S
          have hE : ((turnT W T k : Nat) : Int) = (x : Int) * (T : Int) + (T : Int) - 1 - (y : Int) := by
            have q1 := S.xW
            have q2 := S.yT
            rw [turnT, hxx, hyy]; push_cast; omega
          obtain ⟨i1, i2, i3, i4, i5, i6, i7⟩ := S.i64
          have q1 := S.xW
          have q2 := S.yT
          obtain ⟨m0, m1⟩ := mul_nb (a := (x : Int)) (b := (T : Int)) (by omega) (by omega) (by omega) (by omega)
          obtain ⟨j1, j2, j3, j4⟩ := put_wraps (x := (T : Int)) (y := (y : Int)) m0 m1 (by omega) (by omega) (by omega) (by omega) hE.symm
          have HZ := Lib.hid hz
          have p0 : (0 : Int) ≤ ((turnT W T k : Nat) : Int) := by omega
          have p1 : ((turnT W T k : Nat) : Int) < (n : Int) := by omega
          have p2 : (0 : Int) ≤ (k : Int) := by omega
          have p3 : (k : Int) < (n : Int) := by omega
          have k4 := hx.2.2
          have f1 := hown.frozen (turnT W T k)
          obtain ⟨v', f2⟩ := hown.cellAt hto
          have n1 : g ≠ w.heap.size := by omega
          have n2 : g ≠ b := by omega
          have hW1 : (1 : Int) ≤ (W : Int) := by omega
          have hW0 : W ≠ 0 := by omega
          have hW2 : (W : Int) ≠ 0 := by omega
          have j5 : IntKind.i64.wrap (y : Int) = y := IntWalk.i64_in _ (by omega)
          have j6 : IntKind.i64.wrap (x : Int) = x := IntWalk.i64_in _ (by omega)
          clear hz hkWT S hE hxx hyy i1 i2 m0 m1
          go_wp2_with fail
          go_region_held3 (fun w' => w'.cell? ⟨w.heap.size, 0, none⟩ = some (.int .i64 W) ∧ w'.cell? ⟨w.heap.size, 1, none⟩ = some (.int .i64 T) ∧ w'.cell? ⟨w.heap.size, 2, none⟩ = some (.slice (some ⟨b, off, none⟩) n c) ∧ w'.cell? ⟨b1, 2, none⟩ = some (.slice (some ⟨g, 0, none⟩) n n) ∧ w'.cell? ⟨b, off + k, none⟩ = some (.bool z))
            (first | exact ⟨k1, k2, k3, k4, hc⟩ | go_keep)
            (first | fail | fail)
          go_wp2_with fail
          go_roundw
          case rel =>
            refine ⟨k + 1, by omega, by go_num, ?_, hx.drew.setFar (show b1 ≠ g by omega) _, R.drew.set (show w.heap.size + 2 ≤ g by omega) _, by show wc.heap.size ≤ (wr.setCell _ _).heap.size; rw [World.size_setCell]; exact hsz⟩
            have := hown.drew.stored (turnT W T k) hto (.bool z)
            rw [putL, HZ.out, List.map_set]
            exact this
          case measure => simp [intOf]; omega
        · have e : k = n := by omega
          subst e
          have k4 := hx.1
          have k5 := hx.2.1
          have k6 := hx.2.2
          have f1 := R.T.2 0
          have f2 := R.T.2 1
          have f3 := R.T.2 2
          have c1 := R.R.1
          have c2 := R.R.2.1
          have c3 := R.R.2.2
          have hne : b1 ≠ w.heap.size + 1 := by omega
          go_wp2_with fail
          exact bodyPost_ret (v := .agg #[.int .i64 T, .int .i64 W, .slice (some ⟨g, 0, none⟩) k k]) (by simp [results, Try.results41, go_sem, c1, c2, c3]) rfl (OutR.mk (putL_len _ _ _ _) (by omega) (PR.own hown rfl (Nat.le_refl _) hsz _ _ _) (R.fin _ _ _))
  · obtain ⟨e1, e2, e3⟩ := turn_no hv
    rw [e1, e2, e3]
    have hv' : validB W T n bs = false := by simpa using hv
    have HV := Lib.hid hv'
    clear hv hl e1 e2 e3 hv'
    go_enter Try.func41, Try.ntmps41
    go_wp2_with fail
    refine (valid_spec A n c W T bs _ (by omega) ((h.alloc _).alloc _)).mono ?_; rintro e w1 ⟨rfl, hb1⟩
    rw [HV.out]
    have R1 := PR.of hb1
    clear hb1
    have f1 := R1.T.2 0
    have f2 := R1.T.2 1
    have f3 := R1.T.2 2
    have k4 := R1.R.1
    have k5 := R1.R.2.1
    have k6 := R1.R.2.2
    go_wp2_with fail
    exact bodyPost_ret (v := .agg #[.int .i64 0, .int .i64 0, .slice none 0 0]) (by simp [results, Try.results41, go_sem, k4, k5, k6]) rfl (outR_zero w (R1.fin _ _ _))
set_option maxHeartbeats 1000000 in
theorem flip_spec (A : Option Addr) (n c : Nat) (W T : Int) (bs : List Bool) (w : World) (hn : n ≤ 1048576) (h : Sl w A n (bs.map .bool)) :
    Calls Try.prog 39 #[.agg #[.int .i64 W, .int .i64 T, .slice A n c]] w fun e w' => OutR w w' e (flipW W T n bs) (flipH W T n bs) (flipC W T n bs) := by
  have hl := h.1
  rw [List.length_map] at hl
  by_cases hv : validB W T n bs = true
  · obtain ⟨W, T, rfl, rfl, V⟩ := valid_of hv hl
    obtain ⟨e1, e2, e3⟩ := flip_yes hv
    rw [e1, e2, e3]
    have HV := Lib.hid hv
    clear hl e1 e2 e3 hv
    have n36 := V.n36
    have v0 := V.w0
    have v1 := V.w1
    have v2 := V.t0
    have v3 := V.t1
    have hmk := run_make_row' (P := Try.prog) 22 4 (.bool false) 1 Try.underlying22 Try.infoBool rfl .i64 .i64 n (by omega) (by omega)
    go_enter Try.func39, Try.ntmps39
    go_wp2_with fail
    refine (valid_spec A n c W T bs _ (by omega) ((h.alloc _).alloc _)).mono ?_; rintro e w1 ⟨rfl, hb1⟩
    rw [HV.out]
    have R1 := PR.of hb1
    clear hb1
    have k1 := R1.X.1
    have k2 := R1.X.2.1
    have k3 := R1.X.2.2
    have n1 : w1.heap.size ≠ w.heap.size := by have := R1.z; omega
    have n2 : w1.heap.size + 1 ≠ w.heap.size := by have := R1.z; omega
    go_upto_region 3 with fail
    go_cut [3] (fun s wx => MadeZ w n W T A c W T s wx)
    case first =>
      go_region_held3 (fun w' => w'.cell? ⟨w.heap.size, 0, none⟩ = some (.int .i64 W) ∧ w'.cell? ⟨w.heap.size, 1, none⟩ = some (.int .i64 T) ∧ w'.cell? ⟨w.heap.size, 2, none⟩ = some (.slice A n c))
        (first | exact ⟨k1, k2, k3⟩ | go_keep)
        (first | fail | fail)
      · go_wp2_with fail
        go_meet
        have m := madeZ_late (P := W) (Q := T) R1.drew (show n ≤ 4194304 by omega)
        exact m
      · go_wp2_with fail
        go_meet
        have m := madeZ_early (P := W) (Q := T) R1.drew (show n ≤ 4194304 by omega)
        exact m
    case rest =>
      obtain ⟨b1, g, rfl, hb1, hgb, x1, o1, R2⟩ := hcut
      clear R1 k1 k2 k3 n1 n2 hmk
      have hg := o1.2 g 0 rfl
      have o2 : Own wc (w.heap.size + 2) wc.heap.size 4 (some ⟨g, 0, none⟩) n n ((putL n (flipT W T) bs 0).map .bool) := by rw [putL, List.map_replicate]; exact o1
      clear o1
      go_wp2_with fail
      go_loopw [4] (fun i wr => ∃ k : Nat, k ≤ n ∧ i = .int .i64 k ∧ Own wr (w.heap.size + 2) wc.heap.size 4 (some ⟨g, 0, none⟩) n n ((putL n (flipT W T) bs k).map .bool) ∧ Box wr b1 (.int .i64 W) (.int .i64 T) (.slice (some ⟨g, 0, none⟩) n n) ∧ PR w (.int .i64 W) (.int .i64 T) (.slice A n c) wr ∧ wc.heap.size ≤ wr.heap.size) (fun i _ => n - (intOf i).toNat)
      case atStart => exact ⟨0, Nat.zero_le _, rfl, o2, x1, R2, Nat.le_refl _⟩
      case round =>
        clear o2 x1 R2
        obtain ⟨k, hk, rfl, hown, hx, R, hsz⟩ := hrel
        have k1 := R.X.1
        have k2 := R.X.2.1
        have k3 := R.X.2.2
        by_cases hlt : k < n
        · have hkWT : k < W * T := by rw [← V.size]; exact hlt
          have hto : flipT W T k < n := by rw [V.size]; exact flipT_lt v0 hkWT
          obtain ⟨b, off, z, rfl, hz, hc⟩ := (h.below R.B).atB hlt
          have hbz : b < w.heap.size := (h.block (by omega)).elim fun b' hh => by
            obtain ⟨off', hA, hh⟩ := hh; injection hA with hA; injection hA with hA _ _; omega
          have S := stepIn_of v0 v1 v2 v3 hkWT
          obtain ⟨x, hxx⟩ : ∃ x, k % W = x := ⟨_, rfl⟩
          obtain ⟨y, hyy⟩ : ∃ y, k / W = y := ⟨_, rfl⟩
          rw [hxx, hyy] at S
          have hE : ((flipT W T k : Nat) : Int) = (y : Int) * (W : Int) + (W : Int) - 1 - (x : Int) := by
            have q1 := S.xW
            have q2 := S.yT
            rw [flipT, hxx, hyy]; push_cast; omega
          obtain ⟨i1, i2, i3, i4, i5, i6, i7⟩ := S.i64
          have q1 := S.xW
          have q2 := S.yT
          obtain ⟨m0, m1⟩ := mul_nb (a := (y : Int)) (b := (W : Int)) (by omega) (by omega) (by omega) (by omega)
          obtain ⟨j1, j2, j3, j4⟩ := put_wraps (x := (W : Int)) (y := (x : Int)) m0 m1 (by omega) (by omega) (by omega) (by omega) hE.symm
          have HZ := Lib.hid hz
          have p0 : (0 : Int) ≤ ((flipT W T k : Nat) : Int) := by omega
          have p1 : ((flipT W T k : Nat) : Int) < (n : Int) := by omega
          have p2 : (0 : Int) ≤ (k : Int) := by omega
          have p3 : (k : Int) < (n : Int) := by omega
          have k4 := hx.2.2
          have f1 := hown.frozen (flipT W T k)
          obtain ⟨v', f2⟩ := hown.cellAt hto
          have n1 : g ≠ w.heap.size := by omega
          have n2 : g ≠ b := by omega
          have hW1 : (1 : Int) ≤ (W : Int) := by omega
          have hW0 : W ≠ 0 := by omega
          have hW2 : (W : Int) ≠ 0 := by omega
          have j5 : IntKind.i64.wrap (y : Int) = y := IntWalk.i64_in _ (by omega)
          have j6 : IntKind.i64.wrap (x : Int) = x := IntWalk.i64_in _ (by omega)
          clear hz hkWT S hE hxx hyy i1 i2 m0 m1
          go_wp2_with fail
          go_region_held3 (fun w' => w'.cell? ⟨w.heap.size, 0, none⟩ = some (.int .i64 W) ∧ w'.cell? ⟨w.heap.size, 1, none⟩ = some (.int .i64 T) ∧ w'.cell? ⟨w.heap.size, 2, none⟩ = some (.slice (some ⟨b, off, none⟩) n c) ∧ w'.cell? ⟨b1, 2, none⟩ = some (.slice (some ⟨g, 0, none⟩) n n) ∧ w'.cell? ⟨b, off + k, none⟩ = some (.bool z))
            (first | exact ⟨k1, k2, k3, k4, hc⟩ | go_keep)
            (first | fail | fail)
          go_wp2_with fail
          go_roundw
          case rel =>
            refine ⟨k + 1, by omega, by go_num, ?_, hx.drew.setFar (show b1 ≠ g by omega) _, R.drew.set (show w.heap.size + 2 ≤ g by omega) _, by show wc.heap.size ≤ (wr.setCell _ _).heap.size; rw [World.size_setCell]; exact hsz⟩
            have := hown.drew.stored (flipT W T k) hto (.bool z)
            rw [putL, HZ.out, List.map_set]
            exact this
          case measure => simp [intOf]; omega
        · have e : k = n := by omega
          subst e
          have k4 := hx.1
          have k5 := hx.2.1
          have k6 := hx.2.2
          have f1 := R.T.2 0
          have f2 := R.T.2 1
          have f3 := R.T.2 2
          have c1 := R.R.1
          have c2 := R.R.2.1
          have c3 := R.R.2.2
          have hne : b1 ≠ w.heap.size + 1 := by omega
          go_wp2_with fail
          exact bodyPost_ret (v := .agg #[.int .i64 W, .int .i64 T, .slice (some ⟨g, 0, none⟩) k k]) (by simp [results, Try.results39, go_sem, c1, c2, c3]) rfl (OutR.mk (putL_len _ _ _ _) (by omega) (PR.own hown rfl (Nat.le_refl _) hsz _ _ _) (R.fin _ _ _))
  · obtain ⟨e1, e2, e3⟩ := flip_no hv
    rw [e1, e2, e3]
    have hv' : validB W T n bs = false := by simpa using hv
    have HV := Lib.hid hv'
    clear hv hl e1 e2 e3 hv'
    go_enter Try.func39, Try.ntmps39
    go_wp2_with fail
    refine (valid_spec A n c W T bs _ (by omega) ((h.alloc _).alloc _)).mono ?_; rintro e w1 ⟨rfl, hb1⟩
    rw [HV.out]
    have R1 := PR.of hb1
    clear hb1
    have f1 := R1.T.2 0
    have f2 := R1.T.2 1
    have f3 := R1.T.2 2
    have k4 := R1.R.1
    have k5 := R1.R.2.1
    have k6 := R1.R.2.2
    go_wp2_with fail
    exact bodyPost_ret (v := .agg #[.int .i64 0, .int .i64 0, .slice none 0 0]) (by simp [results, Try.results39, go_sem, k4, k5, k6]) rfl (outR_zero w (R1.fin _ _ _))

end Go.Proofs.Ytehfhmafmblmnaa
