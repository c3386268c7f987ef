/-
  turned, mirrored, put; RegionTurn and RegionFlip, both sides: what they return.
-/
import Derived.Test.YtepnhhehfkcgkaaStep
import Derived.Test.YtepnhhehfkcgkaaMem2
import Derived.Test.YtepnhhehfkcgkaaRBox
import Derived.Deep.RegionLaw
namespace Go.Proofs.Ytepnhhehfkcgkaa
open Go.RowKit

def turnT (W T k : Nat) : Nat := k % W * T + (T - 1 - k / W)
def flipT (W _T k : Nat) : Nat := k / W * W + (W - 1 - k % W)

theorem put_lt {x y W T : Nat} (h2 : y < T) (h3 : x * T + T ≤ W * T) : x * T + (T - 1 - y) < W * T := by omega
theorem turnT_lt {W T k : Nat} (hW : 1 ≤ W) (hk : k < W * T) : turnT W T k < W * T := by
  have h1 := Nat.mod_lt k (show W > 0 by omega)
  have h2 := Nat.div_lt_of_lt_mul hk
  have h3 : (k % W + 1) * T ≤ W * T := Nat.mul_le_mul_right _ h1
  rw [Nat.add_mul, Nat.one_mul] at h3
  exact put_lt h2 h3
theorem flipT_lt {W T k : Nat} (hW : 1 ≤ W) (hk : k < W * T) : flipT W T k < W * T := by
  have h1 := Nat.mod_lt k (show W > 0 by omega)
  have h2 := Nat.div_lt_of_lt_mul hk
  have h3 : (k / W + 1) * W ≤ T * W := Nat.mul_le_mul_right _ h2
  rw [Nat.add_mul, Nat.one_mul] at h3
  rw [Nat.mul_comm W T]
  exact put_lt h1 h3

/-- The cells put elsewhere, one by one. -/
def putL (n : Nat) (to : Nat → Nat) (bs : List Bool) : Nat → List Bool
  | 0 => List.replicate n false
  | k + 1 => (putL n to bs k).set (to k) (bs[k]?.getD false)
theorem putL_len (n : Nat) (to : Nat → Nat) (bs : List Bool) (k : Nat) : (putL n to bs k).length = n := by
  induction k with
  | zero => simp [putL]
  | succ k ih => rw [putL, List.length_set, ih]

set_option maxHeartbeats 400000 in
theorem turned_any (A : Option Addr) (n c W T k : Nat) (w : World) (hW : 1 ≤ W) (hW6 : W ≤ 6) (hT : 1 ≤ T) (hT6 : T ≤ 6) (hk : k < W * T) :
    Calls Try.prog 76 #[.agg #[.int .i64 W, .int .i64 T, .slice A n c], .int .i64 k] w fun e w' => e = .returned (.int .i64 (turnT W T k)) ∧ Below w.heap.size w w' := by
  obtain ⟨x, hx⟩ : ∃ x, k % W = x := ⟨_, rfl⟩
  obtain ⟨y, hy⟩ : ∃ y, k / W = y := ⟨_, rfl⟩
  obtain ⟨f1, f2⟩ := div_facts hW hx hy
  have f3 : y < T := by rw [← hy]; exact Nat.div_lt_of_lt_mul hk
  have hk36 : k ≤ 36 := by have := Nat.mul_le_mul hW6 hT6; omega
  have HX := Lib.hid hx
  have HY := Lib.hid hy
  obtain ⟨c0, c1⟩ := mul_nb (a := (x : Int)) (b := (T : Int)) (by omega) (by omega) (by omega) (by omega)
  obtain ⟨c2, c3⟩ := mul_nb (a := (y : Int)) (b := (W : Int)) (by omega) (by omega) (by omega) (by omega)
  have E : Hid ((x : Int) * (T : Int) + (T : Int) - 1 - (((T : Int) - 1 - (y : Int)) * (-1) + (T : Int) - 1) = ((turnT W T k : Nat) : Int)) := by
    show _ = _
    rw [turnT, hx, hy]
    push_cast
    omega
  clear hx hy f2 hk
  go_enter Try.func76, Try.ntmps76
  go_wp2_with fail
  refine (xy_any A n c W k x y T _ hW (by omega) HX.out HY.out).mono ?_; rintro e w1 ⟨rfl, hb1⟩
  have r1 := (Box.new w (.int .i64 W) (.int .i64 T) (.slice A n c) 34).below hb1
  have k1 := r1.1
  have k2 := r1.2.1
  have k3 := r1.2.2
  go_wp2_with fail
  go_ret
  exact ⟨ret_i (by rw [← E.out]; omega), belowW (below1 w _) hb1⟩
set_option maxHeartbeats 400000 in
theorem mirrored_any (A : Option Addr) (n c W T k : Nat) (w : World) (hW : 1 ≤ W) (hW6 : W ≤ 6) (hT : 1 ≤ T) (hT6 : T ≤ 6) (hk : k < W * T) :
    Calls Try.prog 61 #[.agg #[.int .i64 W, .int .i64 T, .slice A n c], .int .i64 k] w fun e w' => e = .returned (.int .i64 (flipT W T k)) ∧ Below w.heap.size w w' := by
  obtain ⟨x, hx⟩ : ∃ x, k % W = x := ⟨_, rfl⟩
  obtain ⟨y, hy⟩ : ∃ y, k / W = y := ⟨_, rfl⟩
  obtain ⟨f1, f2⟩ := div_facts hW hx hy
  have f3 : y < T := by rw [← hy]; exact Nat.div_lt_of_lt_mul hk
  have hk36 : k ≤ 36 := by have := Nat.mul_le_mul hW6 hT6; omega
  have HX := Lib.hid hx
  have HY := Lib.hid hy
  obtain ⟨c0, c1⟩ := mul_nb (a := (x : Int)) (b := (T : Int)) (by omega) (by omega) (by omega) (by omega)
  obtain ⟨c2, c3⟩ := mul_nb (a := (y : Int)) (b := (W : Int)) (by omega) (by omega) (by omega) (by omega)
  have E : Hid ((y : Int) * (W : Int) + (W : Int) - 1 - (((W : Int) - 1 - (x : Int)) * (-1) + (W : Int) - 1) = ((flipT W T k : Nat) : Int)) := by
    show _ = _
    rw [flipT, hx, hy]
    push_cast
    omega
  clear hx hy f2 hk
  go_enter Try.func61, Try.ntmps61
  go_wp2_with fail
  refine (xy_any A n c W k x y T _ hW (by omega) HX.out HY.out).mono ?_; rintro e w1 ⟨rfl, hb1⟩
  have r1 := (Box.new w (.int .i64 W) (.int .i64 T) (.slice A n c) 34).below hb1
  have k1 := r1.1
  have k2 := r1.2.1
  have k3 := r1.2.2
  go_wp2_with fail
  go_ret
  exact ⟨ret_i (by rw [← E.out]; omega), belowW (below1 w _) hb1⟩

set_option maxHeartbeats 1000000 in
theorem put_turned (A : Option Addr) (n c W T : Nat) (bs : List Bool) (w : World) (V : Valid W T n bs) (h : Sl w A n (bs.map .bool)) :
    Calls Try.prog 60 #[.agg #[.int .i64 W, .int .i64 T, .slice A n c], .int .i64 T, .int .i64 W, .func (.func 76) #[.agg #[.int .i64 W, .int .i64 T, .slice A n c]] #[]] w fun e w' => OutR w w' e T W (putL n (turnT W T) bs n) := by
  have hsz : n = T * W := by rw [V.size, Nat.mul_comm]
  have v0 := V.w0
  have v1 := V.w1
  have v2 := V.t0
  have v3 := V.t1
  have hn36 := V.n36
  have HS := Lib.hid hsz
  clear hsz
  go_enter Try.func60, Try.ntmps60
  go_wp2_with fail
  refine (field_any T W n _ (by omega) (by omega) HS.out).mono ?_; rintro e w1 ⟨g, rfl, hown, hb1⟩
  have z1 : w.heap.size + 1 + 1 ≤ w1.heap.size := by have h := hb1.size; simp only [World.size_alloc] at h; exact h
  have X1 := ((Box.new w (.int .i64 W) (.int .i64 T) (.slice A n c) 34).alloc (.cells #[.int .i64 0, .int .i64 0, .slice none 0 0] 34)).below hb1
  have R1 : Box w1 (w.heap.size + 1) (.int .i64 0) (.int .i64 0) (.slice none 0 0) := by simpa using (Box.new (w.alloc (.cells #[.int .i64 W, .int .i64 T, .slice A n c] 34)) (.int .i64 0) (.int .i64 0) (.slice none 0 0) 34).below hb1
  have T1 : Thaw w1 (w.heap.size + 1) := by simpa using (Thaw.new (w.alloc (.cells #[.int .i64 W, .int .i64 T, .slice A n c] 34)) #[.int .i64 0, .int .i64 0, .slice none 0 0] 34).below hb1
  have B1 : Below w.heap.size w w1 := belowW (belowA (below1 w _)) hb1
  have o1 : Own w1 (w.heap.size + 2) w1.heap.size 4 (some ⟨g, 0, none⟩) n n ((putL n (turnT W T) bs 0).map .bool) := by
    rw [putL, List.map_replicate]; exact hown.base (by simp)
  have hg := o1.2 g 0 rfl
  clear hb1 hown
  have k1 := X1.1
  have k2 := X1.2.1
  have k3 := X1.2.2
  have l1 := X1.lt
  have l2 := Nat.ne_of_lt l1
  go_wp2_with fail
  go_loopw [10, 11, 18] (fun _ _ i wr => ∃ k : Nat, k ≤ n ∧ i = .int .i64 k ∧ Own wr (w.heap.size + 2) w1.heap.size 4 (some ⟨g, 0, none⟩) n n ((putL n (turnT W T) bs k).map .bool) ∧ Below w.heap.size w wr ∧ Thaw wr (w.heap.size + 1) ∧ Box wr (w.heap.size + 1) (.int .i64 0) (.int .i64 0) (.slice none 0 0) ∧ Box wr w1.heap.size (.int .i64 T) (.int .i64 W) (.slice (some ⟨g, 0, none⟩) n n) ∧ w1.heap.size < wr.heap.size) (fun _ _ i _ => n - (intOf i).toNat)
  case atStart => exact ⟨0, Nat.zero_le _, rfl, o1.alloc _, belowA B1, T1.alloc _, R1.alloc _, Box.new _ _ _ _ _, by simp⟩
  case round =>
    clear o1 B1 T1 R1 X1 k1 k2 k3 l1 l2
    obtain ⟨k, hk, rfl, hown, hb, ht, hr, hx, hsz⟩ := hrel
    by_cases hlt : k < n
    · have hkWT : k < W * T := by rw [← V.size]; exact hlt
      have hto : turnT W T k < n := by rw [V.size]; exact turnT_lt v0 hkWT
      obtain ⟨b, off, z, rfl, hz, hc⟩ := (h.below hb).atB hlt
      have HZ := Lib.hid hz
      have HK := Lib.hid hkWT
      have i0 : (0 : Int) ≤ ((turnT W T k : Nat) : Int) := by omega
      have i1 : ((turnT W T k : Nat) : Int) < (n : Int) := by omega
      have k1 := hx.1
      have k2 := hx.2.1
      have k3 := hx.2.2
      clear hz hkWT
      go_wp2_with fail
      go_region_law (first | (go_simp; go_at_call 76; refine (turned_any _ n c W T k _ v0 v1 v2 v3 HK.out).mono ?_; rintro e w2 ⟨rfl, hb2⟩; have q1 := (hx.drew.below hb2).2.2; have o2 := hown.drew.below hb2; have q3 := o2.frozen (turnT W T k); obtain ⟨v', q2⟩ := o2.cellAt hto))
      all_goals
        go_wp2_with fail
        go_roundw
        case rel =>
          refine ⟨k + 1, by omega, by go_num, ?_, (belowW hb.drew hb2).setCell (show w.heap.size ≤ g by omega) _, (ht.drew.below hb2).setCell _ _, (hr.drew.below hb2).setFar (show w.heap.size + 1 ≠ g by omega) _, (hx.drew.below hb2).setFar (show w1.heap.size ≠ g by omega) _, by rw [World.size_setCell]; exact Nat.lt_of_lt_of_le hsz hb2.size⟩
          have := o2.stored (turnT W T k) hto (.bool z)
          rw [putL, HZ.out, List.map_set]
          exact this
        case measure => simp [intOf]; omega
    · have e : k = n := by omega
      subst e
      have k1 := hx.1
      have k2 := hx.2.1
      have k3 := hx.2.2
      have f1 := ht.2 0
      have f2 := ht.2 1
      have f3 := ht.2 2
      have k4 := hr.1
      have k5 := hr.2.1
      have k6 := hr.2.2
      have hne : w.heap.size + 1 ≠ w1.heap.size := by omega
      go_wp2_with fail
      refine bodyPost_ret (v := .agg #[.int .i64 T, .int .i64 W, .slice (some ⟨g, 0, none⟩) k k]) (by simp [results, Try.results60, go_sem, k4, k5, k6]) rfl (OutR.mk (putL_len _ _ _ _) (by omega) ?_ ?_)
      · exact ((((hown.setBelow (show w.heap.size + 1 < w.heap.size + 2 by omega) _).setBelow (show w.heap.size + 1 < w.heap.size + 2 by omega) _).setBelow (show w.heap.size + 1 < w.heap.size + 2 by omega) _).base (by omega)).top (by simp; omega)
      · exact ((hb.setCell (show w.heap.size ≤ w.heap.size + 1 by omega) _).setCell (show w.heap.size ≤ w.heap.size + 1 by omega) _).setCell (show w.heap.size ≤ w.heap.size + 1 by omega) _
set_option maxHeartbeats 1000000 in
theorem put_mirrored (A : Option Addr) (n c W T : Nat) (bs : List Bool) (w : World) (V : Valid W T n bs) (h : Sl w A n (bs.map .bool)) :
    Calls Try.prog 60 #[.agg #[.int .i64 W, .int .i64 T, .slice A n c], .int .i64 W, .int .i64 T, .func (.func 61) #[.agg #[.int .i64 W, .int .i64 T, .slice A n c]] #[]] w fun e w' => OutR w w' e W T (putL n (flipT W T) bs n) := by
  have hsz : n = W * T := by rw [V.size, Nat.mul_comm]
  have v0 := V.w0
  have v1 := V.w1
  have v2 := V.t0
  have v3 := V.t1
  have hn36 := V.n36
  have HS := Lib.hid hsz
  clear hsz
  go_enter Try.func60, Try.ntmps60
  go_wp2_with fail
  refine (field_any W T n _ (by omega) (by omega) HS.out).mono ?_; rintro e w1 ⟨g, rfl, hown, hb1⟩
  have z1 : w.heap.size + 1 + 1 ≤ w1.heap.size := by have h := hb1.size; simp only [World.size_alloc] at h; exact h
  have X1 := ((Box.new w (.int .i64 W) (.int .i64 T) (.slice A n c) 34).alloc (.cells #[.int .i64 0, .int .i64 0, .slice none 0 0] 34)).below hb1
  have R1 : Box w1 (w.heap.size + 1) (.int .i64 0) (.int .i64 0) (.slice none 0 0) := by simpa using (Box.new (w.alloc (.cells #[.int .i64 W, .int .i64 T, .slice A n c] 34)) (.int .i64 0) (.int .i64 0) (.slice none 0 0) 34).below hb1
  have T1 : Thaw w1 (w.heap.size + 1) := by simpa using (Thaw.new (w.alloc (.cells #[.int .i64 W, .int .i64 T, .slice A n c] 34)) #[.int .i64 0, .int .i64 0, .slice none 0 0] 34).below hb1
  have B1 : Below w.heap.size w w1 := belowW (belowA (below1 w _)) hb1
  have o1 : Own w1 (w.heap.size + 2) w1.heap.size 4 (some ⟨g, 0, none⟩) n n ((putL n (flipT W T) bs 0).map .bool) := by
    rw [putL, List.map_replicate]; exact hown.base (by simp)
  have hg := o1.2 g 0 rfl
  clear hb1 hown
  have k1 := X1.1
  have k2 := X1.2.1
  have k3 := X1.2.2
  have l1 := X1.lt
  have l2 := Nat.ne_of_lt l1
  go_wp2_with fail
  go_loopw [10, 11, 18] (fun _ _ i wr => ∃ k : Nat, k ≤ n ∧ i = .int .i64 k ∧ Own wr (w.heap.size + 2) w1.heap.size 4 (some ⟨g, 0, none⟩) n n ((putL n (flipT W T) bs k).map .bool) ∧ Below w.heap.size w wr ∧ Thaw wr (w.heap.size + 1) ∧ Box wr (w.heap.size + 1) (.int .i64 0) (.int .i64 0) (.slice none 0 0) ∧ Box wr w1.heap.size (.int .i64 W) (.int .i64 T) (.slice (some ⟨g, 0, none⟩) n n) ∧ w1.heap.size < wr.heap.size) (fun _ _ i _ => n - (intOf i).toNat)
  case atStart => exact ⟨0, Nat.zero_le _, rfl, o1.alloc _, belowA B1, T1.alloc _, R1.alloc _, Box.new _ _ _ _ _, by simp⟩
  case round =>
    clear o1 B1 T1 R1 X1 k1 k2 k3 l1 l2
    obtain ⟨k, hk, rfl, hown, hb, ht, hr, hx, hsz⟩ := hrel
    by_cases hlt : k < n
    · have hkWT : k < W * T := by rw [← V.size]; exact hlt
      have hto : flipT W T k < n := by rw [V.size]; exact flipT_lt v0 hkWT
      obtain ⟨b, off, z, rfl, hz, hc⟩ := (h.below hb).atB hlt
      have HZ := Lib.hid hz
      have HK := Lib.hid hkWT
      have i0 : (0 : Int) ≤ ((flipT W T k : Nat) : Int) := by omega
      have i1 : ((flipT W T k : Nat) : Int) < (n : Int) := by omega
      have k1 := hx.1
      have k2 := hx.2.1
      have k3 := hx.2.2
      clear hz hkWT
      go_wp2_with fail
      go_region_law (first | (go_simp; go_at_call 61; refine (mirrored_any _ n c W T k _ v0 v1 v2 v3 HK.out).mono ?_; rintro e w2 ⟨rfl, hb2⟩; have q1 := (hx.drew.below hb2).2.2; have o2 := hown.drew.below hb2; have q3 := o2.frozen (flipT W T k); obtain ⟨v', q2⟩ := o2.cellAt hto))
      all_goals
        go_wp2_with fail
        go_roundw
        case rel =>
          refine ⟨k + 1, by omega, by go_num, ?_, (belowW hb.drew hb2).setCell (show w.heap.size ≤ g by omega) _, (ht.drew.below hb2).setCell _ _, (hr.drew.below hb2).setFar (show w.heap.size + 1 ≠ g by omega) _, (hx.drew.below hb2).setFar (show w1.heap.size ≠ g by omega) _, by rw [World.size_setCell]; exact Nat.lt_of_lt_of_le hsz hb2.size⟩
          have := o2.stored (flipT W T k) hto (.bool z)
          rw [putL, HZ.out, List.map_set]
          exact this
        case measure => simp [intOf]; omega
    · have e : k = n := by omega
      subst e
      have k1 := hx.1
      have k2 := hx.2.1
      have k3 := hx.2.2
      have f1 := ht.2 0
      have f2 := ht.2 1
      have f3 := ht.2 2
      have k4 := hr.1
      have k5 := hr.2.1
      have k6 := hr.2.2
      have hne : w.heap.size + 1 ≠ w1.heap.size := by omega
      go_wp2_with fail
      refine bodyPost_ret (v := .agg #[.int .i64 W, .int .i64 T, .slice (some ⟨g, 0, none⟩) k k]) (by simp [results, Try.results60, go_sem, k4, k5, k6]) rfl (OutR.mk (putL_len _ _ _ _) (by omega) ?_ ?_)
      · exact ((((hown.setBelow (show w.heap.size + 1 < w.heap.size + 2 by omega) _).setBelow (show w.heap.size + 1 < w.heap.size + 2 by omega) _).setBelow (show w.heap.size + 1 < w.heap.size + 2 by omega) _).base (by omega)).top (by simp; omega)
      · exact ((hb.setCell (show w.heap.size ≤ w.heap.size + 1 by omega) _).setCell (show w.heap.size ≤ w.heap.size + 1 by omega) _).setCell (show w.heap.size ≤ w.heap.size + 1 by omega) _

end Go.Proofs.Ytepnhhehfkcgkaa
