/-
  carry, TilingTurn and TilingFlip of the program: what they return.
-/
import Derived.Test.YtepnhhehfkcgkaaTurn
import Derived.Test.YtepnhhehfkcgkaaLaidOk
import Derived.Test.YtepnhhehfkcgkaaTilOk
import Derived.Deep.RegionLaw
namespace Go.Proofs.Ytepnhhehfkcgkaa
open Go.RowKit

def turnD (z : Int) : Int := if z = 0 then 0 else z % 4 + 1
def flipD (z : Int) : Int := if z = 1 ∨ z = 3 then backF z else z
/-- The dominoes put elsewhere, one by one. -/
def carL (n : Nat) (to : Nat → Nat) (f : Int → Int) (zs : List Int) : Nat → List Int
  | 0 => List.replicate n 0
  | k + 1 => (carL n to f zs k).set (to k) (f (ent zs k))
theorem carL_len (n : Nat) (to : Nat → Nat) (f : Int → Int) (zs : List Int) (k : Nat) : (carL n to f zs k).length = n := by
  induction k with
  | zero => simp [carL]
  | succ k ih => rw [carL, List.length_set, ih]
def turnM : List Int := [0, 2, 3, 4, 1]
def flipM : List Int := [0, 3, 2, 1, 4]
theorem turnM_at {z : Nat} (h : z < 5) : turnM[z]? = some (turnD z) := by
  have : z = 0 ∨ z = 1 ∨ z = 2 ∨ z = 3 ∨ z = 4 := by omega
  rcases this with rfl | rfl | rfl | rfl | rfl <;> rfl
theorem flipM_at {z : Nat} (h : z < 5) : flipM[z]? = some (flipD z) := by
  have : z = 0 ∨ z = 1 ∨ z = 2 ∨ z = 3 ∨ z = 4 := by omega
  rcases this with rfl | rfl | rfl | rfl | rfl <;> rfl
theorem lays_way {W T n k : Nat} {bs : List Bool} {zs : List Int} (hk : k < n) (h : laysAll W T bs zs n = true) : 0 ≤ ent zs k ∧ ent zs k ≤ 4 := by
  have := laysAll_one hk h
  rw [laysOne, Bool.or_eq_true, beq_iff_eq, Bool.and_eq_true, decide_eq_true_eq] at this
  rcases this with h0 | ⟨h0, _⟩
  · omega
  · have : inB (ent zs k) 1 4 = true := by
      cases hi : inB (ent zs k) 1 4 with
      | true => rfl
      | false => rw [stepF_no hi] at h0; omega
    have := inB_iff.1 this
    omega

set_option maxHeartbeats 1000000 in
theorem carry_turned (A : Option Addr) (n c W T : Nat) (bs : List Bool) (B : Option Addr) (d : Nat) (zs : List Int) (C : Option Addr) (e0 : Nat) (w : World) (V : Valid W T n bs) (h' : Sl w B n (zs.map (.int .i64))) (hla : laysAll W T bs zs n = true) (ht : Sl w C 5 (turnM.map (.int .i64))) :
    Calls Try.prog 75 #[.slice B n d, .func (.func 76) #[.agg #[.int .i64 W, .int .i64 T, .slice A n c]] #[], .slice C 5 e0] w fun e w' => OutL w w' e (carL n (turnT W T) turnD zs n) := by
  have v0 := V.w0
  have v1 := V.w1
  have v2 := V.t0
  have v3 := V.t1
  have hn36 := V.n36
  have HS := Lib.hid V.size
  have HLA := Lib.hid hla
  obtain ⟨cb, co, rfl⟩ : ∃ cb co, C = some ⟨cb, co, none⟩ := by obtain ⟨b, o, h, _⟩ := ht.2 (by omega); exact ⟨b, o, h⟩
  have hmk := run_make_row' (P := Try.prog) 39 3 (.int .i64 0) 8 Try.underlying39 Try.infoInt rfl .i64 .i64 n (by omega) (by omega)
  have o0 := Own.made (w := w) (base := w.heap.size) (e := 3) (cs := madeCells #[.int .i64 0] n) (n := n) (Nat.le_refl _) (by unfold maxLen; omega) (by rw [← Array.length_toList, toList_madeCells_one, List.length_replicate])
  rw [toList_madeCells_one] at o0
  clear hla
  go_enter Try.func75, Try.ntmps75
  go_wp2_with fail
  go_loopg [8, 9, 15] n (fun gk _ _ i wx => ∃ k : Nat, k ≤ n ∧ gk = n - k ∧ i = .int .i64 k ∧ Own wx w.heap.size (w.heap.size + 1) 3 (some ⟨w.heap.size, 0, none⟩) n n ((carL n (turnT W T) turnD zs k).map (.int .i64)) ∧ Below w.heap.size w wx ∧ w.heap.size < wx.heap.size)
  case atStart => exact ⟨0, Nat.zero_le _, rfl, rfl, by rw [carL, List.map_replicate]; exact o0, below1 _ _, by simp⟩
  case round =>
    clear o0
    obtain ⟨k, hk, rfl, rfl, hown, hb, hz⟩ := hrel
    obtain ⟨wo, hwo⟩ : ∃ wo, wo = wr := ⟨_, rfl⟩
    subst hwo
    by_cases hlt : k < n
    · have hkWT : k < W * T := by rw [← HS.out]; exact hlt
      have hto : turnT W T k < n := by rw [HS.out]; exact turnT_lt v0 hkWT
      obtain ⟨b, off, z, rfl, hzz, hc⟩ := (h'.below hb).atI hlt
      obtain ⟨z0, z4⟩ := lays_way hlt HLA.out
      rw [ent_of hzz] at z0 z4
      obtain ⟨zn, rfl⟩ := Int.eq_ofNat_of_zero_le z0
      have ht1 := (ht.below hb).cellI (turnM_at (z := zn) (by omega))
      have j0 : (0 : Int) ≤ (zn : Int) := by omega
      have j1 : (zn : Int) < 5 := by omega
      have HZ := Lib.hid (ent_of hzz)
      have HK := Lib.hid hkWT
      have i0 : (0 : Int) ≤ ((turnT W T k : Nat) : Int) := by omega
      have i1 : ((turnT W T k : Nat) : Int) < (n : Int) := by omega
      have f1 := hown.frozen (turnT W T k)
      obtain ⟨v1', q1'⟩ := hown.cellAt hto
      clear hzz hkWT
      go_wp2_with fail
      go_region_law (first | (go_simp; go_at_call 76; refine (turned_any _ n c W T k _ v0 v1 v2 v3 HK.out).mono ?_; rintro e w2 ⟨rfl, hb2⟩; have ht2 := ((ht.below hb).drew.below hb2).cellI (turnM_at (z := zn) (by omega)); have o2 := hown.drew.below hb2; have q3 := o2.frozen (turnT W T k); obtain ⟨v', q2⟩ := o2.cellAt hto))
      all_goals
        go_wp2_with fail
        go_roundg (n - (k + 1))
        case measure => omega
        case rel =>
          refine ⟨k + 1, by omega, rfl, by go_num, ?_, (belowW hb.drew hb2).setCell (Nat.le_refl _) _, by rw [World.size_setCell]; exact Nat.lt_of_lt_of_le hz hb2.size⟩
          have := o2.stored (turnT W T k) hto (.int .i64 (turnD zn))
          rw [carL, HZ.out, List.map_set]
          exact this
    · have e : k = n := by omega
      subst e
      go_wp2_with fail
      go_ret
      exact OutL.mk (carL_len _ _ _ _ _) (by omega) (hown.top (by omega)) hb
set_option maxHeartbeats 1000000 in
theorem carry_mirrored (A : Option Addr) (n c W T : Nat) (bs : List Bool) (B : Option Addr) (d : Nat) (zs : List Int) (C : Option Addr) (e0 : Nat) (w : World) (V : Valid W T n bs) (h' : Sl w B n (zs.map (.int .i64))) (hla : laysAll W T bs zs n = true) (ht : Sl w C 5 (flipM.map (.int .i64))) :
    Calls Try.prog 75 #[.slice B n d, .func (.func 61) #[.agg #[.int .i64 W, .int .i64 T, .slice A n c]] #[], .slice C 5 e0] w fun e w' => OutL w w' e (carL n (flipT W T) flipD zs n) := by
  have v0 := V.w0
  have v1 := V.w1
  have v2 := V.t0
  have v3 := V.t1
  have hn36 := V.n36
  have HS := Lib.hid V.size
  have HLA := Lib.hid hla
  obtain ⟨cb, co, rfl⟩ : ∃ cb co, C = some ⟨cb, co, none⟩ := by obtain ⟨b, o, h, _⟩ := ht.2 (by omega); exact ⟨b, o, h⟩
  have hmk := run_make_row' (P := Try.prog) 39 3 (.int .i64 0) 8 Try.underlying39 Try.infoInt rfl .i64 .i64 n (by omega) (by omega)
  have o0 := Own.made (w := w) (base := w.heap.size) (e := 3) (cs := madeCells #[.int .i64 0] n) (n := n) (Nat.le_refl _) (by unfold maxLen; omega) (by rw [← Array.length_toList, toList_madeCells_one, List.length_replicate])
  rw [toList_madeCells_one] at o0
  clear hla
  go_enter Try.func75, Try.ntmps75
  go_wp2_with fail
  go_loopg [8, 9, 15] n (fun gk _ _ i wx => ∃ k : Nat, k ≤ n ∧ gk = n - k ∧ i = .int .i64 k ∧ Own wx w.heap.size (w.heap.size + 1) 3 (some ⟨w.heap.size, 0, none⟩) n n ((carL n (flipT W T) flipD zs k).map (.int .i64)) ∧ Below w.heap.size w wx ∧ w.heap.size < wx.heap.size)
  case atStart => exact ⟨0, Nat.zero_le _, rfl, rfl, by rw [carL, List.map_replicate]; exact o0, below1 _ _, by simp⟩
  case round =>
    clear o0
    obtain ⟨k, hk, rfl, rfl, hown, hb, hz⟩ := hrel
    obtain ⟨wo, hwo⟩ : ∃ wo, wo = wr := ⟨_, rfl⟩
    subst hwo
    by_cases hlt : k < n
    · have hkWT : k < W * T := by rw [← HS.out]; exact hlt
      have hto : flipT W T k < n := by rw [HS.out]; exact flipT_lt v0 hkWT
      obtain ⟨b, off, z, rfl, hzz, hc⟩ := (h'.below hb).atI hlt
      obtain ⟨z0, z4⟩ := lays_way hlt HLA.out
      rw [ent_of hzz] at z0 z4
      obtain ⟨zn, rfl⟩ := Int.eq_ofNat_of_zero_le z0
      have ht1 := (ht.below hb).cellI (flipM_at (z := zn) (by omega))
      have j0 : (0 : Int) ≤ (zn : Int) := by omega
      have j1 : (zn : Int) < 5 := by omega
      have HZ := Lib.hid (ent_of hzz)
      have HK := Lib.hid hkWT
      have i0 : (0 : Int) ≤ ((flipT W T k : Nat) : Int) := by omega
      have i1 : ((flipT W T k : Nat) : Int) < (n : Int) := by omega
      have f1 := hown.frozen (flipT W T k)
      obtain ⟨v1', q1'⟩ := hown.cellAt hto
      clear hzz hkWT
      go_wp2_with fail
      go_region_law (first | (go_simp; go_at_call 61; refine (mirrored_any _ n c W T k _ v0 v1 v2 v3 HK.out).mono ?_; rintro e w2 ⟨rfl, hb2⟩; have ht2 := ((ht.below hb).drew.below hb2).cellI (flipM_at (z := zn) (by omega)); have o2 := hown.drew.below hb2; have q3 := o2.frozen (flipT W T k); obtain ⟨v', q2⟩ := o2.cellAt hto))
      all_goals
        go_wp2_with fail
        go_roundg (n - (k + 1))
        case measure => omega
        case rel =>
          refine ⟨k + 1, by omega, rfl, by go_num, ?_, (belowW hb.drew hb2).setCell (Nat.le_refl _) _, by rw [World.size_setCell]; exact Nat.lt_of_lt_of_le hz hb2.size⟩
          have := o2.stored (flipT W T k) hto (.int .i64 (flipD zn))
          rw [carL, HZ.out, List.map_set]
          exact this
    · have e : k = n := by omega
      subst e
      go_wp2_with fail
      go_ret
      exact OutL.mk (carL_len _ _ _ _ _) (by omega) (hown.top (by omega)) hb

def turnZ (W T : Int) (n : Nat) (bs : List Bool) (m : Nat) (zs : List Int) : List Int := if laidB W T n bs m zs then carL n (turnT W.toNat T.toNat) turnD zs n else []
def flipZ (W T : Int) (n : Nat) (bs : List Bool) (m : Nat) (zs : List Int) : List Int := if laidB W T n bs m zs then carL n (flipT W.toNat T.toNat) flipD zs n else []

set_option maxHeartbeats 1000000 in
theorem tilTurn_impl (A : Option Addr) (n c : Nat) (W T : Int) (bs : List Bool) (B : Option Addr) (m d : Nat) (zs : List Int) (w : World) (hn : n ≤ 1048576) (h : Sl w A n (bs.map .bool)) (hm : m ≤ 1048576) (h' : Sl w B m (zs.map (.int .i64))) (hz : ∀ z ∈ zs, I64 z) :
    Calls Try.prog 42 #[.agg #[.int .i64 W, .int .i64 T, .slice A n c], .slice B m d] w fun e w' => OutL w w' e (turnZ W T n bs m zs) := by
  have hl := h.1
  rw [List.length_map] at hl
  have HZ0 := Lib.hid hz
  clear hz
  have hmf : ∀ (fn : Fn) (first cap : Array Value) (w : World), (Instr.makeFunc fn first cap).run Try.prog w = .ok (.func fn first cap) w := fun _ _ _ _ => rfl
  cases hv : laidB W T n bs m zs
  · have E1 : turnZ W T n bs m zs = [] := by rw [turnZ, hv]; rfl
    rw [E1]
    have HV := Lib.hid hv
    clear hl hv E1
    go_enter Try.func42, Try.ntmps42
    go_wp2_with fail
    refine (laid_impl A n c W T bs B m d zs _ hn (h.alloc _) hm (h'.alloc _) HZ0.out).mono ?_; rintro e w1 ⟨rfl, hb1⟩
    rw [HV.out]
    go_wp2_with fail
    go_ret
    exact outL_nil w (belowW (below1 w _) hb1)
  · have HV := Lib.hid hv
    obtain ⟨W, T, rfl, rfl, V, e, hla⟩ := laid_of hv hl
    subst e
    have E1 : turnZ W T m bs m zs = carL m (turnT W T) turnD zs m := by rw [turnZ, hv]; rfl
    rw [E1]
    have HLA := Lib.hid hla
    clear hl hv E1 hla
    go_enter Try.func42, Try.ntmps42
    go_wp2_with fail
    refine (laid_impl A m c W T bs B m d zs _ hn (h.alloc _) hm (h'.alloc _) HZ0.out).mono ?_; rintro e w1 ⟨rfl, hb1⟩
    rw [HV.out]
    have R1 := P1.of hb1
    clear hb1
    have k1 := R1.X.1
    have k2 := R1.X.2.1
    have k3 := R1.X.2.2
    go_wp2_with fail
    have ht : Sl (w1.alloc (.cells #[.int .i64 0, .int .i64 2, .int .i64 3, .int .i64 4, .int .i64 1] 3)) (some ⟨w1.heap.size, 0, none⟩) 5 (turnM.map (.int .i64)) := (Own.made (w := w1) (base := w1.heap.size) (e := 3) (cs := #[.int .i64 0, .int .i64 2, .int .i64 3, .int .i64 4, .int .i64 1]) (n := 5) (Nat.le_refl _) (by unfold maxLen; omega) rfl).sl
    refine (carry_turned A m c W T bs B d zs (some ⟨w1.heap.size, 0, none⟩) 5 _ V ((h'.below R1.B).alloc _) HLA.out ht).mono ?_; rintro e w3 ⟨D, q, q0, rfl, own, hb3, hle⟩
    go_wp2_with fail
    go_ret
    exact OutL.mkL (c0 := q0) rfl hle (own.base (by have := R1.B.size; simp; omega)) (belowW (belowA R1.B) hb3)
set_option maxHeartbeats 1000000 in
theorem tilFlip_impl (A : Option Addr) (n c : Nat) (W T : Int) (bs : List Bool) (B : Option Addr) (m d : Nat) (zs : List Int) (w : World) (hn : n ≤ 1048576) (h : Sl w A n (bs.map .bool)) (hm : m ≤ 1048576) (h' : Sl w B m (zs.map (.int .i64))) (hz : ∀ z ∈ zs, I64 z) :
    Calls Try.prog 47 #[.agg #[.int .i64 W, .int .i64 T, .slice A n c], .slice B m d] w fun e w' => OutL w w' e (flipZ W T n bs m zs) := by
  have hl := h.1
  rw [List.length_map] at hl
  have HZ0 := Lib.hid hz
  clear hz
  have hmf : ∀ (fn : Fn) (first cap : Array Value) (w : World), (Instr.makeFunc fn first cap).run Try.prog w = .ok (.func fn first cap) w := fun _ _ _ _ => rfl
  cases hv : laidB W T n bs m zs
  · have E1 : flipZ W T n bs m zs = [] := by rw [flipZ, hv]; rfl
    rw [E1]
    have HV := Lib.hid hv
    clear hl hv E1
    go_enter Try.func47, Try.ntmps47
    go_wp2_with fail
    refine (laid_impl A n c W T bs B m d zs _ hn (h.alloc _) hm (h'.alloc _) HZ0.out).mono ?_; rintro e w1 ⟨rfl, hb1⟩
    rw [HV.out]
    go_wp2_with fail
    go_ret
    exact outL_nil w (belowW (below1 w _) hb1)
  · have HV := Lib.hid hv
    obtain ⟨W, T, rfl, rfl, V, e, hla⟩ := laid_of hv hl
    subst e
    have E1 : flipZ W T m bs m zs = carL m (flipT W T) flipD zs m := by rw [flipZ, hv]; rfl
    rw [E1]
    have HLA := Lib.hid hla
    clear hl hv E1 hla
    go_enter Try.func47, Try.ntmps47
    go_wp2_with fail
    refine (laid_impl A m c W T bs B m d zs _ hn (h.alloc _) hm (h'.alloc _) HZ0.out).mono ?_; rintro e w1 ⟨rfl, hb1⟩
    rw [HV.out]
    have R1 := P1.of hb1
    clear hb1
    have k1 := R1.X.1
    have k2 := R1.X.2.1
    have k3 := R1.X.2.2
    go_wp2_with fail
    have ht : Sl (w1.alloc (.cells #[.int .i64 0, .int .i64 3, .int .i64 2, .int .i64 1, .int .i64 4] 3)) (some ⟨w1.heap.size, 0, none⟩) 5 (flipM.map (.int .i64)) := (Own.made (w := w1) (base := w1.heap.size) (e := 3) (cs := #[.int .i64 0, .int .i64 3, .int .i64 2, .int .i64 1, .int .i64 4]) (n := 5) (Nat.le_refl _) (by unfold maxLen; omega) rfl).sl
    refine (carry_mirrored A m c W T bs B d zs (some ⟨w1.heap.size, 0, none⟩) 5 _ V ((h'.below R1.B).alloc _) HLA.out ht).mono ?_; rintro e w3 ⟨D, q, q0, rfl, own, hb3, hle⟩
    go_wp2_with fail
    go_ret
    exact OutL.mkL (c0 := q0) rfl hle (own.base (by have := R1.B.size; simp; omega)) (belowW (belowA R1.B) hb3)

end Go.Proofs.Ytepnhhehfkcgkaa
