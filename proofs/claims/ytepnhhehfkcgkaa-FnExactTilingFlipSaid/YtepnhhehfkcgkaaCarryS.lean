/-
  TilingTurn and TilingFlip of the reference: what they return.
-/
import Derived.Test.YtepnhhehfkcgkaaCarry
import Derived.Test.YtepnhhehfkcgkaaStepTo
import Derived.BigRegion
import Derived.Deep.RegionHeld3
import Derived.Deep.DeepCutAuto
import Derived.IntWalk
import Derived.RegionTactic
namespace Go.Proofs.Ytepnhhehfkcgkaa
open Go.RowKit

theorem put_wrapsZ {a b x y p : Int} (h0 : 0 ≤ a * b) (h1 : a * b ≤ 42) (hx : 0 ≤ x) (hx' : x ≤ 7) (hy : 0 ≤ y) (hy' : y ≤ 40) (hp : a * b + x - 1 - y = p) :
    IntKind.i64.wrap (a * b) = a * b ∧ IntKind.i64.wrap (a * b + x) = a * b + x ∧ IntKind.i64.wrap (a * b + x - 1) = a * b + x - 1 ∧ IntKind.i64.wrap (a * b + x - 1 - y) = p := by
  refine ⟨IntWalk.i64_in _ (by omega), IntWalk.i64_in _ (by omega), IntWalk.i64_in _ (by omega), ?_⟩
  rw [IntWalk.i64_in _ (by omega)]; exact hp

/-! plain: a cell that is not yet reached is still bare -/
theorem div_of {x y T : Nat} (h : y < T) : (x * T + (T - 1 - y)) / T = x ∧ (x * T + (T - 1 - y)) % T = T - 1 - y := by
  have h1 : T - 1 - y < T := by omega
  rw [Nat.mul_comm, Nat.add_comm]
  exact ⟨by rw [Nat.add_mul_div_left _ _ (by omega), Nat.div_eq_of_lt h1, Nat.zero_add], by rw [Nat.add_mul_mod_self_left, Nat.mod_eq_of_lt h1]⟩
theorem turnT_inj {W T i k : Nat} (hi : i < W * T) (hk : k < W * T) (h : turnT W T i = turnT W T k) : i = k := by
  have h1 := Nat.div_lt_of_lt_mul hi
  have h2 := Nat.div_lt_of_lt_mul hk
  obtain ⟨a1, a2⟩ := div_of (x := i % W) h1
  obtain ⟨b1, b2⟩ := div_of (x := k % W) h2
  unfold turnT at h
  rw [h] at a1 a2
  have e1 : i % W = k % W := a1.symm.trans b1
  have e2 : T - 1 - i / W = T - 1 - k / W := a2.symm.trans b2
  have e3 : i / W = k / W := by omega
  rw [← Nat.div_add_mod i W, ← Nat.div_add_mod k W, e1, e3]
theorem ent_setG {zs : List Int} {k i : Nat} {v : Int} : ent (zs.set k v) i = if i = k ∧ k < zs.length then v else ent zs i := by
  unfold ent
  rw [List.getElem?_set]
  by_cases h : k = i
  · subst h
    by_cases hl : k < zs.length
    · simp [hl]
    · simp [hl]
  · rw [if_neg h, if_neg (fun h' => h h'.1.symm)]
theorem car_bare {W T n : Nat} {f : Int → Int} {zs : List Int} (hn : n = W * T) {k : Nat} (hk : k < n) : ∀ j, j ≤ k → ent (carL n (turnT W T) f zs j) (turnT W T k) = 0
  | 0, _ => by rw [carL]; unfold ent; rw [List.getElem?_replicate]; split <;> rfl
  | j + 1, hj => by
    rw [carL, ent_setG, if_neg, car_bare hn hk j (by omega)]
    rintro ⟨h, -⟩
    have := turnT_inj (by omega) (by omega) h
    omega
theorem set_same {zs : List Int} {k : Nat} (h : ent zs k = 0) : zs.set k 0 = zs := by
  apply List.ext_getElem?
  intro i
  rw [List.getElem?_set]
  by_cases e : k = i
  · subst e
    rw [if_pos rfl]
    by_cases hl : k < zs.length
    · rw [if_pos hl, List.getElem?_eq_getElem hl]
      unfold ent at h
      rw [List.getElem?_eq_getElem hl] at h
      simp at h
      rw [h]
    · rw [if_neg hl, List.getElem?_eq_none (by omega)]
  · rw [if_neg e]
theorem carL_zero {W T n : Nat} {zs : List Int} (hn : n = W * T) {k : Nat} (hk : k < n) (h : ent zs k = 0) : carL n (turnT W T) turnD zs (k + 1) = carL n (turnT W T) turnD zs k := by
  rw [carL, h, show turnD 0 = 0 from rfl]
  exact set_same (car_bare hn hk k (Nat.le_refl _))

theorem flipD_of {z : Nat} (_h : z ≤ 4) : ((z = 1 ∨ z = 3) → flipD z = backF z) ∧ (¬ (z = 1 ∨ z = 3) → flipD z = z) := by
  constructor
  · intro h; rw [flipD, if_pos (by omega)]
  · intro h; rw [flipD, if_neg (by omega)]
theorem turnD_pos {z : Nat} (h : z ≠ 0) : turnD z = (z : Int) % 4 + 1 := by rw [turnD, if_neg (by omega)]

set_option maxHeartbeats 1000000 in
theorem tilTurn_spec (A : Option Addr) (n c : Nat) (W T : Int) (bs : List Bool) (B : Option Addr) (m d : Nat) (zs : List Int) (w : World) (hn : n ≤ 1048576) (h : Sl w A n (bs.map .bool)) (hm : m ≤ 1048576) (h' : Sl w B m (zs.map (.int .i64))) (hz : ∀ z ∈ zs, I64 z) :
    Calls Try.prog 41 #[.agg #[.int .i64 W, .int .i64 T, .slice A n c], .slice B m d] w fun e w' => OutL w w' e (turnZ W T n bs m zs) := by
  have hl := h.1
  rw [List.length_map] at hl
  have HZ0 := Lib.hid hz
  clear hz
  cases hv : laidB W T n bs m zs
  · have E1 : turnZ W T n bs m zs = [] := by rw [turnZ, hv]; rfl
    rw [E1]
    have HV := Lib.hid hv
    clear hl hv E1
    go_enter Try.func41, Try.ntmps41
    go_wp2_with fail
    refine (laid_spec A n c W T bs B m d zs _ hn (h.alloc _) hm (h'.alloc _) HZ0.out).mono ?_; rintro e w1 ⟨rfl, hb1⟩
    rw [HV.out]
    have B1 := belowW (below1 w _) hb1
    clear hb1
    go_wp2_with fail
    go_ret
    exact OutL.mk rfl (by omega) (((by simpa using Own.made (w := w1) (base := w1.heap.size) (e := 3) (cs := #[]) (n := 0) (Nat.le_refl _) (by unfold maxLen; omega) rfl : Own (w1.alloc (.cells #[] 3)) w1.heap.size (w1.heap.size + 1) 3 (some ⟨w1.heap.size, 0, none⟩) 0 0 []).base B1.size).top (by simp)) (belowA B1)
  · have HV := Lib.hid hv
    obtain ⟨W, T, rfl, rfl, V, e, hla⟩ := laid_of hv hl
    subst e
    have E1 : turnZ W T m bs m zs = carL m (turnT W T) turnD zs m := by rw [turnZ, hv]; rfl
    rw [E1]
    have HLA := Lib.hid hla
    have n36 := V.n36
    have v0 := V.w0
    have v1 := V.w1
    have v2 := V.t0
    have v3 := V.t1
    have HS := Lib.hid V.size
    have hB : ∀ b off, B = some ⟨b, off, none⟩ → b < w.heap.size := fun b off hA => by
      obtain ⟨b', off', hA', hlt⟩ := h'.block (by have := V.size; have := Nat.mul_pos V.w0 V.t0; omega)
      rw [hA'] at hA; injection hA with hA; injection hA with h1 _ _; omega
    have HB := Lib.hid hB
    have hmk := run_make_row' (P := Try.prog) 39 3 (.int .i64 0) 8 Try.underlying39 Try.infoInt rfl .i64 .i64 m (by omega) (by omega)
    clear hl hv E1 hla hB
    go_enter Try.func41, Try.ntmps41
    go_wp2_with fail
    refine (laid_spec A m c W T bs B m d zs _ hn (h.alloc _) hm (h'.alloc _) HZ0.out).mono ?_; rintro e w1 ⟨rfl, hb1⟩
    rw [HV.out]
    have R1 := P1.of hb1
    clear hb1
    have k1 := R1.X.1
    have k2 := R1.X.2.1
    have k3 := R1.X.2.2
    have z1 := R1.z
    have o0 := Own.made (w := w1) (base := w1.heap.size) (e := 3) (cs := madeCells #[.int .i64 0] m) (n := m) (Nat.le_refl _) (by unfold maxLen; omega) (by rw [← Array.length_toList, toList_madeCells_one, List.length_replicate])
    rw [toList_madeCells_one] at o0
    go_wp2_with fail
    go_loopg [6] m (fun gk i  wx => ∃ k : Nat, k ≤ m ∧ gk = m - k ∧ i = .int .i64 k ∧ Own wx w1.heap.size (w1.heap.size + 1) 3 (some ⟨w1.heap.size, 0, none⟩) m m ((carL m (turnT W T) turnD zs k).map (.int .i64)) ∧ P1 w (.int .i64 W) (.int .i64 T) (.slice A m c) wx ∧ w1.heap.size < wx.heap.size)
    case atStart => exact ⟨0, Nat.zero_le _, rfl, rfl, by rw [carL, List.map_replicate]; exact o0, R1.alloc _, by simp⟩
    case round =>
      clear o0 R1 k1 k2 k3
      obtain ⟨k, hk, rfl, rfl, hown, R, hsz⟩ := hrel
      have k1 := R.X.1
      have k2 := R.X.2.1
      have k3 := R.X.2.2
      by_cases hlt : k < m
      · have hkWT : k < W * T := by rw [← HS.out]; exact hlt
        have hto : turnT W T k < m := by rw [HS.out]; exact turnT_lt v0 hkWT
        obtain ⟨b, off, z, rfl, hzz, hc⟩ := (h'.below R.B).atI hlt
        have hbz : b < w.heap.size := HB.out b off rfl
        obtain ⟨z0, z4⟩ := lays_way hlt HLA.out
        rw [ent_of hzz] at z0 z4
        obtain ⟨zn, rfl⟩ := Int.eq_ofNat_of_zero_le z0
        have S := stepIn_of v0 v1 v2 v3 hkWT
        obtain ⟨x, hxx⟩ : ∃ x, k % W = x := ⟨_, rfl⟩
        obtain ⟨y, hyy⟩ : ∃ y, k / W = y := ⟨_, rfl⟩
        rw [hxx, hyy] at S
        have hE : ((turnT W T k : Nat) : Int) = (x : Int) * (T : Int) + (T : Int) - 1 - (y : Int) := by
          have q1 := S.xW
          have q2 := S.yT
          rw [turnT, hxx, hyy]; push_cast; omega
        obtain ⟨i1, i2, i3, i4, i5, i6, i7⟩ := S.i64
        have q1 := S.xW
        have q2 := S.yT
        obtain ⟨m0, m1⟩ := mul_nb (a := (x : Int)) (b := (T : Int)) (by omega) (by omega) (by omega) (by omega)
        obtain ⟨j1, j2, j3, j4⟩ := put_wrapsZ (x := (T : Int)) (y := (y : Int)) m0 m1 (by omega) (by omega) (by omega) (by omega) hE.symm
        have HZ := Lib.hid (ent_of hzz)
        have p0 : (0 : Int) ≤ ((turnT W T k : Nat) : Int) := by omega
        have p1 : ((turnT W T k : Nat) : Int) < (m : Int) := by omega
        have p2 : (0 : Int) ≤ (k : Int) := by omega
        have p3 : (k : Int) < (m : Int) := by omega
        have f1 := hown.frozen (turnT W T k)
        obtain ⟨v', f2⟩ := hown.cellAt hto
        have n1 : w1.heap.size ≠ w.heap.size := by omega
        have n2 : w1.heap.size ≠ b := by omega
        have hW1 : (1 : Int) ≤ (W : Int) := by omega
        have hW0 : W ≠ 0 := by omega
        have hW2 : (W : Int) ≠ 0 := by omega
        have j5 : IntKind.i64.wrap (y : Int) = y := IntWalk.i64_in _ (by omega)
        have j6 : IntKind.i64.wrap (x : Int) = x := IntWalk.i64_in _ (by omega)
        clear hzz hkWT S hE hxx hyy i1 i2 m0 m1
        by_cases hz0 : zn = 0
        · subst hz0
          have HCZ := Lib.hid (carL_zero HS.out hlt HZ.out)
          go_wp2_with fail
          go_roundg (m - (k + 1))
          case measure => omega
          case rel => exact ⟨k + 1, by omega, rfl, by go_num, by rw [HCZ.out]; exact hown, R, hsz⟩
        · have hzb : ((zn : Int) != 0) = true := by rw [bne_iff_ne]; omega
          have HTP := Lib.hid (turnD_pos hz0)
          have r1 : Int.tmod (zn : Int) 4 = (zn : Int) % 4 := Int.tmod_eq_emod_of_nonneg (by omega)
          have r2 : IntKind.i64.wrap ((zn : Int) % 4) = (zn : Int) % 4 := IntWalk.i64_in _ (by omega)
          have r3 : IntKind.i64.wrap ((zn : Int) % 4 + 1) = turnD zn := by rw [IntWalk.i64_in _ (by omega), HTP.out]
          clear hz0
          go_wp2_with fail
          go_region_held3 (fun w' => w'.cell? ⟨w.heap.size, 0, none⟩ = some (.int .i64 W) ∧ w'.cell? ⟨w.heap.size, 1, none⟩ = some (.int .i64 T) ∧ w'.cell? ⟨w.heap.size, 2, none⟩ = some (.slice A m c) ∧ w'.cell? ⟨b, off + k, none⟩ = some (.int .i64 zn))
            (first | exact ⟨k1, k2, k3, hc⟩ | go_keep)
            (first | fail | fail)
          all_goals
            go_wp2_with fail
            go_roundg (m - (k + 1))
            case measure => omega
            case rel =>
              refine ⟨k + 1, by omega, rfl, by go_num, ?_, R.drew.set (show w.heap.size + 1 ≤ w1.heap.size from z1) _, by show w1.heap.size < (World.setCell _ _ _).heap.size; rw [World.size_setCell]; exact hsz⟩
              have := hown.drew.stored (turnT W T k) hto (.int .i64 (turnD zn))
              rw [carL, HZ.out, List.map_set]
              exact this
      · have e : k = m := by omega
        subst e
        go_wp2_with fail
        go_ret
        exact OutL.mk (carL_len _ _ _ _ _) (by omega) ((hown.base (by omega)).top (by omega)) R.B
set_option maxHeartbeats 1000000 in
theorem tilFlip_spec (A : Option Addr) (n c : Nat) (W T : Int) (bs : List Bool) (B : Option Addr) (m d : Nat) (zs : List Int) (w : World) (hn : n ≤ 1048576) (h : Sl w A n (bs.map .bool)) (hm : m ≤ 1048576) (h' : Sl w B m (zs.map (.int .i64))) (hz : ∀ z ∈ zs, I64 z) :
    Calls Try.prog 46 #[.agg #[.int .i64 W, .int .i64 T, .slice A n c], .slice B m d] w fun e w' => OutL w w' e (flipZ W T n bs m zs) := by
  have hl := h.1
  rw [List.length_map] at hl
  have HZ0 := Lib.hid hz
  clear hz
  cases hv : laidB W T n bs m zs
  · have E1 : flipZ W T n bs m zs = [] := by rw [flipZ, hv]; rfl
    rw [E1]
    have HV := Lib.hid hv
    clear hl hv E1
    go_enter Try.func46, Try.ntmps46
    go_wp2_with fail
    refine (laid_spec A n c W T bs B m d zs _ hn (h.alloc _) hm (h'.alloc _) HZ0.out).mono ?_; rintro e w1 ⟨rfl, hb1⟩
    rw [HV.out]
    have B1 := belowW (below1 w _) hb1
    clear hb1
    go_wp2_with fail
    go_ret
    exact OutL.mk rfl (by omega) (((by simpa using Own.made (w := w1) (base := w1.heap.size) (e := 3) (cs := #[]) (n := 0) (Nat.le_refl _) (by unfold maxLen; omega) rfl : Own (w1.alloc (.cells #[] 3)) w1.heap.size (w1.heap.size + 1) 3 (some ⟨w1.heap.size, 0, none⟩) 0 0 []).base B1.size).top (by simp)) (belowA B1)
  · have HV := Lib.hid hv
    obtain ⟨W, T, rfl, rfl, V, e, hla⟩ := laid_of hv hl
    subst e
    have E1 : flipZ W T m bs m zs = carL m (flipT W T) flipD zs m := by rw [flipZ, hv]; rfl
    rw [E1]
    have HLA := Lib.hid hla
    have n36 := V.n36
    have v0 := V.w0
    have v1 := V.w1
    have v2 := V.t0
    have v3 := V.t1
    have HS := Lib.hid V.size
    have hB : ∀ b off, B = some ⟨b, off, none⟩ → b < w.heap.size := fun b off hA => by
      obtain ⟨b', off', hA', hlt⟩ := h'.block (by have := V.size; have := Nat.mul_pos V.w0 V.t0; omega)
      rw [hA'] at hA; injection hA with hA; injection hA with h1 _ _; omega
    have HB := Lib.hid hB
    have hmk := run_make_row' (P := Try.prog) 39 3 (.int .i64 0) 8 Try.underlying39 Try.infoInt rfl .i64 .i64 m (by omega) (by omega)
    clear hl hv E1 hla hB
    go_enter Try.func46, Try.ntmps46
    go_wp2_with fail
    refine (laid_spec A m c W T bs B m d zs _ hn (h.alloc _) hm (h'.alloc _) HZ0.out).mono ?_; rintro e w1 ⟨rfl, hb1⟩
    rw [HV.out]
    have R1 := P1.of hb1
    clear hb1
    have k1 := R1.X.1
    have k2 := R1.X.2.1
    have k3 := R1.X.2.2
    have z1 := R1.z
    have o0 := Own.made (w := w1) (base := w1.heap.size) (e := 3) (cs := madeCells #[.int .i64 0] m) (n := m) (Nat.le_refl _) (by unfold maxLen; omega) (by rw [← Array.length_toList, toList_madeCells_one, List.length_replicate])
    rw [toList_madeCells_one] at o0
    go_wp2_with fail
    go_loopg [6, 7] m (fun gk i _ wx => ∃ k : Nat, k ≤ m ∧ gk = m - k ∧ i = .int .i64 k ∧ Own wx w1.heap.size (w1.heap.size + 1) 3 (some ⟨w1.heap.size, 0, none⟩) m m ((carL m (flipT W T) flipD zs k).map (.int .i64)) ∧ P1 w (.int .i64 W) (.int .i64 T) (.slice A m c) wx ∧ w1.heap.size < wx.heap.size)
    case atStart => exact ⟨0, Nat.zero_le _, rfl, rfl, by rw [carL, List.map_replicate]; exact o0, R1.alloc _, by simp⟩
    case round =>
      clear o0 R1 k1 k2 k3
      obtain ⟨k, hk, rfl, rfl, hown, R, hsz⟩ := hrel
      have k1 := R.X.1
      have k2 := R.X.2.1
      have k3 := R.X.2.2
      by_cases hlt : k < m
      · have hkWT : k < W * T := by rw [← HS.out]; exact hlt
        have hto : flipT W T k < m := by rw [HS.out]; exact flipT_lt v0 hkWT
        obtain ⟨b, off, z, rfl, hzz, hc⟩ := (h'.below R.B).atI hlt
        have hbz : b < w.heap.size := HB.out b off rfl
        obtain ⟨z0, z4⟩ := lays_way hlt HLA.out
        rw [ent_of hzz] at z0 z4
        obtain ⟨zn, rfl⟩ := Int.eq_ofNat_of_zero_le z0
        have S := stepIn_of v0 v1 v2 v3 hkWT
        obtain ⟨x, hxx⟩ : ∃ x, k % W = x := ⟨_, rfl⟩
        obtain ⟨y, hyy⟩ : ∃ y, k / W = y := ⟨_, rfl⟩
        rw [hxx, hyy] at S
        have hE : ((flipT W T k : Nat) : Int) = (y : Int) * (W : Int) + (W : Int) - 1 - (x : Int) := by
          have q1 := S.xW
          have q2 := S.yT
          rw [flipT, hxx, hyy]; push_cast; omega
        obtain ⟨i1, i2, i3, i4, i5, i6, i7⟩ := S.i64
        have q1 := S.xW
        have q2 := S.yT
        obtain ⟨m0, m1⟩ := mul_nb (a := (y : Int)) (b := (W : Int)) (by omega) (by omega) (by omega) (by omega)
        obtain ⟨j1, j2, j3, j4⟩ := put_wrapsZ (x := (W : Int)) (y := (x : Int)) m0 m1 (by omega) (by omega) (by omega) (by omega) hE.symm
        have HZ := Lib.hid (ent_of hzz)
        have p0 : (0 : Int) ≤ ((flipT W T k : Nat) : Int) := by omega
        have p1 : ((flipT W T k : Nat) : Int) < (m : Int) := by omega
        have p2 : (0 : Int) ≤ (k : Int) := by omega
        have p3 : (k : Int) < (m : Int) := by omega
        have f1 := hown.frozen (flipT W T k)
        obtain ⟨v', f2⟩ := hown.cellAt hto
        have n1 : w1.heap.size ≠ w.heap.size := by omega
        have n2 : w1.heap.size ≠ b := by omega
        have hW1 : (1 : Int) ≤ (W : Int) := by omega
        have hW0 : W ≠ 0 := by omega
        have hW2 : (W : Int) ≠ 0 := by omega
        have j5 : IntKind.i64.wrap (y : Int) = y := IntWalk.i64_in _ (by omega)
        have j6 : IntKind.i64.wrap (x : Int) = x := IntWalk.i64_in _ (by omega)
        clear hzz hkWT S hE hxx hyy i1 i2 m0 m1
        by_cases hz0 : zn = 1 ∨ zn = 3
        · have HFP := Lib.hid ((flipD_of (by omega)).1 hz0)
          have hzz1 : (1 : Int) ≤ (zn : Int) := by omega
          have hzz4 : (zn : Int) ≤ 4 := by omega
          have hor : (((zn : Int) == 1) = true) ∨ (((zn : Int) == 1) = false ∧ ((zn : Int) == 3) = true) := by
            rcases hz0 with rfl | rfl
            · exact .inl rfl
            · exact .inr ⟨rfl, rfl⟩
          clear hz0
          rcases hor with h1 | ⟨h1, h3⟩
          all_goals
            go_wp2_with fail
            refine (l2Back_any (zn : Int) _ hzz1 hzz4).mono ?_; rintro e wq ⟨rfl, rfl⟩
            go_wp2_with fail
            go_region_held3 (fun w' => w'.cell? ⟨w.heap.size, 0, none⟩ = some (.int .i64 W) ∧ w'.cell? ⟨w.heap.size, 1, none⟩ = some (.int .i64 T) ∧ w'.cell? ⟨w.heap.size, 2, none⟩ = some (.slice A m c))
              (first | exact ⟨k1, k2, k3⟩ | go_keep)
              (first | fail | fail)
          all_goals
            go_wp2_with fail
            go_roundg (m - (k + 1))
            case measure => omega
            case rel =>
              refine ⟨k + 1, by omega, rfl, by go_num, ?_, R.drew.set (show w.heap.size + 1 ≤ w1.heap.size from z1) _, by show w1.heap.size < (World.setCell _ _ _).heap.size; rw [World.size_setCell]; exact hsz⟩
              have := hown.drew.stored (flipT W T k) hto (.int .i64 (backF zn))
              rw [carL, HZ.out, HFP.out, List.map_set]
              exact this
        · have HFP := Lib.hid ((flipD_of (by omega)).2 hz0)
          have h1 : ((zn : Int) == 1) = false := by rw [beq_eq_false_iff_ne]; omega
          have h3 : ((zn : Int) == 3) = false := by rw [beq_eq_false_iff_ne]; omega
          clear hz0
          go_wp2_with fail
          go_region_held3 (fun w' => w'.cell? ⟨w.heap.size, 0, none⟩ = some (.int .i64 W) ∧ w'.cell? ⟨w.heap.size, 1, none⟩ = some (.int .i64 T) ∧ w'.cell? ⟨w.heap.size, 2, none⟩ = some (.slice A m c))
            (first | exact ⟨k1, k2, k3⟩ | go_keep)
            (first | fail | fail)
          all_goals
            go_wp2_with fail
            go_roundg (m - (k + 1))
            case measure => omega
            case rel =>
              refine ⟨k + 1, by omega, rfl, by go_num, ?_, R.drew.set (show w.heap.size + 1 ≤ w1.heap.size from z1) _, by show w1.heap.size < (World.setCell _ _ _).heap.size; rw [World.size_setCell]; exact hsz⟩
              have := hown.drew.stored (flipT W T k) hto (.int .i64 ((zn : Int)))
              rw [carL, HZ.out, HFP.out, List.map_set]
              exact this
      · have e : k = m := by omega
        subst e
        go_wp2_with fail
        go_ret
        exact OutL.mk (carL_len _ _ _ _ _) (by omega) ((hown.base (by omega)).top (by omega)) R.B

end Go.Proofs.Ytepnhhehfkcgkaa
