/-
  lift and LiftOne, both sides: what they return.
-/
import Derived.Test.YtlanbpdaogkkbaaLayS
namespace Go.Proofs.Ytlanbpdaogkkbaa
open Go.RowKit

/-- Is there a domino on a cell? -/
def onB (n : Nat) (zs : List Int) (x : Int) : Bool := inB x 0 ((n : Int) - 1) && !(ent zs x.toNat == 0)
def liftL (W T : Nat) (zs : List Int) (k : Nat) : List Int := (zs.set (stepF W T k (ent zs k)).toNat 0).set k 0
def liftOk (W T : Int) (n : Nat) (bs : List Bool) (m : Nat) (zs : List Int) (x : Int) : Bool := laidB W T n bs m zs && onB n zs x
def liftZ (W T : Int) (n : Nat) (bs : List Bool) (m : Nat) (zs : List Int) (x : Int) : List Int :=
  if laidB W T n bs m zs then (if onB n zs x then liftL W.toNat T.toNat zs x.toNat else zs) else []
theorem lift_step {W T k n : Nat} {bs : List Bool} {zs : List Int} (V : Valid W T n bs) (hall : laysAll W T bs zs n = true) (hk : k < n) (h : (ent zs k == 0) = false) : ∃ j : Nat, stepF W T k (ent zs k) = j ∧ j < n ∧ inB (ent zs k) 1 4 = true := by
  have h1 := laysAll_one hk hall
  rw [laysOne, h, Bool.false_or, Bool.and_eq_true, decide_eq_true_eq] at h1
  obtain ⟨t1, t2⟩ := stepF_bound (way := ent zs k) V.w0 (by rw [← V.size]; exact hk)
  obtain ⟨j, hj⟩ := Int.eq_ofNat_of_zero_le h1.1
  have := V.size
  exact ⟨j, hj, by omega, inB_iff.2 (step_way h1.1)⟩

/-- What lies there when the entry at the other end has been struck out. -/
def Struck (w : World) (W T : Nat) (A : Option Addr) (n c : Nat) (g q : Nat) (zs : List Int) (wx : World) : Prop :=
  Own wx (w.heap.size + 1) wx.heap.size 3 (some ⟨g, 0, none⟩) n q (zs.map (.int .i64)) ∧ P1 w (.int .i64 W) (.int .i64 T) (.slice A n c) wx

set_option maxHeartbeats 2000000 in
theorem lift_any (A : Option Addr) (n c W T : Nat) (bs : List Bool) (B : Option Addr) (d : Nat) (zs : List Int) (k j : Nat) (w : World) (V : Valid W T n bs) (h' : Sl w B n (zs.map (.int .i64))) (hk : k < n) (hs : stepF W T k (ent zs k) = (j : Int)) (hj : j < n) :
    Calls Try.prog 49 #[.agg #[.int .i64 W, .int .i64 T, .slice A n c], .slice B n d, .int .i64 k] w fun e w' => OutL w w' e (liftL W T zs k) := by
  have n36 := V.n36
  have v0 := V.w0
  have v1 := V.w1
  have v2 := V.t0
  have v3 := V.t1
  have E : Hid (liftL W T zs k = (zs.set j 0).set k 0) := by show _ = _; rw [liftL, hs]; rfl
  have HS := Lib.hid hs
  have HK := Lib.hid (show k < W * T by rw [← V.size]; exact hk)
  have hl := h'.1
  rw [List.length_map] at hl
  have HL := Lib.hid hl
  clear hs hl
  have p2 : (0 : Int) ≤ (k : Int) := by omega
  have p3 : (k : Int) < (n : Int) := by omega
  have j0 : (0 : Int) ≤ (j : Int) := by omega
  have j1 : (j : Int) < (n : Int) := by omega
  go_enter Try.func49, Try.ntmps49
  go_wp2_with fail
  refine (clone_int B n d _ _ (by omega) (h'.alloc _) (ints_one zs)).mono ?_; rintro e w1 ⟨D, q, rfl, own1, hb1⟩
  have R1 := P1.of hb1
  clear hb1
  simp only [World.size_alloc] at own1
  have k1 := R1.X.1
  have k2 := R1.X.2.1
  have k3 := R1.X.2.2
  obtain ⟨b2, off2, z, rfl, hz, hc2⟩ := (h'.below R1.B).atI hk
  have HZ := Lib.hid hz
  have HE := Lib.hid (ent_of hz)
  clear hz
  rw [HE.out] at HS
  obtain ⟨g, rfl, g1, -⟩ := own1.form (by omega)
  have hlt2 : b2 < w.heap.size := World.block_lt_of_cell? w ⟨b2, off2 + k, none⟩ (h'.cellI HZ.out)
  have n1 : g ≠ w.heap.size := by omega
  have n2 : g ≠ b2 := by omega
  go_wp2_with fail
  go_region_held3 (fun w' => w'.cell? ⟨w.heap.size, 0, none⟩ = some (.int .i64 W) ∧ w'.cell? ⟨w.heap.size, 1, none⟩ = some (.int .i64 T) ∧ w'.cell? ⟨w.heap.size, 2, none⟩ = some (.slice A n c) ∧ w'.cell? ⟨b2, off2 + k, none⟩ = some (.int .i64 z))
    (first | exact ⟨k1, k2, k3, hc2⟩ | go_keep)
    (first
      | (go_at_call 66; refine (step_any A n c W T k z _ v0 v1 v2 v3 HK.out).mono ?_; rintro e w2 ⟨rfl, hb2⟩; have R2 := R1.drew.below hb2; have q1 := R2.X.1; have q2 := R2.X.2.1; have q3 := R2.X.2.2; have q4 := (h'.below R2.B).cellI HZ.out; have own2 := (own1.drew.below hb2).top hb2.size; have f1 := own2.frozen j; obtain ⟨u1, c1⟩ := own2.cellAt hj; have own3 := own2.stored j hj (.int .i64 0); have f2 := own3.frozen k; obtain ⟨u2, c2⟩ := own3.cellAt hk; rw [HS.out])
      | fail)
  all_goals (go_wp2_with fail; go_ret)
  have own5 := own3.stored k hk (.int .i64 0)
  have R5 := (R2.set (p := ⟨g, j, none⟩) g1 (.int .i64 0)).set (p := ⟨g, k, none⟩) g1 (.int .i64 0)
  rw [E.out]
  refine OutL.mkL (c0 := q) (by rw [List.length_set, List.length_set]; exact HL.out) (by omega) ?_ R5.B
  rw [List.map_set, List.map_set]
  have o5 := own5.base (base' := w.heap.size) (by omega)
  refine o5.top ?_
  rw [World.size_setCell, World.size_setCell]
  exact Nat.le_refl _

set_option maxRecDepth 100000 in
set_option maxHeartbeats 2000000 in
theorem lift_impl (A : Option Addr) (n c : Nat) (W T : Int) (bs : List Bool) (B : Option Addr) (m d : Nat) (zs : List Int) (x : Int) (w : World) (hn : n ≤ 1048576) (h : Sl w A n (bs.map .bool)) (hm : m ≤ 1048576) (h' : Sl w B m (zs.map (.int .i64))) (hz : ∀ z ∈ zs, I64 z) (hx : I64 x) :
    Calls Try.prog 24 #[.agg #[.int .i64 W, .int .i64 T, .slice A n c], .slice B m d, .int .i64 x] w fun e w' => OutLB w w' e (liftZ W T n bs m zs x) (liftOk W T n bs m zs x) := by
  have hl := h.1
  rw [List.length_map] at hl
  have hl' := h'.1
  rw [List.length_map] at hl'
  have HZ0 := Lib.hid hz
  clear hz
  cases hv : laidB W T n bs m zs
  · have E1 : liftZ W T n bs m zs x = [] := by rw [liftZ, hv]; rfl
    have E2 : liftOk W T n bs m zs x = false := by rw [liftOk, hv]; rfl
    rw [E1, E2]
    have HV := Lib.hid hv
    clear hl hl' hv E1 E2
    go_enter Try.func24, Try.ntmps24
    go_wp2_with fail
    refine (laid_impl A n c W T bs B m d zs _ hn (h.alloc _) hm (h'.alloc _) HZ0.out).mono ?_; rintro e w1 ⟨rfl, hb1⟩
    rw [HV.out]
    go_wp2_with fail
    exact bodyPost_ret (v := .tuple #[.slice none 0 0, .bool false]) (by simp [results, Try.results24, go_sem]) rfl (outLB_nil w (belowW (below1 w _) hb1))
  · have HV := Lib.hid hv
    obtain ⟨W, T, rfl, rfl, V, e, hall⟩ := laid_of hv hl
    subst e
    have n36 := V.n36
    have v0 := V.w0
    have v1 := V.w1
    have v2 := V.t0
    have v3 := V.t1
    have HL := Lib.hid hl'
    have HALL := Lib.hid hall
    have E1 : liftZ W T m bs m zs x = if onB m zs x then liftL W T zs x.toNat else zs := by rw [liftZ, hv, if_pos rfl, Int.toNat_natCast, Int.toNat_natCast]
    have E2 : liftOk W T m bs m zs x = onB m zs x := by rw [liftOk, hv, Bool.true_and]
    rw [E1, E2]
    obtain ⟨ok, hok⟩ : ∃ ok, onB m zs x = ok := ⟨_, rfl⟩
    obtain ⟨Z, hZ⟩ : ∃ Z, (if onB m zs x = true then liftL W T zs x.toNat else zs) = Z := ⟨_, rfl⟩
    rw [hZ, hok]
    have hNO : Hid (onB m zs x = false → zs = Z ∧ false = ok) := by
      show _ → _
      intro e; rw [← hZ, ← hok, e]; exact ⟨rfl, rfl⟩
    have hYES : Hid (onB m zs x = true → liftL W T zs x.toNat = Z ∧ true = ok) := by
      show _ → _
      intro e; rw [← hZ, ← hok, e]; exact ⟨rfl, rfl⟩
    clear hZ hok E1 E2 hl hl' hv hall

    go_enter Try.func24, Try.ntmps24
    go_wp2_with fail
    refine (laid_impl A m c W T bs B m d zs _ hn (h.alloc _) hm (h'.alloc _) HZ0.out).mono ?_; rintro e w1 ⟨rfl, hb1⟩
    rw [HV.out]
    have R1 := P1.of hb1
    clear hb1
    have k1 := R1.X.1
    have k2 := R1.X.2.1
    have k3 := R1.X.2.2
    go_wp2_with fail
    refine (has_any A m c W T x _ hn hx).mono ?_; rintro e w2 ⟨rfl, hb2⟩
    have R2 := R1.below hb2
    clear hb2 R1 k1 k2 k3
    have k1 := R2.X.1
    have k2 := R2.X.2.1
    have k3 := R2.X.2.2
    cases hi : inB x 0 ((m : Int) - 1)
    · obtain ⟨rfl, rfl⟩ := hNO.out (by rw [onB, hi]; rfl)
      clear hi
      go_wp2_with fail
      refine (clone_int B m d _ _ hn (h'.below R2.B) (ints_one zs)).mono ?_; rintro e w3 ⟨D, q, rfl, own, hb3⟩
      go_wp2_with fail
      exact bodyPost_ret (v := .tuple #[.slice D m m, .bool false]) (by simp [results, Try.results24, go_sem]) rfl (OutLB.mkL HL.out (by omega) (own.base R2.B.size) (belowW R2.B hb3))
    · have b := inB_iff.1 hi
      obtain ⟨k, rfl⟩ := Int.eq_ofNat_of_zero_le b.1
      have hk : k < m := by omega
      have p2 : (0 : Int) ≤ (k : Int) := by omega
      have p3 : (k : Int) < (m : Int) := by omega
      obtain ⟨b2, off2, z, rfl, hz, hc2⟩ := (h'.below R2.B).atI hk
      have EO : Hid (onB m zs k = !(z == 0)) := by show _ = _; rw [onB, hi, Bool.true_and, Int.toNat_natCast, ent_of hz]
      have HE := Lib.hid (ent_of hz)
      clear hi b hz
      cases hz : (z == 0)
      · obtain ⟨e1, rfl⟩ := hYES.out (by rw [EO.out, hz]; rfl)
        rw [Int.toNat_natCast] at e1
        subst e1
        obtain ⟨j, hs, hj, -⟩ := lift_step V HALL.out hk (by rw [HE.out]; exact hz)
        have HS := Lib.hid hs
        clear hs
        go_wp2_with fail
        refine (lift_any A m c W T bs (some ⟨b2, off2, none⟩) d zs k j _ V (h'.below R2.B) hk HS.out hj).mono ?_; rintro e w3 ⟨D, q, q0, rfl, own, hb3, hle⟩
        go_wp2_with fail
        exact bodyPost_ret (v := .tuple #[.slice D (liftL W T zs k).length q, .bool true]) (by simp [results, Try.results24, go_sem]) rfl (OutLB.mkL (c0 := q0) rfl hle (own.base R2.B.size) (belowW R2.B hb3))
      · obtain ⟨rfl, rfl⟩ := hNO.out (by rw [EO.out, hz]; rfl)
        go_wp2_with fail
        refine (clone_int (some ⟨b2, off2, none⟩) m d _ _ hn (h'.below R2.B) (ints_one zs)).mono ?_; rintro e w3 ⟨D, q, rfl, own, hb3⟩
        go_wp2_with fail
        exact bodyPost_ret (v := .tuple #[.slice D m m, .bool false]) (by simp [results, Try.results24, go_sem]) rfl (OutLB.mkL HL.out (by omega) (own.base R2.B.size) (belowW R2.B hb3))

set_option maxRecDepth 100000 in
set_option maxHeartbeats 2000000 in
theorem lift_spec (A : Option Addr) (n c : Nat) (W T : Int) (bs : List Bool) (B : Option Addr) (m d : Nat) (zs : List Int) (x : Int) (w : World) (hn : n ≤ 1048576) (h : Sl w A n (bs.map .bool)) (hm : m ≤ 1048576) (h' : Sl w B m (zs.map (.int .i64))) (hz : ∀ z ∈ zs, I64 z) (hx : I64 x) :
    Calls Try.prog 23 #[.agg #[.int .i64 W, .int .i64 T, .slice A n c], .slice B m d, .int .i64 x] w fun e w' => OutLB w w' e (liftZ W T n bs m zs x) (liftOk W T n bs m zs x) := by
  have hl := h.1
  rw [List.length_map] at hl
  have hl' := h'.1
  rw [List.length_map] at hl'
  have HZ0 := Lib.hid hz
  clear hz
  cases hv : laidB W T n bs m zs
  · have E1 : liftZ W T n bs m zs x = [] := by rw [liftZ, hv]; rfl
    have E2 : liftOk W T n bs m zs x = false := by rw [liftOk, hv]; rfl
    rw [E1, E2]
    have HV := Lib.hid hv
    clear hl hl' hv E1 E2
    go_enter Try.func23, Try.ntmps23
    go_wp2_with fail
    refine (laid_spec A n c W T bs B m d zs _ hn (h.alloc _) hm (h'.alloc _) HZ0.out).mono ?_; rintro e w1 ⟨rfl, hb1⟩
    rw [HV.out]
    have B1 := belowW (below1 w _) hb1
    clear hb1
    go_wp2_with fail
    exact bodyPost_ret (v := .tuple #[.slice (some ⟨w1.heap.size, 0, none⟩) 0 0, .bool false]) (by simp [results, Try.results23, go_sem]) rfl (OutLB.mk rfl (by omega) (((own_empty w1).base B1.size).top (by simp)) (belowA B1))
  · have HV := Lib.hid hv
    obtain ⟨W, T, rfl, rfl, V, e, hall⟩ := laid_of hv hl
    subst e
    have n36 := V.n36
    have v0 := V.w0
    have v1 := V.w1
    have v2 := V.t0
    have v3 := V.t1
    have HL := Lib.hid hl'
    have HALL := Lib.hid hall
    have E1 : liftZ W T m bs m zs x = if onB m zs x then liftL W T zs x.toNat else zs := by rw [liftZ, hv, if_pos rfl, Int.toNat_natCast, Int.toNat_natCast]
    have E2 : liftOk W T m bs m zs x = onB m zs x := by rw [liftOk, hv, Bool.true_and]
    rw [E1, E2]
    obtain ⟨ok, hok⟩ : ∃ ok, onB m zs x = ok := ⟨_, rfl⟩
    obtain ⟨Z, hZ⟩ : ∃ Z, (if onB m zs x = true then liftL W T zs x.toNat else zs) = Z := ⟨_, rfl⟩
    rw [hZ, hok]
    have hNO : Hid (onB m zs x = false → zs = Z ∧ false = ok) := by
      show _ → _
      intro e; rw [← hZ, ← hok, e]; exact ⟨rfl, rfl⟩
    have hYES : Hid (onB m zs x = true → liftL W T zs x.toNat = Z ∧ true = ok) := by
      show _ → _
      intro e; rw [← hZ, ← hok, e]; exact ⟨rfl, rfl⟩
    clear hZ hok E1 E2 hl hl' hv hall

    have hm0 : 0 < m := by
      have := V.size
      have := Nat.mul_le_mul V.w0 V.t0
      omega
    have hmi : IntKind.i64.wrap ((m : Int) - 1) = (m : Int) - 1 := IntWalk.i64_in _ (by omega)
    obtain ⟨b0, off0, hB⟩ : ∃ b off, B = some ⟨b, off, none⟩ := by
      obtain ⟨b, off, hA, _⟩ := h'.2 hm0; exact ⟨b, off, hA⟩
    subst hB
    go_enter Try.func23, Try.ntmps23
    go_wp2_with fail
    refine (laid_spec A m c W T bs (some ⟨b0, off0, none⟩) m d zs _ hn (h.alloc _) hm (h'.alloc _) HZ0.out).mono ?_; rintro e w1 ⟨rfl, hb1⟩
    rw [HV.out]
    have R1 := P1.of hb1
    clear hb1
    go_wp2_with (at_builtin; refine wpList_appendN rfl _ _ 25 rfl 3 (.int .i64 0) 8 Try.underlying25 Try.infoInt rfl (own_empty w1) rfl ⟨b0, off0, none⟩ m d (zs.map (.int .i64)) rfl ((h'.below R1.B).alloc _) (ints_one zs) (by omega) (by omega) (by simp) ?_; intro D q w2 own hg; have R2 := (R1.alloc (.cells #[] 3)).grown hg (own_empty w1) R1.z; rw [List.nil_append, Nat.zero_add] at own; rw [Nat.zero_add]; have k1 := R2.X.1; have k2 := R2.X.2.1; have k3 := R2.X.2.2)
    refine (l1In_any x 0 ((m : Int) - 1) _).mono ?_; rintro e w3 ⟨rfl, rfl⟩
    obtain ⟨g, rfl, g1, -⟩ := own.form hm0
    have g2 : w.heap.size + 1 ≤ g := by have := R1.z; omega
    have ownb := own.base (base' := w.heap.size + 1) R1.z
    cases hi : inB x 0 ((m : Int) - 1)
    · obtain ⟨rfl, rfl⟩ := hNO.out (by rw [onB, hi]; rfl)
      clear hi
      go_wp2_with fail
      exact bodyPost_ret (v := .tuple #[.slice (some ⟨g, 0, none⟩) m q, .bool false]) (by simp [results, Try.results23, go_sem]) rfl (OutLB.mk HL.out (by omega) (ownb.base (by omega)) R2.B)
    have b := inB_iff.1 hi
    obtain ⟨k, rfl⟩ := Int.eq_ofNat_of_zero_le b.1
    have hk : k < m := by omega
    have p2 : (0 : Int) ≤ (k : Int) := by omega
    have p3 : (k : Int) < (m : Int) := by omega
    obtain ⟨b2, off2, z, hA, hz, hc2⟩ := (h'.below R2.B).atI hk
    injection hA with hA
    injection hA with hA1 hA2 _
    subst hA1 hA2
    have HZ := Lib.hid hz
    have EO : Hid (onB m zs k = !(z == 0)) := by show _ = _; rw [onB, hi, Bool.true_and, Int.toNat_natCast, ent_of hz]
    have HE := Lib.hid (ent_of hz)
    clear hi b hz
    cases hz : (z == 0)
    · obtain ⟨e1, rfl⟩ := hYES.out (by rw [EO.out, hz]; rfl)
      obtain ⟨j, hs, hj, hin⟩ := lift_step V HALL.out hk (by rw [HE.out]; exact hz)
      rw [Int.toNat_natCast, liftL, hs, Int.toNat_natCast] at e1
      subst e1
      rw [HE.out] at hs hin
      have HS := Lib.hid hs
      have HK := Lib.hid (show k < W * T by rw [← V.size]; exact hk)
      have HIN := Lib.hid hin
      clear hs hin
      have j0 : (0 : Int) ≤ (j : Int) := by omega
      have j1 : (j : Int) < (m : Int) := by omega
      have hlt2 : b0 < w.heap.size := World.block_lt_of_cell? w ⟨b0, off0 + k, none⟩ (h'.cellI HZ.out)
      have n1 : g ≠ w.heap.size := by omega
      have n2 : g ≠ b0 := by omega
      go_wp2_with fail
      go_region_held3 (fun w' => w'.cell? ⟨w.heap.size, 0, none⟩ = some (.int .i64 W) ∧ w'.cell? ⟨w.heap.size, 1, none⟩ = some (.int .i64 T) ∧ w'.cell? ⟨w.heap.size, 2, none⟩ = some (.slice A m c) ∧ w'.cell? ⟨b0, off0 + k, none⟩ = some (.int .i64 z))
        (first | exact ⟨k1, k2, k3, hc2⟩ | go_keep)
        (first
          | (go_at_call 46; refine (l2Step_any A m c W T k z _ v0 v1 v2 v3 HK.out HIN.out).mono ?_; rintro e w4 ⟨rfl, hb4⟩; have R4 := R2.drew.below hb4; have q1 := R4.X.1; have q2 := R4.X.2.1; have q3 := R4.X.2.2; have q4 := (h'.below R4.B).cellI HZ.out; have own4 := (ownb.drew.below hb4).top hb4.size; have f1 := own4.frozen j; obtain ⟨u1, c1⟩ := own4.cellAt hj; have own5 := own4.stored j hj (.int .i64 0); have f2 := own5.frozen k; obtain ⟨u2, c2⟩ := own5.cellAt hk; rw [HS.out])
          | fail)
      all_goals go_wp2_with fail
      have own6 := own5.stored k hk (.int .i64 0)
      have R6 := (R4.set (p := ⟨g, j, none⟩) g2 (.int .i64 0)).set (p := ⟨g, k, none⟩) g2 (.int .i64 0)
      refine bodyPost_ret (v := .tuple #[.slice (some ⟨g, 0, none⟩) m q, .bool true]) (by simp [results, Try.results23, go_sem]) rfl (OutLB.mkL (c0 := q) (by rw [List.length_set, List.length_set]; exact HL.out) (by omega) ?_ R6.B)
      rw [List.map_set, List.map_set]
      have o5 := own6.base (base' := w.heap.size) (by omega)
      refine o5.top ?_
      rw [World.size_setCell, World.size_setCell]
      exact Nat.le_refl _
    · obtain ⟨rfl, rfl⟩ := hNO.out (by rw [EO.out, hz]; rfl)
      go_wp2_with fail
      exact bodyPost_ret (v := .tuple #[.slice (some ⟨g, 0, none⟩) m q, .bool false]) (by simp [results, Try.results23, go_sem]) rfl (OutLB.mk HL.out (by omega) (ownb.base (by omega)) R2.B)

end Go.Proofs.Ytlanbpdaogkkbaa
