/-
  free, lay and LayOne of the program: what they return.
-/
import Derived.Test.YtcnkpcnbobiodaaTilOk
import Derived.Test.YtcnkpcnbobiodaaClone
namespace Go.Proofs.Ytcnkpcnbobiodaa
open Go.RowKit

/-- May a domino be laid from a cell? -/
def freeK (W T : Nat) (bs : List Bool) (zs : List Int) (k : Nat) (way : Int) : Bool :=
  decide (0 ≤ stepF W T k way) && (onR bs k && (onR bs (stepF W T k way).toNat && (ent zs k == 0 && ent zs (stepF W T k way).toNat == 0)))
def freeB (W T n : Nat) (bs : List Bool) (zs : List Int) (x way : Int) : Bool := inB x 0 ((n : Int) - 1) && freeK W T bs zs x.toNat way
def layL (W T : Nat) (zs : List Int) (k : Nat) (way : Int) : List Int := (zs.set k way).set (stepF W T k way).toNat (backF way)
def layOk (W T : Int) (n : Nat) (bs : List Bool) (m : Nat) (zs : List Int) (x way : Int) : Bool := laidB W T n bs m zs && freeB W.toNat T.toNat n bs zs x way
def layZ (W T : Int) (n : Nat) (bs : List Bool) (m : Nat) (zs : List Int) (x way : Int) : List Int :=
  if laidB W T n bs m zs then (if freeB W.toNat T.toNat n bs zs x way then layL W.toNat T.toNat zs x.toNat way else zs) else []

theorem step_way {W T k : Nat} {way : Int} (h : 0 ≤ stepF W T k way) : 1 ≤ way ∧ way ≤ 4 := by
  have : inB way 1 4 = true := by
    cases hi : inB way 1 4 with
    | true => rfl
    | false => rw [stepF_no hi] at h; omega
  exact inB_iff.1 this
theorem free_step {W T k n : Nat} {bs : List Bool} {zs : List Int} {way : Int} (V : Valid W T n bs) (hk : k < n) (h : freeK W T bs zs k way = true) : ∃ j : Nat, stepF W T k way = j ∧ j < n ∧ 1 ≤ way ∧ way ≤ 4 := by
  rw [freeK, Bool.and_eq_true, decide_eq_true_eq] at h
  obtain ⟨t1, t2⟩ := stepF_bound (way := way) V.w0 (by rw [← V.size]; exact hk)
  obtain ⟨j, hj⟩ := Int.eq_ofNat_of_zero_le h.1
  have := V.size
  exact ⟨j, hj, by omega, step_way h.1⟩

set_option maxRecDepth 100000 in
set_option maxHeartbeats 1000000 in
theorem free_any (A : Option Addr) (n c W T : Nat) (bs : List Bool) (B : Option Addr) (d : Nat) (zs : List Int) (x way : Int) (w : World) (V : Valid W T n bs) (h : Sl w A n (bs.map .bool)) (h' : Sl w B n (zs.map (.int .i64))) (hx : I64 x) :
    Calls Try.prog 56 #[.agg #[.int .i64 W, .int .i64 T, .slice A n c], .slice B n d, .int .i64 x, .int .i64 way] w fun e w' => e = .returned (.bool (freeB W T n bs zs x way)) ∧ Below w.heap.size w w' := by
  have n36 := V.n36
  have v0 := V.w0
  have v1 := V.w1
  have v2 := V.t0
  have v3 := V.t1
  cases hi : inB x 0 ((n : Int) - 1)
  · have E : Hid (freeB W T n bs zs x way = false) := by show _ = _; rw [freeB, hi]; rfl
    have HI := Lib.hid hi
    clear hi
    go_enter Try.func56, Try.ntmps56
    go_wp2_with fail
    refine (has_any A n c W T x _ (by omega) hx).mono ?_; rintro e w1 ⟨rfl, hb1⟩
    rw [HI.out]
    go_wp2_with fail
    go_ret
    exact ⟨ret_b E.out.symm, belowW (below1 w _) hb1⟩
  · have b := inB_iff.1 hi
    obtain ⟨k, rfl⟩ := Int.eq_ofNat_of_zero_le b.1
    have E : Hid (freeB W T n bs zs k way = freeK W T bs zs k way) := by show _ = _; rw [freeB, hi, Bool.true_and]; rfl
    have hlt : k < n := by omega
    have HI := Lib.hid hi
    have HK := Lib.hid (show k < W * T by rw [← V.size]; exact hlt)
    have hsz := Lib.hid V.size
    have p2 : (0 : Int) ≤ (k : Int) := by omega
    have p3 : (k : Int) < (n : Int) := by omega
    clear hi b
    go_enter Try.func56, Try.ntmps56
    go_wp2_with fail
    refine (has_any A n c W T k _ (by omega) hx).mono ?_; rintro e w1 ⟨rfl, hb1⟩
    rw [HI.out]
    have R1 := P1.of hb1
    clear hb1
    have k1 := R1.X.1
    have k2 := R1.X.2.1
    have k3 := R1.X.2.2
    go_wp2_with fail
    refine (step_any A n c W T k way _ v0 v1 v2 v3 HK.out).mono ?_; rintro e w2 ⟨rfl, hb2⟩
    have R2 := R1.below hb2
    clear hb2 R1 k1 k2 k3
    have k1 := R2.X.1
    have k2 := R2.X.2.1
    have k3 := R2.X.2.2
    obtain ⟨b, off, v, rfl, hv, hc⟩ := (h.below R2.B).atB hlt
    obtain ⟨b2, off2, z, rfl, hz, hc2⟩ := (h'.below R2.B).atI hlt
    have HV := Lib.hid hv
    have HZ := Lib.hid hz
    clear hv hz
    obtain ⟨t, ht⟩ : ∃ t, stepF W T k way = t := ⟨_, rfl⟩
    obtain ⟨t1, t2⟩ := stepF_bound (way := way) v0 HK.out
    rw [ht] at t1 t2
    rw [ht]
    have E1 : Hid (freeB W T n bs zs k way = (decide (0 ≤ t) && (v && (onR bs t.toNat && (z == 0 && ent zs t.toNat == 0))))) := by
      show _ = _
      rw [E.out, freeK, ht, onR_of HV.out, ent_of HZ.out]
    clear ht E
    by_cases ht0 : t < 0
    · have hd1 : decide ((0 : Int) ≤ t) = false := decide_eq_false (by omega)
      have E2 : Hid (freeB W T n bs zs k way = false) := by show _ = _; rw [E1.out, hd1]; rfl
      clear t2
      go_wp2_with fail
      go_ret
      exact ⟨ret_b E2.out.symm, R2.B⟩
    · obtain ⟨j, rfl⟩ := Int.eq_ofNat_of_zero_le (show 0 ≤ t by omega)
      have hj : j < n := by have := hsz.out; omega
      have hd1 : decide ((0 : Int) ≤ (j : Int)) = true := decide_eq_true (by omega)
      have j0 : (0 : Int) ≤ (j : Int) := by omega
      have j1 : (j : Int) < (n : Int) := by omega
      obtain ⟨b4, off4, y, hA, hy, hc3⟩ := (h.below R2.B).atB hj
      injection hA with hA
      injection hA with hA1 hA2 _
      subst hA1 hA2
      obtain ⟨b5, off5, u, hA, hu, hc4⟩ := (h'.below R2.B).atI hj
      injection hA with hA
      injection hA with hA1 hA2 _
      subst hA1 hA2
      have E2 : Hid (freeB W T n bs zs k way = (v && (y && (z == 0 && u == 0)))) := by
        show _ = _
        rw [E1.out, hd1, Int.toNat_natCast, onR_of hy, ent_of hu, Bool.true_and]
      clear hy hu t1 t2 ht0 E1
      cases v
      · go_wp2_with fail
        go_ret
        exact ⟨ret_b E2.out.symm, R2.B⟩
      · cases y
        · go_wp2_with fail
          go_ret
          exact ⟨ret_b E2.out.symm, R2.B⟩
        · cases hz : (z == 0)
          · rw [hz] at E2
            go_wp2_with fail
            go_ret
            exact ⟨ret_b E2.out.symm, R2.B⟩
          · rw [hz] at E2
            cases hu : (u == 0)
            · rw [hu] at E2
              go_wp2_with fail
              go_ret
              exact ⟨ret_b E2.out.symm, R2.B⟩
            · rw [hu] at E2
              go_wp2_with fail
              go_ret
              exact ⟨ret_b E2.out.symm, R2.B⟩

set_option maxHeartbeats 1000000 in
theorem lay_any (A : Option Addr) (n c W T : Nat) (bs : List Bool) (B : Option Addr) (d : Nat) (zs : List Int) (k j : Nat) (way : Int) (w : World) (V : Valid W T n bs) (h' : Sl w B n (zs.map (.int .i64))) (hk : k < n) (hs : stepF W T k way = (j : Int)) (hj : j < n) (w0 : 1 ≤ way) (w4 : way ≤ 4) :
    Calls Try.prog 58 #[.agg #[.int .i64 W, .int .i64 T, .slice A n c], .slice B n d, .int .i64 k, .int .i64 way] w fun e w' => OutL w w' e (layL W T zs k way) := by
  have n36 := V.n36
  have v0 := V.w0
  have v1 := V.w1
  have v2 := V.t0
  have v3 := V.t1
  have E : Hid (layL W T zs k way = (zs.set k way).set j (backF way)) := by show _ = _; rw [layL, hs]; rfl
  have HS := Lib.hid hs
  have HK := Lib.hid (show k < W * T by rw [← V.size]; exact hk)
  have hl := h'.1
  rw [List.length_map] at hl
  have HL := Lib.hid hl
  clear hs hl
  have p2 : (0 : Int) ≤ (k : Int) := by omega
  have p3 : (k : Int) < (n : Int) := by omega
  have j0 : (0 : Int) ≤ (j : Int) := by omega
  have j1 : (j : Int) < (n : Int) := by omega
  go_enter Try.func58, Try.ntmps58
  go_wp2_with fail
  refine (clone_int B n d _ _ (by omega) (h'.alloc _) (ints_one zs)).mono ?_; rintro e w1 ⟨D, q, rfl, own1, hb1⟩
  have R1 := P1.of hb1
  clear hb1
  have k1 := R1.X.1
  have k2 := R1.X.2.1
  have k3 := R1.X.2.2
  simp only [World.size_alloc] at own1
  go_wp2_with fail
  refine (step_any A n c W T k way _ v0 v1 v2 v3 HK.out).mono ?_; rintro e w2 ⟨rfl, hb2⟩
  rw [HS.out]
  have R2 := R1.below hb2
  have own2 := (own1.below hb2).top hb2.size
  clear hb2 R1 own1 k1 k2 k3
  obtain ⟨g, rfl, g1, -⟩ := own2.form (by omega)
  have f1 := own2.frozen k
  obtain ⟨u1, c1⟩ := own2.cellAt hk
  have own3 := own2.stored k hk (.int .i64 way)
  have f2 := own3.frozen j
  obtain ⟨u2, c2⟩ := own3.cellAt hj
  have own4 := own3.stored j hj (.int .i64 (backF way))
  have R4 := (R2.set (p := ⟨g, k, none⟩) g1 (.int .i64 way)).set (p := ⟨g, j, none⟩) g1 (.int .i64 (backF way))
  go_wp2_with fail
  refine (back_any way _ w0 w4).mono ?_; rintro e w3 ⟨rfl, rfl⟩
  go_wp2_with fail
  go_ret
  rw [E.out]
  refine OutL.mkL (c0 := q) (by rw [List.length_set, List.length_set]; exact HL.out) (by omega) ?_ R4.B
  rw [List.map_set, List.map_set]
  have o5 := own4.base (base' := w.heap.size) (by omega)
  refine o5.top ?_
  rw [World.size_setCell, World.size_setCell]
  exact Nat.le_refl _


end Go.Proofs.Ytcnkpcnbobiodaa
