/-
  LayOne of the reference: what it returns.
-/
import Derived.Test.YtcnkpcnbobiodaaLay
namespace Go.Proofs.Ytcnkpcnbobiodaa
open Go.RowKit

/-- A list of ints copied by an append onto an empty one. -/
theorem own_empty (w : World) : Own (w.alloc (.cells #[] 3)) w.heap.size (w.heap.size + 1) 3 (some ⟨w.heap.size, 0, none⟩) 0 0 [] := by
  simpa using Own.made (w := w) (base := w.heap.size) (e := 3) (cs := #[]) (n := 0) (Nat.le_refl _) (by unfold maxLen; omega) rfl

set_option maxRecDepth 100000 in
set_option maxHeartbeats 2000000 in
theorem lay_spec (A : Option Addr) (n c : Nat) (W T : Int) (bs : List Bool) (B : Option Addr) (m d : Nat) (zs : List Int) (x way : Int) (w : World) (hn : n ≤ 1048576) (h : Sl w A n (bs.map .bool)) (hm : m ≤ 1048576) (h' : Sl w B m (zs.map (.int .i64))) (hz : ∀ z ∈ zs, I64 z) (hx : I64 x) (hy : I64 way) :
    Calls Try.prog 76 #[.agg #[.int .i64 W, .int .i64 T, .slice A n c], .slice B m d, .int .i64 x, .int .i64 way] w fun e w' => OutLB w w' e (layZ W T n bs m zs x way) (layOk W T n bs m zs x way) := by
  have hl := h.1
  rw [List.length_map] at hl
  have hl' := h'.1
  rw [List.length_map] at hl'
  have HZ0 := Lib.hid hz
  clear hz
  cases hv : laidB W T n bs m zs
  · have E1 : layZ W T n bs m zs x way = [] := by rw [layZ, hv]; rfl
    have E2 : layOk W T n bs m zs x way = false := by rw [layOk, hv]; rfl
    rw [E1, E2]
    have HV := Lib.hid hv
    clear hl hl' hv E1 E2
    go_enter Try.func76, Try.ntmps76
    go_wp2_with fail
    refine (laid_spec A n c W T bs B m d zs _ hn (h.alloc _) hm (h'.alloc _) HZ0.out).mono ?_; rintro e w1 ⟨rfl, hb1⟩
    rw [HV.out]
    have B1 := belowW (below1 w _) hb1
    clear hb1
    go_wp2_with fail
    exact bodyPost_ret (v := .tuple #[.slice (some ⟨w1.heap.size, 0, none⟩) 0 0, .bool false]) (by simp [results, Try.results76, go_sem]) rfl (OutLB.mk rfl (by omega) (((own_empty w1).base B1.size).top (by simp)) (belowA B1))
  · have HV := Lib.hid hv
    obtain ⟨W, T, rfl, rfl, V, e, -⟩ := laid_of hv hl
    subst e
    have hm0 : 0 < m := by
      have := V.size
      have := V.w0
      have := V.t0
      have := Nat.mul_le_mul V.w0 V.t0
      omega
    obtain ⟨b0, off0, hB⟩ : ∃ b off, B = some ⟨b, off, none⟩ := by
      obtain ⟨b, off, hA, _⟩ := h'.2 hm0; exact ⟨b, off, hA⟩
    subst hB
    have n36 := V.n36
    have v0 := V.w0
    have v1 := V.w1
    have v2 := V.t0
    have v3 := V.t1
    have HL := Lib.hid hl'
    have hstep : ∀ k : Nat, k < m → stepToF W T m bs k way = stepF W T k way := by
      intro k hk
      have hvB : validB W T m bs = true := by
        have := hv; rw [laidB, Bool.and_eq_true] at this; exact this.1
      rw [stepToF, if_pos hvB, if_pos (inB_iff.2 ⟨by omega, by omega⟩)]; rfl
    have hout : inB x 0 ((m : Int) - 1) = false → stepToF W T m bs x way = -1 := by
      intro hi
      rw [stepToF, hi]
      split <;> rfl
    have E1 : layZ W T m bs m zs x way = if freeB W T m bs zs x way then layL W T zs x.toNat way else zs := by rw [layZ, hv, if_pos rfl, Int.toNat_natCast, Int.toNat_natCast]
    have E2 : layOk W T m bs m zs x way = freeB W T m bs zs x way := by rw [layOk, Int.toNat_natCast, Int.toNat_natCast, hv, Bool.true_and]
    rw [E1, E2]
    obtain ⟨ok, hok⟩ : ∃ ok, freeB W T m bs zs x way = ok := ⟨_, rfl⟩
    obtain ⟨Z, hZ⟩ : ∃ Z, (if freeB W T m bs zs x way = true then layL W T zs x.toNat way else zs) = Z := ⟨_, rfl⟩
    rw [hZ, hok]
    have hNO : Hid (freeB W T m bs zs x way = false → zs = Z ∧ false = ok) := by
      show _ → _
      intro e; rw [← hZ, ← hok, e]; exact ⟨rfl, rfl⟩
    have hYES : Hid (freeB W T m bs zs x way = true → layL W T zs x.toNat way = Z ∧ true = ok) := by
      show _ → _
      intro e; rw [← hZ, ← hok, e]; exact ⟨rfl, rfl⟩
    clear hZ hok
    have HST := Lib.hid hstep
    have HOUT := Lib.hid hout
    clear E1 E2 hl hl' hv hstep hout
    go_enter Try.func76, Try.ntmps76
    go_wp2_with fail
    refine (laid_spec A m c W T bs (some ⟨b0, off0, none⟩) m d zs _ hn (h.alloc _) hm (h'.alloc _) HZ0.out).mono ?_; rintro e w1 ⟨rfl, hb1⟩
    rw [HV.out]
    have R1 := P1.of hb1
    clear hb1
    go_wp2_with (at_builtin; refine wpList_appendN rfl _ _ 33 rfl 3 (.int .i64 0) 8 Try.underlying33 Try.infoInt rfl (own_empty w1) rfl ⟨b0, off0, none⟩ m d (zs.map (.int .i64)) rfl ((h'.below R1.B).alloc _) (ints_one zs) (by omega) (by omega) (by simp) ?_; intro D q w2 own hg; have R2 := (R1.alloc (.cells #[] 3)).grown hg (own_empty w1) R1.z; rw [List.nil_append, Nat.zero_add] at own; rw [Nat.zero_add]; have k1 := R2.X.1; have k2 := R2.X.2.1; have k3 := R2.X.2.2)
    refine (stepTo_spec A m c W T bs x way _ hn (h.below R2.B) hx hy).mono ?_; rintro e w3 ⟨rfl, hb3⟩
    have R3 := R2.below hb3
    have own3 := ((own.below hb3).top hb3.size).base R1.B.size
    clear hb3 hg R2 k1 k2 k3 own
    have k1 := R3.X.1
    have k2 := R3.X.2.1
    have k3 := R3.X.2.2
    obtain ⟨g, rfl, g1, -⟩ := own3.form hm0
    cases hi : inB x 0 ((m : Int) - 1)
    · rw [HOUT.out hi]
      have E1 : freeB W T m bs zs x way = false := by rw [freeB, hi]; rfl
      obtain ⟨rfl, rfl⟩ := hNO.out E1
      clear hi E1
      go_wp2_with fail
      exact bodyPost_ret (v := .tuple #[.slice (some ⟨g, 0, none⟩) m q, .bool false]) (by simp [results, Try.results76, go_sem]) rfl (OutLB.mk HL.out (by omega) (own3.base (Nat.le_refl _)) R3.B)
    have b := inB_iff.1 hi
    obtain ⟨k, rfl⟩ := Int.eq_ofNat_of_zero_le b.1
    have hk : k < m := by omega
    rw [HST.out k hk]
    have E : Hid (freeB W T m bs zs k way = freeK W T bs zs k way) := by show _ = _; rw [freeB, hi, Bool.true_and]; rfl
    have HK := Lib.hid (show k < W * T by rw [← V.size]; exact hk)
    have hsz := Lib.hid V.size
    have p2 : (0 : Int) ≤ (k : Int) := by omega
    have p3 : (k : Int) < (m : Int) := by omega
    clear hi b
    obtain ⟨ba, offa, v, rfl, hv, hc⟩ := (h.below R3.B).atB hk
    obtain ⟨b2, off2, z, hA, hz, hc2⟩ := (h'.below R3.B).atI hk
    injection hA with hA
    injection hA with hA1 hA2 _
    subst hA1 hA2
    obtain ⟨t, ht⟩ : ∃ t, stepF W T k way = t := ⟨_, rfl⟩
    obtain ⟨t1, t2⟩ := stepF_bound (way := way) v0 HK.out
    rw [ht] at t1 t2
    have EL : Hid (layL W T zs k way = (zs.set k way).set t.toNat (backF way)) := by show _ = _; rw [layL, ht]
    have hway : Hid (0 ≤ t → 1 ≤ way ∧ way ≤ 4) := by show _ → _; rw [← ht]; exact step_way
    have E1 : Hid (freeB W T m bs zs k way = (decide (0 ≤ t) && (v && (onR bs t.toNat && (z == 0 && ent zs t.toNat == 0))))) := by
      show _ = _
      rw [E.out, freeK, ht, onR_of hv, ent_of hz]
    rw [ht]
    clear ht hv hz E
    by_cases ht0 : t < 0
    · have hd1 : decide ((0 : Int) ≤ t) = false := decide_eq_false (by omega)
      obtain ⟨rfl, rfl⟩ := hNO.out (by rw [E1.out, hd1]; rfl)
      clear t2 hd1
      go_wp2_with fail
      exact bodyPost_ret (v := .tuple #[.slice (some ⟨g, 0, none⟩) m q, .bool false]) (by simp [results, Try.results76, go_sem]) rfl (OutLB.mk HL.out (by omega) (own3.base (Nat.le_refl _)) R3.B)
    obtain ⟨j, rfl⟩ := Int.eq_ofNat_of_zero_le (show 0 ≤ t by omega)
    obtain ⟨w0, w4⟩ := hway.out (by omega)
    have hj : j < m := by have := hsz.out; omega
    have hd1 : decide ((0 : Int) ≤ (j : Int)) = true := decide_eq_true (by omega)
    have hd2 : decide ((j : Int) < (0 : Int)) = false := decide_eq_false ht0
    have j0 : (0 : Int) ≤ (j : Int) := by omega
    have j1 : (j : Int) < (m : Int) := by omega
    obtain ⟨b4, off4, y, hA, hy, hc3⟩ := (h.below R3.B).atB hj
    injection hA with hA
    injection hA with hA1 hA2 _
    subst hA1 hA2
    obtain ⟨b5, off5, u, hA, hu, hc4⟩ := (h'.below R3.B).atI hj
    injection hA with hA
    injection hA with hA1 hA2 _
    subst hA1 hA2
    have E2 : Hid (freeB W T m bs zs k way = (v && (y && (z == 0 && u == 0)))) := by
      show _ = _
      rw [E1.out, hd1, Int.toNat_natCast, onR_of hy, ent_of hu, Bool.true_and]
    clear hy hu t1 t2 ht0 hd1
    cases v
    · obtain ⟨rfl, rfl⟩ := hNO.out E2.out
      go_wp2_with fail
      exact bodyPost_ret (v := .tuple #[.slice (some ⟨g, 0, none⟩) m q, .bool false]) (by simp [results, Try.results76, go_sem]) rfl (OutLB.mk HL.out (by omega) (own3.base (Nat.le_refl _)) R3.B)
    cases y
    · obtain ⟨rfl, rfl⟩ := hNO.out E2.out
      go_wp2_with fail
      exact bodyPost_ret (v := .tuple #[.slice (some ⟨g, 0, none⟩) m q, .bool false]) (by simp [results, Try.results76, go_sem]) rfl (OutLB.mk HL.out (by omega) (own3.base (Nat.le_refl _)) R3.B)
    cases hz : (z == 0)
    · have hz' : (z != 0) = true := by rw [bne, hz]; rfl
      obtain ⟨rfl, rfl⟩ := hNO.out (by rw [E2.out, hz]; rfl)
      clear hz
      go_wp2_with fail
      exact bodyPost_ret (v := .tuple #[.slice (some ⟨g, 0, none⟩) m q, .bool false]) (by simp [results, Try.results76, go_sem]) rfl (OutLB.mk HL.out (by omega) (own3.base (Nat.le_refl _)) R3.B)
    have hz' : (z != 0) = false := by rw [bne, hz]; rfl
    cases hu : (u == 0)
    · have hu' : (u != 0) = true := by rw [bne, hu]; rfl
      obtain ⟨rfl, rfl⟩ := hNO.out (by rw [E2.out, hz, hu]; rfl)
      clear hz hu
      go_wp2_with fail
      exact bodyPost_ret (v := .tuple #[.slice (some ⟨g, 0, none⟩) m q, .bool false]) (by simp [results, Try.results76, go_sem]) rfl (OutLB.mk HL.out (by omega) (own3.base (Nat.le_refl _)) R3.B)
    have hu' : (u != 0) = false := by rw [bne, hu]; rfl
    obtain ⟨e1, rfl⟩ := hYES.out (by rw [E2.out, hz, hu]; rfl)
    rw [Int.toNat_natCast, EL.out, Int.toNat_natCast] at e1
    subst e1
    clear hz hu
    have f1 := own3.frozen k
    obtain ⟨u1, c1⟩ := own3.cellAt hk
    have own4 := own3.stored k hk (.int .i64 way)
    have f2 := own4.frozen j
    obtain ⟨u2, c2⟩ := own4.cellAt hj
    have own5 := own4.stored j hj (.int .i64 (backF way))
    have R5 := (R3.B.setCell (p := ⟨g, k, none⟩) g1 (.int .i64 way)).setCell (p := ⟨g, j, none⟩) g1 (.int .i64 (backF way))
    go_wp2_with fail
    refine (l2Back_any way _ w0 w4).mono ?_; rintro e w4 ⟨rfl, rfl⟩
    go_wp2_with fail
    refine bodyPost_ret (v := .tuple #[.slice (some ⟨g, 0, none⟩) m q, .bool true]) (by simp [results, Try.results76, go_sem]) rfl (OutLB.mk (by show ((zs.set k way).set j (backF way)).length = m; rw [List.length_set, List.length_set]; exact HL.out) (by omega) ?_ R5)
    show Own _ _ _ _ _ _ _ (((zs.set k way).set j (backF way)).map _)
    rw [List.map_set, List.map_set]
    refine own5.top ?_
    rw [World.size_setCell, World.size_setCell]
    exact Nat.le_refl _

end Go.Proofs.Ytcnkpcnbobiodaa
