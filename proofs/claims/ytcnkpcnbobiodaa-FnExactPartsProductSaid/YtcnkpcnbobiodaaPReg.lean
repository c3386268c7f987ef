/-
  PartRegion, both sides: what it returns.
-/
import Derived.Test.YtcnkpcnbobiodaaPartsT
import Derived.Test.YtcnkpcnbobiodaaRBox
import Derived.Deep.RegionLaw
import Derived.Deep.DrawnRows
namespace Go.Proofs.Ytcnkpcnbobiodaa
open Go.RowKit
attribute [local go_sem ↓] Go.wp_at_zero Go.wp_at_succ

/-- Is a cell one of the part? -/
def inPart (o : List Int) (p : Int) (k : Nat) : Bool := decide (0 ≤ Parts.lab o k) && (Parts.lab o k == p)
def pregL (o : List Int) (p : Int) (n : Nat) : List Bool := (List.range n).map (inPart o p)
theorem pregL_len (o : List Int) (p : Int) (n : Nat) : (pregL o p n).length = n := by simp [pregL]
theorem pregL_succ (o : List Int) (p : Int) (k : Nat) : pregL o p (k + 1) = pregL o p k ++ [inPart o p k] := by rw [pregL, List.range_succ, List.map_append]; rfl
theorem pregL_none {o : List Int} {p : Int} (hp : ¬ 0 ≤ p) (n : Nat) : cnt (pregL o p n) = 0 := by
  induction n with
  | zero => rfl
  | succ n ih =>
    rw [pregL_succ, cnt_snoc, ih]
    have : inPart o p n = false := by
      rw [inPart]
      by_cases h : 0 ≤ Parts.lab o n
      · rw [decide_eq_true h, Bool.true_and]; exact beq_eq_false_iff_ne.2 (by omega)
      · rw [decide_eq_false h]; rfl
    rw [this]; rfl
def pregB (W T : Int) (n : Nat) (bs : List Bool) (p : Int) : Bool := validB W T n bs && decide (0 < cnt (pregL (partL W.toNat T.toNat bs) p n))
def pregW (W T : Int) (n : Nat) (bs : List Bool) (p : Int) : Int := if pregB W T n bs p then W else 0
def pregT (W T : Int) (n : Nat) (bs : List Bool) (p : Int) : Int := if pregB W T n bs p then T else 0
def pregC (W T : Int) (n : Nat) (bs : List Bool) (p : Int) : List Bool := if pregB W T n bs p then pregL (partL W.toNat T.toNat bs) p n else []
theorem preg_yes {W T : Int} {n : Nat} {bs : List Bool} {p : Int} (h : pregB W T n bs p = true) : pregW W T n bs p = W ∧ pregT W T n bs p = T ∧ pregC W T n bs p = pregL (partL W.toNat T.toNat bs) p n := by
  rw [pregW, pregT, pregC, if_pos h, if_pos h, if_pos h]; exact ⟨rfl, rfl, rfl⟩
theorem preg_no {W T : Int} {n : Nat} {bs : List Bool} {p : Int} (h : pregB W T n bs p = false) : pregW W T n bs p = 0 ∧ pregT W T n bs p = 0 ∧ pregC W T n bs p = [] := by
  rw [pregW, pregT, pregC, h]; exact ⟨rfl, rfl, rfl⟩

set_option maxRecDepth 100000 in
set_option maxHeartbeats 1000000 in
theorem preg_impl (A : Option Addr) (n c : Nat) (W T : Int) (bs : List Bool) (p : Int) (w : World) (hn : n ≤ 1048576) (h : Sl w A n (bs.map .bool)) (_hp : I64 p) :
    Calls Try.prog 61 #[.agg #[.int .i64 W, .int .i64 T, .slice A n c], .int .i64 p] w fun e w' => OutRB w w' e (pregW W T n bs p) (pregT W T n bs p) (pregC W T n bs p) (pregB W T n bs p) := by
  have hl := h.1
  rw [List.length_map] at hl
  have s0 := (h.alloc (.cells #[.int .i64 W, .int .i64 T, .slice A n c] 27)).alloc (.cells #[.int .i64 0, .int .i64 0, .slice none 0 0] 27)
  by_cases hv : validB W T n bs = true
  · obtain ⟨W, T, rfl, rfl, V⟩ := valid_of hv hl
    have E : Hid (pregB W T n bs p = decide (0 < cnt (pregL (partL W T bs) p n))) := by show _ = _; rw [pregB, hv]; rfl
    have HV := Lib.hid hv
    have hlen : (partL W T bs).length = n := by rw [partL, partAt_len]; exact V.size.symm
    have HLE := Lib.hid hlen
    have n36 := V.n36
    have v1 := V.w1
    have v3 := V.t1
    have hsz := Lib.hid V.size
    clear hl hv hlen
    go_enter Try.func61, Try.ntmps61
    go_wp2_with fail
    refine (valid_impl A n c W T bs _ (by omega) s0).mono ?_; rintro e w1 ⟨rfl, hb1⟩
    rw [HV.out]
    have R1 := PR.of hb1
    clear hb1 s0
    have k1 := R1.X.1
    have k2 := R1.X.2.1
    have k3 := R1.X.2.2
    go_wp2_with fail
    refine (field_any W T n _ (by omega) (by omega) hsz.out).mono ?_; rintro e w2 ⟨g, rfl, hown, hb2⟩
    have z1 := R1.z
    have R2 := (R1.below hb2).alloc (.cells #[.int .i64 W, .int .i64 T, .slice (some ⟨g, 0, none⟩) n n] 27)
    have o2 : Own (w2.alloc (.cells #[.int .i64 W, .int .i64 T, .slice (some ⟨g, 0, none⟩) n n] 27)) (w.heap.size + 2) w2.heap.size 4 (some ⟨g, 0, none⟩) n n (List.replicate n (.bool false)) := (hown.base z1).alloc _
    have x2 := Box.new w2 (.int .i64 W) (.int .i64 T) (.slice (some ⟨g, 0, none⟩) n n) 27
    have hg := o2.2 g 0 rfl
    have z2 : w.heap.size + 2 ≤ w2.heap.size := Nat.le_trans z1 hb2.size
    have lt2 : w.heap.size < w2.heap.size := by omega
    have ne2 : w.heap.size ≠ w2.heap.size := by omega
    clear hown hb2 k1 k2 k3 R1
    have k1 := R2.X.1
    have k2 := R2.X.2.1
    have k3 := R2.X.2.2
    go_wp2_with fail
    refine (parts_any A n c W T bs _ V (h.below R2.B)).mono ?_; rintro e w3 ⟨D, d, d0, rfl, own, hb3, -⟩
    have R3 := R2.below hb3
    have o3 := o2.below hb3
    have x3 := x2.below hb3
    rw [HLE.out] at own
    rw [HLE.out]
    have ownD : ∀ b off, D = some ⟨b, off, none⟩ → b ≠ g := fun b off hD => by have h1 := (own.2 b off hD).1; rw [World.size_alloc] at h1; omega
    have o4 : Own w3 (w.heap.size + 2) w2.heap.size 4 (some ⟨g, 0, none⟩) n n ((pregL (partL W T bs) p 0 ++ List.replicate (n - 0) false).map .bool) := by
      rw [pregL, List.range_zero, List.map_nil, List.nil_append, List.map_replicate]; exact o3
    have sD : Sl w3 D n ((partL W T bs).map (.int .i64)) := own.sl
    have z3 : w2.heap.size < w3.heap.size := by have := hb3.size; rw [World.size_alloc] at this; omega
    clear hb3 R2 o2 x2 o3 own k1 k2 k3
    go_wp2_with fail
    go_loopg [7, 8, 21] n (fun gk _ _ i wr => ∃ k : Nat, k ≤ n ∧ gk = n - k ∧ i = .int .i64 k ∧ Own wr (w.heap.size + 2) w2.heap.size 4 (some ⟨g, 0, none⟩) n n ((pregL (partL W T bs) p k ++ List.replicate (n - k) false).map .bool) ∧ Box wr w2.heap.size (.int .i64 W) (.int .i64 T) (.slice (some ⟨g, 0, none⟩) n n) ∧ Sl wr D n ((partL W T bs).map (.int .i64)) ∧ PR w (.int .i64 W) (.int .i64 T) (.slice A n c) wr ∧ w2.heap.size < wr.heap.size)
    case atStart => exact ⟨0, Nat.zero_le _, rfl, rfl, o4, x3, sD, R3, z3⟩
    case round =>
      clear o4 x3 sD R3 z3
      obtain ⟨k, hk, rfl, rfl, own, x, sD, R, hz⟩ := hrel
      by_cases hlt : k < n
      · obtain ⟨b, off, z, hA, hzz, hc⟩ := sD.atI hlt
        have HZ := Lib.hid (lab_get hzz)
        have q3 := x.2.2
        have f1 := own.frozen k
        obtain ⟨v', f2⟩ := own.cellAt hlt
        have fin : ∀ v : Bool, inPart (partL W T bs) p k = v → ∀ wx : World, wx = wr.setCell ⟨g, k, none⟩ (.bool v) → (Own wx (w.heap.size + 2) w2.heap.size 4 (some ⟨g, 0, none⟩) n n ((pregL (partL W T bs) p (k + 1) ++ List.replicate (n - (k + 1)) false).map .bool) ∧ Box wx w2.heap.size (.int .i64 W) (.int .i64 T) (.slice (some ⟨g, 0, none⟩) n n) ∧ Sl wx D n ((partL W T bs).map (.int .i64)) ∧ PR w (.int .i64 W) (.int .i64 T) (.slice A n c) wx ∧ w2.heap.size < wx.heap.size) := by
          intro v hv wx hwx
          subst hwx
          refine ⟨?_, x.setFar (show w2.heap.size ≠ g by omega) _, sD.setFar (fun b off hD => ownD b off hD) _, R.set hg.1 _, by rw [World.size_setCell]; exact hz⟩
          have := own.stored k hlt (.bool v)
          rw [List.map_append, List.set_append_right _ _ (by rw [List.length_map, pregL_len]; exact Nat.le_refl _), List.length_map, pregL_len, Nat.sub_self, show n - k = (n - (k + 1)) + 1 by omega, List.replicate_succ, List.map_cons, List.set_cons_zero] at this
          rw [pregL_succ, hv]
          simpa using this
        have FIN := Lib.hid fin
        subst hA
        clear hzz fin ownD own x sD R
        by_cases hz0 : 0 ≤ z
        · cases hzp : (z == p)
          · have F := FIN.out false (by rw [inPart, HZ.out, hzp, Bool.and_false]) _ rfl
            go_wp2_with fail
            go_roundg (n - (k + 1))
            case measure => omega
            case rel => exact ⟨k + 1, by omega, rfl, by go_num, F⟩
          · have F := FIN.out true (by rw [inPart, HZ.out, hzp, decide_eq_true hz0]; rfl) _ rfl
            go_wp2_with fail
            go_roundg (n - (k + 1))
            case measure => omega
            case rel => exact ⟨k + 1, by omega, rfl, by go_num, F⟩
        · have F := FIN.out false (by rw [inPart, HZ.out, decide_eq_false hz0]; rfl) _ rfl
          go_wp2_with fail
          go_roundg (n - (k + 1))
          case measure => omega
          case rel => exact ⟨k + 1, by omega, rfl, by go_num, F⟩
      · have e : k = n := by omega
        subst e
        rw [Nat.sub_self, List.replicate_zero, List.append_nil] at own
        have q1 := x.1
        have q2 := x.2.1
        have q3 := x.2.2
        have f1 := R.T.2 0
        have f2 := R.T.2 1
        have f3 := R.T.2 2
        have c4 := R.R.1
        have c5 := R.R.2.1
        have c6 := R.R.2.2
        have hne : w2.heap.size ≠ w.heap.size + 1 := by omega
        by_cases h0 : cnt (pregL (partL W T bs) p k) = 0
        · have E2 : Hid (pregB W T k bs p = false) := by show _ = _; rw [E.out, h0]; rfl
          have h00 : (((cnt (pregL (partL W T bs) p k) : Nat) : Int) == 0) = true := by rw [h0]; rfl
          have H00 := Lib.hid h00
          clear h0 h00
          go_wp2_with fail
          refine (many_any (some ⟨g, 0, none⟩) k k (pregL (partL W T bs) p k) _ (by omega) own.sl).mono ?_; rintro e w4 ⟨rfl, rfl⟩
          have h00 := H00.out
          go_wp2_with fail
          obtain ⟨e1, e2, e3⟩ := preg_no E2.out
          rw [e1, e2, e3, E2.out]
          exact bodyPost_ret (v := .tuple #[.agg #[.int .i64 0, .int .i64 0, .slice none 0 0], .bool false]) (by simp [results, Try.results61, go_sem, c4, c5, c6]) rfl (outRB_zero w (R.fin _ _ _))
        · have E2 : Hid (pregB W T k bs p = true) := by show _ = _; rw [E.out]; exact decide_eq_true (by omega)
          have h00 : (((cnt (pregL (partL W T bs) p k) : Nat) : Int) == 0) = false := beq_eq_false_iff_ne.2 (by omega)
          have H00 := Lib.hid h00
          clear h0 h00
          go_wp2_with fail
          refine (many_any (some ⟨g, 0, none⟩) k k (pregL (partL W T bs) p k) _ (by omega) own.sl).mono ?_; rintro e w4 ⟨rfl, rfl⟩
          have h00 := H00.out
          go_wp2_with fail
          obtain ⟨e1, e2, e3⟩ := preg_yes E2.out
          rw [e1, e2, e3, E2.out]
          exact bodyPost_ret (v := .tuple #[.agg #[.int .i64 W, .int .i64 T, .slice (some ⟨g, 0, none⟩) k k], .bool true]) (by simp [results, Try.results61, go_sem, c4, c5, c6]) rfl (OutRB.mk (pregL_len _ _ _) (by omega) (PR.own own rfl (Nat.le_refl _) (Nat.le_of_lt hz) _ _ _) (R.fin _ _ _))
  · have hv' : validB W T n bs = false := by simpa using hv
    have E : pregB W T n bs p = false := by rw [pregB, hv']; rfl
    have HV := Lib.hid hv'
    obtain ⟨e1, e2, e3⟩ := preg_no E
    rw [e1, e2, e3, E]
    clear hv hv' hl e1 e2 e3 E
    go_enter Try.func61, Try.ntmps61
    go_wp2_with fail
    refine (valid_impl A n c W T bs _ (by omega) s0).mono ?_; rintro e w1 ⟨rfl, hb1⟩
    rw [HV.out]
    have R1 := PR.of hb1
    clear hb1 s0
    have f1 := R1.T.2 0
    have f2 := R1.T.2 1
    have f3 := R1.T.2 2
    have k4 := R1.R.1
    have k5 := R1.R.2.1
    have k6 := R1.R.2.2
    go_wp2_with fail
    exact bodyPost_ret (v := .tuple #[.agg #[.int .i64 0, .int .i64 0, .slice none 0 0], .bool false]) (by simp [results, Try.results61, go_sem, k4, k5, k6]) rfl (outRB_zero w (R1.fin _ _ _))

end Go.Proofs.Ytcnkpcnbobiodaa
