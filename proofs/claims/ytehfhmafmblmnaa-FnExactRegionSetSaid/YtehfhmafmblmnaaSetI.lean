/-
  RegionSet, both sides: what it returns.
-/
import Derived.Test.YtehfhmafmblmnaaClone
import Derived.Test.YtehfhmafmblmnaaMade
import Derived.Test.YtehfhmafmblmnaaValid
import Derived.Test.YtehfhmafmblmnaaStep
import Derived.Deep.RegionHeld3
import Derived.Deep.RegionLaw
import Derived.Outline
import Derived.Deep.DeepCutAuto
namespace Go.Proofs.Ytehfhmafmblmnaa
open Go.RowKit

def setB (W T : Int) (n : Nat) (bs : List Bool) (x : Int) (b : Bool) : Bool := validB W T n bs && (inB x 0 ((n : Int) - 1) && validB W T n (bs.set x.toNat b))
def setW (W T : Int) (n : Nat) (bs : List Bool) (x : Int) (b : Bool) : Int := if setB W T n bs x b then W else 0
def setT (W T : Int) (n : Nat) (bs : List Bool) (x : Int) (b : Bool) : Int := if setB W T n bs x b then T else 0
def setC (W T : Int) (n : Nat) (bs : List Bool) (x : Int) (b : Bool) : List Bool := if setB W T n bs x b then bs.set x.toNat b else []
theorem set_yes {W T : Int} {n : Nat} {bs : List Bool} {x : Int} {b : Bool} (h : setB W T n bs x b = true) : setW W T n bs x b = W ∧ setT W T n bs x b = T ∧ setC W T n bs x b = bs.set x.toNat b := by
  rw [setW, setT, setC, if_pos h, if_pos h, if_pos h]; exact ⟨rfl, rfl, rfl⟩
theorem set_no {W T : Int} {n : Nat} {bs : List Bool} {x : Int} {b : Bool} (h : setB W T n bs x b = false) : setW W T n bs x b = 0 ∧ setT W T n bs x b = 0 ∧ setC W T n bs x b = [] := by
  rw [setW, setT, setC, h]; exact ⟨rfl, rfl, rfl⟩

set_option maxHeartbeats 1000000 in
theorem set_impl (A : Option Addr) (n c : Nat) (W T : Int) (bs : List Bool) (x : Int) (b : Bool) (w : World) (hn : n ≤ 1048576) (h : Sl w A n (bs.map .bool)) (hx : I64 x) :
    Calls Try.prog 45 #[.agg #[.int .i64 W, .int .i64 T, .slice A n c], .int .i64 x, .bool b] w fun e w' => OutRB w w' e (setW W T n bs x b) (setT W T n bs x b) (setC W T n bs x b) (setB W T n bs x b) := by
  have hl := h.1
  rw [List.length_map] at hl
  by_cases hv : validB W T n bs = true
  · by_cases hi : inB x 0 ((n : Int) - 1) = true
    · have HV := Lib.hid hv
      have HI := Lib.hid hi
      clear hv hi
      have s0 := (h.alloc (.cells #[.int .i64 W, .int .i64 T, .slice A n c] 27)).alloc (.cells #[.int .i64 0, .int .i64 0, .slice none 0 0] 27)
      have hib := inB_iff.1 HI.out
      obtain ⟨k, rfl⟩ := Int.eq_ofNat_of_zero_le hib.1
      have hkn : k < n := by omega
      have HL := Lib.hid hl
      clear hl hib
      go_enter Try.func45, Try.ntmps45
      go_wp2_with fail
      refine (valid_impl A n c W T bs _ (by omega) s0).mono ?_; rintro e w1 ⟨rfl, hb1⟩
      rw [HV.out]
      have R1 := PR.of hb1
      have s1 := s0.below hb1
      clear hb1 s0
      have k1 := R1.X.1
      have k2 := R1.X.2.1
      have k3 := R1.X.2.2
      go_wp2_with fail
      refine (has_any A n c W T k _ hn hx).mono ?_; rintro e w2 ⟨rfl, hb2⟩
      rw [HI.out]
      have R2 := R1.below hb2
      have s2 := s1.below hb2
      clear hb2 R1 s1 k1 k2 k3
      have k1 := R2.X.1
      have k2 := R2.X.2.1
      have k3 := R2.X.2.2
      have n2 : w2.heap.size ≠ w.heap.size := by have := R2.z; omega
      have n3 : w2.heap.size + 1 ≠ w.heap.size := by have := R2.z; omega
      go_upto_region 3 with fail
      go_cut [8] (fun s8 wx => Made w n W T A c (bs.map .bool) s8 wx)
      case first =>
        go_region_held3 (fun w' => w'.cell? ⟨w.heap.size, 0, none⟩ = some (.int .i64 W) ∧ w'.cell? ⟨w.heap.size, 1, none⟩ = some (.int .i64 T) ∧ w'.cell? ⟨w.heap.size, 2, none⟩ = some (.slice A n c))
          (first | exact ⟨k1, k2, k3⟩ | go_keep)
          (first
            | (go_at_call 81; refine (clone_bool A n c (bs.map .bool) _ hn s2.drew (bools_one _)).mono ?_; rintro e w3 ⟨A', c', rfl, hownA, hbA⟩; have R3 := R2.drew.below hbA; have c0 := R3.X.1; have c1 := R3.X.2.1; have c2 := R3.X.2.2; have n4 : w3.heap.size ≠ w.heap.size := Nat.ne_of_gt R3.X.lt)
            | (go_at_call 81; refine (clone_bool A n c (bs.map .bool) _ hn (s2.alloc _).drew (bools_one _)).mono ?_; rintro e w3 ⟨A', c', rfl, hownB, hbB⟩; have R3 := (R2.alloc (.cells #[.int .i64 0, .int .i64 0, .slice none 0 0] 27)).drew.below hbB; have c0 := R3.X.1; have c1 := R3.X.2.1; have c2 := R3.X.2.2; have q := ((Box.new w2 (.int .i64 0) (.int .i64 0) (.slice none 0 0) 27).drew.below hbB); have q0 := q.1; have q1 := q.2.1; have q2 := q.2.2; have t := ((Thaw.new w2 #[.int .i64 0, .int .i64 0, .slice none 0 0] 27).drew.below hbB); have t0 := t.2 0; have t1 := t.2 1; have t2 := t.2 2))
        all_goals
          go_wp2_with fail
          go_meet
          first
            | (have m := made_late (W := W) (T := T) (c' := n) R3 (hownA.base R2.z); exact m)
            | (have m := made_early (W := W) (T := T) (c' := n) R3 R2.z q t (hownB.base (by simp; have := R2.z; omega)) (fun b' off hA => by have := hownB.2 b' off hA; simp at this; omega); exact m)
      case rest =>
        obtain ⟨b1, A1, c1, d1, rfl, hb1, x1, t1, o1, hne, R3⟩ := hcut
        have q1 := x1.1
        have q2 := x1.2.1
        have q3 := x1.2.2
        obtain ⟨g, rfl, hg1, hg2⟩ := o1.form (by omega)
        have hgb := hne g 0 rfl
        have f1 := o1.frozen k
        obtain ⟨v', f2⟩ := o1.cellAt hkn
        clear R2 k1 k2 k3 n2 n3
        go_wp2_with fail
        have o2 : Own (wc.setCell ⟨g, k, none⟩ (.bool b)) (w.heap.size + 2) wc.heap.size 4 (some ⟨g, 0, none⟩) n d1 ((bs.set k b).map .bool) := by rw [List.map_set]; exact o1.stored k hkn (.bool b)
        have x2 := x1.setFar (p := ⟨g, k, none⟩) (show b1 ≠ g by omega) (.bool b)
        have R4 := R3.set (p := ⟨g, k, none⟩) hg1 (.bool b)
        refine (valid_impl (some ⟨g, 0, none⟩) n c1 W T (bs.set k b) _ (by omega) o2.sl).mono ?_; rintro e w4 ⟨rfl, hb4⟩
        have x5 := x2.below hb4
        have R5 := R4.below hb4
        have o5 := o2.below hb4
        have z5 : wc.heap.size ≤ w4.heap.size := by have := hb4.size; rwa [World.size_setCell] at this
        clear x1 t1 o1 hne R3 o2 x2 R4 hb4 q1 q2 q3 f1 f2
        have q1 := x5.1
        have q2 := x5.2.1
        have q3 := x5.2.2
        have f1 := R5.T.2 0
        have f2 := R5.T.2 1
        have f3 := R5.T.2 2
        have k4 := R5.R.1
        have k5 := R5.R.2.1
        have k6 := R5.R.2.2
        have hb1' : b1 ≠ w.heap.size + 1 := by omega
        cases hok : validB W T n (bs.set k b)
        · have E : Hid (setB W T n bs k b = false) := by show _ = _; rw [setB, HV.out, HI.out, Int.toNat_natCast, hok]; rfl
          clear hok
          go_wp2_with fail
          obtain ⟨e1, e2, e3⟩ := set_no E.out
          rw [e1, e2, e3, E.out]
          exact bodyPost_ret (v := .tuple #[.agg #[.int .i64 0, .int .i64 0, .slice none 0 0], .bool false]) (by simp [results, Try.results45, go_sem, k4, k5, k6]) rfl (outRB_zero w (R5.fin _ _ _))
        · have E : Hid (setB W T n bs k b = true) := by show _ = _; rw [setB, HV.out, HI.out, Int.toNat_natCast, hok]; rfl
          clear hok
          go_wp2_with fail
          obtain ⟨e1, e2, e3⟩ := set_yes E.out
          rw [e1, e2, e3, E.out, Int.toNat_natCast]
          exact bodyPost_ret (v := .tuple #[.agg #[.int .i64 W, .int .i64 T, .slice (some ⟨g, 0, none⟩) n c1], .bool true]) (by simp [results, Try.results45, go_sem, k4, k5, k6]) rfl (OutRB.mkL (c0 := d1) (by rw [List.length_set]; exact HL.out) (by omega) (PR.own o5 rfl (Nat.le_refl _) z5 _ _ _) (R5.fin _ _ _))
    · have HV := Lib.hid hv
      have hi' : inB x 0 ((n : Int) - 1) = false := by simpa using hi
      have HI := Lib.hid hi'
      have E : setB W T n bs x b = false := by rw [setB, hi', Bool.false_and, Bool.and_false]
      obtain ⟨e1, e2, e3⟩ := set_no E
      rw [e1, e2, e3, E]
      clear hv hi hi' e1 e2 e3 E hl
      have s0 := (h.alloc (.cells #[.int .i64 W, .int .i64 T, .slice A n c] 27)).alloc (.cells #[.int .i64 0, .int .i64 0, .slice none 0 0] 27)
      go_enter Try.func45, Try.ntmps45
      go_wp2_with fail
      refine (valid_impl A n c W T bs _ (by omega) s0).mono ?_; rintro e w1 ⟨rfl, hb1⟩
      rw [HV.out]
      have R1 := PR.of hb1
      have s1 := s0.below hb1
      clear hb1 s0
      have k1 := R1.X.1
      have k2 := R1.X.2.1
      have k3 := R1.X.2.2
      go_wp2_with fail
      refine (has_any A n c W T x _ hn hx).mono ?_; rintro e w2 ⟨rfl, hb2⟩
      rw [HI.out]
      have R2 := R1.below hb2
      clear hb2 R1 s1 k1 k2 k3
      have f1 := R2.T.2 0
      have f2 := R2.T.2 1
      have f3 := R2.T.2 2
      have k4 := R2.R.1
      have k5 := R2.R.2.1
      have k6 := R2.R.2.2
      go_wp2_with fail
      exact bodyPost_ret (v := .tuple #[.agg #[.int .i64 0, .int .i64 0, .slice none 0 0], .bool false]) (by simp [results, Try.results45, go_sem, k4, k5, k6]) rfl (outRB_zero w (R2.fin _ _ _))
  · have hv' : validB W T n bs = false := by simpa using hv
    have E : setB W T n bs x b = false := by rw [setB, hv', Bool.false_and]
    have HV := Lib.hid hv'
    obtain ⟨e1, e2, e3⟩ := set_no E
    rw [e1, e2, e3, E]
    clear hv hv' e1 e2 e3 E hl
    have s0 := (h.alloc (.cells #[.int .i64 W, .int .i64 T, .slice A n c] 27)).alloc (.cells #[.int .i64 0, .int .i64 0, .slice none 0 0] 27)
    go_enter Try.func45, Try.ntmps45
    go_wp2_with fail
    refine (valid_impl A n c W T bs _ (by omega) s0).mono ?_; rintro e w1 ⟨rfl, hb1⟩
    rw [HV.out]
    have R1 := PR.of hb1
    clear hb1 s0
    have f1 := R1.T.2 0
    have f2 := R1.T.2 1
    have f3 := R1.T.2 2
    have k4 := R1.R.1
    have k5 := R1.R.2.1
    have k6 := R1.R.2.2
    go_wp2_with fail
    exact bodyPost_ret (v := .tuple #[.agg #[.int .i64 0, .int .i64 0, .slice none 0 0], .bool false]) (by simp [results, Try.results45, go_sem, k4, k5, k6]) rfl (outRB_zero w (R1.fin _ _ _))

set_option maxHeartbeats 1000000 in
theorem set_spec (A : Option Addr) (n c : Nat) (W T : Int) (bs : List Bool) (x : Int) (b : Bool) (w : World) (hn : n ≤ 1048576) (h : Sl w A n (bs.map .bool)) (hx : I64 x) :
    Calls Try.prog 44 #[.agg #[.int .i64 W, .int .i64 T, .slice A n c], .int .i64 x, .bool b] w fun e w' => OutRB w w' e (setW W T n bs x b) (setT W T n bs x b) (setC W T n bs x b) (setB W T n bs x b) := by
  have hl := h.1
  rw [List.length_map] at hl
  by_cases hv : validB W T n bs = true
  · by_cases hi : inB x 0 ((n : Int) - 1) = true
    · have HV := Lib.hid hv
      have HI := Lib.hid hi
      clear hv hi
      have s0 := (h.alloc (.cells #[.int .i64 W, .int .i64 T, .slice A n c] 27)).alloc (.cells #[.int .i64 0, .int .i64 0, .slice none 0 0] 27)
      have hib := inB_iff.1 HI.out
      obtain ⟨k, rfl⟩ := Int.eq_ofNat_of_zero_le hib.1
      have hkn : k < n := by omega
      have HL := Lib.hid hl
      clear hl hib
      go_enter Try.func44, Try.ntmps44
      go_wp2_with fail
      refine (valid_spec A n c W T bs _ (by omega) s0).mono ?_; rintro e w1 ⟨rfl, hb1⟩
      rw [HV.out]
      have R1 := PR.of hb1
      have s1 := s0.below hb1
      clear hb1 s0
      have k1 := R1.X.1
      have k2 := R1.X.2.1
      have k3 := R1.X.2.2
      go_wp2_with fail
      refine (l1In_any _ _ _ _).mono ?_; rintro e w2 ⟨rfl, rfl⟩
      rw [HI.out]
      obtain ⟨w2, rfl⟩ : ∃ w2, w2 = w1 := ⟨_, rfl⟩
      have R2 := R1
      have s2 := s1
      clear R1 s1 k1 k2 k3
      have k1 := R2.X.1
      have k2 := R2.X.2.1
      have k3 := R2.X.2.2
      have n2 : w2.heap.size ≠ w.heap.size := by have := R2.z; omega
      have n3 : w2.heap.size + 1 ≠ w.heap.size := by have := R2.z; omega
      go_upto_region 3 with fail
      go_cut [8] (fun s8 wx => Made w n W T A c (bs.map .bool) s8 wx)
      case first =>
        have hm : 0 < n := by omega
        obtain ⟨g0, off0, rfl, -⟩ := s2.2 hm
        have z2 := R2.z
        have o1 : Own (w2.alloc (.cells #[] 4)) w2.heap.size (w2.heap.size + 1) 4 (some ⟨w2.heap.size, 0, none⟩) 0 0 [] := by
          simpa using Own.made (w := w2) (base := w2.heap.size) (e := 4) (cs := #[]) (n := 0) (Nat.le_refl _) (by unfold maxLen; omega) rfl
        have o3 : Own ((w2.alloc (.cells #[.int .i64 0, .int .i64 0, .slice none 0 0] 27)).alloc (.cells #[] 4)) (w2.heap.size + 1) (w2.heap.size + 2) 4 (some ⟨w2.heap.size + 1, 0, none⟩) 0 0 [] := by
          simpa using Own.made (w := w2.alloc (.cells #[.int .i64 0, .int .i64 0, .slice none 0 0] 27)) (base := w2.heap.size + 1) (e := 4) (cs := #[]) (n := 0) (by simp) (by unfold maxLen; omega) rfl
        have x2 : Box ((w2.alloc (.cells #[] 4)).alloc (.cells #[.int .i64 0, .int .i64 0, .slice none 0 0] 27)) (w2.heap.size + 1) (.int .i64 0) (.int .i64 0) (.slice none 0 0) := by simpa using Box.new (w2.alloc (.cells #[] 4)) (.int .i64 0) (.int .i64 0) (.slice none 0 0) 27
        have t2 : Thaw ((w2.alloc (.cells #[] 4)).alloc (.cells #[.int .i64 0, .int .i64 0, .slice none 0 0] 27)) (w2.heap.size + 1) := by simpa using Thaw.new (w2.alloc (.cells #[] 4)) #[.int .i64 0, .int .i64 0, .slice none 0 0] 27
        have x3 := (Box.new w2 (.int .i64 0) (.int .i64 0) (.slice none 0 0) 27).alloc (.cells #[] 4)
        have t3 := (Thaw.new w2 #[.int .i64 0, .int .i64 0, .slice none 0 0] 27).alloc (.cells #[] 4)
        go_region_held3 (fun w' => w'.cell? ⟨w.heap.size, 0, none⟩ = some (.int .i64 W) ∧ w'.cell? ⟨w.heap.size, 1, none⟩ = some (.int .i64 T) ∧ w'.cell? ⟨w.heap.size, 2, none⟩ = some (.slice (some ⟨g0, off0, none⟩) n c))
          (first | exact ⟨k1, k2, k3⟩ | go_keep)
          (first
            | ((refine step_appendN rfl _ _ 22 (by rfl) 4 (.bool false) 1 Try.underlying22 Try.infoBool rfl o1.drew (by rfl) _ n c (bs.map .bool) (by rfl) (s2.alloc _).drew (bools_one _) hm (by omega) (by omega) (by simp) ?_; intro A' c' w3 hown1 hg near1; have R3 := (R2.alloc (.cells #[] 4)).drew.grown hg o1.drew z2; have c0 := R3.X.1; have c1 := R3.X.2.1; have c2 := R3.X.2.2; have n4 : w3.heap.size ≠ w.heap.size := Nat.ne_of_gt R3.X.lt))
            | ((refine step_appendN rfl _ _ 22 (by rfl) 4 (.bool false) 1 Try.underlying22 Try.infoBool rfl (o1.alloc _).drew (by rfl) _ n c (bs.map .bool) (by rfl) ((s2.alloc _).alloc _).drew (bools_one _) hm (by omega) (by omega) (by simp; omega) ?_; intro A' c' w3 hown2 hg near2; have R3 := ((R2.alloc (.cells #[] 4)).alloc (.cells #[.int .i64 0, .int .i64 0, .slice none 0 0] 27)).drew.grown hg (o1.alloc _).drew z2; have c0 := R3.X.1; have c1 := R3.X.2.1; have c2 := R3.X.2.2; have q := x2.drew.grown hg (o1.offBox (.inr (Nat.le_refl _))); have q0 := q.1; have q1 := q.2.1; have q2 := q.2.2; have t := t2.drew.grown hg (o1.offBox (.inr (Nat.le_refl _))); have t0 := t.2 0; have t1 := t.2 1; have t2 := t.2 2))
            | ((refine step_appendN rfl _ _ 22 (by rfl) 4 (.bool false) 1 Try.underlying22 Try.infoBool rfl o3.drew (by rfl) _ n c (bs.map .bool) (by rfl) ((s2.alloc _).alloc _).drew (bools_one _) hm (by omega) (by omega) (by simp) ?_; intro A' c' w3 hown3 hg near3; have R3 := ((R2.alloc (.cells #[.int .i64 0, .int .i64 0, .slice none 0 0] 27)).alloc (.cells #[] 4)).drew.grown hg o3.drew (Nat.le_succ_of_le z2); have c0 := R3.X.1; have c1 := R3.X.2.1; have c2 := R3.X.2.2; have q := x3.drew.grown hg (o3.offBox (.inl (Nat.lt_succ_self _))); have q0 := q.1; have q1 := q.2.1; have q2 := q.2.2; have t := t3.drew.grown hg (o3.offBox (.inl (Nat.lt_succ_self _))); have t0 := t.2 0; have t1 := t.2 1; have t2 := t.2 2)))
        all_goals
          go_wp2_with fail
          go_meet
          first
            | (rw [List.nil_append, Nat.zero_add] at hown1; have m := made_late (W := W) (T := T) (c' := c') R3 (hown1.base z2); exact m)
            | (rw [List.nil_append, Nat.zero_add] at hown2; have m := made_early (W := W) (T := T) (c' := c') R3 (Nat.le_succ_of_le z2) q t (hown2.base z2) (fun b' off hA => by rcases near2 with h2 | h2 <;> (rw [h2] at hA; injection hA with hA; injection hA with hA _ _; first | omega | (simp only [World.drew, World.size_alloc] at hA; omega))); exact m)
            | (rw [List.nil_append, Nat.zero_add] at hown3; have m := made_early (W := W) (T := T) (c' := c') R3 z2 q t (hown3.base (Nat.le_succ_of_le z2)) (fun b' off hA => by have := hown3.2 b' off hA; omega); exact m)
      case rest =>
        obtain ⟨b1, A1, c1, d1, rfl, hb1, x1, t1, o1, hne, R3⟩ := hcut
        have q1 := x1.1
        have q2 := x1.2.1
        have q3 := x1.2.2
        obtain ⟨g, rfl, hg1, hg2⟩ := o1.form (by omega)
        have hgb := hne g 0 rfl
        have f1 := o1.frozen k
        obtain ⟨v', f2⟩ := o1.cellAt hkn
        clear R2 k1 k2 k3 n2 n3
        go_wp2_with fail
        have o2 : Own (wc.setCell ⟨g, k, none⟩ (.bool b)) (w.heap.size + 2) wc.heap.size 4 (some ⟨g, 0, none⟩) n d1 ((bs.set k b).map .bool) := by rw [List.map_set]; exact o1.stored k hkn (.bool b)
        have x2 := x1.setFar (p := ⟨g, k, none⟩) (show b1 ≠ g by omega) (.bool b)
        have R4 := R3.set (p := ⟨g, k, none⟩) hg1 (.bool b)
        refine (valid_spec (some ⟨g, 0, none⟩) n c1 W T (bs.set k b) _ (by omega) o2.sl).mono ?_; rintro e w4 ⟨rfl, hb4⟩
        have x5 := x2.below hb4
        have R5 := R4.below hb4
        have o5 := o2.below hb4
        have z5 : wc.heap.size ≤ w4.heap.size := by have := hb4.size; rwa [World.size_setCell] at this
        clear x1 t1 o1 hne R3 o2 x2 R4 hb4 q1 q2 q3 f1 f2
        have q1 := x5.1
        have q2 := x5.2.1
        have q3 := x5.2.2
        have f1 := R5.T.2 0
        have f2 := R5.T.2 1
        have f3 := R5.T.2 2
        have k4 := R5.R.1
        have k5 := R5.R.2.1
        have k6 := R5.R.2.2
        have hb1' : b1 ≠ w.heap.size + 1 := by omega
        cases hok : validB W T n (bs.set k b)
        · have E : Hid (setB W T n bs k b = false) := by show _ = _; rw [setB, HV.out, HI.out, Int.toNat_natCast, hok]; rfl
          clear hok
          go_wp2_with fail
          obtain ⟨e1, e2, e3⟩ := set_no E.out
          rw [e1, e2, e3, E.out]
          exact bodyPost_ret (v := .tuple #[.agg #[.int .i64 0, .int .i64 0, .slice none 0 0], .bool false]) (by simp [results, Try.results44, go_sem, k4, k5, k6]) rfl (outRB_zero w (R5.fin _ _ _))
        · have E : Hid (setB W T n bs k b = true) := by show _ = _; rw [setB, HV.out, HI.out, Int.toNat_natCast, hok]; rfl
          clear hok
          go_wp2_with fail
          obtain ⟨e1, e2, e3⟩ := set_yes E.out
          rw [e1, e2, e3, E.out, Int.toNat_natCast]
          exact bodyPost_ret (v := .tuple #[.agg #[.int .i64 W, .int .i64 T, .slice (some ⟨g, 0, none⟩) n c1], .bool true]) (by simp [results, Try.results44, go_sem, k4, k5, k6]) rfl (OutRB.mkL (c0 := d1) (by rw [List.length_set]; exact HL.out) (by omega) (PR.own o5 rfl (Nat.le_refl _) z5 _ _ _) (R5.fin _ _ _))
    · have HV := Lib.hid hv
      have hi' : inB x 0 ((n : Int) - 1) = false := by simpa using hi
      have HI := Lib.hid hi'
      have E : setB W T n bs x b = false := by rw [setB, hi', Bool.false_and, Bool.and_false]
      obtain ⟨e1, e2, e3⟩ := set_no E
      rw [e1, e2, e3, E]
      clear hv hi hi' e1 e2 e3 E hl
      have s0 := (h.alloc (.cells #[.int .i64 W, .int .i64 T, .slice A n c] 27)).alloc (.cells #[.int .i64 0, .int .i64 0, .slice none 0 0] 27)
      go_enter Try.func44, Try.ntmps44
      go_wp2_with fail
      refine (valid_spec A n c W T bs _ (by omega) s0).mono ?_; rintro e w1 ⟨rfl, hb1⟩
      rw [HV.out]
      have R1 := PR.of hb1
      have s1 := s0.below hb1
      clear hb1 s0
      have k1 := R1.X.1
      have k2 := R1.X.2.1
      have k3 := R1.X.2.2
      go_wp2_with fail
      refine (l1In_any _ _ _ _).mono ?_; rintro e w2 ⟨rfl, rfl⟩
      rw [HI.out]
      obtain ⟨w2, rfl⟩ : ∃ w2, w2 = w1 := ⟨_, rfl⟩
      have R2 := R1
      clear R1 s1 k1 k2 k3
      have f1 := R2.T.2 0
      have f2 := R2.T.2 1
      have f3 := R2.T.2 2
      have k4 := R2.R.1
      have k5 := R2.R.2.1
      have k6 := R2.R.2.2
      go_wp2_with fail
      exact bodyPost_ret (v := .tuple #[.agg #[.int .i64 0, .int .i64 0, .slice none 0 0], .bool false]) (by simp [results, Try.results44, go_sem, k4, k5, k6]) rfl (outRB_zero w (R2.fin _ _ _))
  · have hv' : validB W T n bs = false := by simpa using hv
    have E : setB W T n bs x b = false := by rw [setB, hv', Bool.false_and]
    have HV := Lib.hid hv'
    obtain ⟨e1, e2, e3⟩ := set_no E
    rw [e1, e2, e3, E]
    clear hv hv' e1 e2 e3 E hl
    have s0 := (h.alloc (.cells #[.int .i64 W, .int .i64 T, .slice A n c] 27)).alloc (.cells #[.int .i64 0, .int .i64 0, .slice none 0 0] 27)
    go_enter Try.func44, Try.ntmps44
    go_wp2_with fail
    refine (valid_spec A n c W T bs _ (by omega) s0).mono ?_; rintro e w1 ⟨rfl, hb1⟩
    rw [HV.out]
    have R1 := PR.of hb1
    clear hb1 s0
    have f1 := R1.T.2 0
    have f2 := R1.T.2 1
    have f3 := R1.T.2 2
    have k4 := R1.R.1
    have k5 := R1.R.2.1
    have k6 := R1.R.2.2
    go_wp2_with fail
    exact bodyPost_ret (v := .tuple #[.agg #[.int .i64 0, .int .i64 0, .slice none 0 0], .bool false]) (by simp [results, Try.results44, go_sem, k4, k5, k6]) rfl (outRB_zero w (R1.fin _ _ _))

end Go.Proofs.Ytehfhmafmblmnaa
