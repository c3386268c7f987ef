/-
  RegionJoin and RegionMeet, both sides: what they return.
-/
import Derived.Test.YtehfhmafmblmnaaMem2
import Derived.Test.YtehfhmafmblmnaaValid
import Derived.Test.YtehfhmafmblmnaaRBox
import Derived.Deep.RegionHeld3
import Derived.Deep.RegionLaw
import Derived.Outline
namespace Go.Proofs.Ytehfhmafmblmnaa
open Go.RowKit

def zipB (op : Bool → Bool → Bool) (xs ys : List Bool) : List Bool := List.zipWith op xs ys
def combB (op : Bool → Bool → Bool) (W T : Int) (n : Nat) (xs : List Bool) (W' T' : Int) (n' : Nat) (ys : List Bool) : Bool := validB W T n xs && (validB W' T' n' ys && (decide (W = W') && (decide (T = T') && validB W T n (zipB op xs ys))))
def combW (op : Bool → Bool → Bool) (W T : Int) (n : Nat) (xs : List Bool) (W' T' : Int) (n' : Nat) (ys : List Bool) : Int := if combB op W T n xs W' T' n' ys then W else 0
def combT (op : Bool → Bool → Bool) (W T : Int) (n : Nat) (xs : List Bool) (W' T' : Int) (n' : Nat) (ys : List Bool) : Int := if combB op W T n xs W' T' n' ys then T else 0
def combC (op : Bool → Bool → Bool) (W T : Int) (n : Nat) (xs : List Bool) (W' T' : Int) (n' : Nat) (ys : List Bool) : List Bool := if combB op W T n xs W' T' n' ys then zipB op xs ys else []
theorem comb_yes {op : Bool → Bool → Bool} {W T : Int} {n : Nat} {xs : List Bool} {W' T' : Int} {n' : Nat} {ys : List Bool} (h : combB op W T n xs W' T' n' ys = true) : combW op W T n xs W' T' n' ys = W ∧ combT op W T n xs W' T' n' ys = T ∧ combC op W T n xs W' T' n' ys = zipB op xs ys := by
  rw [combW, combT, combC, if_pos h, if_pos h, if_pos h]; exact ⟨rfl, rfl, rfl⟩
theorem comb_no {op : Bool → Bool → Bool} {W T : Int} {n : Nat} {xs : List Bool} {W' T' : Int} {n' : Nat} {ys : List Bool} (h : combB op W T n xs W' T' n' ys = false) : combW op W T n xs W' T' n' ys = 0 ∧ combT op W T n xs W' T' n' ys = 0 ∧ combC op W T n xs W' T' n' ys = [] := by
  rw [combW, combT, combC, h]; exact ⟨rfl, rfl, rfl⟩
def andO (x y : Bool) : Bool := x && y
def orO (x y : Bool) : Bool := x || y

theorem zip_len {op : Bool → Bool → Bool} {xs ys : List Bool} {n : Nat} (h : xs.length = n) (h' : ys.length = n) : (zipB op xs ys).length = n := by rw [zipB, List.length_zipWith]; omega
theorem zip_get {op : Bool → Bool → Bool} {xs ys : List Bool} {k : Nat} {x y : Bool} (h : xs[k]? = some x) (h' : ys[k]? = some y) : (zipB op xs ys)[k]? = some (op x y) := by
  rw [zipB, List.getElem?_zipWith, h, h']
theorem zip_take {op : Bool → Bool → Bool} {xs ys : List Bool} {k : Nat} {x y : Bool} (h : xs[k]? = some x) (h' : ys[k]? = some y) : (zipB op xs ys).take (k + 1) = (zipB op xs ys).take k ++ [op x y] := take_snoc (zip_get h h')

theorem or_any (p q : Bool) (w : World) : Calls Try.prog 80 #[.bool p, .bool q] w fun e w' => e = .returned (.bool (orO p q)) ∧ w = w' := by
  cases p
  · go_enter Try.func80, Try.ntmps80
    go_wp2_with fail
    go_ret
    exact ⟨rfl, rfl⟩
  · go_enter Try.func80, Try.ntmps80
    go_wp2_with fail
    go_ret
    exact ⟨rfl, rfl⟩
theorem and_any (p q : Bool) (w : World) : Calls Try.prog 77 #[.bool p, .bool q] w fun e w' => e = .returned (.bool (andO p q)) ∧ w = w' := by
  cases p
  · go_enter Try.func77, Try.ntmps77
    go_wp2_with fail
    go_ret
    exact ⟨rfl, rfl⟩
  · go_enter Try.func77, Try.ntmps77
    go_wp2_with fail
    go_ret
    exact ⟨rfl, rfl⟩

set_option maxHeartbeats 1000000 in
theorem comb_join (A B : Option Addr) (n c m d : Nat) (W T W' T' : Int) (xs ys : List Bool) (w : World) (hn : n ≤ 1048576) (h : Sl w A n (xs.map .bool)) (hm : m ≤ 1048576) (h' : Sl w B m (ys.map .bool)) :
    Calls Try.prog 76 #[.agg #[.int .i64 W, .int .i64 T, .slice A n c], .agg #[.int .i64 W', .int .i64 T', .slice B m d], .func (.func 80) #[] #[]] w fun e w' => OutRB w w' e (combW orO W T n xs W' T' m ys) (combT orO W T n xs W' T' m ys) (combC orO W T n xs W' T' m ys) (combB orO W T n xs W' T' m ys) := by
  have hl := h.1
  rw [List.length_map] at hl
  have hl' := h'.1
  rw [List.length_map] at hl'
  have s0 := ((h.alloc (.cells #[.int .i64 W, .int .i64 T, .slice A n c] 27)).alloc (.cells #[.int .i64 W', .int .i64 T', .slice B m d] 27)).alloc (.cells #[.int .i64 0, .int .i64 0, .slice none 0 0] 27)
  by_cases hv : validB W T n xs = true
  · have HV := Lib.hid hv
    by_cases hv' : validB W' T' m ys = true
    · have HV' := Lib.hid hv'
      by_cases hw : W = W'
      · subst hw
        by_cases ht : T = T'
        · subst ht
          obtain ⟨W, T, rfl, rfl, V⟩ := valid_of hv hl
          obtain ⟨W2, T2, e2, e3, V'⟩ := valid_of hv' hl'
          have ew : W2 = W := by omega
          have et : T2 = T := by omega
          subst ew et
          have em : m = n := by rw [V.size, V'.size]
          subst em
          have HL := Lib.hid hl
          have HL' := Lib.hid hl'
          have hsz := Lib.hid V.size
          have n36 := V.n36
          have v1 := V.w1
          have v3 := V.t1
          clear hv hv' hl hl' e2 e3
          go_enter Try.func76, Try.ntmps76
          go_wp2_with fail
          refine (valid_impl A m c W2 T2 xs _ (by omega) s0).mono ?_; rintro e w1 ⟨rfl, hb1⟩
          rw [HV.out]
          have R1 := PR2.of hb1
          clear hb1 s0
          have k1 := R1.X.1
          have k2 := R1.X.2.1
          have k3 := R1.X.2.2
          have k4 := R1.Y.1
          have k5 := R1.Y.2.1
          have k6 := R1.Y.2.2
          go_wp2_with fail
          refine (valid_impl B m d W2 T2 ys _ (by omega) (h'.below R1.B)).mono ?_; rintro e w2 ⟨rfl, hb2⟩
          rw [HV'.out]
          have R2 := R1.below hb2
          clear hb2 R1 k1 k2 k3 k4 k5 k6
          have k1 := R2.X.1
          have k2 := R2.X.2.1
          have k3 := R2.X.2.2
          have k4 := R2.Y.1
          have k5 := R2.Y.2.1
          have k6 := R2.Y.2.2
          go_wp2_with fail
          refine (field_any W2 T2 m _ (by omega) (by omega) hsz.out).mono ?_; rintro e w3 ⟨g, rfl, hown, hb3⟩
          have z2 := R2.z
          have R3 := R2.below hb3
          have o3 : Own w3 (w.heap.size + 3) w3.heap.size 4 (some ⟨g, 0, none⟩) m m (((zipB orO xs ys).take 0 ++ List.replicate m false).map .bool) := by
            rw [List.take_zero, List.nil_append, List.map_replicate]; exact hown.base z2
          have hg := o3.2 g 0 rfl
          clear hown hb3 R2 k1 k2 k3 k4 k5 k6
          go_wp2_with fail
          go_loopw [9, 41] (fun _ i wr => ∃ k : Nat, k ≤ m ∧ i = .int .i64 k ∧ Own wr (w.heap.size + 3) w3.heap.size 4 (some ⟨g, 0, none⟩) m m (((zipB orO xs ys).take k ++ List.replicate (m - k) false).map .bool) ∧ Box wr w3.heap.size (.int .i64 W2) (.int .i64 T2) (.slice (some ⟨g, 0, none⟩) m m) ∧ PR2 w (.int .i64 W2) (.int .i64 T2) (.slice A m c) (.int .i64 W2) (.int .i64 T2) (.slice B m d) wr ∧ w3.heap.size < wr.heap.size) (fun _ i _ => m - (intOf i).toNat)
          case atStart => exact ⟨0, Nat.zero_le _, rfl, by simpa using o3.alloc _, Box.new _ _ _ _ _, R3.alloc _, by simp⟩
          case round =>
            clear o3 R3 z2
            obtain ⟨k, hk, rfl, hown, hx, R, hsz2⟩ := hrel
            have k1 := R.X.1
            have k2 := R.X.2.1
            have k3 := R.X.2.2
            have k4 := R.Y.1
            have k5 := R.Y.2.1
            have k6 := R.Y.2.2
            by_cases hlt : k < m
            · obtain ⟨b, off, z, rfl, hz, hc⟩ := (h.below R.B).atB hlt
              obtain ⟨b', off', z', rfl, hz', hc'⟩ := (h'.below R.B).atB hlt
              have hbz : b < w.heap.size := (h.block (by omega)).elim fun b' hh => by
                obtain ⟨off', hA, hh⟩ := hh; injection hA with hA; injection hA with hA _ _; omega
              have hbz' : b' < w.heap.size := (h'.block (by omega)).elim fun b' hh => by
                obtain ⟨off', hA, hh⟩ := hh; injection hA with hA; injection hA with hA _ _; omega
              have HZ := Lib.hid hz
              have HZ' := Lib.hid hz'
              clear hz hz'
              have p2 : (0 : Int) ≤ (k : Int) := by omega
              have p3 : (k : Int) < (m : Int) := by omega
              have q3 := hx.2.2
              have f1 := hown.frozen k
              obtain ⟨v', f2⟩ := hown.cellAt hlt
              have n1 : g ≠ w.heap.size := by omega
              have n2 : g ≠ w.heap.size + 1 := by omega
              have n3 : g ≠ b := by omega
              have n4 : g ≠ b' := by omega
              have n5 : g ≠ w3.heap.size := by omega
              go_wp2_with fail
              go_region_held3 (fun w' => w'.cell? ⟨w.heap.size, 2, none⟩ = some (.slice (some ⟨b, off, none⟩) m c) ∧ w'.cell? ⟨w.heap.size + 1, 2, none⟩ = some (.slice (some ⟨b', off', none⟩) m d) ∧ w'.cell? ⟨w3.heap.size, 2, none⟩ = some (.slice (some ⟨g, 0, none⟩) m m) ∧ w'.cell? ⟨b, off + k, none⟩ = some (.bool z) ∧ w'.cell? ⟨b', off' + k, none⟩ = some (.bool z'))
                (first | exact ⟨k3, k6, q3, hc, hc'⟩ | go_keep)
                (first
                  | (go_at_call 80; refine (or_any z z' _).mono ?_; rintro e w' ⟨rfl, rfl⟩)
                  | fail)
              go_wp2_with fail
              go_roundw
              case rel =>
                refine ⟨k + 1, by omega, by go_num, ?_, hx.drew.setFar (show w3.heap.size ≠ g by omega) _, R.drew.set (show w.heap.size + 3 ≤ g by omega) _, by show w3.heap.size < (wr.setCell _ _).heap.size; rw [World.size_setCell]; exact hsz2⟩
                have := (hown.stored k hlt (.bool (orO z z'))).drew
                have hlen := zip_len (op := orO) HL.out HL'.out
                rw [zip_take HZ.out HZ'.out]
                rw [List.map_append, List.set_append_right _ _ (by rw [List.length_map, List.length_take]; omega), List.length_map, List.length_take, hlen, show k - min k m = 0 by omega, show m - k = (m - (k + 1)) + 1 by omega, List.replicate_succ, List.map_cons, List.set_cons_zero] at this
                simpa using this
              case measure => simp [intOf]; omega
            · have e : k = m := by omega
              subst e
              rw [Nat.sub_self, List.replicate_zero, List.append_nil, List.take_of_length_le (by rw [zip_len HL.out HL'.out]; exact Nat.le_refl _)] at hown
              have q1 := hx.1
              have q2 := hx.2.1
              have q3 := hx.2.2
              go_wp2_with fail
              refine (valid_impl (some ⟨g, 0, none⟩) k k W2 T2 (zipB orO xs ys) _ (by omega) hown.sl).mono ?_; rintro e w4 ⟨rfl, hb4⟩
              have x5 := hx.below hb4
              have R5 := R.below hb4
              have o5 := hown.below hb4
              have z5 : w3.heap.size ≤ w4.heap.size := Nat.le_trans (Nat.le_of_lt hsz2) hb4.size
              clear hb4 hx R hown k1 k2 k3 k4 k5 k6 q1 q2 q3
              have q1 := x5.1
              have q2 := x5.2.1
              have q3 := x5.2.2
              have f1 := R5.T.2 0
              have f2 := R5.T.2 1
              have f3 := R5.T.2 2
              have k4 := R5.R.1
              have k5 := R5.R.2.1
              have k6 := R5.R.2.2
              have hne : w3.heap.size ≠ w.heap.size + 2 := by omega
              cases hok : validB W2 T2 k (zipB orO xs ys)
              · have E : Hid (combB orO W2 T2 k xs W2 T2 k ys = false) := by show _ = _; rw [combB, HV.out, HV'.out, hok]; simp
                clear hok
                go_wp2_with fail
                obtain ⟨e1, e2, e3⟩ := comb_no E.out
                rw [e1, e2, e3, E.out]
                exact bodyPost_ret (v := .tuple #[.agg #[.int .i64 0, .int .i64 0, .slice none 0 0], .bool false]) (by simp [results, Try.results76, go_sem, k4, k5, k6]) rfl (outRB_zero w (R5.fin _ _ _))
              · have E : Hid (combB orO W2 T2 k xs W2 T2 k ys = true) := by show _ = _; rw [combB, HV.out, HV'.out, hok]; simp
                clear hok
                go_wp2_with fail
                obtain ⟨e1, e2, e3⟩ := comb_yes E.out
                rw [e1, e2, e3, E.out]
                exact bodyPost_ret (v := .tuple #[.agg #[.int .i64 W2, .int .i64 T2, .slice (some ⟨g, 0, none⟩) k k], .bool true]) (by simp [results, Try.results76, go_sem, k4, k5, k6]) rfl (OutRB.mk (zip_len HL.out HL'.out) (by omega) (PR2.own o5 rfl (Nat.le_refl _) z5 _ _ _) (R5.fin _ _ _))
        · have E : combB orO W T n xs W T' m ys = false := by rw [combB, decide_eq_false ht]; simp
          obtain ⟨e1, e2, e3⟩ := comb_no E
          rw [e1, e2, e3, E]
          have hne : (T != T') = true := by simpa using ht
          have hnw : (W != W) = false := by simp
          clear hv hv' hl hl' e1 e2 e3 E ht
          go_enter Try.func76, Try.ntmps76
          go_wp2_with fail
          refine (valid_impl A n c W T xs _ (by omega) s0).mono ?_; rintro e w1 ⟨rfl, hb1⟩
          rw [HV.out]
          have R1 := PR2.of hb1
          clear hb1 s0
          have k1 := R1.X.1
          have k2 := R1.X.2.1
          have k3 := R1.X.2.2
          have k4 := R1.Y.1
          have k5 := R1.Y.2.1
          have k6 := R1.Y.2.2
          go_wp2_with fail
          refine (valid_impl B m d W T' ys _ (by omega) (h'.below R1.B)).mono ?_; rintro e w2 ⟨rfl, hb2⟩
          rw [HV'.out]
          have R2 := R1.below hb2
          clear hb2 R1 k1 k2 k3 k4 k5 k6
          have k1 := R2.X.1
          have k2 := R2.X.2.1
          have k3 := R2.X.2.2
          have k4 := R2.Y.1
          have k5 := R2.Y.2.1
          have k6 := R2.Y.2.2
          have f1 := R2.T.2 0
          have f2 := R2.T.2 1
          have f3 := R2.T.2 2
          have q4 := R2.R.1
          have q5 := R2.R.2.1
          have q6 := R2.R.2.2
          go_wp2_with fail
          exact bodyPost_ret (v := .tuple #[.agg #[.int .i64 0, .int .i64 0, .slice none 0 0], .bool false]) (by simp [results, Try.results76, go_sem, q4, q5, q6]) rfl (outRB_zero w (R2.fin _ _ _))
      · have E : combB orO W T n xs W' T' m ys = false := by rw [combB, decide_eq_false hw]; simp
        obtain ⟨e1, e2, e3⟩ := comb_no E
        rw [e1, e2, e3, E]
        have hne : (W != W') = true := by simpa using hw
        clear hv hv' hl hl' e1 e2 e3 E hw
        go_enter Try.func76, Try.ntmps76
        go_wp2_with fail
        refine (valid_impl A n c W T xs _ (by omega) s0).mono ?_; rintro e w1 ⟨rfl, hb1⟩
        rw [HV.out]
        have R1 := PR2.of hb1
        clear hb1 s0
        have k1 := R1.X.1
        have k2 := R1.X.2.1
        have k3 := R1.X.2.2
        have k4 := R1.Y.1
        have k5 := R1.Y.2.1
        have k6 := R1.Y.2.2
        go_wp2_with fail
        refine (valid_impl B m d W' T' ys _ (by omega) (h'.below R1.B)).mono ?_; rintro e w2 ⟨rfl, hb2⟩
        rw [HV'.out]
        have R2 := R1.below hb2
        clear hb2 R1 k1 k2 k3 k4 k5 k6
        have k1 := R2.X.1
        have k2 := R2.X.2.1
        have k3 := R2.X.2.2
        have k4 := R2.Y.1
        have k5 := R2.Y.2.1
        have k6 := R2.Y.2.2
        have f1 := R2.T.2 0
        have f2 := R2.T.2 1
        have f3 := R2.T.2 2
        have q4 := R2.R.1
        have q5 := R2.R.2.1
        have q6 := R2.R.2.2
        go_wp2_with fail
        exact bodyPost_ret (v := .tuple #[.agg #[.int .i64 0, .int .i64 0, .slice none 0 0], .bool false]) (by simp [results, Try.results76, go_sem, q4, q5, q6]) rfl (outRB_zero w (R2.fin _ _ _))
    · have hvf : validB W' T' m ys = false := by simpa using hv'
      have E : combB orO W T n xs W' T' m ys = false := by rw [combB, hvf]; simp
      obtain ⟨e1, e2, e3⟩ := comb_no E
      rw [e1, e2, e3, E]
      have HV' := Lib.hid hvf
      clear hv hv' hvf hl hl' e1 e2 e3 E
      go_enter Try.func76, Try.ntmps76
      go_wp2_with fail
      refine (valid_impl A n c W T xs _ (by omega) s0).mono ?_; rintro e w1 ⟨rfl, hb1⟩
      rw [HV.out]
      have R1 := PR2.of hb1
      clear hb1 s0
      have k1 := R1.X.1
      have k2 := R1.X.2.1
      have k3 := R1.X.2.2
      have k4 := R1.Y.1
      have k5 := R1.Y.2.1
      have k6 := R1.Y.2.2
      go_wp2_with fail
      refine (valid_impl B m d W' T' ys _ (by omega) (h'.below R1.B)).mono ?_; rintro e w2 ⟨rfl, hb2⟩
      rw [HV'.out]
      have R2 := R1.below hb2
      clear hb2 R1 k1 k2 k3 k4 k5 k6
      have f1 := R2.T.2 0
      have f2 := R2.T.2 1
      have f3 := R2.T.2 2
      have q4 := R2.R.1
      have q5 := R2.R.2.1
      have q6 := R2.R.2.2
      go_wp2_with fail
      exact bodyPost_ret (v := .tuple #[.agg #[.int .i64 0, .int .i64 0, .slice none 0 0], .bool false]) (by simp [results, Try.results76, go_sem, q4, q5, q6]) rfl (outRB_zero w (R2.fin _ _ _))
  · have hvf : validB W T n xs = false := by simpa using hv
    have E : combB orO W T n xs W' T' m ys = false := by rw [combB, hvf]; simp
    obtain ⟨e1, e2, e3⟩ := comb_no E
    rw [e1, e2, e3, E]
    have HV := Lib.hid hvf
    clear hv hvf hl hl' e1 e2 e3 E
    go_enter Try.func76, Try.ntmps76
    go_wp2_with fail
    refine (valid_impl A n c W T xs _ (by omega) s0).mono ?_; rintro e w1 ⟨rfl, hb1⟩
    rw [HV.out]
    have R2 := PR2.of hb1
    clear hb1 s0
    have f1 := R2.T.2 0
    have f2 := R2.T.2 1
    have f3 := R2.T.2 2
    have q4 := R2.R.1
    have q5 := R2.R.2.1
    have q6 := R2.R.2.2
    go_wp2_with fail
    exact bodyPost_ret (v := .tuple #[.agg #[.int .i64 0, .int .i64 0, .slice none 0 0], .bool false]) (by simp [results, Try.results76, go_sem, q4, q5, q6]) rfl (outRB_zero w (R2.fin _ _ _))
set_option maxHeartbeats 1000000 in
theorem comb_meet (A B : Option Addr) (n c m d : Nat) (W T W' T' : Int) (xs ys : List Bool) (w : World) (hn : n ≤ 1048576) (h : Sl w A n (xs.map .bool)) (hm : m ≤ 1048576) (h' : Sl w B m (ys.map .bool)) :
    Calls Try.prog 76 #[.agg #[.int .i64 W, .int .i64 T, .slice A n c], .agg #[.int .i64 W', .int .i64 T', .slice B m d], .func (.func 77) #[] #[]] w fun e w' => OutRB w w' e (combW andO W T n xs W' T' m ys) (combT andO W T n xs W' T' m ys) (combC andO W T n xs W' T' m ys) (combB andO W T n xs W' T' m ys) := by
  have hl := h.1
  rw [List.length_map] at hl
  have hl' := h'.1
  rw [List.length_map] at hl'
  have s0 := ((h.alloc (.cells #[.int .i64 W, .int .i64 T, .slice A n c] 27)).alloc (.cells #[.int .i64 W', .int .i64 T', .slice B m d] 27)).alloc (.cells #[.int .i64 0, .int .i64 0, .slice none 0 0] 27)
  by_cases hv : validB W T n xs = true
  · have HV := Lib.hid hv
    by_cases hv' : validB W' T' m ys = true
    · have HV' := Lib.hid hv'
      by_cases hw : W = W'
      · subst hw
        by_cases ht : T = T'
        · subst ht
          obtain ⟨W, T, rfl, rfl, V⟩ := valid_of hv hl
          obtain ⟨W2, T2, e2, e3, V'⟩ := valid_of hv' hl'
          have ew : W2 = W := by omega
          have et : T2 = T := by omega
          subst ew et
          have em : m = n := by rw [V.size, V'.size]
          subst em
          have HL := Lib.hid hl
          have HL' := Lib.hid hl'
          have hsz := Lib.hid V.size
          have n36 := V.n36
          have v1 := V.w1
          have v3 := V.t1
          clear hv hv' hl hl' e2 e3
          go_enter Try.func76, Try.ntmps76
          go_wp2_with fail
          refine (valid_impl A m c W2 T2 xs _ (by omega) s0).mono ?_; rintro e w1 ⟨rfl, hb1⟩
          rw [HV.out]
          have R1 := PR2.of hb1
          clear hb1 s0
          have k1 := R1.X.1
          have k2 := R1.X.2.1
          have k3 := R1.X.2.2
          have k4 := R1.Y.1
          have k5 := R1.Y.2.1
          have k6 := R1.Y.2.2
          go_wp2_with fail
          refine (valid_impl B m d W2 T2 ys _ (by omega) (h'.below R1.B)).mono ?_; rintro e w2 ⟨rfl, hb2⟩
          rw [HV'.out]
          have R2 := R1.below hb2
          clear hb2 R1 k1 k2 k3 k4 k5 k6
          have k1 := R2.X.1
          have k2 := R2.X.2.1
          have k3 := R2.X.2.2
          have k4 := R2.Y.1
          have k5 := R2.Y.2.1
          have k6 := R2.Y.2.2
          go_wp2_with fail
          refine (field_any W2 T2 m _ (by omega) (by omega) hsz.out).mono ?_; rintro e w3 ⟨g, rfl, hown, hb3⟩
          have z2 := R2.z
          have R3 := R2.below hb3
          have o3 : Own w3 (w.heap.size + 3) w3.heap.size 4 (some ⟨g, 0, none⟩) m m (((zipB andO xs ys).take 0 ++ List.replicate m false).map .bool) := by
            rw [List.take_zero, List.nil_append, List.map_replicate]; exact hown.base z2
          have hg := o3.2 g 0 rfl
          clear hown hb3 R2 k1 k2 k3 k4 k5 k6
          go_wp2_with fail
          go_loopw [9, 41] (fun _ i wr => ∃ k : Nat, k ≤ m ∧ i = .int .i64 k ∧ Own wr (w.heap.size + 3) w3.heap.size 4 (some ⟨g, 0, none⟩) m m (((zipB andO xs ys).take k ++ List.replicate (m - k) false).map .bool) ∧ Box wr w3.heap.size (.int .i64 W2) (.int .i64 T2) (.slice (some ⟨g, 0, none⟩) m m) ∧ PR2 w (.int .i64 W2) (.int .i64 T2) (.slice A m c) (.int .i64 W2) (.int .i64 T2) (.slice B m d) wr ∧ w3.heap.size < wr.heap.size) (fun _ i _ => m - (intOf i).toNat)
          case atStart => exact ⟨0, Nat.zero_le _, rfl, by simpa using o3.alloc _, Box.new _ _ _ _ _, R3.alloc _, by simp⟩
          case round =>
            clear o3 R3 z2
            obtain ⟨k, hk, rfl, hown, hx, R, hsz2⟩ := hrel
            have k1 := R.X.1
            have k2 := R.X.2.1
            have k3 := R.X.2.2
            have k4 := R.Y.1
            have k5 := R.Y.2.1
            have k6 := R.Y.2.2
            by_cases hlt : k < m
            · obtain ⟨b, off, z, rfl, hz, hc⟩ := (h.below R.B).atB hlt
              obtain ⟨b', off', z', rfl, hz', hc'⟩ := (h'.below R.B).atB hlt
              have hbz : b < w.heap.size := (h.block (by omega)).elim fun b' hh => by
                obtain ⟨off', hA, hh⟩ := hh; injection hA with hA; injection hA with hA _ _; omega
              have hbz' : b' < w.heap.size := (h'.block (by omega)).elim fun b' hh => by
                obtain ⟨off', hA, hh⟩ := hh; injection hA with hA; injection hA with hA _ _; omega
              have HZ := Lib.hid hz
              have HZ' := Lib.hid hz'
              clear hz hz'
              have p2 : (0 : Int) ≤ (k : Int) := by omega
              have p3 : (k : Int) < (m : Int) := by omega
              have q3 := hx.2.2
              have f1 := hown.frozen k
              obtain ⟨v', f2⟩ := hown.cellAt hlt
              have n1 : g ≠ w.heap.size := by omega
              have n2 : g ≠ w.heap.size + 1 := by omega
              have n3 : g ≠ b := by omega
              have n4 : g ≠ b' := by omega
              have n5 : g ≠ w3.heap.size := by omega
              go_wp2_with fail
              go_region_held3 (fun w' => w'.cell? ⟨w.heap.size, 2, none⟩ = some (.slice (some ⟨b, off, none⟩) m c) ∧ w'.cell? ⟨w.heap.size + 1, 2, none⟩ = some (.slice (some ⟨b', off', none⟩) m d) ∧ w'.cell? ⟨w3.heap.size, 2, none⟩ = some (.slice (some ⟨g, 0, none⟩) m m) ∧ w'.cell? ⟨b, off + k, none⟩ = some (.bool z) ∧ w'.cell? ⟨b', off' + k, none⟩ = some (.bool z'))
                (first | exact ⟨k3, k6, q3, hc, hc'⟩ | go_keep)
                (first
                  | (go_at_call 77; refine (and_any z z' _).mono ?_; rintro e w' ⟨rfl, rfl⟩)
                  | fail)
              go_wp2_with fail
              go_roundw
              case rel =>
                refine ⟨k + 1, by omega, by go_num, ?_, hx.drew.setFar (show w3.heap.size ≠ g by omega) _, R.drew.set (show w.heap.size + 3 ≤ g by omega) _, by show w3.heap.size < (wr.setCell _ _).heap.size; rw [World.size_setCell]; exact hsz2⟩
                have := (hown.stored k hlt (.bool (andO z z'))).drew
                have hlen := zip_len (op := andO) HL.out HL'.out
                rw [zip_take HZ.out HZ'.out]
                rw [List.map_append, List.set_append_right _ _ (by rw [List.length_map, List.length_take]; omega), List.length_map, List.length_take, hlen, show k - min k m = 0 by omega, show m - k = (m - (k + 1)) + 1 by omega, List.replicate_succ, List.map_cons, List.set_cons_zero] at this
                simpa using this
              case measure => simp [intOf]; omega
            · have e : k = m := by omega
              subst e
              rw [Nat.sub_self, List.replicate_zero, List.append_nil, List.take_of_length_le (by rw [zip_len HL.out HL'.out]; exact Nat.le_refl _)] at hown
              have q1 := hx.1
              have q2 := hx.2.1
              have q3 := hx.2.2
              go_wp2_with fail
              refine (valid_impl (some ⟨g, 0, none⟩) k k W2 T2 (zipB andO xs ys) _ (by omega) hown.sl).mono ?_; rintro e w4 ⟨rfl, hb4⟩
              have x5 := hx.below hb4
              have R5 := R.below hb4
              have o5 := hown.below hb4
              have z5 : w3.heap.size ≤ w4.heap.size := Nat.le_trans (Nat.le_of_lt hsz2) hb4.size
              clear hb4 hx R hown k1 k2 k3 k4 k5 k6 q1 q2 q3
              have q1 := x5.1
              have q2 := x5.2.1
              have q3 := x5.2.2
              have f1 := R5.T.2 0
              have f2 := R5.T.2 1
              have f3 := R5.T.2 2
              have k4 := R5.R.1
              have k5 := R5.R.2.1
              have k6 := R5.R.2.2
              have hne : w3.heap.size ≠ w.heap.size + 2 := by omega
              cases hok : validB W2 T2 k (zipB andO xs ys)
              · have E : Hid (combB andO W2 T2 k xs W2 T2 k ys = false) := by show _ = _; rw [combB, HV.out, HV'.out, hok]; simp
                clear hok
                go_wp2_with fail
                obtain ⟨e1, e2, e3⟩ := comb_no E.out
                rw [e1, e2, e3, E.out]
                exact bodyPost_ret (v := .tuple #[.agg #[.int .i64 0, .int .i64 0, .slice none 0 0], .bool false]) (by simp [results, Try.results76, go_sem, k4, k5, k6]) rfl (outRB_zero w (R5.fin _ _ _))
              · have E : Hid (combB andO W2 T2 k xs W2 T2 k ys = true) := by show _ = _; rw [combB, HV.out, HV'.out, hok]; simp
                clear hok
                go_wp2_with fail
                obtain ⟨e1, e2, e3⟩ := comb_yes E.out
                rw [e1, e2, e3, E.out]
                exact bodyPost_ret (v := .tuple #[.agg #[.int .i64 W2, .int .i64 T2, .slice (some ⟨g, 0, none⟩) k k], .bool true]) (by simp [results, Try.results76, go_sem, k4, k5, k6]) rfl (OutRB.mk (zip_len HL.out HL'.out) (by omega) (PR2.own o5 rfl (Nat.le_refl _) z5 _ _ _) (R5.fin _ _ _))
        · have E : combB andO W T n xs W T' m ys = false := by rw [combB, decide_eq_false ht]; simp
          obtain ⟨e1, e2, e3⟩ := comb_no E
          rw [e1, e2, e3, E]
          have hne : (T != T') = true := by simpa using ht
          have hnw : (W != W) = false := by simp
          clear hv hv' hl hl' e1 e2 e3 E ht
          go_enter Try.func76, Try.ntmps76
          go_wp2_with fail
          refine (valid_impl A n c W T xs _ (by omega) s0).mono ?_; rintro e w1 ⟨rfl, hb1⟩
          rw [HV.out]
          have R1 := PR2.of hb1
          clear hb1 s0
          have k1 := R1.X.1
          have k2 := R1.X.2.1
          have k3 := R1.X.2.2
          have k4 := R1.Y.1
          have k5 := R1.Y.2.1
          have k6 := R1.Y.2.2
          go_wp2_with fail
          refine (valid_impl B m d W T' ys _ (by omega) (h'.below R1.B)).mono ?_; rintro e w2 ⟨rfl, hb2⟩
          rw [HV'.out]
          have R2 := R1.below hb2
          clear hb2 R1 k1 k2 k3 k4 k5 k6
          have k1 := R2.X.1
          have k2 := R2.X.2.1
          have k3 := R2.X.2.2
          have k4 := R2.Y.1
          have k5 := R2.Y.2.1
          have k6 := R2.Y.2.2
          have f1 := R2.T.2 0
          have f2 := R2.T.2 1
          have f3 := R2.T.2 2
          have q4 := R2.R.1
          have q5 := R2.R.2.1
          have q6 := R2.R.2.2
          go_wp2_with fail
          exact bodyPost_ret (v := .tuple #[.agg #[.int .i64 0, .int .i64 0, .slice none 0 0], .bool false]) (by simp [results, Try.results76, go_sem, q4, q5, q6]) rfl (outRB_zero w (R2.fin _ _ _))
      · have E : combB andO W T n xs W' T' m ys = false := by rw [combB, decide_eq_false hw]; simp
        obtain ⟨e1, e2, e3⟩ := comb_no E
        rw [e1, e2, e3, E]
        have hne : (W != W') = true := by simpa using hw
        clear hv hv' hl hl' e1 e2 e3 E hw
        go_enter Try.func76, Try.ntmps76
        go_wp2_with fail
        refine (valid_impl A n c W T xs _ (by omega) s0).mono ?_; rintro e w1 ⟨rfl, hb1⟩
        rw [HV.out]
        have R1 := PR2.of hb1
        clear hb1 s0
        have k1 := R1.X.1
        have k2 := R1.X.2.1
        have k3 := R1.X.2.2
        have k4 := R1.Y.1
        have k5 := R1.Y.2.1
        have k6 := R1.Y.2.2
        go_wp2_with fail
        refine (valid_impl B m d W' T' ys _ (by omega) (h'.below R1.B)).mono ?_; rintro e w2 ⟨rfl, hb2⟩
        rw [HV'.out]
        have R2 := R1.below hb2
        clear hb2 R1 k1 k2 k3 k4 k5 k6
        have k1 := R2.X.1
        have k2 := R2.X.2.1
        have k3 := R2.X.2.2
        have k4 := R2.Y.1
        have k5 := R2.Y.2.1
        have k6 := R2.Y.2.2
        have f1 := R2.T.2 0
        have f2 := R2.T.2 1
        have f3 := R2.T.2 2
        have q4 := R2.R.1
        have q5 := R2.R.2.1
        have q6 := R2.R.2.2
        go_wp2_with fail
        exact bodyPost_ret (v := .tuple #[.agg #[.int .i64 0, .int .i64 0, .slice none 0 0], .bool false]) (by simp [results, Try.results76, go_sem, q4, q5, q6]) rfl (outRB_zero w (R2.fin _ _ _))
    · have hvf : validB W' T' m ys = false := by simpa using hv'
      have E : combB andO W T n xs W' T' m ys = false := by rw [combB, hvf]; simp
      obtain ⟨e1, e2, e3⟩ := comb_no E
      rw [e1, e2, e3, E]
      have HV' := Lib.hid hvf
      clear hv hv' hvf hl hl' e1 e2 e3 E
      go_enter Try.func76, Try.ntmps76
      go_wp2_with fail
      refine (valid_impl A n c W T xs _ (by omega) s0).mono ?_; rintro e w1 ⟨rfl, hb1⟩
      rw [HV.out]
      have R1 := PR2.of hb1
      clear hb1 s0
      have k1 := R1.X.1
      have k2 := R1.X.2.1
      have k3 := R1.X.2.2
      have k4 := R1.Y.1
      have k5 := R1.Y.2.1
      have k6 := R1.Y.2.2
      go_wp2_with fail
      refine (valid_impl B m d W' T' ys _ (by omega) (h'.below R1.B)).mono ?_; rintro e w2 ⟨rfl, hb2⟩
      rw [HV'.out]
      have R2 := R1.below hb2
      clear hb2 R1 k1 k2 k3 k4 k5 k6
      have f1 := R2.T.2 0
      have f2 := R2.T.2 1
      have f3 := R2.T.2 2
      have q4 := R2.R.1
      have q5 := R2.R.2.1
      have q6 := R2.R.2.2
      go_wp2_with fail
      exact bodyPost_ret (v := .tuple #[.agg #[.int .i64 0, .int .i64 0, .slice none 0 0], .bool false]) (by simp [results, Try.results76, go_sem, q4, q5, q6]) rfl (outRB_zero w (R2.fin _ _ _))
  · have hvf : validB W T n xs = false := by simpa using hv
    have E : combB andO W T n xs W' T' m ys = false := by rw [combB, hvf]; simp
    obtain ⟨e1, e2, e3⟩ := comb_no E
    rw [e1, e2, e3, E]
    have HV := Lib.hid hvf
    clear hv hvf hl hl' e1 e2 e3 E
    go_enter Try.func76, Try.ntmps76
    go_wp2_with fail
    refine (valid_impl A n c W T xs _ (by omega) s0).mono ?_; rintro e w1 ⟨rfl, hb1⟩
    rw [HV.out]
    have R2 := PR2.of hb1
    clear hb1 s0
    have f1 := R2.T.2 0
    have f2 := R2.T.2 1
    have f3 := R2.T.2 2
    have q4 := R2.R.1
    have q5 := R2.R.2.1
    have q6 := R2.R.2.2
    go_wp2_with fail
    exact bodyPost_ret (v := .tuple #[.agg #[.int .i64 0, .int .i64 0, .slice none 0 0], .bool false]) (by simp [results, Try.results76, go_sem, q4, q5, q6]) rfl (outRB_zero w (R2.fin _ _ _))

end Go.Proofs.Ytehfhmafmblmnaa
