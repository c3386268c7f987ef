/-
  l3Less: a region without some cells: what it returns.
-/
import Derived.Test.YtcnkpcnbobiodaaMade
import Derived.Test.YtcnkpcnbobiodaaValid
import Derived.Test.YtcnkpcnbobiodaaTilP
import Derived.Deep.RegionHeld3
import Derived.Deep.RegionLaw
import Derived.Deep.DeepCutAuto
import Derived.RegionTactic
import Derived.BigRegion
import Derived.Deep.LoopGhost
namespace Go.Proofs.Ytcnkpcnbobiodaa
open Go.RowKit

/-- Without some cells. -/
def lessL (bs : List Bool) (ks : List Nat) : List Bool := ks.foldl (fun l k => l.set k false) bs
theorem lessL_snoc (bs : List Bool) (ks : List Nat) (k : Nat) : lessL bs (ks ++ [k]) = (lessL bs ks).set k false := by rw [lessL, List.foldl_append]; rfl
theorem lessL_len (ks : List Nat) : ∀ bs : List Bool, (lessL bs ks).length = bs.length := by
  induction ks with
  | nil => intro bs; rfl
  | cons k ks ih => intro bs; rw [lessL, List.foldl_cons]; have := ih (bs.set k false); rw [lessL] at this; rw [this, List.length_set]
theorem cnt_off (l : List Bool) (i : Nat) : cnt (l.set i false) ≤ cnt l := by
  induction l generalizing i with
  | nil => simp [cnt]
  | cons a l ih =>
    cases i with
    | zero => cases a <;> simp [cnt]
    | succ i => have := ih i; cases a <;> simp [cnt] at this ⊢ <;> omega
theorem lessL_cnt (ks : List Nat) : ∀ bs : List Bool, cnt (lessL bs ks) ≤ cnt bs := by
  induction ks with
  | nil => intro bs; exact Nat.le_refl _
  | cons k ks ih => intro bs; rw [lessL, List.foldl_cons]; exact Nat.le_trans (ih (bs.set k false)) (cnt_off _ _)
theorem less_valid {W T n : Nat} {bs : List Bool} (V : Valid W T n bs) (ks : List Nat) : Valid W T n (lessL bs ks) :=
  ⟨V.w0, V.w1, V.t0, V.t1, V.size, by rw [lessL_len]; exact V.len, Nat.le_trans (lessL_cnt ks bs) V.many⟩
theorem on_lessL (ks : List Nat) : ∀ (bs : List Bool) (i : Nat), Til.on (lessL bs ks) i = (Til.on bs i && !ks.contains i) := by
  induction ks with
  | nil => intro bs i; simp [lessL]
  | cons k ks ih =>
    intro bs i
    rw [lessL, List.foldl_cons]
    have := ih (bs.set k false) i
    rw [lessL] at this
    rw [this]
    have e : Til.on (bs.set k false) i = (Til.on bs i && !(i == k)) := by
      unfold Til.on
      rw [List.getElem?_set]
      by_cases h : k = i
      · subst h; simp; split <;> rfl
      · rw [if_neg h, show (i == k) = false by rw [beq_eq_false_iff_ne]; exact fun e => h e.symm]; simp
    rw [e, List.contains_cons]
    cases Til.on bs i <;> cases (i == k) <;> simp

set_option maxHeartbeats 2000000 in
theorem less_any (A : Option Addr) (n c W T : Nat) (bs : List Bool) (C : Option Addr) (m q : Nat) (ks : List Nat) (w : World) (V : Valid W T n bs) (h : Sl w A n (bs.map .bool)) (hC : Sl w C m ((ks.map fun (k : Nat) => (k : Int)).map (.int .i64))) (hks : ∀ k ∈ ks, k < n) (hm36 : m ≤ 36) :
    Calls Try.prog 55 #[.agg #[.int .i64 W, .int .i64 T, .slice A n c], .slice C m q] w fun e w' => OutR w w' e W T (lessL bs ks) := by
  have n36 := V.n36
  have hn0 : 0 < n := by have := V.size; have := Nat.mul_pos V.w0 V.t0; omega
  have HLen := Lib.hid V.len
  have HKS := Lib.hid hks
  have hl := hC.1
  rw [List.length_map, List.length_map] at hl
  have HKL := Lib.hid hl
  clear hl hks
  obtain ⟨w2, hw2⟩ : ∃ w2, w2 = (w.alloc (.cells #[.int .i64 W, .int .i64 T, .slice A n c] 27)).alloc (.cells #[.int .i64 0, .int .i64 0, .slice none 0 0] 27) := ⟨_, rfl⟩
  have R2 : PR w (.int .i64 W) (.int .i64 T) (.slice A n c) w2 := PR.of (t := 27) (by rw [← hw2]; exact Below.refl _ _)
  have s2 : Sl w2 A n (bs.map .bool) := h.below R2.B
  have hC2 : Sl w2 C m ((ks.map fun (k : Nat) => (k : Int)).map (.int .i64)) := hC.below R2.B
  have hn : n ≤ 1048576 := by omega
  have k1 := R2.X.1
  have k2 := R2.X.2.1
  have k3 := R2.X.2.2
  have n2 : w2.heap.size ≠ w.heap.size := by have := R2.z; omega
  have n3 : w2.heap.size + 1 ≠ w.heap.size := by have := R2.z; omega
  have HCB := Lib.hid (show ∀ b off, C = some ⟨b, off, none⟩ → 0 < m → b < w.heap.size from fun b off hA h0 => by
    obtain ⟨b', off', hA', hlt⟩ := hC.block h0
    rw [hA'] at hA; injection hA with hA; injection hA with h1 _ _; omega)
  have HW2 := Lib.hid hw2
  clear hw2
  go_enter Try.func55, Try.ntmps55
  go_upto_region 1 with fail
  rw [← HW2.out]
  go_cut [5] (fun s8 wx => Made w n W T A c (bs.map .bool) s8 wx)
  case first =>
    have hm : 0 < n := hn0
    obtain ⟨g0, off0, rfl, -⟩ := s2.2 hm
    have z2 := R2.z
    have o1 : Own (w2.alloc (.cells #[] 4)) w2.heap.size (w2.heap.size + 1) 4 (some ⟨w2.heap.size, 0, none⟩) 0 0 [] := by
      simpa using Own.made (w := w2) (base := w2.heap.size) (e := 4) (cs := #[]) (n := 0) (Nat.le_refl _) (by unfold maxLen; omega) rfl
    have o3 : Own ((w2.alloc (.cells #[.int .i64 0, .int .i64 0, .slice none 0 0] 27)).alloc (.cells #[] 4)) (w2.heap.size + 1) (w2.heap.size + 2) 4 (some ⟨w2.heap.size + 1, 0, none⟩) 0 0 [] := by
      simpa using Own.made (w := w2.alloc (.cells #[.int .i64 0, .int .i64 0, .slice none 0 0] 27)) (base := w2.heap.size + 1) (e := 4) (cs := #[]) (n := 0) (by simp) (by unfold maxLen; omega) rfl
    have x2 : Box ((w2.alloc (.cells #[] 4)).alloc (.cells #[.int .i64 0, .int .i64 0, .slice none 0 0] 27)) (w2.heap.size + 1) (.int .i64 0) (.int .i64 0) (.slice none 0 0) := by simpa using Box.new (w2.alloc (.cells #[] 4)) (.int .i64 0) (.int .i64 0) (.slice none 0 0) 27
    have t2 : Thaw ((w2.alloc (.cells #[] 4)).alloc (.cells #[.int .i64 0, .int .i64 0, .slice none 0 0] 27)) (w2.heap.size + 1) := by simpa using Thaw.new (w2.alloc (.cells #[] 4)) #[.int .i64 0, .int .i64 0, .slice none 0 0] 27
    have x3 := (Box.new w2 (.int .i64 0) (.int .i64 0) (.slice none 0 0) 27).alloc (.cells #[] 4)
    have t3 := (Thaw.new w2 #[.int .i64 0, .int .i64 0, .slice none 0 0] 27).alloc (.cells #[] 4)
    go_region_held3 (fun w' => w'.cell? ⟨w.heap.size, 0, none⟩ = some (.int .i64 W) ∧ w'.cell? ⟨w.heap.size, 1, none⟩ = some (.int .i64 T) ∧ w'.cell? ⟨w.heap.size, 2, none⟩ = some (.slice (some ⟨g0, off0, none⟩) n c))
      (first | exact ⟨k1, k2, k3⟩ | go_keep)
      (first
        | ((refine step_appendN rfl _ _ 22 (by rfl) 4 (.bool false) 1 Try.underlying22 Try.infoBool rfl o1.drew (by rfl) _ n c (bs.map .bool) (by rfl) (s2.alloc _).drew (bools_one _) hm (by omega) (by omega) (by simp) ?_; intro A' c' w3 hown1 hg near1; have R3 := (R2.alloc (.cells #[] 4)).drew.grown hg o1.drew z2; have c0 := R3.X.1; have c1 := R3.X.2.1; have c2 := R3.X.2.2; have n4 : w3.heap.size ≠ w.heap.size := Nat.ne_of_gt R3.X.lt))
        | ((refine step_appendN rfl _ _ 22 (by rfl) 4 (.bool false) 1 Try.underlying22 Try.infoBool rfl (o1.alloc _).drew (by rfl) _ n c (bs.map .bool) (by rfl) ((s2.alloc _).alloc _).drew (bools_one _) hm (by omega) (by omega) (by simp; omega) ?_; intro A' c' w3 hown2 hg near2; have R3 := ((R2.alloc (.cells #[] 4)).alloc (.cells #[.int .i64 0, .int .i64 0, .slice none 0 0] 27)).drew.grown hg (o1.alloc _).drew z2; have c0 := R3.X.1; have c1 := R3.X.2.1; have c2 := R3.X.2.2; have q := x2.drew.grown hg (o1.offBox (.inr (Nat.le_refl _))); have q0 := q.1; have q1 := q.2.1; have q2 := q.2.2; have t := t2.drew.grown hg (o1.offBox (.inr (Nat.le_refl _))); have t0 := t.2 0; have t1 := t.2 1; have t2 := t.2 2))
        | ((refine step_appendN rfl _ _ 22 (by rfl) 4 (.bool false) 1 Try.underlying22 Try.infoBool rfl o3.drew (by rfl) _ n c (bs.map .bool) (by rfl) ((s2.alloc _).alloc _).drew (bools_one _) hm (by omega) (by omega) (by simp) ?_; intro A' c' w3 hown3 hg near3; have R3 := ((R2.alloc (.cells #[.int .i64 0, .int .i64 0, .slice none 0 0] 27)).alloc (.cells #[] 4)).drew.grown hg o3.drew (Nat.le_succ_of_le z2); have c0 := R3.X.1; have c1 := R3.X.2.1; have c2 := R3.X.2.2; have q := x3.drew.grown hg (o3.offBox (.inl (Nat.lt_succ_self _))); have q0 := q.1; have q1 := q.2.1; have q2 := q.2.2; have t := t3.drew.grown hg (o3.offBox (.inl (Nat.lt_succ_self _))); have t0 := t.2 0; have t1 := t.2 1; have t2 := t.2 2)))
    all_goals
      go_wp2_with fail
      go_meet
      first
        | (rw [List.nil_append, Nat.zero_add] at hown1; have m := made_late (W := W) (T := T) (c' := c') R3 (hown1.base z2); exact m)
        | (rw [List.nil_append, Nat.zero_add] at hown2; have m := made_early (W := W) (T := T) (c' := c') R3 (Nat.le_succ_of_le z2) q t (hown2.base z2) (fun b' off hA => by rcases near2 with h2 | h2 <;> (rw [h2] at hA; injection hA with hA; injection hA with hA _ _; first | omega | (simp only [World.drew, World.size_alloc] at hA; omega))); exact m)
        | (rw [List.nil_append, Nat.zero_add] at hown3; have m := made_early (W := W) (T := T) (c' := c') R3 z2 q t (hown3.base (Nat.le_succ_of_le z2)) (fun b' off hA => by have := hown3.2 b' off hA; omega); exact m)
  case rest =>
    obtain ⟨b1, A1, c1, d1, rfl, hb1, x1, t1, o1, hne, R3⟩ := hcut
    obtain ⟨g, rfl, hg1, hg2⟩ := o1.form (by omega)
    have hgb := hne g 0 rfl
    clear R2 k1 k2 k3 n2 n3 s2 hC2
    have z3 := R3.z
    go_wp2_with fail
    go_loopg [6] m (fun gk i wx => ∃ k : Nat, k ≤ m ∧ gk = m - k ∧ i = .int .i64 k ∧ Own wx (w.heap.size + 2) wc.heap.size 4 (some ⟨g, 0, none⟩) n d1 ((lessL bs (ks.take k)).map .bool) ∧ Box wx b1 (.int .i64 W) (.int .i64 T) (.slice (some ⟨g, 0, none⟩) n c1) ∧ PR w (.int .i64 W) (.int .i64 T) (.slice A n c) wx ∧ wc.heap.size ≤ wx.heap.size)
    case atStart => exact ⟨0, Nat.zero_le _, rfl, rfl, o1, x1, R3, Nat.le_refl _⟩
    case round =>
      clear o1 x1 t1 R3
      obtain ⟨k, hk, rfl, rfl, o1, x1, R3, hz⟩ := hrel
      have q3 := x1.2.2
      by_cases hlt : k < m
      · obtain ⟨b, off, z, rfl, hzz, hc⟩ := (hC.below R3.B).atI hlt
        have hbw := HCB.out b off rfl (by omega)
        obtain ⟨kk, hkk⟩ : ∃ kk, ks[k]? = some kk := ⟨_, List.getElem?_eq_getElem (by rw [HKL.out]; exact hlt)⟩
        have ez : z = (kk : Int) := by rw [List.getElem?_map, hkk] at hzz; simpa using hzz.symm
        subst ez
        have hkn : kk < n := HKS.out kk (List.mem_of_getElem? hkk)
        have HKK := Lib.hid hkk
        clear hzz hkk
        have p0 : (0 : Int) ≤ (kk : Int) := by omega
        have p1 : (kk : Int) < (n : Int) := by omega
        have f1 := o1.frozen kk
        obtain ⟨v', f2⟩ := o1.cellAt hkn
        have o2 : Own (wr.setCell ⟨g, kk, none⟩ (.bool false)).drew (w.heap.size + 2) wc.heap.size 4 (some ⟨g, 0, none⟩) n d1 ((lessL bs (ks.take (k + 1))).map .bool) := by rw [take_snoc HKK.out, lessL_snoc, List.map_set]; exact (o1.stored kk hkn (.bool false)).drew
        have x2 := (x1.setFar (p := ⟨g, kk, none⟩) (show b1 ≠ g by omega) (.bool false)).drew
        have R4 := (R3.set (p := ⟨g, kk, none⟩) hg1 (.bool false)).drew
        have hz2 : wc.heap.size ≤ (wr.setCell ⟨g, kk, none⟩ (.bool false)).drew.heap.size := by show _ ≤ (wr.setCell _ _).heap.size; rw [World.size_setCell]; exact hz
        clear o1 x1 R3
        go_wp2_with fail
        go_region
        all_goals
          go_wp2_with fail
          go_roundg (m - (k + 1))
          case measure => omega
          case rel => exact ⟨k + 1, by omega, rfl, by go_num, o2, x2, R4, hz2⟩
      · have e : k = m := by omega
        subst e
        have q1 := x1.1
        have q2 := x1.2.1
        have f1 := R3.T.2 0
        have f2 := R3.T.2 1
        have f3 := R3.T.2 2
        have k4 := R3.R.1
        have k5 := R3.R.2.1
        have k6 := R3.R.2.2
        have hb1' : b1 ≠ w.heap.size + 1 := by omega
        go_wp2_with fail
        rw [List.take_of_length_le (by rw [HKL.out]; exact Nat.le_refl _)] at o1
        exact bodyPost_ret (v := .agg #[.int .i64 W, .int .i64 T, .slice (some ⟨g, 0, none⟩) n c1]) (by simp [results, Try.results55, go_sem, k4, k5, k6]) rfl (OutR.mkL (c0 := d1) (by rw [lessL_len]; exact HLen.out) (by omega) (PR.own o1 rfl (Nat.le_refl _) hz _ _ _) (R3.fin _ _ _))

end Go.Proofs.Ytcnkpcnbobiodaa
