/-
  RegionJoin and RegionMeet of the program and of the reference: what they return.
-/
import Derived.Test.YtehfhmafmblmnaaComb
import Derived.Test.YtehfhmafmblmnaaApp
import Derived.Deep.DrawnRows
import Derived.Deep.DeepCutAuto
import Derived.Deep.LoopGhost
namespace Go.Proofs.Ytehfhmafmblmnaa
open Go.RowKit
attribute [local go_sem ↓] Go.wp_at_zero Go.wp_at_succ

set_option maxHeartbeats 400000 in
theorem join_impl (A : Option Addr) (n c : Nat) (W T : Int) (xs : List Bool) (B : Option Addr) (m d : Nat) (W' T' : Int) (ys : List Bool) (w : World) (hn : n ≤ 1048576) (h : Sl w A n (xs.map .bool)) (hm : m ≤ 1048576) (h' : Sl w B m (ys.map .bool)) :
    Calls Try.prog 43 #[.agg #[.int .i64 W, .int .i64 T, .slice A n c], .agg #[.int .i64 W', .int .i64 T', .slice B m d]] w fun e w' => OutRB w w' e (combW orO W T n xs W' T' m ys) (combT orO W T n xs W' T' m ys) (combC orO W T n xs W' T' m ys) (combB orO W T n xs W' T' m ys) := by
  have s0 := ((h.alloc (.cells #[.int .i64 W, .int .i64 T, .slice A n c] 27)).alloc (.cells #[.int .i64 W', .int .i64 T', .slice B m d] 27)).alloc (.cells #[.int .i64 0, .int .i64 0, .slice none 0 0] 27)
  have s1 := ((h'.alloc (.cells #[.int .i64 W, .int .i64 T, .slice A n c] 27)).alloc (.cells #[.int .i64 W', .int .i64 T', .slice B m d] 27)).alloc (.cells #[.int .i64 0, .int .i64 0, .slice none 0 0] 27)
  go_enter Try.func43, Try.ntmps43
  go_wp2_with fail
  refine (comb_join A B n c m d W T W' T' xs ys _ hn s0 hm s1).mono ?_; rintro e w1 ⟨D, q, q0, rfl, hown, hb1, hlen⟩
  have R2 := PR2.of hb1
  have o1 := hown.base (show w.heap.size + 3 ≤ _ by simp)
  clear hb1 s0 s1 hown
  have f1 := R2.T.2 0
  have f2 := R2.T.2 1
  have f3 := R2.T.2 2
  have q4 := R2.R.1
  have q5 := R2.R.2.1
  have q6 := R2.R.2.2
  go_wp2_with fail
  exact bodyPost_ret (v := .tuple #[.agg #[.int .i64 (combW orO W T n xs W' T' m ys), .int .i64 (combT orO W T n xs W' T' m ys), .slice D (combC orO W T n xs W' T' m ys).length q], .bool (combB orO W T n xs W' T' m ys)]) (by simp [results, Try.results43, go_sem, q4, q5, q6]) rfl (OutRB.mkL (c0 := q0) rfl hlen (PR2.own o1 rfl (Nat.le_refl _) (Nat.le_refl _) _ _ _) (R2.fin _ _ _))
set_option maxHeartbeats 400000 in
theorem meet_impl (A : Option Addr) (n c : Nat) (W T : Int) (xs : List Bool) (B : Option Addr) (m d : Nat) (W' T' : Int) (ys : List Bool) (w : World) (hn : n ≤ 1048576) (h : Sl w A n (xs.map .bool)) (hm : m ≤ 1048576) (h' : Sl w B m (ys.map .bool)) :
    Calls Try.prog 37 #[.agg #[.int .i64 W, .int .i64 T, .slice A n c], .agg #[.int .i64 W', .int .i64 T', .slice B m d]] w fun e w' => OutRB w w' e (combW andO W T n xs W' T' m ys) (combT andO W T n xs W' T' m ys) (combC andO W T n xs W' T' m ys) (combB andO W T n xs W' T' m ys) := by
  have s0 := ((h.alloc (.cells #[.int .i64 W, .int .i64 T, .slice A n c] 27)).alloc (.cells #[.int .i64 W', .int .i64 T', .slice B m d] 27)).alloc (.cells #[.int .i64 0, .int .i64 0, .slice none 0 0] 27)
  have s1 := ((h'.alloc (.cells #[.int .i64 W, .int .i64 T, .slice A n c] 27)).alloc (.cells #[.int .i64 W', .int .i64 T', .slice B m d] 27)).alloc (.cells #[.int .i64 0, .int .i64 0, .slice none 0 0] 27)
  go_enter Try.func37, Try.ntmps37
  go_wp2_with fail
  refine (comb_meet A B n c m d W T W' T' xs ys _ hn s0 hm s1).mono ?_; rintro e w1 ⟨D, q, q0, rfl, hown, hb1, hlen⟩
  have R2 := PR2.of hb1
  have o1 := hown.base (show w.heap.size + 3 ≤ _ by simp)
  clear hb1 s0 s1 hown
  have f1 := R2.T.2 0
  have f2 := R2.T.2 1
  have f3 := R2.T.2 2
  have q4 := R2.R.1
  have q5 := R2.R.2.1
  have q6 := R2.R.2.2
  go_wp2_with fail
  exact bodyPost_ret (v := .tuple #[.agg #[.int .i64 (combW andO W T n xs W' T' m ys), .int .i64 (combT andO W T n xs W' T' m ys), .slice D (combC andO W T n xs W' T' m ys).length q], .bool (combB andO W T n xs W' T' m ys)]) (by simp [results, Try.results37, go_sem, q4, q5, q6]) rfl (OutRB.mkL (c0 := q0) rfl hlen (PR2.own o1 rfl (Nat.le_refl _) (Nat.le_refl _) _ _ _) (R2.fin _ _ _))

theorem cnt_and : ∀ xs ys : List Bool, cnt (zipB andO xs ys) ≤ cnt xs
  | [], _ => by simp [zipB, cnt]
  | _ :: _, [] => by simp [zipB, cnt]
  | x :: xs, y :: ys => by
    have := cnt_and xs ys
    unfold zipB cnt at *
    rw [List.zipWith_cons_cons]
    cases x <;> cases y <;> simp [andO] <;> omega
theorem meet_valid {W T : Int} {n : Nat} {xs ys : List Bool} (h : validB W T n xs = true) : validB W T n (zipB andO xs ys) = true := by
  simp only [validB, Bool.and_eq_true, decide_eq_true_eq] at h ⊢
  exact ⟨h.1, h.2.1, h.2.2.1, Nat.le_trans (cnt_and xs ys) h.2.2.2⟩

/-- What lies there behind a round. -/
def After (w2 w : World) (k W T : Nat) (A : Option Addr) (m c : Nat) (B : Option Addr) (d : Nat) (cs : List Bool) (wx : World) : Prop :=
  ∃ (D : Option Addr) (q : Nat), Own wx (w2.heap.size + 1) wx.heap.size 4 D k q ((cs.take k).map .bool) ∧ Box wx w2.heap.size (.int .i64 W) (.int .i64 T) (.slice D k q) ∧ Thaw wx w2.heap.size ∧ PR2 w (.int .i64 W) (.int .i64 T) (.slice A m c) (.int .i64 W) (.int .i64 T) (.slice B m d) wx
theorem after_one {w2 w wr w4 : World} {k W T : Nat} {A : Option Addr} {m c : Nat} {B : Option Addr} {d : Nat} {cs : List Bool} {D D' : Option Addr} {q q' : Nat} {v u : Bool} (hown : Own wr (w2.heap.size + 1) wr.heap.size 4 D k q ((cs.take k).map .bool)) (hx : Box wr w2.heap.size (.int .i64 W) (.int .i64 T) (.slice D k q)) (ht : Thaw wr w2.heap.size)
    (R : PR2 w (.int .i64 W) (.int .i64 T) (.slice A m c) (.int .i64 W) (.int .i64 T) (.slice B m d) wr) (hc : cs.take (k + 1) = cs.take k ++ [v]) (hv : u = v)
    (hown4 : Own w4 (w2.heap.size + 1) w4.heap.size 4 D' (k + 1) q' ((cs.take k).map .bool ++ [.bool u])) (hg4 : (wr.alloc (.cells #[.bool u] 4)).drew.grownBy w4 (D.map (·.block))) (z2 : w.heap.size + 3 ≤ w2.heap.size) :
    After w2 w (k + 1) W T A m c B d cs (w4.setCell ⟨w2.heap.size, 2, none⟩ (.slice D' (k + 1) q')) := by
  subst hv
  have hx4 := (hx.alloc (.cells #[.bool u] 4)).drew.grown hg4 (hown.offBox (.inl (Nat.lt_succ_self _)))
  have ht4 := (ht.alloc (.cells #[.bool u] 4)).drew.grown hg4 (hown.offBox (.inl (Nat.lt_succ_self _)))
  have R4 := (R.alloc (.cells #[.bool u] 4)).drew.grown hg4 (hown.alloc _).drew (by omega)
  refine ⟨D', q', ?_, hx4.set2 _, ht4.setCell _ _, R4.set (by show _ ≤ w2.heap.size; exact z2) _⟩
  rw [hc, List.map_append]
  exact (hown4.setBelow (show w2.heap.size < w2.heap.size + 1 by omega) _).top (by simp)

end Go.Proofs.Ytehfhmafmblmnaa
