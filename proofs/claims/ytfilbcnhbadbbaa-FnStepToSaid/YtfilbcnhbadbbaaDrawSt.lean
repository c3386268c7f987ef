/-
  The drawn input of the law FnStepTo.
-/
import Derived.Test.YtfilbcnhbadbbaaDrawV
import Derived.Deep.RegionHeld3
import Derived.IntWalk
namespace Go.Proofs.Ytfilbcnhbadbbaa
open Go.RowKit

def DrawnSt (w : World) (e : Ending) (w' : World) : Prop :=
  ∃ (W T : Int) (cs : List Bool) (x y : Int) (D : Option Addr) (d : Nat), cs.length ≤ 100 ∧ (-1 ≤ x ∧ x ≤ 100) ∧ (0 ≤ y ∧ y ≤ 5) ∧
    e = .returned (.tuple #[.agg #[.int .i64 W, .int .i64 T, .slice D cs.length d], .int .i64 x, .int .i64 y]) ∧ Own w' w.heap.size w'.heap.size 4 D cs.length d (cs.map .bool) ∧ Below w.heap.size w w'

set_option maxRecDepth 100000 in
set_option maxHeartbeats 2000000 in
theorem drawSt_any (A : Option Addr) (n c : Nat) (us : List Int) (w : World) (hn : n ≤ 9223372036854775807 ∧ n ≤ c) (h : Sl w A n (us.map (.int .u8))) (hu : ∀ u ∈ us, 0 ≤ u ∧ u ≤ 255) :
    Calls Try.prog 15 #[.slice A n c] w (DrawnSt w) := by
  have t0 := Thaw.new w #[.int .i64 0, .int .i64 0, .slice none 0 0] 25
  have x0 := Box.new w (.int .i64 0) (.int .i64 0) (.slice none 0 0) 25
  go_enter Try.func15, Try.ntmps15
  go_wp2_with fail
  refine (open_any A n c us _ hn.1 hn.2 (h.alloc _) hu).mono ?_; rintro e w1 ⟨he, ⟨n', us', hrd⟩, hb1, hs1⟩
  simp only [World.size_alloc] at he hrd hs1
  subst he
  have hs1' : w1.heap.size = w.heap.size + 2 := by omega
  have t1 := t0.below hb1
  have x1 := x0.below hb1
  have B1 := belowW (below1 w _) hb1
  go_wp2_with fail
  refine (region_any (w.heap.size + 1) A n' c us' 0 12 _ hrd (by omega) ⟨by omega, by omega⟩).mono ?_; rintro e w2 ⟨W, T, cs, D, d, p', rfl, hown, hg, hcs, hp', hrd2, -, -, -, -⟩
  have hne : some w.heap.size ≠ some (w.heap.size + 1) := by simp
  have t2 := (t1.grown hg hne).alloc (.cells #[.int .i64 W, .int .i64 T, .slice D cs.length d] 25)
  have x2 := (x1.grown hg hne).alloc (.cells #[.int .i64 W, .int .i64 T, .slice D cs.length d] 25)
  have B2 := grown_below' B1 hg (Nat.le_succ _) B1.size
  have hz2 := B2.size
  have hzw := hg.size
  have hne2 : some w2.heap.size ≠ some (w.heap.size + 1) := by
    intro e; injection e with e; omega
  have ra := hrd2.alloc (.cells #[.int .i64 W, .int .i64 T, .slice D cs.length d] 25)
  have oa := hown.alloc (.cells #[.int .i64 W, .int .i64 T, .slice D cs.length d] 25)
  have Ba := belowA (o := .cells #[.int .i64 W, .int .i64 T, .slice D cs.length d] 25) B2
  have xa := Box.new w2 (.int .i64 W) (.int .i64 T) (.slice D cs.length d) 25
  clear t0 x0 t1 x1 hb1 B1 hrd hg hrd2
  have k1 := xa.1
  have k2 := xa.2.1
  have k3 := xa.2.2
  have nn1 : w.heap.size ≠ w2.heap.size := by omega
  have nn2 : w2.heap.size ≠ w.heap.size := by omega
  have hw0 : IntKind.i64.wrap ((cs.length : Int) + 1) = (cs.length : Int) + 1 := IntWalk.i64_in _ (by omega)
  go_wp2_with fail
  go_region_held3 (fun w' => w'.cell? ⟨w2.heap.size, 0, none⟩ = some (.int .i64 W) ∧ w'.cell? ⟨w2.heap.size, 1, none⟩ = some (.int .i64 T) ∧ w'.cell? ⟨w2.heap.size, 2, none⟩ = some (.slice D cs.length d))
    (first | exact ⟨k1, k2, k3⟩ | go_keep)
    (first
      | (go_at_call 56; refine (pick_any (w.heap.size + 1) A n' c us' (p' + 1 + 1) 6 _ hrd4 (by omega) ⟨by omega, by omega⟩).mono ?_; rintro e w5 ⟨v5, rfl, hv5, hv5', hrd5, hg5⟩; have t5 := t4.grown hg5 hne; have x5 := x4.grown hg5 hne; have b5 := b4.grown hg5 hne2; have B5 := grown_below' B4 hg5 (Nat.le_succ _) B4.size; have o5 := o4.grown hg5 (fun b off hA => (by have := (o4.2 b off hA).1; simp; omega)); have hz5 := hg5.size; have r1 := b5.1; have r2 := b5.2.1; have r3 := b5.2.2; have f0 := t5.2 0; have f1 := t5.2 1; have f2 := t5.2 2; have c0 := x5.1; have c1 := x5.2.1; have c2 := x5.2.2)
      | (go_at_call 56; refine (pick_any (w.heap.size + 1) A n' c us' (p' + 1) 20 _ hrd3 (by omega) ⟨by omega, by omega⟩).mono ?_; rintro e w4 ⟨v4, rfl, hv4, hv4', hrd4, hg4⟩; have t4 := t3.grown hg4 hne; have x4 := x3.grown hg4 hne; have b4 := b3.grown hg4 hne2; have B4 := grown_below' B3 hg4 (Nat.le_succ _) B3.size; have o4 := o3.grown hg4 (fun b off hA => (by have := (o3.2 b off hA).1; simp; omega)); have hz4 := hg4.size; have m1 := b4.1; have m2 := b4.2.1; have m3 := b4.2.2; have hq : Int.tdiv v4 19 = v4 / 19 := (Int.tdiv_eq_ediv_of_nonneg (by omega)); have hw1 : IntKind.i64.wrap (v4 / 19) = v4 / 19 := (IntWalk.i64_in _ (by omega)); have hw2 : IntKind.i64.wrap (v3 - v4 / 19) = v3 - v4 / 19 := (IntWalk.i64_in _ (by omega)))
      | (go_at_call 56; refine (pick_any (w.heap.size + 1) A n' c us' p' ((cs.length : Int) + 1) _ ra.drew (by omega) ⟨by omega, by omega⟩).mono ?_; rintro e w3 ⟨v3, rfl, hv3, hv3', hrd3, hg3⟩; have t3 := t2.drew.grown hg3 hne; have x3 := x2.drew.grown hg3 hne; have b3 := xa.drew.grown hg3 hne2; have B3 := grown_below' Ba.drew hg3 (Nat.le_succ _) Ba.drew.size; have o3 := oa.drew.grown hg3 (fun b off hA => (by have := (oa.2 b off hA).1; simp; omega)); have hz3 := hg3.size; have l1 := b3.1; have l2 := b3.2.1; have l3 := b3.2.2)
      | fail)
  all_goals go_wp2_with fail
  refine bodyPost_ret (v := .tuple #[.agg #[.int .i64 W, .int .i64 T, .slice D cs.length d], .int .i64 (v3 - v4 / 19), .int .i64 v5]) (by simp [results, Try.results15, go_sem, c0, c1, c2]) rfl ⟨W, T, cs, v3 - v4 / 19, v5, D, d, hcs, by omega, by omega, rfl, ?_, (((B5.setCell (Nat.le_refl _) _).setCell (Nat.le_refl _) _).setCell (Nat.le_refl _) _)⟩
  exact ((((o5.setBelow (show w.heap.size < w1.heap.size by omega) _).setBelow (show w.heap.size < w1.heap.size by omega) _).setBelow (show w.heap.size < w1.heap.size by omega) _).base (by omega)).top (by simp at hz3 hz4 hz5 ⊢; omega)

end Go.Proofs.Ytfilbcnhbadbbaa
