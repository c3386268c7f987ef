/-
  The drawn inputs of the laws FnRegionValid and FnRegionAt; alive.
-/
import Derived.Test.YtkaikpffdgamfaaDrawR
import Derived.Test.YtkaikpffdgamfaaRBox
import Derived.Test.YtkaikpffdgamfaaScal
namespace Go.Proofs.Ytkaikpffdgamfaa
open Go.RowKit

theorem grown_below' {w w1 w' : World} {q B : Nat} (hB : Below B w w1) (hg : w1.grownBy w' (some q)) (hq : B ≤ q) (hz : B ≤ w1.heap.size) : Below B w w' :=
  hB.grown hg hz (fun k hk => by simp only [Option.some.injEq] at hk; omega)

set_option maxHeartbeats 1000000 in
theorem drawRV_any (A : Option Addr) (n c : Nat) (us : List Int) (w : World) (hn : n ≤ 9223372036854775807 ∧ n ≤ c) (h : Sl w A n (us.map (.int .u8))) (hu : ∀ u ∈ us, 0 ≤ u ∧ u ≤ 255) :
    Calls Try.prog 39 #[.slice A n c] w fun e w' => ∃ (W T : Int) (cs : List Bool), cs.length ≤ 100 ∧ OutR w w' e W T cs := by
  have t0 := Thaw.new w #[.int .i64 0, .int .i64 0, .slice none 0 0] 27
  have x0 := Box.new w (.int .i64 0) (.int .i64 0) (.slice none 0 0) 27
  go_enter Try.func39, Try.ntmps39
  go_wp2_with fail
  refine (open_any A n c us _ hn.1 hn.2 (h.alloc _) hu).mono ?_; rintro e w1 ⟨he, ⟨n', us', hrd⟩, hb1, hs1⟩
  simp only [World.size_alloc] at he hrd hs1
  subst he
  have hs1' : w1.heap.size = w.heap.size + 2 := by omega
  have t1 := t0.below hb1
  have x1 := x0.below hb1
  have B1 := belowW (below1 w _) hb1
  go_wp2_with fail
  refine (region_any (w.heap.size + 1) A n' c us' 0 2 _ hrd (by omega) ⟨by omega, by omega⟩).mono ?_; rintro e w2 ⟨W, T, cs, D, d, p', rfl, hown, hg, hcs, -, -, -, -, -, -⟩
  have hne : some w.heap.size ≠ some (w.heap.size + 1) := by simp
  have t2 := t1.grown hg hne
  have x2 := x1.grown hg hne
  have B2 := grown_below' B1 hg (Nat.le_succ _) B1.size
  have hz2 := B2.size
  clear t0 x0 t1 x1 hb1 B1 hrd
  have f0 := t2.2 0
  have f1 := t2.2 1
  have f2 := t2.2 2
  have c0 := x2.1
  have c1 := x2.2.1
  have c2 := x2.2.2
  go_wp2_with fail
  refine bodyPost_ret (v := .agg #[.int .i64 W, .int .i64 T, .slice D cs.length d]) (by simp [results, Try.results39, go_sem, c0, c1, c2]) rfl ⟨W, T, cs, hcs, OutR.mk rfl (by omega) ?_ (((B2.setCell (Nat.le_refl _) _).setCell (Nat.le_refl _) _).setCell (Nat.le_refl _) _)⟩
  exact ((((hown.setBelow (show w.heap.size < w1.heap.size by omega) _).setBelow (show w.heap.size < w1.heap.size by omega) _).setBelow (show w.heap.size < w1.heap.size by omega) _).base (by omega)).top (by simp)

theorem alive_any (w : World) : Calls Try.prog 40 #[] w fun e w' => e = .returned (.bool true) ∧ Below w.heap.size w w' := by
  go_enter Try.func40, Try.ntmps40
  go_wp2_with fail
  refine (box_impl 2 3 _ ⟨by omega, by omega⟩ ⟨by omega, by omega⟩).mono ?_; rintro e w1 ⟨D, d, rfl, hown, hb1, -⟩
  have hc : boxC 2 3 = List.replicate 6 true := by decide
  have hW : boxW 2 3 = 2 := by decide
  have hT : boxT 2 3 = 3 := by decide
  rw [hc] at hown
  rw [hc, hW, hT]
  go_wp2_with fail
  refine (cells_impl _ _ _ _ _ (List.replicate 6 true) _ (by simp) hown.sl).mono ?_; rintro e w2 ⟨rfl, hb2⟩
  have hv : cellsF 2 3 (List.replicate 6 true).length (List.replicate 6 true) = 6 := by decide
  rw [hv]
  go_wp2_with fail
  go_ret
  exact ⟨rfl, belowW hb1 hb2⟩

end Go.Proofs.Ytkaikpffdgamfaa
