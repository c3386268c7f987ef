/-
  The laws' drawing of a region: l20Region: it ends, and gives back a region of its own.
-/
import Derived.Test.YtepnhhehfkcgkaaDraw
import Derived.Test.YtepnhhehfkcgkaaApp
import Derived.Deep.RegionLaw
import Derived.Test.YtepnhhehfkcgkaaLawB
namespace Go.Proofs.Ytepnhhehfkcgkaa
open Go.RowKit

/-- What l20Region gives back: some region in new memory, with sides up to 6; the reader is at most 99 further. -/
def DrawnR (q : Nat) (A : Option Addr) (n c : Nat) (us : List Int) (p : Nat) (w : World) (e : Ending) (w' : World) : Prop :=
  ∃ (W T : Int) (cs : List Bool) (D : Option Addr) (d p' : Nat), e = .returned (.agg #[.int .i64 W, .int .i64 T, .slice D cs.length d]) ∧ Own w' w.heap.size w'.heap.size 4 D cs.length d (cs.map .bool) ∧ w.grownBy w' (some q) ∧
    cs.length ≤ 100 ∧ p' ≤ p + 99 ∧ Rd w' q A n c us p' ∧ 0 ≤ W ∧ W ≤ 6 ∧ 0 ≤ T ∧ T ≤ 24

theorem Box.set0 {w : World} {b : Nat} {v0 v1 v2 : Value} (h : Box w b v0 v1 v2) (v : Value) : Box (w.setCell ⟨b, 0, none⟩ v) b v v1 v2 := by
  refine ⟨World.cell?_setCell_same _ _ _ h.1, ?_, ?_⟩
  · rw [World.cell?_setCell_other _ _ _ _ (by simp)]; exact h.2.1
  · rw [World.cell?_setCell_other _ _ _ _ (by simp)]; exact h.2.2
theorem Box.set1 {w : World} {b : Nat} {v0 v1 v2 : Value} (h : Box w b v0 v1 v2) (v : Value) : Box (w.setCell ⟨b, 1, none⟩ v) b v0 v v2 := by
  refine ⟨?_, World.cell?_setCell_same _ _ _ h.2.1, ?_⟩
  · rw [World.cell?_setCell_other _ _ _ _ (by simp)]; exact h.1
  · rw [World.cell?_setCell_other _ _ _ _ (by simp)]; exact h.2.2

theorem t24 {v : Int} (h0 : 0 ≤ v) (h1 : v < 6 ∨ v = 0) : 0 ≤ (1 + v) * (24 / (1 + v)) ∧ (1 + v) * (24 / (1 + v)) ≤ 24 ∧ 0 ≤ 24 / (1 + v) ∧ 24 / (1 + v) ≤ 24 := by
  have a : v = 0 ∨ v = 1 ∨ v = 2 ∨ v = 3 ∨ v = 4 ∨ v = 5 := by omega
  rcases a with rfl | rfl | rfl | rfl | rfl | rfl <;> decide

set_option maxRecDepth 20000 in
set_option maxHeartbeats 4000000 in
theorem region_any (q : Nat) (A : Option Addr) (n c : Nat) (us : List Int) (p : Nat) (N : Int) (w : World) (h : Rd w q A n c us p) (hp : p ≤ 90000) (hN : 1 ≤ N ∧ N ≤ 1000) :
    Calls Try.prog 57 #[.pointer (some ⟨q, 0, none⟩), .int .i64 N] w (DrawnR q A n c us p w) := by
  have hq := h.2.2.1.1
  have hq2 : q < w.heap.size := hq
  go_enter Try.func57, Try.ntmps57
  go_wp2_with fail
  refine (pick_any q A n c us p 6 _ (h.alloc _) (by omega) ⟨by omega, by omega⟩).mono ?_; rintro e w1 ⟨v1, rfl, hv1, hv1', h1, hg1⟩
  have z1 : w.heap.size + 1 ≤ w1.heap.size := by have h := hg1.size; simp only [World.size_alloc] at h; exact h
  have hqw : some w.heap.size ≠ some q := by simp; omega
  have t1 := (Thaw.new w #[.int .i64 0, .int .i64 0, .slice none 0 0] 34).grown hg1 hqw
  have r1 := (Box.new w (.int .i64 0) (.int .i64 0) (.slice none 0 0) 34).grown hg1 hqw
  have G1 := grown_trans (World.grownBy_alloc w (.cells #[.int .i64 0, .int .i64 0, .slice none 0 0] 34) (some q)) hg1
  clear h hg1
  go_wp2_with fail
  refine (pick_any q A n c us (p + 1) 6 _ h1 (by omega) ⟨by omega, by omega⟩).mono ?_; rintro e w2 ⟨v2, rfl, hv2, hv2', h2, hg2⟩
  have z2 : w1.heap.size ≤ w2.heap.size := hg2.size
  have t2 := t1.grown hg2 hqw
  have r2 := r1.grown hg2 hqw
  have G2 := grown_trans G1 hg2
  clear h1 t1 r1 G1 hg2
  obtain ⟨hb1, hb2⟩ : 0 ≤ (1 + v1) * (1 + v2) ∧ (1 + v1) * (1 + v2) ≤ 36 := mul_bd (by omega) (by omega) (by omega) (by omega)
  obtain ⟨hc1, hc2, hc3, hc4⟩ := t24 hv1 hv1'
  by_cases hbig : (24 : Int) < (1 + v1) * (1 + v2)
  · go_wp2_with fail
    refine (pick_any q A n c us (p + 1 + 1) 8 _ (h2.alloc _) (by omega) ⟨by omega, by omega⟩).mono ?_; rintro e w3 ⟨v3, rfl, hv3, hv3', h3, hg3⟩
    have hqx : some w2.heap.size ≠ some q := by simp; omega
    have z3 : w2.heap.size + 1 ≤ w3.heap.size := by have h := hg3.size; simp only [World.size_alloc] at h; exact h
    have t3 := (t2.alloc (.cells #[.int .i64 (1 + v1), .int .i64 (24 / (1 + v1)), .slice none 0 0] 34)).grown hg3 hqw
    have r3 := (r2.alloc (.cells #[.int .i64 (1 + v1), .int .i64 (24 / (1 + v1)), .slice none 0 0] 34)).grown hg3 hqw
    have tx3 := (Thaw.new w2 #[.int .i64 (1 + v1), .int .i64 (24 / (1 + v1)), .slice none 0 0] 34).grown hg3 hqx
    have x3 := (Box.new w2 (.int .i64 (1 + v1)) (.int .i64 (24 / (1 + v1))) (.slice none 0 0) 34).grown hg3 hqx
    have G3 := grown_trans (grown_trans G2 (World.grownBy_alloc w2 (.cells #[.int .i64 (1 + v1), .int .i64 (24 / (1 + v1)), .slice none 0 0] 34) (some q))) hg3
    clear h2 t2 r2 G2 hg3
    go_wp2_with fail
    go_loopw [7] (fun i wr => ∃ (k : Nat) (D : Option Addr) (d : Nat) (xs : List Bool) (pp : Nat), k ≤ 36 ∧ i = .int .i64 k ∧ (k : Int) ≤ (1 + v1) * (24 / (1 + v1)) ∧ xs.length = k ∧ Own wr (w2.heap.size + 1) wr.heap.size 4 D k d (xs.map .bool) ∧
        Rd wr q A n c us pp ∧ pp ≤ p + 3 + k ∧ Thaw wr w.heap.size ∧ Box wr w.heap.size (.int .i64 0) (.int .i64 0) (.slice none 0 0) ∧ Thaw wr w2.heap.size ∧ Box wr w2.heap.size (.int .i64 (1 + v1)) (.int .i64 (24 / (1 + v1))) (.slice D k d) ∧ w.grownBy wr (some q)) (fun i _ => 40 - (intOf i).toNat)
    case atStart => exact ⟨0, none, 0, [], p + 3, by omega, rfl, by omega, rfl, own_nil _ _ _ _, h3, by omega, t3, r3, tx3, x3, G3⟩
    case round =>
      clear h3 t3 r3 tx3 x3 G3
      obtain ⟨k, D, d, xs, pp, hk, rfl, hkP, hxl, hown, hrd, hpp, ht, hr, htx, hx, G⟩ := hrel
      have HXL := Lib.hid hxl
      clear hxl
      have k1 := hx.1
      have k2 := hx.2.1
      have k3 := hx.2.2
      have f2 := htx.2 2
      have hxl := htx.1
      have hxn := Nat.ne_of_lt hxl
      by_cases hlt : (k : Int) < (1 + v1) * (24 / (1 + v1))
      · go_wp2_with fail
        go_region_law (first | (refine step_append1 (by rfl) (.tmp 39) (.tmp 44) 32 (by rfl) 4 (.bool false) 1 Try.underlying32 Try.infoBool rfl (hown4.alloc (.cells #[.bool (decide (v4 ≤ 2 + v3))] 4)) (by rfl) w4.heap.size (.bool (decide (v4 ≤ 2 + v3))) (by rfl) (cell0_new _ _ _) (by rfl) (by omega) (by omega) (by simp; omega) ?_; intro D' d' w6 hown6 hg6 hn6; have hx6 := (hx4.alloc (.cells #[.bool (decide (v4 ≤ 2 + v3))] 4)).grown hg6 (hown4.offBox (.inl (by omega))); have htx6 := ((htx.drew.grown hg4 hqx).alloc (.cells #[.bool (decide (v4 ≤ 2 + v3))] 4)).grown hg6 (hown4.offBox (.inl (by omega))); have q6 := hx6.2.2; have f6 := htx6.2 2) | (go_simp; go_at_call 79; refine (pick_any q A n c us pp 10 _ hrd.drew (by omega) ⟨by omega, by omega⟩).mono ?_; rintro e w4 ⟨v4, rfl, hv4, hv4', h4, hg4⟩; have hx4 := hx.drew.grown hg4 hqx; have hown4 := hown.drew.grown hg4 (fun b off hA => by have := (hown.2 b off hA).1; simp; omega); have hz4 : wr.heap.size ≤ w4.heap.size := hg4.size; have q4 := hx4.2.2; have l4 := hx4.lt; have m4 := Nat.ne_of_lt l4))
        all_goals
          go_wp2_with fail
          go_roundw
          case rel =>
            have K6 : Below (w2.heap.size + 1) w4 w6 := ((Below.refl _ _).alloc (by omega) _).trans ((hown4.alloc _).grownBelow hg6 (by simp; omega))
            have K7 : Below w2.heap.size w4 (w6.setCell ⟨w2.heap.size, 2, none⟩ (.slice D' (k + 1) d')) := (K6.mono (show w2.heap.size ≤ w2.heap.size + 1 by omega)).setCell (Nat.le_refl _) _
            refine ⟨k + 1, D', d', xs ++ [decide (v4 ≤ 2 + v3)], pp + 1, by omega, by go_num, by omega, by rw [List.length_append, HXL.out]; rfl, ?_, h4.above K7 (by omega), by omega, (ht.drew.grown hg4 hqw).keep (K7.block _ (by omega)) K7.size, (hr.drew.grown hg4 hqw).keep (K7.block _ (by omega)), htx6.setCell _ _, hx6.set2 _, grown_then (grown_trans (grown_drew G) hg4) K7 (by omega)⟩
            rw [List.map_append]
            exact (hown6.setBelow (show w2.heap.size < w2.heap.size + 1 by omega) _).top (by simp)
          case measure => simp [intOf]; omega
      · go_wp2_with fail
        refine (odd_any q A n c us pp N _ hrd (by omega) ⟨by omega, by omega⟩).mono ?_; rintro e w4 ⟨b4, rfl, h4, hg4⟩
        have hz4 : wr.heap.size ≤ w4.heap.size := hg4.size
        have hx4 := hx.grown hg4 hqx
        have htx4 := htx.grown hg4 hqx
        have ht4 := ht.grown hg4 hqw
        have hr4 := hr.grown hg4 hqw
        have hown4 := hown.grown hg4 (fun b off hA => by have := (hown.2 b off hA).1; simp; omega)
        have G4 := grown_trans G hg4
        have l4 := htx4.1
        have m4 := Nat.ne_of_lt l4
        clear k1 k2 k3 f2 hxl hxn hx htx ht hr hown G hrd hg4
        have a1 := hx4.1
        have a2 := hx4.2.1
        have a3 := hx4.2.2
        have c1 := hr4.1
        have c2 := hr4.2.1
        have c3 := hr4.2.2
        have f0 := ht4.2 0
        have f1 := ht4.2 1
        have f2 := ht4.2 2
        have hne : w.heap.size ≠ w2.heap.size := by omega
        cases b4
        · go_wp2_with fail
          have e := HXL.out
          subst e
          refine bodyPost_ret (v := .agg #[.int .i64 (1 + v1), .int .i64 (24 / (1 + v1)), .slice D xs.length d]) (by simp [results, Try.results57, go_sem, c1, c2, c3]) rfl ⟨1 + v1, (24 / (1 + v1)), xs, D, d, pp + 1, rfl, ?_, ?_, by omega, by omega, ?_, by omega, by omega, by omega, by omega⟩
          · exact ((((hown4.setBelow (show w.heap.size < w2.heap.size + 1 by omega) _).setBelow (show w.heap.size < w2.heap.size + 1 by omega) _).setBelow (show w.heap.size < w2.heap.size + 1 by omega) _).base (by omega)).top (by simp; omega)
          · exact grown_then G4 ((((Below.refl w.heap.size w4).setCell (Nat.le_refl _) _).setCell (Nat.le_refl _) _).setCell (Nat.le_refl _) _) (Nat.le_refl _)
          · exact h4.above ((((Below.refl w.heap.size w4).setCell (Nat.le_refl _) _).setCell (Nat.le_refl _) _).setCell (Nat.le_refl _) _) hq
        · go_wp2_with fail
          refine (pick_any q A n c us (pp + 1) 3 _ h4 (by omega) ⟨by omega, by omega⟩).mono ?_; rintro e w5 ⟨v5, rfl, hv5, hv5', h5, hg5⟩
          have hz5 : w4.heap.size ≤ w5.heap.size := hg5.size
          have hx5 := hx4.grown hg5 hqx
          have htx5 := htx4.grown hg5 hqx
          have ht5 := ht4.grown hg5 hqw
          have hr5 := hr4.grown hg5 hqw
          have hown5 := hown4.grown hg5 (fun b off hA => by have := (hown4.2 b off hA).1; simp; omega)
          have G5 := grown_trans G4 hg5
          clear a1 a2 a3 c1 c2 c3 f0 f1 f2 hx4 htx4 ht4 hr4 hown4 G4 h4 hg5 l4 m4
          have l5 := htx5.1
          have m5 := Nat.ne_of_lt l5
          have a1 := hx5.1
          have a2 := hx5.2.1
          have a3 := hx5.2.2
          have c1 := hr5.1
          have c2 := hr5.2.1
          have c3 := hr5.2.2
          have f0 := ht5.2 0
          have f1 := ht5.2 1
          have f2 := ht5.2 2
          have g0 := htx5.2 0
          have g1 := htx5.2 1
          have g2 := htx5.2 2
          have hv : v5 = 0 ∨ v5 = 1 ∨ v5 = 2 := by omega
          rcases hv with rfl | rfl | rfl
          · go_wp2_with (at_builtin; refine wpList_append1 rfl _ _ 32 rfl 4 (.bool false) 1 Try.underlying32 Try.infoBool rfl (hown5.alloc (.cells #[.bool true] 4)) rfl w5.heap.size (.bool true) rfl (cell0_new _ _ _) rfl (by omega) (by omega) (by simp; omega) ?_; intro D' d' w6 hown6 hg6 hn6; have K6 : Below (w2.heap.size + 1) w5 w6 := ((Below.refl _ _).alloc (by omega) _).trans ((hown5.alloc _).grownBelow hg6 (by simp; omega)); have hx6 := (hx5.keep (K6.block w2.heap.size (by omega))); have htx6 := (htx5.keep (K6.block w2.heap.size (by omega)) K6.size); have hr6 := (hr5.keep (K6.block w.heap.size (by omega))); have ht6 := (ht5.keep (K6.block w.heap.size (by omega)) K6.size); have b1 := hx6.1; have b2 := hx6.2.1; have b3 := hx6.2.2; have e1 := hr6.1; have e2 := hr6.2.1; have e3 := hr6.2.2; have i0 := ht6.2 0; have i1 := ht6.2 1; have i2 := ht6.2 2; have i5 := htx6.2 2)
            have hlen : (xs ++ [true]).length = k + 1 := by rw [List.length_append, HXL.out]; rfl
            have K9 : Below w.heap.size w5 ((((w6.setCell ⟨w2.heap.size, 2, none⟩ (.slice D' (k + 1) d')).setCell ⟨w.heap.size, 0, none⟩ (.int .i64 (1 + v1))).setCell ⟨w.heap.size, 1, none⟩ (.int .i64 (24 / (1 + v1)))).setCell ⟨w.heap.size, 2, none⟩ (.slice D' (k + 1) d')) :=
              (((((K6.mono (show w.heap.size ≤ w2.heap.size + 1 by omega)).setCell (show w.heap.size ≤ w2.heap.size by omega) _).setCell (Nat.le_refl _) _).setCell (Nat.le_refl _) _).setCell (Nat.le_refl _) _)
            refine bodyPost_ret (v := .agg #[.int .i64 (1 + v1), .int .i64 (24 / (1 + v1)), .slice D' (xs ++ [true]).length d']) (by rw [hlen]; simp [results, Try.results57, go_sem, e1, e2, e3]) rfl ⟨1 + v1, (24 / (1 + v1)), xs ++ [true], D', d', pp + 2, rfl, ?_, grown_then G5 K9 (Nat.le_refl _), by omega, by omega, h5.above K9 hq, by omega, by omega, by omega, by omega⟩
            rw [hlen, List.map_append]
            exact (((((hown6.setBelow (show w2.heap.size < w2.heap.size + 1 by omega) _).setBelow (show w.heap.size < w2.heap.size + 1 by omega) _).setBelow (show w.heap.size < w2.heap.size + 1 by omega) _).setBelow (show w.heap.size < w2.heap.size + 1 by omega) _).base (by omega)).top (by simp)
          · go_wp2_with fail
            have K9 : Below w.heap.size w5 (((w5.setCell ⟨w.heap.size, 0, none⟩ (.int .i64 0)).setCell ⟨w.heap.size, 1, none⟩ (.int .i64 0)).setCell ⟨w.heap.size, 2, none⟩ (.slice none 0 0)) :=
              (((Below.refl w.heap.size w5).setCell (Nat.le_refl _) _).setCell (Nat.le_refl _) _).setCell (Nat.le_refl _) _
            exact bodyPost_ret (v := .agg #[.int .i64 0, .int .i64 0, .slice none 0 0]) (by simp [results, Try.results57, go_sem, c1, c2, c3]) rfl ⟨0, 0, [], none, 0, pp + 2, rfl, own_nil _ _ _ _, grown_then G5 K9 (Nat.le_refl _), by simp, by omega, h5.above K9 hq, by omega, by omega, by omega, by omega⟩
          · have B0 : Below w2.heap.size w5 (((w5.setCell ⟨w2.heap.size, 0, none⟩ (.int .i64 6)).setCell ⟨w2.heap.size, 1, none⟩ (.int .i64 6)).setCell ⟨w2.heap.size, 2, none⟩ (.slice none 0 0)) :=
              (((Below.refl w2.heap.size w5).setCell (Nat.le_refl _) _).setCell (Nat.le_refl _) _).setCell (Nat.le_refl _) _
            have X0 := ((hx5.set0 (.int .i64 6)).set1 (.int .i64 6)).set2 (.slice none 0 0)
            have TX0 := ((htx5.setCell ⟨w2.heap.size, 0, none⟩ (.int .i64 6)).setCell ⟨w2.heap.size, 1, none⟩ (.int .i64 6)).setCell ⟨w2.heap.size, 2, none⟩ (.slice none 0 0)
            have R0 := hr5.keep (B0.block w.heap.size (by omega))
            have T0 := ht5.keep (B0.block w.heap.size (by omega)) B0.size
            have hz0 := TX0.1
            clear hown5 HXL
            go_wp2_with fail
            go_loopw [8] (fun i wr => ∃ (j : Nat) (D' : Option Addr) (d' : Nat), j ≤ 36 ∧ i = .int .i64 j ∧ Own wr (w2.heap.size + 1) wr.heap.size 4 D' j d' (List.replicate j (.bool true)) ∧ Below w2.heap.size w5 wr ∧
                Thaw wr w.heap.size ∧ Box wr w.heap.size (.int .i64 0) (.int .i64 0) (.slice none 0 0) ∧ Thaw wr w2.heap.size ∧ Box wr w2.heap.size (.int .i64 6) (.int .i64 6) (.slice D' j d')) (fun i _ => 36 - (intOf i).toNat)
            case atStart => exact ⟨0, none, 0, by omega, rfl, own_nil _ _ _ _, B0, T0, R0, TX0, X0⟩
            case round =>
              clear B0 X0 TX0 R0 T0 hz0 hx5 htx5 ht5 hr5 a1 a2 a3 c1 c2 c3 f0 f1 f2 g0 g1 g2 l5 m5
              obtain ⟨j, D', d', hj, rfl, hown, hb, ht, hr, htx, hx⟩ := hrel
              have k1 := hx.1
              have k2 := hx.2.1
              have k3 := hx.2.2
              have hz := htx.1
              by_cases hlt : j < 36
              · go_wp2_with (at_builtin; refine wpList_append1 rfl _ _ 32 rfl 4 (.bool false) 1 Try.underlying32 Try.infoBool rfl (hown.alloc (.cells #[.bool true] 4)) rfl wr.heap.size (.bool true) rfl (cell0_new _ _ _) rfl (by omega) (by omega) (by simp; omega) ?_; intro D2 d2 w6 hown6 hg6 hn6; have K6 : Below (w2.heap.size + 1) wr w6 := ((Below.refl _ _).alloc (by omega) _).trans ((hown.alloc _).grownBelow hg6 (by simp; omega)); have hx6 := (hx.keep (K6.block w2.heap.size (by omega))); have htx6 := (htx.keep (K6.block w2.heap.size (by omega)) K6.size); have hr6 := (hr.keep (K6.block w.heap.size (by omega))); have ht6 := (ht.keep (K6.block w.heap.size (by omega)) K6.size); have q3 := hx6.2.2; have q4 := htx6.2 2)
                go_roundw
                case rel =>
                  have K7 : Below w2.heap.size wr (w6.setCell ⟨w2.heap.size, 2, none⟩ (.slice D2 (j + 1) d2)) := (K6.mono (show w2.heap.size ≤ w2.heap.size + 1 by omega)).setCell (Nat.le_refl _) _
                  refine ⟨j + 1, D2, d2, by omega, by go_num, ?_, hb.trans K7, ht6.setCell _ _, hr6.setFar hne _, htx6.setCell _ _, hx6.set2 _⟩
                  rw [List.replicate_succ']
                  exact (hown6.setBelow (show w2.heap.size < w2.heap.size + 1 by omega) _).top (by simp)
                case measure => simp [intOf]; omega
              · have e : j = 36 := by omega
                subst e
                have c1 := hr.1
                have c2 := hr.2.1
                have c3 := hr.2.2
                have f0 := ht.2 0
                have f1 := ht.2 1
                have f2 := ht.2 2
                go_wp2_with fail
                have K9 : Below w.heap.size w5 (((wr.setCell ⟨w.heap.size, 0, none⟩ (.int .i64 6)).setCell ⟨w.heap.size, 1, none⟩ (.int .i64 6)).setCell ⟨w.heap.size, 2, none⟩ (.slice D' 36 d')) :=
                  (((hb.mono (show w.heap.size ≤ w2.heap.size by omega)).setCell (Nat.le_refl _) _).setCell (Nat.le_refl _) _).setCell (Nat.le_refl _) _
                refine bodyPost_ret (v := .agg #[.int .i64 6, .int .i64 6, .slice D' (List.replicate 36 true).length d']) (by rw [List.length_replicate]; simp [results, Try.results57, go_sem, c1, c2, c3]) rfl ⟨6, 6, List.replicate 36 true, D', d', pp + 2, rfl, ?_, grown_then G5 K9 (Nat.le_refl _), by simp, by omega, h5.above K9 hq, by omega, by omega, by omega, by omega⟩
                rw [List.length_replicate, List.map_replicate]
                exact ((((hown.setBelow (show w.heap.size < w2.heap.size + 1 by omega) _).setBelow (show w.heap.size < w2.heap.size + 1 by omega) _).setBelow (show w.heap.size < w2.heap.size + 1 by omega) _).base (by omega)).top (by simp)
  · go_wp2_with fail
    refine (pick_any q A n c us (p + 1 + 1) 8 _ (h2.alloc _) (by omega) ⟨by omega, by omega⟩).mono ?_; rintro e w3 ⟨v3, rfl, hv3, hv3', h3, hg3⟩
    have hqx : some w2.heap.size ≠ some q := by simp; omega
    have z3 : w2.heap.size + 1 ≤ w3.heap.size := by have h := hg3.size; simp only [World.size_alloc] at h; exact h
    have t3 := (t2.alloc (.cells #[.int .i64 (1 + v1), .int .i64 (1 + v2), .slice none 0 0] 34)).grown hg3 hqw
    have r3 := (r2.alloc (.cells #[.int .i64 (1 + v1), .int .i64 (1 + v2), .slice none 0 0] 34)).grown hg3 hqw
    have tx3 := (Thaw.new w2 #[.int .i64 (1 + v1), .int .i64 (1 + v2), .slice none 0 0] 34).grown hg3 hqx
    have x3 := (Box.new w2 (.int .i64 (1 + v1)) (.int .i64 (1 + v2)) (.slice none 0 0) 34).grown hg3 hqx
    have G3 := grown_trans (grown_trans G2 (World.grownBy_alloc w2 (.cells #[.int .i64 (1 + v1), .int .i64 (1 + v2), .slice none 0 0] 34) (some q))) hg3
    clear h2 t2 r2 G2 hg3
    go_wp2_with fail
    go_loopw [7] (fun i wr => ∃ (k : Nat) (D : Option Addr) (d : Nat) (xs : List Bool) (pp : Nat), k ≤ 36 ∧ i = .int .i64 k ∧ (k : Int) ≤ (1 + v1) * (1 + v2) ∧ xs.length = k ∧ Own wr (w2.heap.size + 1) wr.heap.size 4 D k d (xs.map .bool) ∧
        Rd wr q A n c us pp ∧ pp ≤ p + 3 + k ∧ Thaw wr w.heap.size ∧ Box wr w.heap.size (.int .i64 0) (.int .i64 0) (.slice none 0 0) ∧ Thaw wr w2.heap.size ∧ Box wr w2.heap.size (.int .i64 (1 + v1)) (.int .i64 (1 + v2)) (.slice D k d) ∧ w.grownBy wr (some q)) (fun i _ => 40 - (intOf i).toNat)
    case atStart => exact ⟨0, none, 0, [], p + 3, by omega, rfl, by omega, rfl, own_nil _ _ _ _, h3, by omega, t3, r3, tx3, x3, G3⟩
    case round =>
      clear h3 t3 r3 tx3 x3 G3
      obtain ⟨k, D, d, xs, pp, hk, rfl, hkP, hxl, hown, hrd, hpp, ht, hr, htx, hx, G⟩ := hrel
      have HXL := Lib.hid hxl
      clear hxl
      have k1 := hx.1
      have k2 := hx.2.1
      have k3 := hx.2.2
      have f2 := htx.2 2
      have hxl := htx.1
      have hxn := Nat.ne_of_lt hxl
      by_cases hlt : (k : Int) < (1 + v1) * (1 + v2)
      · go_wp2_with fail
        go_region_law (first | (refine step_append1 (by rfl) (.tmp 39) (.tmp 44) 32 (by rfl) 4 (.bool false) 1 Try.underlying32 Try.infoBool rfl (hown4.alloc (.cells #[.bool (decide (v4 ≤ 2 + v3))] 4)) (by rfl) w4.heap.size (.bool (decide (v4 ≤ 2 + v3))) (by rfl) (cell0_new _ _ _) (by rfl) (by omega) (by omega) (by simp; omega) ?_; intro D' d' w6 hown6 hg6 hn6; have hx6 := (hx4.alloc (.cells #[.bool (decide (v4 ≤ 2 + v3))] 4)).grown hg6 (hown4.offBox (.inl (by omega))); have htx6 := ((htx.drew.grown hg4 hqx).alloc (.cells #[.bool (decide (v4 ≤ 2 + v3))] 4)).grown hg6 (hown4.offBox (.inl (by omega))); have q6 := hx6.2.2; have f6 := htx6.2 2) | (go_simp; go_at_call 79; refine (pick_any q A n c us pp 10 _ hrd.drew (by omega) ⟨by omega, by omega⟩).mono ?_; rintro e w4 ⟨v4, rfl, hv4, hv4', h4, hg4⟩; have hx4 := hx.drew.grown hg4 hqx; have hown4 := hown.drew.grown hg4 (fun b off hA => by have := (hown.2 b off hA).1; simp; omega); have hz4 : wr.heap.size ≤ w4.heap.size := hg4.size; have q4 := hx4.2.2; have l4 := hx4.lt; have m4 := Nat.ne_of_lt l4))
        all_goals
          go_wp2_with fail
          go_roundw
          case rel =>
            have K6 : Below (w2.heap.size + 1) w4 w6 := ((Below.refl _ _).alloc (by omega) _).trans ((hown4.alloc _).grownBelow hg6 (by simp; omega))
            have K7 : Below w2.heap.size w4 (w6.setCell ⟨w2.heap.size, 2, none⟩ (.slice D' (k + 1) d')) := (K6.mono (show w2.heap.size ≤ w2.heap.size + 1 by omega)).setCell (Nat.le_refl _) _
            refine ⟨k + 1, D', d', xs ++ [decide (v4 ≤ 2 + v3)], pp + 1, by omega, by go_num, by omega, by rw [List.length_append, HXL.out]; rfl, ?_, h4.above K7 (by omega), by omega, (ht.drew.grown hg4 hqw).keep (K7.block _ (by omega)) K7.size, (hr.drew.grown hg4 hqw).keep (K7.block _ (by omega)), htx6.setCell _ _, hx6.set2 _, grown_then (grown_trans (grown_drew G) hg4) K7 (by omega)⟩
            rw [List.map_append]
            exact (hown6.setBelow (show w2.heap.size < w2.heap.size + 1 by omega) _).top (by simp)
          case measure => simp [intOf]; omega
      · go_wp2_with fail
        refine (odd_any q A n c us pp N _ hrd (by omega) ⟨by omega, by omega⟩).mono ?_; rintro e w4 ⟨b4, rfl, h4, hg4⟩
        have hz4 : wr.heap.size ≤ w4.heap.size := hg4.size
        have hx4 := hx.grown hg4 hqx
        have htx4 := htx.grown hg4 hqx
        have ht4 := ht.grown hg4 hqw
        have hr4 := hr.grown hg4 hqw
        have hown4 := hown.grown hg4 (fun b off hA => by have := (hown.2 b off hA).1; simp; omega)
        have G4 := grown_trans G hg4
        have l4 := htx4.1
        have m4 := Nat.ne_of_lt l4
        clear k1 k2 k3 f2 hxl hxn hx htx ht hr hown G hrd hg4
        have a1 := hx4.1
        have a2 := hx4.2.1
        have a3 := hx4.2.2
        have c1 := hr4.1
        have c2 := hr4.2.1
        have c3 := hr4.2.2
        have f0 := ht4.2 0
        have f1 := ht4.2 1
        have f2 := ht4.2 2
        have hne : w.heap.size ≠ w2.heap.size := by omega
        cases b4
        · go_wp2_with fail
          have e := HXL.out
          subst e
          refine bodyPost_ret (v := .agg #[.int .i64 (1 + v1), .int .i64 (1 + v2), .slice D xs.length d]) (by simp [results, Try.results57, go_sem, c1, c2, c3]) rfl ⟨1 + v1, (1 + v2), xs, D, d, pp + 1, rfl, ?_, ?_, by omega, by omega, ?_, by omega, by omega, by omega, by omega⟩
          · exact ((((hown4.setBelow (show w.heap.size < w2.heap.size + 1 by omega) _).setBelow (show w.heap.size < w2.heap.size + 1 by omega) _).setBelow (show w.heap.size < w2.heap.size + 1 by omega) _).base (by omega)).top (by simp; omega)
          · exact grown_then G4 ((((Below.refl w.heap.size w4).setCell (Nat.le_refl _) _).setCell (Nat.le_refl _) _).setCell (Nat.le_refl _) _) (Nat.le_refl _)
          · exact h4.above ((((Below.refl w.heap.size w4).setCell (Nat.le_refl _) _).setCell (Nat.le_refl _) _).setCell (Nat.le_refl _) _) hq
        · go_wp2_with fail
          refine (pick_any q A n c us (pp + 1) 3 _ h4 (by omega) ⟨by omega, by omega⟩).mono ?_; rintro e w5 ⟨v5, rfl, hv5, hv5', h5, hg5⟩
          have hz5 : w4.heap.size ≤ w5.heap.size := hg5.size
          have hx5 := hx4.grown hg5 hqx
          have htx5 := htx4.grown hg5 hqx
          have ht5 := ht4.grown hg5 hqw
          have hr5 := hr4.grown hg5 hqw
          have hown5 := hown4.grown hg5 (fun b off hA => by have := (hown4.2 b off hA).1; simp; omega)
          have G5 := grown_trans G4 hg5
          clear a1 a2 a3 c1 c2 c3 f0 f1 f2 hx4 htx4 ht4 hr4 hown4 G4 h4 hg5 l4 m4
          have l5 := htx5.1
          have m5 := Nat.ne_of_lt l5
          have a1 := hx5.1
          have a2 := hx5.2.1
          have a3 := hx5.2.2
          have c1 := hr5.1
          have c2 := hr5.2.1
          have c3 := hr5.2.2
          have f0 := ht5.2 0
          have f1 := ht5.2 1
          have f2 := ht5.2 2
          have g0 := htx5.2 0
          have g1 := htx5.2 1
          have g2 := htx5.2 2
          have hv : v5 = 0 ∨ v5 = 1 ∨ v5 = 2 := by omega
          rcases hv with rfl | rfl | rfl
          · go_wp2_with (at_builtin; refine wpList_append1 rfl _ _ 32 rfl 4 (.bool false) 1 Try.underlying32 Try.infoBool rfl (hown5.alloc (.cells #[.bool true] 4)) rfl w5.heap.size (.bool true) rfl (cell0_new _ _ _) rfl (by omega) (by omega) (by simp; omega) ?_; intro D' d' w6 hown6 hg6 hn6; have K6 : Below (w2.heap.size + 1) w5 w6 := ((Below.refl _ _).alloc (by omega) _).trans ((hown5.alloc _).grownBelow hg6 (by simp; omega)); have hx6 := (hx5.keep (K6.block w2.heap.size (by omega))); have htx6 := (htx5.keep (K6.block w2.heap.size (by omega)) K6.size); have hr6 := (hr5.keep (K6.block w.heap.size (by omega))); have ht6 := (ht5.keep (K6.block w.heap.size (by omega)) K6.size); have b1 := hx6.1; have b2 := hx6.2.1; have b3 := hx6.2.2; have e1 := hr6.1; have e2 := hr6.2.1; have e3 := hr6.2.2; have i0 := ht6.2 0; have i1 := ht6.2 1; have i2 := ht6.2 2; have i5 := htx6.2 2)
            have hlen : (xs ++ [true]).length = k + 1 := by rw [List.length_append, HXL.out]; rfl
            have K9 : Below w.heap.size w5 ((((w6.setCell ⟨w2.heap.size, 2, none⟩ (.slice D' (k + 1) d')).setCell ⟨w.heap.size, 0, none⟩ (.int .i64 (1 + v1))).setCell ⟨w.heap.size, 1, none⟩ (.int .i64 (1 + v2))).setCell ⟨w.heap.size, 2, none⟩ (.slice D' (k + 1) d')) :=
              (((((K6.mono (show w.heap.size ≤ w2.heap.size + 1 by omega)).setCell (show w.heap.size ≤ w2.heap.size by omega) _).setCell (Nat.le_refl _) _).setCell (Nat.le_refl _) _).setCell (Nat.le_refl _) _)
            refine bodyPost_ret (v := .agg #[.int .i64 (1 + v1), .int .i64 (1 + v2), .slice D' (xs ++ [true]).length d']) (by rw [hlen]; simp [results, Try.results57, go_sem, e1, e2, e3]) rfl ⟨1 + v1, (1 + v2), xs ++ [true], D', d', pp + 2, rfl, ?_, grown_then G5 K9 (Nat.le_refl _), by omega, by omega, h5.above K9 hq, by omega, by omega, by omega, by omega⟩
            rw [hlen, List.map_append]
            exact (((((hown6.setBelow (show w2.heap.size < w2.heap.size + 1 by omega) _).setBelow (show w.heap.size < w2.heap.size + 1 by omega) _).setBelow (show w.heap.size < w2.heap.size + 1 by omega) _).setBelow (show w.heap.size < w2.heap.size + 1 by omega) _).base (by omega)).top (by simp)
          · go_wp2_with fail
            have K9 : Below w.heap.size w5 (((w5.setCell ⟨w.heap.size, 0, none⟩ (.int .i64 0)).setCell ⟨w.heap.size, 1, none⟩ (.int .i64 0)).setCell ⟨w.heap.size, 2, none⟩ (.slice none 0 0)) :=
              (((Below.refl w.heap.size w5).setCell (Nat.le_refl _) _).setCell (Nat.le_refl _) _).setCell (Nat.le_refl _) _
            exact bodyPost_ret (v := .agg #[.int .i64 0, .int .i64 0, .slice none 0 0]) (by simp [results, Try.results57, go_sem, c1, c2, c3]) rfl ⟨0, 0, [], none, 0, pp + 2, rfl, own_nil _ _ _ _, grown_then G5 K9 (Nat.le_refl _), by simp, by omega, h5.above K9 hq, by omega, by omega, by omega, by omega⟩
          · have B0 : Below w2.heap.size w5 (((w5.setCell ⟨w2.heap.size, 0, none⟩ (.int .i64 6)).setCell ⟨w2.heap.size, 1, none⟩ (.int .i64 6)).setCell ⟨w2.heap.size, 2, none⟩ (.slice none 0 0)) :=
              (((Below.refl w2.heap.size w5).setCell (Nat.le_refl _) _).setCell (Nat.le_refl _) _).setCell (Nat.le_refl _) _
            have X0 := ((hx5.set0 (.int .i64 6)).set1 (.int .i64 6)).set2 (.slice none 0 0)
            have TX0 := ((htx5.setCell ⟨w2.heap.size, 0, none⟩ (.int .i64 6)).setCell ⟨w2.heap.size, 1, none⟩ (.int .i64 6)).setCell ⟨w2.heap.size, 2, none⟩ (.slice none 0 0)
            have R0 := hr5.keep (B0.block w.heap.size (by omega))
            have T0 := ht5.keep (B0.block w.heap.size (by omega)) B0.size
            have hz0 := TX0.1
            clear hown5 HXL
            go_wp2_with fail
            go_loopw [8] (fun i wr => ∃ (j : Nat) (D' : Option Addr) (d' : Nat), j ≤ 36 ∧ i = .int .i64 j ∧ Own wr (w2.heap.size + 1) wr.heap.size 4 D' j d' (List.replicate j (.bool true)) ∧ Below w2.heap.size w5 wr ∧
                Thaw wr w.heap.size ∧ Box wr w.heap.size (.int .i64 0) (.int .i64 0) (.slice none 0 0) ∧ Thaw wr w2.heap.size ∧ Box wr w2.heap.size (.int .i64 6) (.int .i64 6) (.slice D' j d')) (fun i _ => 36 - (intOf i).toNat)
            case atStart => exact ⟨0, none, 0, by omega, rfl, own_nil _ _ _ _, B0, T0, R0, TX0, X0⟩
            case round =>
              clear B0 X0 TX0 R0 T0 hz0 hx5 htx5 ht5 hr5 a1 a2 a3 c1 c2 c3 f0 f1 f2 g0 g1 g2 l5 m5
              obtain ⟨j, D', d', hj, rfl, hown, hb, ht, hr, htx, hx⟩ := hrel
              have k1 := hx.1
              have k2 := hx.2.1
              have k3 := hx.2.2
              have hz := htx.1
              by_cases hlt : j < 36
              · go_wp2_with (at_builtin; refine wpList_append1 rfl _ _ 32 rfl 4 (.bool false) 1 Try.underlying32 Try.infoBool rfl (hown.alloc (.cells #[.bool true] 4)) rfl wr.heap.size (.bool true) rfl (cell0_new _ _ _) rfl (by omega) (by omega) (by simp; omega) ?_; intro D2 d2 w6 hown6 hg6 hn6; have K6 : Below (w2.heap.size + 1) wr w6 := ((Below.refl _ _).alloc (by omega) _).trans ((hown.alloc _).grownBelow hg6 (by simp; omega)); have hx6 := (hx.keep (K6.block w2.heap.size (by omega))); have htx6 := (htx.keep (K6.block w2.heap.size (by omega)) K6.size); have hr6 := (hr.keep (K6.block w.heap.size (by omega))); have ht6 := (ht.keep (K6.block w.heap.size (by omega)) K6.size); have q3 := hx6.2.2; have q4 := htx6.2 2)
                go_roundw
                case rel =>
                  have K7 : Below w2.heap.size wr (w6.setCell ⟨w2.heap.size, 2, none⟩ (.slice D2 (j + 1) d2)) := (K6.mono (show w2.heap.size ≤ w2.heap.size + 1 by omega)).setCell (Nat.le_refl _) _
                  refine ⟨j + 1, D2, d2, by omega, by go_num, ?_, hb.trans K7, ht6.setCell _ _, hr6.setFar hne _, htx6.setCell _ _, hx6.set2 _⟩
                  rw [List.replicate_succ']
                  exact (hown6.setBelow (show w2.heap.size < w2.heap.size + 1 by omega) _).top (by simp)
                case measure => simp [intOf]; omega
              · have e : j = 36 := by omega
                subst e
                have c1 := hr.1
                have c2 := hr.2.1
                have c3 := hr.2.2
                have f0 := ht.2 0
                have f1 := ht.2 1
                have f2 := ht.2 2
                go_wp2_with fail
                have K9 : Below w.heap.size w5 (((wr.setCell ⟨w.heap.size, 0, none⟩ (.int .i64 6)).setCell ⟨w.heap.size, 1, none⟩ (.int .i64 6)).setCell ⟨w.heap.size, 2, none⟩ (.slice D' 36 d')) :=
                  (((hb.mono (show w.heap.size ≤ w2.heap.size by omega)).setCell (Nat.le_refl _) _).setCell (Nat.le_refl _) _).setCell (Nat.le_refl _) _
                refine bodyPost_ret (v := .agg #[.int .i64 6, .int .i64 6, .slice D' (List.replicate 36 true).length d']) (by rw [List.length_replicate]; simp [results, Try.results57, go_sem, c1, c2, c3]) rfl ⟨6, 6, List.replicate 36 true, D', d', pp + 2, rfl, ?_, grown_then G5 K9 (Nat.le_refl _), by simp, by omega, h5.above K9 hq, by omega, by omega, by omega, by omega⟩
                rw [List.length_replicate, List.map_replicate]
                exact ((((hown.setBelow (show w.heap.size < w2.heap.size + 1 by omega) _).setBelow (show w.heap.size < w2.heap.size + 1 by omega) _).setBelow (show w.heap.size < w2.heap.size + 1 by omega) _).base (by omega)).top (by simp)

end Go.Proofs.Ytepnhhehfkcgkaa
