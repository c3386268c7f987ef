/-
  count, total and TilingsMany of the program: what they return.
-/
import Derived.Test.YtcnkpcnbobiodaaCntX
import Derived.Laws.EntriesVeiled
namespace Go.Proofs.Ytcnkpcnbobiodaa
open Go.RowKit
open Til (on to cntA avC avL)

set_option maxRecDepth 100000 in
set_option maxHeartbeats 2000000 in
theorem count_any (A : Option Addr) (n c W T : Nat) (bs : List Bool) (B : Option Addr) (d : Nat) (zs : List Int) (w : World) (V : Valid W T n bs) (h : Sl w A n (bs.map .bool)) (h' : Sl w B n (zs.map (.int .i64))) :
    Calls Try.prog 57 #[.agg #[.int .i64 W, .int .i64 T, .slice A n c], .slice B n d] w fun e w' => e = .returned (.int .i64 (cntA W T n 0 (avL bs zs))) ∧ Below w.heap.size w w' := by
  have n36 := V.n36
  have hmm := @run_makeMap Try.prog
  have hmk := run_make_row' (P := Try.prog) 22 4 (.bool false) 1 Try.underlying22 Try.infoBool rfl .i64 .i64 n (by omega) (by omega)
  have hmf : ∀ (fn : Fn) (first cap : Array Value) (w : World), (Instr.makeFunc fn first cap).run Try.prog w = .ok (.func fn first cap) w := fun _ _ _ _ => rfl
  have hl := h'.1
  rw [List.length_map] at hl
  have HL := Lib.hid hl
  clear hl
  obtain ⟨p3, hp3⟩ : ∃ p3, ((w.alloc (.cells #[.int .i64 W, .int .i64 T, .slice A n c] 27)).alloc (.map #[] 0)).alloc (.cells #[.map (some (w.heap.size + 1))] 73) = p3 := ⟨_, rfl⟩
  have z3 : p3.heap.size = w.heap.size + 1 + 1 + 1 := by rw [← hp3]; simp
  have x3 : Box p3 w.heap.size (.int .i64 W) (.int .i64 T) (.slice A n c) := by rw [← hp3]; exact ((Box.new w (.int .i64 W) (.int .i64 T) (.slice A n c) 27).alloc _).alloc _
  have m3 : p3.ownsMap Try.prog 9 (plainElem Try.prog 3) (w.heap.size + 1) 0 (.map [] : DataW Unit) := by
    rw [← hp3]
    have := (World.ownsMap_made (H := Unit) (w.alloc (.cells #[.int .i64 W, .int .i64 T, .slice A n c] 27)) Try.prog 9 (plainElem Try.prog 3)).alloc (.cells #[.map (some (w.heap.size + 1))] 73)
    simpa using this
  have k3 : p3.cell? ⟨w.heap.size + 1 + 1, 0, none⟩ = some (.map (some (w.heap.size + 1))) := by
    rw [← hp3]
    have := cell0_new ((w.alloc (.cells #[.int .i64 W, .int .i64 T, .slice A n c] 27)).alloc (.map #[] 0)) (.map (some (w.heap.size + 1))) 73
    simpa using this
  have b3 : Below w.heap.size w p3 := by rw [← hp3]; exact belowA (belowA (below1 w _))
  have WI0 : ∀ p4, p4 = p3.alloc (.cells #[.func (.func 90) #[] #[.pointer (some ⟨w.heap.size, 0, none⟩), .pointer (some ⟨w.heap.size + 1 + 1, 0, none⟩), .pointer (some ⟨w.heap.size + 1 + 1 + 1, 0, none⟩)]] 50) →
      WI (w.heap.size + 1) w.heap.size (w.heap.size + 1 + 1) (w.heap.size + 1 + 1 + 1) W T A n c bs 0 p4 ∧ Below w.heap.size w p4 ∧ p4.heap.size = w.heap.size + 1 + 1 + 1 + 1 := by
    intro p4 h4
    have B4 : Below p3.heap.size p3 p4 := by rw [h4]; exact below1 p3 _
    have bw4 := belowW b3 B4
    refine ⟨⟨x3.below B4, (World.cell?_of_block (w := p3) (B4.block (w.heap.size + 1 + 1) (by omega))).trans k3, ?_, ⟨_, m3.kept (grown_below B4 none) (by simp), MInv.nil W T bs⟩, h.below bw4, by omega, by omega, by omega, fun b off hA => ?_⟩, bw4, by rw [h4]; simp [z3]⟩
    · rw [h4, ← z3]
      exact cell0_new p3 _ _
    · obtain ⟨b', off', hA', hlt⟩ := h.block (by
        rcases Nat.eq_zero_or_pos n with h0 | h0
        · have := V.size; have := Nat.mul_pos V.w0 V.t0; omega
        · exact h0)
      rw [hA'] at hA; injection hA with hA; injection hA with h1 _ _; omega
  rw [← hp3] at WI0
  have W0 := Lib.hid WI0
  clear hp3 z3 x3 m3 k3 b3 WI0
  go_enter Try.func57, Try.ntmps57
  go_wp2_with fail
  obtain ⟨p4, hp4⟩ : ∃ p4, (((w.alloc (.cells #[.int .i64 W, .int .i64 T, .slice A n c] 27)).alloc (.map #[] 0)).alloc (.cells #[.map (some (w.heap.size + 1))] 73)).alloc (.cells #[.func (.func 90) #[] #[.pointer (some ⟨w.heap.size, 0, none⟩), .pointer (some ⟨w.heap.size + 1 + 1, 0, none⟩), .pointer (some ⟨w.heap.size + 1 + 1 + 1, 0, none⟩)]] 50) = p4 := ⟨_, rfl⟩
  obtain ⟨I0, B0, Z0⟩ := W0.out p4 hp4.symm
  rw [hp4]
  have O0 := Own.made (w := p4) (base := p4.heap.size) (e := 4) (cs := madeCells #[.bool false] n) (n := n) (Nat.le_refl _) (by unfold maxLen; omega) (by rw [← Array.length_toList, toList_madeCells_one, List.length_replicate])
  rw [toList_madeCells_one, Z0] at O0
  have HZ0 := Lib.hid Z0
  clear hp4 W0 hmm hmk hmf Z0
  go_loopg [8, 9, 18] n (fun gk _ _ iv wx => ∃ i : Nat, i ≤ n ∧ gk = n - i ∧ iv = .int .i64 i ∧ Own wx (w.heap.size + 1 + 1 + 1 + 1) (w.heap.size + 1 + 1 + 1 + 1 + 1) 4 (some ⟨w.heap.size + 1 + 1 + 1 + 1, 0, none⟩) n n (((zs.take i).map (fun z => z != 0) ++ List.replicate (n - i) false).map .bool) ∧ Below p4.heap.size p4 wx)
  case atStart => exact ⟨0, Nat.zero_le _, rfl, rfl, by simpa using O0, below1 p4 _⟩
  case round =>
    clear O0
    obtain ⟨i, hi, rfl, rfl, O, hB4⟩ := hrel
    have hB := belowW B0 hB4
    by_cases hlt : i < n
    · obtain ⟨b, off, z, rfl, hz, hc⟩ := (h'.below hB).atI hlt
      have hfr := O.frozen i
      obtain ⟨u1, c1⟩ := O.cellAt hlt
      have O2 := O.stored i hlt (.bool (z != 0))
      have B2 := hB4.setCell (p := ⟨w.heap.size + 1 + 1 + 1 + 1, i, none⟩) (show p4.heap.size ≤ w.heap.size + 1 + 1 + 1 + 1 by rw [HZ0.out]; exact Nat.le_refl _) (.bool (z != 0))
      have HZ := Lib.hid hz
      clear hz
      go_wp2_with fail
      go_roundg (n - (i + 1))
      case measure => omega
      case rel =>
        refine ⟨i + 1, by omega, rfl, by go_num, ?_, B2⟩
        have hl : (((zs.take i).map (fun z => z != 0)).map Value.bool).length = i := by have := HL.out; simp; omega
        rw [take_snoc HZ.out]
        rw [List.map_append, List.set_append_right _ _ (by omega), hl, Nat.sub_self, show n - i = (n - (i + 1)) + 1 by omega, List.replicate_succ, List.map_cons, List.set_cons_zero] at O2
        simpa using O2
    · have e : i = n := by omega
      subst e
      rw [Nat.sub_self, List.replicate_zero, List.append_nil, List.take_of_length_le (by rw [HL.out]; exact Nat.le_refl _)] at O
      have I := I0.below hB4
      have k5 := I.F
      have HC := Lib.hid (walk_any (w.heap.size + 1) w.heap.size (w.heap.size + 1 + 1) (w.heap.size + 1 + 1 + 1) W T A i c bs V i 0 (some ⟨w.heap.size + 1 + 1 + 1 + 1, 0, none⟩) i 0 (zs.map fun z => z != 0) wr (by omega) I O.sl (fun b off hA => by injection hA with hA; injection hA with h1 _ _; omega) (Nat.le_refl _) (by have := pow36 n36; omega))
      go_wp2_with fail
      refine HC.out.mono ?_; rintro e w10 ⟨rfl, -, hg10⟩
      go_wp2_with fail
      go_ret
      exact ⟨rfl, hB.grown hg10 hB.size (fun j hj => by simp at hj; omega)⟩

end Go.Proofs.Ytcnkpcnbobiodaa
