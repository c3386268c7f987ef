/-
  The laws' drawn matrices: l20Matrix: it ends, and gives back a matrix of its own.
-/
import Derived.Test.YtepnhhehfkcgkaaDraw
import Derived.Test.YtepnhhehfkcgkaaApp
import Derived.Test.YtepnhhehfkcgkaaMat
import Derived.Deep.LoopGhost
namespace Go.Proofs.Ytepnhhehfkcgkaa
open Go.RowKit

/-- A row of a drawn matrix: ints in a block from base on, which is not the block of D. -/
def RowV (wx : World) (base L : Nat) (D : Option Addr) (v : Value) : Prop :=
  ∃ (g : Option Addr) (m cc : Nat), v = .slice g m cc ∧ (L ≤ m ∧ m ≤ 6) ∧ (0 < m → ∃ b, g = some ⟨b, 0, none⟩ ∧ base ≤ b ∧ (∀ off, D ≠ some ⟨b, off, none⟩) ∧ Thaw wx b ∧ ∀ i, i < m → ∃ z : Int, wx.cell? ⟨b, i, none⟩ = some (.int .i64 z))
theorem RowV.grown {wx w' : World} {base L : Nat} {D : Option Addr} {v : Value} {row : Option Nat} (h : RowV wx base L D v) (hg : wx.grownBy w' row) (hne : ∀ b, base ≤ b → (∀ off, D ≠ some ⟨b, off, none⟩) → some b ≠ row) : RowV w' base L D v := by
  obtain ⟨g, m, cc, rfl, hm, hr⟩ := h
  refine ⟨g, m, cc, rfl, hm, fun h0 => ?_⟩
  obtain ⟨b, rfl, hb, hD, hT, hc⟩ := hr h0
  have hk := hg.block b hT.1 (hne b hb hD)
  exact ⟨b, rfl, hb, hD, hT.keep hk hg.size, fun i hi => (hc i hi).imp fun z hz => (World.cell?_of_block (w := wx) hk).trans hz⟩
/-- A matrix that was drawn. -/
def MI (wx : World) (base L : Nat) (D : Option Addr) (k dc : Nat) : Prop :=
  ∃ vs : List Value, Own wx base wx.heap.size 39 D k dc vs ∧ ∀ v ∈ vs, RowV wx base L D v
theorem MI.nil (wx : World) (base L : Nat) : MI wx base L none 0 0 := ⟨[], own_nil _ _ _ _, fun v h => by cases h⟩
theorem MI.grown {wx w' : World} {base L k dc : Nat} {D : Option Addr} {row : Option Nat} (h : MI wx base L D k dc) (hg : wx.grownBy w' row) (hne : ∀ b, base ≤ b → b < wx.heap.size → some b ≠ row) : MI w' base L D k dc := by
  obtain ⟨vs, o, hr⟩ := h
  refine ⟨vs, (o.grown hg (fun b off hA => hne b (o.2 b off hA).1 (o.2 b off hA).2)).top hg.size, fun v hv => ?_⟩
  obtain ⟨g, m, cc, rfl, hm, hr⟩ := hr v hv
  refine ⟨g, m, cc, rfl, hm, fun h0 => ?_⟩
  obtain ⟨b, rfl, hb, hD, hT, hc⟩ := hr h0
  have hk := hg.block b hT.1 (hne b hb hT.1)
  exact ⟨b, rfl, hb, hD, hT.keep hk hg.size, fun i hi => (hc i hi).imp fun z hz => (World.cell?_of_block (w := wx) hk).trans hz⟩
theorem MI.dlt {wx : World} {base L k dc : Nat} {D : Option Addr} (h : MI wx base L D k dc) : ∀ b off, D = some ⟨b, off, none⟩ → b < wx.heap.size := by
  obtain ⟨vs, o, -⟩ := h; exact fun b off hA => (o.2 b off hA).2
theorem MI.cap {wx : World} {base L k dc : Nat} {D : Option Addr} (h : MI wx base L D k dc) : k ≤ dc := by
  obtain ⟨vs, o, -⟩ := h; exact o.cap
theorem rows_choose {P : Nat → List Int → Prop} : ∀ k : Nat, (∀ j, j < k → ∃ row, P j row) → ∃ M : List (List Int), M.length = k ∧ ∀ j row, M[j]? = some row → P j row
  | 0, _ => ⟨[], rfl, fun j row h => by simp at h⟩
  | k + 1, h => by
    obtain ⟨M, hM, hP⟩ := rows_choose k (fun j hj => h j (by omega))
    obtain ⟨row, hr⟩ := h k (by omega)
    refine ⟨M ++ [row], by simp [hM], fun j r hj => ?_⟩
    by_cases hjk : j < M.length
    · rw [List.getElem?_append_left hjk] at hj; exact hP j r hj
    · rw [List.getElem?_append_right (by omega)] at hj
      have : j - M.length = 0 := by have := lt_of_get hj; simp at this; omega
      rw [this] at hj
      simp at hj
      subst hj
      rw [show j = k by omega]; exact hr
theorem ints_choose {P : Nat → Int → Prop} : ∀ k : Nat, (∀ j, j < k → ∃ z, P j z) → ∃ zs : List Int, zs.length = k ∧ ∀ j z, zs[j]? = some z → P j z
  | 0, _ => ⟨[], rfl, fun j row h => by simp at h⟩
  | k + 1, h => by
    obtain ⟨M, hM, hP⟩ := ints_choose k (fun j hj => h j (by omega))
    obtain ⟨row, hr⟩ := h k (by omega)
    refine ⟨M ++ [row], by simp [hM], fun j r hj => ?_⟩
    by_cases hjk : j < M.length
    · rw [List.getElem?_append_left hjk] at hj; exact hP j r hj
    · rw [List.getElem?_append_right (by omega)] at hj
      have : j - M.length = 0 := by have := lt_of_get hj; simp at this; omega
      rw [this] at hj
      simp at hj
      subst hj
      rw [show j = k by omega]; exact hr
/-- It reads as rows of ints. -/
theorem MI.mx {wx : World} {base L k dc : Nat} {D : Option Addr} (h : MI wx base L D k dc) : ∃ M, Mx wx D k M := by
  obtain ⟨vs, o, hr⟩ := h
  have hs := o.sl
  have hl := hs.1
  obtain ⟨M, hM, hP⟩ := rows_choose (P := fun j row => ∃ b off r c, D = some ⟨b, off, none⟩ ∧ wx.cell? ⟨b, off + j, none⟩ = some (.slice r row.length c) ∧ Sl wx r row.length (row.map (.int .i64)) ∧ row.length ≤ 9223372036854775807) k (fun j hj => by
    obtain ⟨b, off, v, hA, hv, hc⟩ := hs.at_ hj
    obtain ⟨g, m, cc, rfl, hm, hrow⟩ := hr v (List.mem_of_getElem? hv)
    by_cases h0 : 0 < m
    · obtain ⟨bb, rfl, -, -, -, hcs⟩ := hrow h0
      obtain ⟨zs, hz, hzs⟩ := ints_choose m hcs
      refine ⟨zs, b, off, some ⟨bb, 0, none⟩, cc, hA, by rw [hz]; exact hc, ⟨by simp, fun _ => ⟨bb, 0, rfl, fun i v hv => ?_⟩⟩, by omega⟩
      rw [List.getElem?_map] at hv
      cases hx : zs[i]? with
      | none => rw [hx] at hv; cases hv
      | some x => rw [hx] at hv; simp only [Option.map_some, Option.some.injEq] at hv; subst hv; rw [Nat.zero_add]; exact hzs i x hx
    · exact ⟨[], b, off, g, cc, hA, by rw [show m = 0 by omega] at hc; exact hc, ⟨rfl, fun h => absurd h (by simp)⟩, by simp⟩)
  exact ⟨M, hM, fun j row hj => hP j row hj⟩

/-- A row appended. -/
theorem MI.push {wx w5 : World} {base L b0 k dc dc2 m rc : Nat} {D D2 R : Option Addr} {vs : List Value} {zs : List Int} (o : Own wx base wx.heap.size 39 D k dc vs) (hv : ∀ v ∈ vs, RowV wx base L D v) (hr : Own wx b0 wx.heap.size 3 R m rc (zs.map (.int .i64))) (hm : L ≤ m ∧ m ≤ 6) (hb0 : base ≤ b0) (hD : ∀ b off, D = some ⟨b, off, none⟩ → b < b0)
    (O5 : Own w5 base w5.heap.size 39 D2 (k + 1) dc2 (vs ++ [.slice R m rc])) (hg5 : (wx.alloc (.cells #[.slice R m rc] 39)).grownBy w5 (D.map (·.block))) (hn5 : Near D D2 (wx.alloc (.cells #[.slice R m rc] 39)).heap.size) : MI w5 base L D2 (k + 1) dc2 := by
  have hG : wx.grownBy w5 (D.map (·.block)) := grown_trans (grown_below (below1 wx _) _) hg5
  have far : ∀ b, (∀ off, D ≠ some ⟨b, off, none⟩) → b < wx.heap.size → (some b ≠ D.map (·.block)) ∧ (∀ off, D2 ≠ some ⟨b, off, none⟩) := by
    intro b hb hlt
    refine ⟨fun e => ?_, fun off e => ?_⟩
    · rcases o.1.2 with ⟨h0, _⟩ | ⟨g, cap, cur, h0, _⟩
      · injection h0 with h0 _ _; subst h0; cases e
      · injection h0 with h0 _ _; subst h0; simp at e; subst e; exact hb 0 rfl
    · rcases hn5 with rfl | rfl
      · exact hb off e
      · simp at e <;> omega
  refine ⟨_, O5, fun v hv' => ?_⟩
  rw [List.mem_append] at hv'
  rcases hv' with hv' | hv'
  · obtain ⟨g, m', cc, rfl, hm', hrow⟩ := hv v hv'
    refine ⟨g, m', cc, rfl, hm', fun h0 => ?_⟩
    obtain ⟨b, rfl, hb, hDb, hT, hc⟩ := hrow h0
    obtain ⟨f1, f2⟩ := far b hDb hT.1
    have hk := hG.block b hT.1 f1
    exact ⟨b, rfl, hb, f2, hT.keep hk hG.size, fun i hi => (hc i hi).imp fun z hz => (World.cell?_of_block (w := wx) hk).trans hz⟩
  · simp only [List.mem_singleton] at hv'
    subst hv'
    refine ⟨R, m, rc, rfl, hm, fun h0 => ?_⟩
    obtain ⟨g, rfl, hg, hgt⟩ := hr.form h0
    obtain ⟨f1, f2⟩ := far g (fun off e => by have := hD g off e; omega) hgt
    have hk := hG.block g hgt f1
    have hT : Thaw wx g := ⟨hgt, fun i => hr.frozen i⟩
    refine ⟨g, rfl, by omega, f2, hT.keep hk hG.size, fun i hi => ?_⟩
    obtain ⟨b, off, x, hA, -, hc⟩ := hr.sl.atI hi
    injection hA with hA
    injection hA with h1 h2 _
    subst h1 h2
    rw [Nat.zero_add] at hc
    exact ⟨x, (World.cell?_of_block (w := wx) hk).trans hc⟩

theorem MI.weak {wx : World} {base L k dc : Nat} {D : Option Addr} (h : MI wx base L D k dc) : MI wx base 0 D k dc := by
  obtain ⟨vs, o, hr⟩ := h
  refine ⟨vs, o, fun v hv => ?_⟩
  obtain ⟨g, m, cc, rfl, hm, hrow⟩ := hr v hv
  exact ⟨g, m, cc, rfl, ⟨Nat.zero_le _, hm.2⟩, hrow⟩
/-- A store of an int into a row. -/
theorem MI.store {wx : World} {base L k dc g : Nat} {D : Option Addr} (h : MI wx base L D k dc) (hg : ∀ off, D ≠ some ⟨g, off, none⟩) (z : Int) : MI (wx.setCell ⟨g, 0, none⟩ (.int .i64 z)) base L D k dc := by
  obtain ⟨vs, o, hr⟩ := h
  refine ⟨vs, (o.setFar (fun b off hA => fun e => hg off (by rw [hA]; simp at e; rw [e])) _).top (by simp), fun v hv => ?_⟩
  obtain ⟨g', m, cc, rfl, hm, hrow⟩ := hr v hv
  refine ⟨g', m, cc, rfl, hm, fun h0 => ?_⟩
  obtain ⟨b, rfl, hb, hD, hT, hc⟩ := hrow h0
  refine ⟨b, rfl, hb, hD, hT.setCell _ _, fun i hi => ?_⟩
  obtain ⟨x, hx⟩ := hc i hi
  by_cases e : b = g ∧ i = 0
  · obtain ⟨rfl, rfl⟩ := e
    exact ⟨z, World.cell?_setCell_same _ _ _ hx⟩
  · refine ⟨x, ?_⟩
    rw [World.cell?_setCell_other _ _ _ _ (by simp; omega)]; exact hx
/-- The first row's first number. -/
theorem MI.head {wx : World} {base L k dc : Nat} {D : Option Addr} (h : MI wx base L D k dc) (hL : 0 < L) (hk : 0 < k) : ∃ (b g m cc : Nat) (z : Int), D = some ⟨b, 0, none⟩ ∧ wx.cell? ⟨b, 0, none⟩ = some (.slice (some ⟨g, 0, none⟩) m cc) ∧ 0 < m ∧ m ≤ 6 ∧ base ≤ g ∧ (∀ off, D ≠ some ⟨g, off, none⟩) ∧ wx.cell? ⟨g, 0, none⟩ = some (.int .i64 z) ∧ wx.frozen? ⟨g, 0, none⟩ = false := by
  obtain ⟨vs, o, hr⟩ := h
  obtain ⟨b, hA, -, -⟩ := o.form hk
  obtain ⟨b', off, v, hA', hv, hc⟩ := o.sl.at_ hk
  rw [hA] at hA'
  injection hA' with h1
  injection h1 with h1 h2 _
  subst h1 h2
  obtain ⟨g', m, cc, rfl, hm, hrow⟩ := hr v (List.mem_of_getElem? hv)
  obtain ⟨g, rfl, hb, hD, hT, hcs⟩ := hrow (by omega)
  obtain ⟨z, hz⟩ := hcs 0 (by omega)
  exact ⟨b, g, m, cc, z, hA, by simpa using hc, by omega, hm.2, hb, hD, hz, hT.2 0⟩

set_option maxRecDepth 100000 in
set_option maxHeartbeats 4000000 in
theorem matrix_any (q : Nat) (A : Option Addr) (n c : Nat) (us : List Int) (p : Nat) (N : Int) (w : World) (h : Rd w q A n c us p) (hp : p ≤ 1000) (hN : 1 ≤ N ∧ N ≤ 1000) (hq : q < w.heap.size) :
    Calls Try.prog 48 #[.pointer (some ⟨q, 0, none⟩), .int .i64 N] w fun e w' => ∃ D k dc, e = .returned (.slice D k dc) ∧ k ≤ dc ∧ k ≤ 7 ∧ MI w' w.heap.size 0 D k dc ∧ w.grownBy w' (some q) := by
  go_enter Try.func48, Try.ntmps48
  go_wp2_with fail
  refine (pick_any q A n c us p 6 _ h (by omega) ⟨by omega, by omega⟩).mono ?_; rintro e w1 ⟨v, rfl, hv0, hv1, hrd, hg⟩
  obtain ⟨S, rfl⟩ := Int.eq_ofNat_of_zero_le hv0
  have hS : S < 6 := by omega
  have z1 := hg.size
  have M0 : MI (w1.alloc (.cells #[] 39)) w.heap.size S (some ⟨w1.heap.size, 0, none⟩) 0 0 := ⟨[], by simpa using Own.made (w := w1) (base := w.heap.size) (e := 39) (cs := #[]) (n := 0) z1 (by unfold maxLen; omega) rfl, fun v h => by cases h⟩
  have G0 : w.grownBy (w1.alloc (.cells #[] 39)) (some q) := grown_trans hg (grown_below (below1 w1 _) _)
  have D0 := hrd.alloc (.cells #[] 39)
  clear hv0 hv1 h hg hrd
  go_wp2_with fail
  go_loopg [6, 7, 8, 9] (S + 1) (fun gk s6 s7 _ _ wx => ∃ (k : Nat) (D : Option Addr) (dc p' : Nat), k ≤ S ∧ gk = S - k + 1 ∧ s6 = .slice D k dc ∧ s7 = .int .i64 k ∧ MI wx w.heap.size S D k dc ∧ Rd wx q A n c us p' ∧ p' ≤ p + 1 + 6 * k ∧ w.grownBy wx (some q))
  case atStart => exact ⟨0, some ⟨w1.heap.size, 0, none⟩, 0, p + 1, Nat.zero_le _, rfl, rfl, rfl, M0, D0, by omega, G0⟩
  case round =>
    clear M0 D0 G0 z1
    obtain ⟨k, D, dc, p', hk, rfl, rfl, rfl, M, hrd, hp', G⟩ := hrel
    obtain ⟨wo, hwo⟩ : ∃ wo, wo = wr := ⟨_, rfl⟩
    subst hwo
    have zo := G.size
    by_cases hlt : k < S
    · have hDlt : Hid (∀ b off, D = some ⟨b, off, none⟩ → b < wo.heap.size) := by
        show ∀ b off, _
        obtain ⟨vs, o, -⟩ := M
        exact fun b off hA => (o.2 b off hA).2
      have HM := Lib.hid M
      have HG := Lib.hid G
      have O0 : Own (wo.alloc (.cells #[] 3)) wo.heap.size (wo.alloc (.cells #[] 3)).heap.size 3 (some ⟨wo.heap.size, 0, none⟩) 0 0 (([] : List Int).map (.int .i64)) := by simpa using Own.made (w := wo) (base := wo.heap.size) (e := 3) (cs := #[]) (n := 0) (Nat.le_refl _) (by unfold maxLen; omega) rfl
      have G1 : wo.grownBy (wo.alloc (.cells #[] 3)) (some q) := grown_below (below1 wo _) _
      have D1 := hrd.alloc (.cells #[] 3)
      clear M G hrd
      go_wp2_with fail
      go_loopg [8, 9] (S + 1) (fun gk s8 s9 wx => ∃ (j : Nat) (R : Option Addr) (rc p2 : Nat) (zs : List Int), j ≤ S ∧ gk = S - j + 1 ∧ s8 = .slice R j rc ∧ s9 = .int .i64 j ∧ Own wx wo.heap.size wx.heap.size 3 R j rc (zs.map (.int .i64)) ∧ Rd wx q A n c us p2 ∧ p2 ≤ p' + j ∧ wo.grownBy wx (some q))
      case atStart => exact ⟨0, some ⟨wo.heap.size, 0, none⟩, 0, p', [], Nat.zero_le _, rfl, rfl, rfl, O0, D1, by omega, G1⟩
      case round =>
        clear O0 D1 G1
        obtain ⟨j, R, rc, p2, zs, hj, rfl, rfl, rfl, O, hrd, hp2, G⟩ := hrel
        have zw := G.size
        by_cases hjS : j < S
        · go_wp2_with fail
          refine (pick_any q A n c us p2 3 _ hrd (by omega) ⟨by omega, by omega⟩).mono ?_; rintro e w4 ⟨v, rfl, hv0, hv1, hrd4, hg4⟩
          have G4 := grown_trans G hg4
          have O4 := (O.grown hg4 (fun b off hA => by have := (O.2 b off hA).1; simp; omega)).top hg4.size
          have z4 := hg4.size
          have hv3 : v < 3 := by omega
          clear O hrd G hg4 hv1
          go_wp2_with (at_builtin; go_loud (refine wpList_append1 rfl _ _ 39 rfl 3 (.int .i64 0) 8 Try.underlying39 Try.infoInt rfl (O4.alloc _) rfl w4.heap.size _ rfl (cell0_new _ _ _) rfl (by omega) (by omega) (by simp; omega) ?_; intro R2 rc2 w5 O5 hg5 hn5))
          have G5 := grown_then (grown_then G4 (below1 w4 (.cells #[.int .i64 (v - 1)] 3)) G4.size) ((O4.alloc (.cells #[.int .i64 (v - 1)] 3)).grownBelow hg5 (by simp; omega)) (Nat.le_refl _)
          have D5 := (hrd4.alloc (.cells #[.int .i64 (v - 1)] 3)).above ((O4.alloc (.cells #[.int .i64 (v - 1)] 3)).grownBelow hg5 (by simp; omega)) (show q < wo.heap.size by omega)
          go_roundg (S - (j + 1) + 1)
          case measure => omega
          case rel => exact ⟨j + 1, R2, rc2, p2 + 1, zs ++ [v - 1], by omega, rfl, rfl, by go_num, by simpa using O5, D5, by omega, G5⟩
        · have ej : j = S := by omega
          subst ej
          have M := MI.grown HM.out G (fun b hb _ => by simp; omega)
          obtain ⟨vs, o, hvs⟩ := M
          have HVS := Lib.hid hvs
          clear hvs
          go_wp2_with (at_builtin; go_loud (refine wpList_append1 rfl _ _ 23 rfl 39 (.slice none 0 0) 24 Try.underlying23 Try.infoInts rfl (o.alloc _) rfl wr.heap.size _ rfl (cell0_new _ _ _) rfl (by omega) (by omega) (by simp; omega) ?_; intro D2 dc2 w5 O5 hg5 hn5))
          have M5 := MI.push o HVS.out O ⟨by omega, by omega⟩ zo hDlt.out O5 hg5 hn5
          have oB := (o.alloc (.cells #[.slice R j rc] 39)).grownBelow hg5 (by simp; omega)
          have D5 := (hrd.alloc (.cells #[.slice R j rc] 39)).above oB hq
          have G5 := grown_then (grown_then (grown_trans HG.out G) (below1 wr (.cells #[.slice R j rc] 39)) (grown_trans HG.out G).size) oB (Nat.le_refl _)
          go_roundg (j - (k + 1) + 1)
          case measure => omega
          case rel => exact ⟨k + 1, D2, dc2, p2, by omega, rfl, rfl, by go_num, M5, D5, by omega, G5⟩
    · have ek : k = S := by omega
      subst ek
      go_wp2_with fail
      refine (odd_any q A n c us p' N _ hrd (by omega) ⟨by omega, by omega⟩).mono ?_; rintro e w4 ⟨bb, rfl, hrd4, hg4⟩
      have G4 := grown_trans G hg4
      have M4 := M.grown hg4 (fun b hb _ => by simp; omega)
      clear M G hrd hg4
      have z4 := G4.size
      cases bb
      · go_wp2_with fail
        go_ret
        exact ⟨D, k, dc, rfl, M4.cap, by omega, M4.weak, G4⟩
      · have HM4 := Lib.hid M4
        by_cases hk0 : 0 < k
        · have HK := Lib.hid hk0
          go_wp2_with (first
            | (go_at_call 79; go_loud (refine (pick_any q A n c us _ 2 _ hrd4 (by omega) ⟨by omega, by omega⟩).mono ?_; rintro e w5 ⟨v, rfl, hv0, hv1, hrd5, hg5⟩; have G5 := grown_trans G4 hg5; have z5 := G5.size; have M5 := HM4.out.grown hg5 (fun b hb _ => by simp; omega); obtain ⟨b, g, m, cc, z, rfl, hc0, hm0, hm6, hbg, hDg, hcz, hfr⟩ := M5.head hk0 hk0; have HDG := Lib.hid hDg; clear hDg; have Xw5 := (M5.weak).grown (grown_below (below1 w5 (.cells #[] 3)) none) (fun b _ _ => by simp); obtain ⟨vs, o, hvs⟩ := Xw5; have HVS := Lib.hid hvs; have HDL := Lib.hid (M5.dlt); clear hvs))
            | (at_builtin; go_loud (refine wpList_append1 rfl _ _ 23 rfl 39 (.slice none 0 0) 24 Try.underlying23 Try.infoInts rfl (o.alloc _) rfl (w5.heap.size + 1) (.slice (some ⟨w5.heap.size, 0, none⟩) 0 0) rfl (by have m := cell0_new (w5.alloc (.cells #[] 3)) (.slice (some ⟨w5.heap.size, 0, none⟩) 0 0) 39; rwa [World.size_alloc] at m) rfl (by omega) (by omega) (by simp; omega) ?_; intro D2 dc2 w6 O6 hg6 hn6)))
          · go_ret
            exact ⟨some ⟨b, 0, none⟩, k, dc, rfl, M5.cap, by omega, (M5.store HDG.out 2).weak, grown_then G5 ((Below.refl w.heap.size w5).setCell hbg _) (Nat.le_refl _)⟩
          · have hR : Own (w5.alloc (.cells #[] 3)) w5.heap.size (w5.alloc (.cells #[] 3)).heap.size 3 (some ⟨w5.heap.size, 0, none⟩) 0 0 (([] : List Int).map (.int .i64)) := by simpa using Own.made (w := w5) (base := w5.heap.size) (e := 3) (cs := #[]) (n := 0) (Nat.le_refl _) (by unfold maxLen; omega) rfl
            have M6 := MI.push o HVS.out hR ⟨Nat.le_refl _, by omega⟩ (by omega) HDL.out O6 hg6 hn6
            have oB := (o.alloc (.cells #[.slice (some ⟨w5.heap.size, 0, none⟩) 0 0] 39)).grownBelow hg6 (by simp; omega)
            have G6 := grown_then (grown_then G5 ((below1 w5 (.cells #[] 3)).alloc (by simp) (.cells #[.slice (some ⟨w5.heap.size, 0, none⟩) 0 0] 39)) G5.size) oB (Nat.le_refl _)
            go_ret
            exact ⟨D2, k + 1, dc2, rfl, M6.cap, by omega, M6, G6⟩
        · obtain rfl : k = 0 := by omega
          have Xw4 := (M4.weak).grown (grown_below (below1 w4 (.cells #[] 3)) none) (fun b _ _ => by simp); obtain ⟨vs, o, hvs⟩ := Xw4; have HVS := Lib.hid hvs; have HDL := Lib.hid (M4.dlt); clear hvs
          go_wp2_with (at_builtin; go_loud (refine wpList_append1 rfl _ _ 23 rfl 39 (.slice none 0 0) 24 Try.underlying23 Try.infoInts rfl (o.alloc _) rfl (w4.heap.size + 1) (.slice (some ⟨w4.heap.size, 0, none⟩) 0 0) rfl (by have m := cell0_new (w4.alloc (.cells #[] 3)) (.slice (some ⟨w4.heap.size, 0, none⟩) 0 0) 39; rwa [World.size_alloc] at m) rfl (by omega) (by omega) (by simp; omega) ?_; intro D2 dc2 w6 O6 hg6 hn6))
          have hR : Own (w4.alloc (.cells #[] 3)) w4.heap.size (w4.alloc (.cells #[] 3)).heap.size 3 (some ⟨w4.heap.size, 0, none⟩) 0 0 (([] : List Int).map (.int .i64)) := by simpa using Own.made (w := w4) (base := w4.heap.size) (e := 3) (cs := #[]) (n := 0) (Nat.le_refl _) (by unfold maxLen; omega) rfl
          have M6 := MI.push o HVS.out hR ⟨Nat.le_refl _, by omega⟩ (by omega) HDL.out O6 hg6 hn6
          have oB := (o.alloc (.cells #[.slice (some ⟨w4.heap.size, 0, none⟩) 0 0] 39)).grownBelow hg6 (by simp; omega)
          have G6 := grown_then (grown_then G4 ((below1 w4 (.cells #[] 3)).alloc (by simp) (.cells #[.slice (some ⟨w4.heap.size, 0, none⟩) 0 0] 39)) G4.size) oB (Nat.le_refl _)
          go_ret
          exact ⟨D2, 0 + 1, dc2, rfl, M6.cap, by omega, M6, G6⟩
end Go.Proofs.Ytepnhhehfkcgkaa
