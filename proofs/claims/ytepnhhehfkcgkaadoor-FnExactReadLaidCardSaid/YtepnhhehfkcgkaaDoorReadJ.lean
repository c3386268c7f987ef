/-
  Reading texts of rows: what lies in memory while the program reads. (plain)
-/
import Derived.Test.YtepnhhehfkcgkaaDoorReadM
namespace Go.Proofs.YtepnhhehfkcgkaaDoor
open Go.RowKit

def bV (o : Option UInt8) : Value := .int .u8 ((o.getD 0).toNat : Int)
def oV (o : Option UInt8) : Value := .bool ((o.map onS).getD false)
/-- The signs of the i rows from the north on, in their places' order. -/
def sufL (r : List (List UInt8)) (i : Nat) : List UInt8 := (r.take i).reverse.flatten
theorem sufL_zero (r : List (List UInt8)) : sufL r 0 = [] := rfl
theorem sufL_full (r : List (List UInt8)) : sufL r r.length = signsL r := by rw [sufL, signsL, List.take_length]
theorem sufL_succ {r : List (List UInt8)} {i : Nat} {x : List UInt8} (hx : r[i]? = some x) : sufL r (i + 1) = x ++ sufL r i := by
  rw [sufL, take_snoc hx, List.reverse_append, List.flatten_append]; simp [sufL]
/-- What is filled in when i rows lie behind. -/
def outA (T W : Nat) (r : List (List UInt8)) (i : Nat) : List (Option UInt8) := List.replicate ((T - i) * W) none ++ (sufL r i).map some
/-- The same within a row: a places are left south of it; j signs of the row x are in. -/
def arrA (a W j : Nat) (x q : List UInt8) : List (Option UInt8) := List.replicate a none ++ ((x.take j).map some ++ (List.replicate (W - j) none ++ q.map some))
theorem arr_zero {T W i : Nat} (r : List (List UInt8)) (x : List UInt8) (hi : i < T) : outA T W r i = arrA ((T - 1 - i) * W) W 0 x (sufL r i) := by
  rw [outA, arrA, List.take_zero, List.map_nil, List.nil_append, Nat.sub_zero, ← List.append_assoc, List.replicate_append_replicate, ← Nat.succ_mul, show (T - 1 - i).succ = T - i by omega]
theorem arr_full {T W i : Nat} {r : List (List UInt8)} {x : List UInt8} (hl : x.length = W) (hx : r[i]? = some x) : arrA ((T - 1 - i) * W) W W x (sufL r i) = outA T W r (i + 1) := by
  rw [outA, arrA, sufL_succ hx, Nat.sub_self, List.replicate_zero, List.nil_append, List.take_of_length_le (by omega), ← List.map_append, show T - (i + 1) = T - 1 - i by omega]
theorem arr_set {a W j : Nat} {x q : List UInt8} {c : UInt8} (hj : j < W) (hc : x[j]? = some c) : (arrA a W j x q).set (a + j) (some c) = arrA a W (j + 1) x q := by
  have hl : j ≤ x.length := by have := lt_of_get hc; omega
  rw [arrA, List.set_append_right _ _ (by simp), List.length_replicate, Nat.add_sub_cancel_left, List.set_append_right _ _ (by simp; omega), List.length_map, List.length_take, show j - min j x.length = 0 by omega,
    show W - j = (W - (j + 1)) + 1 by omega, List.replicate_succ, List.cons_append, List.set_cons_zero, arrA, take_snoc hc, List.map_append, List.append_assoc]; rfl
theorem out_zero (T W : Nat) (r : List (List UInt8)) : outA T W r 0 = List.replicate (W * T) none := by rw [outA, sufL_zero, Nat.sub_zero, Nat.mul_comm]; simp
theorem out_full (W : Nat) (r : List (List UInt8)) : outA r.length W r r.length = (signsL r).map some := by rw [outA, sufL_full, Nat.sub_self]; simp
theorem map_oV (l : List UInt8) : (l.map some).map oV = (l.map onS).map .bool := by rw [List.map_map, List.map_map]; rfl
theorem map_bV (l : List UInt8) : (l.map some).map bV = l.map fun c => .int .u8 (c.toNat : Int) := by rw [List.map_map]; rfl

structure Rq (w : World) (b g gc T m : Nat) (vs : List Value) (W : Int) (Lc Ls : List (Option UInt8)) (wx : World) : Prop where
  rows : Sl wx (some ⟨g, 0, none⟩) T vs
  gz : w.heap.size + 1 ≤ g
  gb : g < gc
  cb : gc < b
  Z : Box wx w.heap.size (.int .i64 0) (.int .i64 0) (.slice none 0 0)
  TZ : Thaw wx w.heap.size
  X : Box wx b (.int .i64 W) (.int .i64 T) (.slice (some ⟨gc, 0, none⟩) m m)
  cells : Own wx (w.heap.size + 1) b 4 (some ⟨gc, 0, none⟩) m m (Lc.map oV)
  signs : Own wx (b + 1) (b + 2) 5 (some ⟨b + 1, 0, none⟩) m m (Ls.map bV)
  B : Below w.heap.size w wx
  sz : b + 2 ≤ wx.heap.size
section
variable {w wx wy : World} {b g gc T m : Nat} {vs : List Value} {W : Int} {Lc Ls : List (Option UInt8)}
theorem Rq.below (R : Rq w b g gc T m vs W Lc Ls wx) (hb : Below wx.heap.size wx wy) : Rq w b g gc T m vs W Lc Ls wy :=
  ⟨R.rows.below hb, R.gz, R.gb, R.cb, R.Z.below hb, R.TZ.below hb, R.X.below hb, R.cells.below hb, R.signs.below hb, belowW R.B hb, Nat.le_trans R.sz hb.size⟩
theorem Rq.drew (R : Rq w b g gc T m vs W Lc Ls wx) : Rq w b g gc T m vs W Lc Ls wx.drew := ⟨R.rows.drew, R.gz, R.gb, R.cb, R.Z.drew, R.TZ.drew, R.X.drew, R.cells.drew, R.signs.drew, R.B.drew, R.sz⟩
theorem Rq.row (R : Rq w b g gc T m vs W Lc Ls wx) {y : Nat} {v : Value} (h : vs[y]? = some v) : wx.cell? ⟨g, y, none⟩ = some v := by
  have hy : y < T := by have := lt_of_get h; have := R.rows.1; omega
  obtain ⟨b', off', hA, hc⟩ := R.rows.2 (by omega)
  injection hA with hA
  injection hA with h1 h2 _
  subst h1 h2
  have := hc y v h
  rwa [Nat.zero_add] at this
theorem Rq.setS (R : Rq w b g gc T m vs W Lc Ls wx) {k : Nat} (hk : k < m) (c : UInt8) : Rq w b g gc T m vs W Lc (Ls.set k (some c)) (wx.setCell ⟨b + 1, k, none⟩ (.int .u8 (c.toNat : Int))) := by
  have h1 := R.gz
  have h2 := R.gb
  have h3 := R.cb
  refine ⟨R.rows.setFar (fun b' off hA => ?_) _, h1, h2, h3, R.Z.setFar ?_ _, R.TZ.setCell _ _, R.X.setFar ?_ _, R.cells.setFar (fun b' off hA => ?_) _, ?_, R.B.setCell ?_ _, by rw [World.size_setCell]; exact R.sz⟩
  · injection hA with hA; injection hA with h4 _ _; show b' ≠ b + 1; omega
  · show w.heap.size ≠ b + 1; omega
  · show b ≠ b + 1; omega
  · injection hA with hA; injection hA with h4 _ _; show b' ≠ b + 1; omega
  · rw [List.map_set]; exact R.signs.stored k hk _
  · show w.heap.size ≤ b + 1; omega
theorem Rq.setC (R : Rq w b g gc T m vs W Lc Ls wx) {k : Nat} (hk : k < m) (c : UInt8) : Rq w b g gc T m vs W (Lc.set k (some c)) Ls (wx.setCell ⟨gc, k, none⟩ (.bool (onS c))) := by
  have h1 := R.gz
  have h2 := R.gb
  have h3 := R.cb
  refine ⟨R.rows.setFar (fun b' off hA => ?_) _, h1, h2, h3, R.Z.setFar ?_ _, R.TZ.setCell _ _, R.X.setFar ?_ _, ?_, R.signs.setFar (fun b' off hA => ?_) _, R.B.setCell ?_ _, by rw [World.size_setCell]; exact R.sz⟩
  · injection hA with hA; injection hA with h4 _ _; show b' ≠ gc; omega
  · show w.heap.size ≠ gc; omega
  · show b ≠ gc; omega
  · rw [List.map_set]; exact R.cells.stored k hk _
  · injection hA with hA; injection hA with h4 _ _; show b' ≠ gc; omega
  · show w.heap.size ≤ gc; omega
theorem Rq.fin (R : Rq w b g gc T m vs W Lc Ls wx) {v0 v1 v2 : Value} : Below w.heap.size w (((wx.setCell ⟨w.heap.size, 0, none⟩ v0).setCell ⟨w.heap.size, 1, none⟩ v1).setCell ⟨w.heap.size, 2, none⟩ v2) :=
  ((R.B.setCell (Nat.le_refl _) _).setCell (Nat.le_refl _) _).setCell (Nat.le_refl _) _
theorem Rq.outC (R : Rq w b g gc T m vs W Lc Ls wx) {v0 v1 v2 : Value} :
    Own (((wx.setCell ⟨w.heap.size, 0, none⟩ v0).setCell ⟨w.heap.size, 1, none⟩ v1).setCell ⟨w.heap.size, 2, none⟩ v2) w.heap.size (((wx.setCell ⟨w.heap.size, 0, none⟩ v0).setCell ⟨w.heap.size, 1, none⟩ v1).setCell ⟨w.heap.size, 2, none⟩ v2).heap.size 4 (some ⟨gc, 0, none⟩) m m (Lc.map oV) := by
  have z := R.sz
  refine ((((R.cells.setBelow ?_ _).setBelow ?_ _).setBelow ?_ _).base (by omega)).top (by simp; omega) <;> show w.heap.size < w.heap.size + 1 <;> omega
theorem Rq.outS (R : Rq w b g gc T m vs W Lc Ls wx) {v0 v1 v2 : Value} :
    Own (((wx.setCell ⟨w.heap.size, 0, none⟩ v0).setCell ⟨w.heap.size, 1, none⟩ v1).setCell ⟨w.heap.size, 2, none⟩ v2) w.heap.size (((wx.setCell ⟨w.heap.size, 0, none⟩ v0).setCell ⟨w.heap.size, 1, none⟩ v1).setCell ⟨w.heap.size, 2, none⟩ v2).heap.size 5 (some ⟨b + 1, 0, none⟩) m m (Ls.map bV) := by
  have z := R.sz
  have h1 := R.gz
  have h2 := R.gb
  have h3 := R.cb
  refine ((((R.signs.setBelow ?_ _).setBelow ?_ _).setBelow ?_ _).base (by omega)).top (by simp; omega) <;> show w.heap.size < b + 1 <;> omega
end

/-- What reading rows gives back: a region, its signs, and whether it is valid; or nothing. -/
def OutS (P : UInt8 → Bool) (S : ByteArray) (w w' : World) (e : Ending) : Prop :=
  (rowsOk P (cutL S.data.toList) = true ∧ ∃ gc gs n : Nat, n = (signsL (cutL S.data.toList)).length ∧
    e = .returned (.tuple #[.agg #[.int .i64 (rowW (cutL S.data.toList)), .int .i64 ((cutL S.data.toList).length : Nat), .slice (some ⟨gc, 0, none⟩) n n], .slice (some ⟨gs, 0, none⟩) n n,
      .bool (validB (rowW (cutL S.data.toList)) ((cutL S.data.toList).length : Nat) n ((signsL (cutL S.data.toList)).map onS))]) ∧
    Own w' w.heap.size w'.heap.size 4 (some ⟨gc, 0, none⟩) n n (((signsL (cutL S.data.toList)).map onS).map .bool) ∧
    Own w' w.heap.size w'.heap.size 5 (some ⟨gs, 0, none⟩) n n ((signsL (cutL S.data.toList)).map fun c => .int .u8 (c.toNat : Int)) ∧ Below w.heap.size w w') ∨
  (rowsOk P (cutL S.data.toList) = false ∧ e = .returned (.tuple #[.agg #[.int .i64 0, .int .i64 0, .slice none 0 0], .slice none 0 0, .bool false]) ∧ Below w.heap.size w w')

end Go.Proofs.YtepnhhehfkcgkaaDoor
