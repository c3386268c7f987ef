/-
  Reading texts of rows: the rows that lie behind, and what lies in memory while the reference reads. (plain)
-/
import Derived.Test.YtepnhhehfkcgkaaDoorReadP
import Derived.Test.YtepnhhehfkcgkaaDoorCutS
import Derived.Test.YtepnhhehfkcgkaaDoorLawB
import Derived.Test.YtepnhhehfkcgkaaDoorLawI
namespace Go.Proofs.YtepnhhehfkcgkaaDoor
open Go.RowKit

/-- The signs of the i rows from the south on. -/
def preL (r : List (List UInt8)) (i : Nat) : List UInt8 := (r.reverse.take i).flatten
theorem preL_zero (r : List (List UInt8)) : preL r 0 = [] := rfl
theorem preL_full (r : List (List UInt8)) : preL r r.length = signsL r := by
  rw [preL, signsL, List.take_of_length_le (by rw [List.length_reverse]; exact Nat.le_refl _)]
theorem preL_succ {r : List (List UInt8)} {i y : Nat} {x : List UInt8} (hy : r.length - 1 - i = y) (hi : i < r.length) (hx : r[y]? = some x) : preL r (i + 1) = preL r i ++ x := by
  have e : r.reverse[i]? = some x := by rw [List.getElem?_reverse (by omega), hy, hx]
  rw [preL, take_snoc e, List.flatten_append, List.flatten_singleton]; rfl
theorem preL_len (r : List (List UInt8)) (i : Nat) : (preL r i).length ≤ r.flatten.length := by
  have e : (signsL r).length = r.flatten.length := by
    rw [signsL, List.length_flatten, List.length_flatten, List.map_reverse, List.sum_reverse]
  have h2 : preL r i ++ (r.reverse.drop i).flatten = signsL r := by rw [preL, ← List.flatten_append, List.take_append_drop]; rfl
  have := congrArg List.length h2
  rw [List.length_append] at this
  omega
theorem part_len {r : List (List UInt8)} {i y : Nat} {x : List UInt8} (hy : r.length - 1 - i = y) (hi : i < r.length) (hx : r[y]? = some x) (j : Nat) : (preL r i ++ x.take j).length ≤ r.flatten.length := by
  have h := preL_len r (i + 1)
  rw [preL_succ hy hi hx, List.length_append] at h
  rw [List.length_append, List.length_take]; omega
theorem part_succ {p x : List UInt8} {j : Nat} {c : UInt8} (h : x[j]? = some c) : p ++ x.take (j + 1) = (p ++ x.take j) ++ [c] := by rw [take_snoc h, List.append_assoc]
theorem rowsB_get {S : ByteArray} {y : Nat} (h : y < (rowsB S).length) : ∃ (X : ByteArray), (rowsB S)[y]? = some X ∧ (cutL S.data.toList)[y]? = some X.data.toList := by
  have h' : y < (cutL S.data.toList).length := by rw [← rowsB_len]; exact h
  refine ⟨⟨((cutL S.data.toList)[y]'h').toArray⟩, ?_, ?_⟩
  · rw [rowsB, List.getElem?_map, List.getElem?_eq_getElem h']; rfl
  · rw [List.getElem?_eq_getElem h']
theorem rowsB_head (S : ByteArray) : ∃ (X : ByteArray), (rowsB S)[0]? = some X ∧ X.size = rowW (cutL S.data.toList) := by
  obtain ⟨X, h1, h2⟩ := rowsB_get (rowsB_pos S)
  refine ⟨X, h1, ?_⟩
  rw [rowW, List.headD_eq_head?_getD, List.head?_eq_getElem?, h2, Lib.size_eq]; rfl
theorem flat_le (S : ByteArray) : (cutL S.data.toList).flatten.length ≤ S.size := by
  rw [Lib.size_eq]; exact cutL_sum _

/-- Memory while the reference reads a region: rows at g, the result's box, the region's box at b with its cells. -/
structure Rd (w : World) (b g T : Nat) (vs : List Value) (W : Int) (D : Option Addr) (n q : Nat) (bs : List Value) (wx : World) : Prop where
  rows : Sl wx (some ⟨g, 0, none⟩) T vs
  gb : g < b
  Z : Box wx w.heap.size (.int .i64 0) (.int .i64 0) (.slice none 0 0)
  TZ : Thaw wx w.heap.size
  X : Box wx b (.int .i64 W) (.int .i64 T) (.slice D n q)
  TX : Thaw wx b
  own : Own wx (b + 1) wx.heap.size 4 D n q bs
  B : Below w.heap.size w wx
  z : w.heap.size + 1 ≤ b
theorem Rd.below {w wx wy : World} {b g T n q : Nat} {vs bs : List Value} {W : Int} {D : Option Addr} (R : Rd w b g T vs W D n q bs wx) (hb : Below wx.heap.size wx wy) : Rd w b g T vs W D n q bs wy :=
  ⟨R.rows.below hb, R.gb, R.Z.below hb, R.TZ.below hb, R.X.below hb, R.TX.below hb, (R.own.below hb).top hb.size, belowW R.B hb, R.z⟩
theorem Rd.row {w wx : World} {b g T n q : Nat} {vs bs : List Value} {W : Int} {D : Option Addr} (R : Rd w b g T vs W D n q bs wx) {y : Nat} {v : Value} (h : vs[y]? = some v) : wx.cell? ⟨g, y, none⟩ = some v := by
  have hy : y < T := by have := lt_of_get h; have := R.rows.1; omega
  obtain ⟨b', off', hA, hc⟩ := R.rows.2 (by omega)
  injection hA with hA
  injection hA with h1 h2 _
  subst h1 h2
  have := hc y v h
  rwa [Nat.zero_add] at this
/-- One cell more. -/
theorem Rd.step {w wr w4 : World} {b g T n q : Nat} {vs bs : List Value} {W : Int} {D D' : Option Addr} {q' : Nat} {v : Bool} (R : Rd w b g T vs W D n q bs wr) (o4 : Own w4 (b + 1) w4.heap.size 4 D' (n + 1) q' (bs ++ [.bool v]))
    (hg : (wr.alloc (.cells #[.bool v] 4)).drew.grownBy w4 (D.map (·.block))) : Rd w b g T vs W D' (n + 1) q' (bs ++ [.bool v]) (w4.setCell ⟨b, 2, none⟩ (.slice D' (n + 1) q')) := by
  have hx := (R.X.alloc (.cells #[.bool v] 4)).drew.grown hg (R.own.offBox (.inl (Nat.lt_succ_self _)))
  have ht := (R.TX.alloc (.cells #[.bool v] 4)).drew.grown hg (R.own.offBox (.inl (Nat.lt_succ_self _)))
  have hz := (R.Z.alloc (.cells #[.bool v] 4)).drew.grown hg (R.own.offBox (.inl (by have := R.z; omega)))
  have htz := (R.TZ.alloc (.cells #[.bool v] 4)).drew.grown hg (R.own.offBox (.inl (by have := R.z; omega)))
  have hr := (R.rows.alloc (.cells #[.bool v] 4)).drew.grown hg (fun b' off hA => by injection hA with hA; injection hA with h1 _ _; subst h1; exact R.own.offBox (.inl (by have := R.gb; omega)))
  have hB := belowG ((belowA R.B (o := .cells #[.bool v] 4)).drew) hg (R.own.alloc (.cells #[.bool v] 4)).drew (by have := R.z; omega)
  refine ⟨hr.setFar (fun b' off hA => by injection hA with hA; injection hA with h1 _ _; subst h1; exact Nat.ne_of_lt R.gb) _, R.gb, hz.setFar (show w.heap.size ≠ b by have := R.z; omega) _, htz.setCell _ _, hx.set2 _, ht.setCell _ _, (o4.setBelow (show b < b + 1 by omega) _).top (by simp), hB.setCell (show w.heap.size ≤ b by have := R.z; omega) _, R.z⟩
theorem Rd.fin {w wx : World} {b g T n q : Nat} {vs bs : List Value} {W : Int} {D : Option Addr} (R : Rd w b g T vs W D n q bs wx) {v0 v1 v2 : Value} : Below w.heap.size w (((wx.setCell ⟨w.heap.size, 0, none⟩ v0).setCell ⟨w.heap.size, 1, none⟩ v1).setCell ⟨w.heap.size, 2, none⟩ v2) :=
  ((R.B.setCell (Nat.le_refl _) _).setCell (Nat.le_refl _) _).setCell (Nat.le_refl _) _
theorem Rd.out {w wx : World} {b g T n q : Nat} {vs bs : List Value} {W : Int} {D : Option Addr} (R : Rd w b g T vs W D n q bs wx) {v0 v1 v2 : Value} :
    Own (((wx.setCell ⟨w.heap.size, 0, none⟩ v0).setCell ⟨w.heap.size, 1, none⟩ v1).setCell ⟨w.heap.size, 2, none⟩ v2) w.heap.size (((wx.setCell ⟨w.heap.size, 0, none⟩ v0).setCell ⟨w.heap.size, 1, none⟩ v1).setCell ⟨w.heap.size, 2, none⟩ v2).heap.size 4 D n q bs := by
  have z := R.z
  refine ((((R.own.setBelow ?_ _).setBelow ?_ _).setBelow ?_ _).base (by omega)).top (by simp) <;> show w.heap.size < b + 1 <;> omega

end Go.Proofs.YtepnhhehfkcgkaaDoor
