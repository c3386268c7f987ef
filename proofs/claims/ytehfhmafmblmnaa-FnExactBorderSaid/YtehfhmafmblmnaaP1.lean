/-
  Where a step leads; the parameter's box of a function that takes a region and gives back no region.
-/
import Derived.Test.YtehfhmafmblmnaaStep
import Derived.Test.YtehfhmafmblmnaaMem2
namespace Go.Proofs.Ytehfhmafmblmnaa
open Go.RowKit

theorem stepF_bound {W T k : Nat} {way : Int} (hW : 1 ≤ W) (hk : k < W * T) : -1 ≤ stepF W T k way ∧ stepF W T k way < (W * T : Nat) := by
  have e := Nat.div_add_mod k W
  have hm := Nat.mod_lt k (show W > 0 by omega)
  have hd := Nat.div_lt_of_lt_mul hk
  unfold stepF
  split
  · split
    · have h1 : W * (k / W + 1) ≤ W * T := Nat.mul_le_mul_left _ hd
      rw [Nat.mul_add, Nat.mul_one] at h1
      omega
    · omega
  split
  · split
    · have h3 : W * (k / W + 1 + 1) ≤ W * T := Nat.mul_le_mul_left _ (by omega)
      rw [Nat.mul_add, Nat.mul_one, Nat.mul_add, Nat.mul_one] at h3
      omega
    · omega
  split
  · split <;> omega
  split
  · split
    · rename_i h
      have : W * 1 ≤ W * (k / W) := Nat.mul_le_mul_left _ h
      omega
    · omega
  · omega

/-- A parameter's box, as a function that takes a region and gives back a number has laid it. -/
structure P1 (w : World) (p0 p1 p2 : Value) (w1 : World) : Prop where
  X : Box w1 w.heap.size p0 p1 p2
  B : Below w.heap.size w w1
  z : w.heap.size + 1 ≤ w1.heap.size
theorem P1.new (w : World) (p0 p1 p2 : Value) (t : TypeId) : P1 w p0 p1 p2 (w.alloc (.cells #[p0, p1, p2] t)) := ⟨Box.new _ _ _ _ _, below1 _ _, by simp⟩
theorem P1.of {w w1 : World} {p0 p1 p2 : Value} {t : TypeId} (hb : Below (w.alloc (.cells #[p0, p1, p2] t)).heap.size (w.alloc (.cells #[p0, p1, p2] t)) w1) : P1 w p0 p1 p2 w1 :=
  ⟨(Box.new w p0 p1 p2 t).below hb, belowW (below1 w _) hb, by have h := hb.size; simp only [World.size_alloc] at h; exact h⟩
theorem P1.below {w w1 w2 : World} {p0 p1 p2 : Value} (h : P1 w p0 p1 p2 w1) (hb : Below w1.heap.size w1 w2) : P1 w p0 p1 p2 w2 := ⟨h.X.below hb, belowW h.B hb, Nat.le_trans h.z hb.size⟩
theorem P1.drew {w w1 : World} {p0 p1 p2 : Value} (h : P1 w p0 p1 p2 w1) : P1 w p0 p1 p2 w1.drew := ⟨h.X.drew, h.B.drew, h.z⟩
theorem P1.drewN {w w1 : World} {p0 p1 p2 : Value} (h : P1 w p0 p1 p2 w1) (q : Nat) : P1 w p0 p1 p2 (w1.drewN q) := ⟨h.X.drewN q, below_drewN h.B q, h.z⟩
theorem P1.alloc {w w1 : World} {p0 p1 p2 : Value} (h : P1 w p0 p1 p2 w1) (o : Obj) : P1 w p0 p1 p2 (w1.alloc o) := h.below (below1 w1 o)
theorem P1.set {w w1 : World} {p0 p1 p2 : Value} (h : P1 w p0 p1 p2 w1) {p : Addr} (hp : w.heap.size + 1 ≤ p.block) (v : Value) : P1 w p0 p1 p2 (w1.setCell p v) :=
  ⟨h.X.setFar (by omega) v, h.B.setCell (by omega) v, by rw [World.size_setCell]; exact h.z⟩
theorem P1.grown {w w1 w2 : World} {p0 p1 p2 : Value} {base top : Nat} {e : TypeId} {A : Option Addr} {n c : Nat} {vs : List Value} (h : P1 w p0 p1 p2 w1) (hg : w1.grownBy w2 (A.map (·.block))) (o : Own w1 base top e A n c vs) (hb : w.heap.size + 1 ≤ base) : P1 w p0 p1 p2 w2 :=
  ⟨h.X.grown hg (o.offBox (by omega)), belowG h.B hg o (by omega), Nat.le_trans h.z hg.size⟩

theorem Sl.cellB {w : World} {b off n : Nat} {bs : List Bool} (h : Sl w (some ⟨b, off, none⟩) n (bs.map .bool)) {k : Nat} {x : Bool} (hx : bs[k]? = some x) : w.cell? ⟨b, off + k, none⟩ = some (.bool x) := by
  have hk : k < n := by have := lt_of_get hx; have := h.1; rw [List.length_map] at this; omega
  obtain ⟨b', off', hA, hc⟩ := h.2 (by omega)
  injection hA with hA
  injection hA with h1 h2 _
  subst h1 h2
  exact hc k _ (by rw [List.getElem?_map, hx]; rfl)
theorem Sl.cellI {w : World} {b off n : Nat} {zs : List Int} (h : Sl w (some ⟨b, off, none⟩) n (zs.map (.int .i64))) {k : Nat} {x : Int} (hx : zs[k]? = some x) : w.cell? ⟨b, off + k, none⟩ = some (.int .i64 x) := by
  have hk : k < n := by have := lt_of_get hx; have := h.1; rw [List.length_map] at this; omega
  obtain ⟨b', off', hA, hc⟩ := h.2 (by omega)
  injection hA with hA
  injection hA with h1 h2 _
  subst h1 h2
  exact hc k _ (by rw [List.getElem?_map, hx]; rfl)
theorem Own.cellI {w : World} {base top g n c : Nat} {e : TypeId} {zs : List Int} (h : Own w base top e (some ⟨g, 0, none⟩) n c (zs.map (.int .i64))) {k : Nat} {x : Int} (hx : zs[k]? = some x) : w.cell? ⟨g, k, none⟩ = some (.int .i64 x) := by
  have := h.sl.cellI hx
  rwa [Nat.zero_add] at this
theorem Own.cellB {w : World} {base top g n c : Nat} {e : TypeId} {bs : List Bool} (h : Own w base top e (some ⟨g, 0, none⟩) n c (bs.map .bool)) {k : Nat} {x : Bool} (hx : bs[k]? = some x) : w.cell? ⟨g, k, none⟩ = some (.bool x) := by
  have := h.sl.cellB hx
  rwa [Nat.zero_add] at this

end Go.Proofs.Ytehfhmafmblmnaa
