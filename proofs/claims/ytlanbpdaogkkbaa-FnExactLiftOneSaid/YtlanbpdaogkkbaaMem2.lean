/-
  Words for memory, more: a block that may be written; what a call gives back, made.
-/
import Derived.Test.YtlanbpdaogkkbaaMem
namespace Go.Proofs.Ytlanbpdaogkkbaa
open Go.RowKit

/-- Block b may be written. -/
def Thaw (w : World) (b : Nat) : Prop := b < w.heap.size ∧ ∀ i, w.frozen? ⟨b, i, none⟩ = false
theorem Thaw.new (w : World) (cs : Array Value) (t : TypeId) : Thaw (w.alloc (.cells cs t)) w.heap.size := by
  refine ⟨by simp, fun i => ?_⟩
  exact World.frozen?_alloc_at _ _ _ _ rfl
theorem Thaw.keep {w w' : World} {b : Nat} (h : Thaw w b) (hk : w'.heap[b]? = w.heap[b]?) (hs : w.heap.size ≤ w'.heap.size) : Thaw w' b :=
  ⟨Nat.lt_of_lt_of_le h.1 hs, fun i => (World.frozen?_of_block (w := w) hk).trans (h.2 i)⟩
theorem Thaw.below {w w' : World} {b : Nat} (h : Thaw w b) (hb : Below w.heap.size w w') : Thaw w' b := h.keep (hb.block b h.1) hb.size
theorem Thaw.grown {w w' : World} {b : Nat} {row : Option Nat} (h : Thaw w b) (hg : w.grownBy w' row) (hne : some b ≠ row) : Thaw w' b := h.keep (hg.block b h.1 hne) hg.size
theorem Thaw.alloc {w : World} {b : Nat} (h : Thaw w b) (o : Obj) : Thaw (w.alloc o) b := h.below (below1 w o)
theorem Thaw.drew {w : World} {b : Nat} (h : Thaw w b) : Thaw w.drew b := h
theorem Thaw.setCell {w : World} {b : Nat} (h : Thaw w b) (p : Addr) (v : Value) : Thaw (w.setCell p v) b :=
  ⟨by rw [World.size_setCell]; exact h.1, fun i => (World.frozen?_setCell _ _ _ _).trans (h.2 i)⟩
theorem Box.setFar {w : World} {b : Nat} {v0 v1 v2 : Value} (h : Box w b v0 v1 v2) {p : Addr} (hp : b ≠ p.block) (v : Value) : Box (w.setCell p v) b v0 v1 v2 :=
  h.keep (Below.heap_setCell _ _ _ _ hp)
theorem Box.set2 {w : World} {b : Nat} {v0 v1 v2 : Value} (h : Box w b v0 v1 v2) (v : Value) : Box (w.setCell ⟨b, 2, none⟩ v) b v0 v1 v := by
  refine ⟨?_, ?_, ?_⟩
  · rw [World.cell?_setCell_other _ _ _ _ (by simp)]; exact h.1
  · rw [World.cell?_setCell_other _ _ _ _ (by simp)]; exact h.2.1
  · exact World.cell?_setCell_same _ _ _ h.2.2
theorem Box.drewN {w : World} {b : Nat} {v0 v1 v2 : Value} (h : Box w b v0 v1 v2) (k : Nat) : Box (w.drewN k) b v0 v1 v2 := h
theorem Own.drewN {w : World} {base top : Nat} {e : TypeId} {A : Option Addr} {n c : Nat} {vs : List Value} (h : Own w base top e A n c vs) (k : Nat) : Own (w.drewN k) base top e A n c vs := h
theorem Thaw.drewN {w : World} {b : Nat} (h : Thaw w b) (k : Nat) : Thaw (w.drewN k) b := h

theorem Own.cellAt {w : World} {base top g : Nat} {e : TypeId} {n c : Nat} {vs : List Value} (h : Own w base top e (some ⟨g, 0, none⟩) n c vs) {k : Nat} (hk : k < n) : ∃ v, w.cell? ⟨g, k, none⟩ = some v := by
  obtain ⟨b, off, v, hA, _, hc⟩ := h.sl.at_ hk
  injection hA with hA
  injection hA with h1 h2 _
  subst h1 h2
  rw [Nat.zero_add] at hc
  exact ⟨v, hc⟩

theorem OutR.mkL {w w' : World} {W T : Int} {cs : List Bool} {A : Option Addr} {n c c0 : Nat} (hl : cs.length = n) (hn : n ≤ 4194304) (ho : Own w' w.heap.size w'.heap.size 4 A n c0 (cs.map .bool)) (hb : Below w.heap.size w w') :
    OutR w w' (.returned (.agg #[.int .i64 W, .int .i64 T, .slice A n c])) W T cs := by subst hl; exact ⟨A, c, c0, rfl, ho, hb, hn⟩
theorem OutR.mk {w w' : World} {W T : Int} {cs : List Bool} {A : Option Addr} {n c : Nat} (hl : cs.length = n) (hn : n ≤ 4194304) (ho : Own w' w.heap.size w'.heap.size 4 A n c (cs.map .bool)) (hb : Below w.heap.size w w') :
    OutR w w' (.returned (.agg #[.int .i64 W, .int .i64 T, .slice A n c])) W T cs := by subst hl; exact ⟨A, c, c, rfl, ho, hb, hn⟩
theorem OutRB.mkL {w w' : World} {W T : Int} {cs : List Bool} {ok : Bool} {A : Option Addr} {n c c0 : Nat} (hl : cs.length = n) (hn : n ≤ 4194304) (ho : Own w' w.heap.size w'.heap.size 4 A n c0 (cs.map .bool)) (hb : Below w.heap.size w w') :
    OutRB w w' (.returned (.tuple #[.agg #[.int .i64 W, .int .i64 T, .slice A n c], .bool ok])) W T cs ok := by subst hl; exact ⟨A, c, c0, rfl, ho, hb, hn⟩
theorem OutRB.mk {w w' : World} {W T : Int} {cs : List Bool} {ok : Bool} {A : Option Addr} {n c : Nat} (hl : cs.length = n) (hn : n ≤ 4194304) (ho : Own w' w.heap.size w'.heap.size 4 A n c (cs.map .bool)) (hb : Below w.heap.size w w') :
    OutRB w w' (.returned (.tuple #[.agg #[.int .i64 W, .int .i64 T, .slice A n c], .bool ok])) W T cs ok := by subst hl; exact ⟨A, c, c, rfl, ho, hb, hn⟩
theorem OutL.mkL {w w' : World} {zs : List Int} {A : Option Addr} {n c c0 : Nat} (hl : zs.length = n) (hn : n ≤ 4194304) (ho : Own w' w.heap.size w'.heap.size 3 A n c0 (zs.map (.int .i64))) (hb : Below w.heap.size w w') :
    OutL w w' (.returned (.slice A n c)) zs := by subst hl; exact ⟨A, c, c0, rfl, ho, hb, hn⟩
theorem OutL.mk {w w' : World} {zs : List Int} {A : Option Addr} {n c : Nat} (hl : zs.length = n) (hn : n ≤ 4194304) (ho : Own w' w.heap.size w'.heap.size 3 A n c (zs.map (.int .i64))) (hb : Below w.heap.size w w') :
    OutL w w' (.returned (.slice A n c)) zs := by subst hl; exact ⟨A, c, c, rfl, ho, hb, hn⟩
theorem OutLB.mkL {w w' : World} {zs : List Int} {ok : Bool} {A : Option Addr} {n c c0 : Nat} (hl : zs.length = n) (hn : n ≤ 4194304) (ho : Own w' w.heap.size w'.heap.size 3 A n c0 (zs.map (.int .i64))) (hb : Below w.heap.size w w') :
    OutLB w w' (.returned (.tuple #[.slice A n c, .bool ok])) zs ok := by subst hl; exact ⟨A, c, c0, rfl, ho, hb, hn⟩
theorem OutLB.mk {w w' : World} {zs : List Int} {ok : Bool} {A : Option Addr} {n c : Nat} (hl : zs.length = n) (hn : n ≤ 4194304) (ho : Own w' w.heap.size w'.heap.size 3 A n c (zs.map (.int .i64))) (hb : Below w.heap.size w w') :
    OutLB w w' (.returned (.tuple #[.slice A n c, .bool ok])) zs ok := by subst hl; exact ⟨A, c, c, rfl, ho, hb, hn⟩
theorem own_nil (w : World) (base top : Nat) (e : TypeId) : Own w base top e none 0 0 [] := ⟨World.ownsRow_nil _ _ _ _, fun _ _ h => by cases h⟩
/-- What a function that gives back a region leaves where it gives back nothing. -/
theorem outR_zero (w : World) {w' : World} (hb : Below w.heap.size w w') : OutR w w' (.returned (.agg #[.int .i64 0, .int .i64 0, .slice none 0 0])) 0 0 [] := OutR.mk rfl (by omega) (own_nil _ _ _ _) hb
theorem outRB_zero (w : World) {w' : World} (hb : Below w.heap.size w w') : OutRB w w' (.returned (.tuple #[.agg #[.int .i64 0, .int .i64 0, .slice none 0 0], .bool false])) 0 0 [] false := OutRB.mk rfl (by omega) (own_nil _ _ _ _) hb
theorem outL_nil (w : World) {w' : World} (hb : Below w.heap.size w w') : OutL w w' (.returned (.slice none 0 0)) [] := OutL.mk rfl (by omega) (own_nil _ _ _ _) hb
theorem outLB_nil (w : World) {w' : World} (hb : Below w.heap.size w w') : OutLB w w' (.returned (.tuple #[.slice none 0 0, .bool false])) [] false := OutLB.mk rfl (by omega) (own_nil _ _ _ _) hb


theorem Box.set012 {w : World} {b : Nat} {v0 v1 v2 : Value} (h : Box w b v0 v1 v2) (x0 x1 x2 : Value) : Box (((w.setCell ⟨b, 0, none⟩ x0).setCell ⟨b, 1, none⟩ x1).setCell ⟨b, 2, none⟩ x2) b x0 x1 x2 := by
  obtain ⟨h0, h1, h2⟩ := h
  refine ⟨?_, ?_, ?_⟩
  · rw [World.cell?_setCell_other _ _ _ _ (by simp), World.cell?_setCell_other _ _ _ _ (by simp)]; exact World.cell?_setCell_same _ _ _ h0
  · rw [World.cell?_setCell_other _ _ _ _ (by simp)]; exact World.cell?_setCell_same _ _ _ ((World.cell?_setCell_other _ _ _ _ (by simp)).trans h1)
  · exact World.cell?_setCell_same _ _ _ ((World.cell?_setCell_other _ _ _ _ (by simp)).trans ((World.cell?_setCell_other _ _ _ _ (by simp)).trans h2))

/-- The parameter's box and the result's, as a function that takes a region and gives one back has laid them: P the parameter's cells. -/
structure PR (w : World) (p0 p1 p2 : Value) (w1 : World) : Prop where
  X : Box w1 w.heap.size p0 p1 p2
  R : Box w1 (w.heap.size + 1) (.int .i64 0) (.int .i64 0) (.slice none 0 0)
  T : Thaw w1 (w.heap.size + 1)
  B : Below w.heap.size w w1
  z : w.heap.size + 2 ≤ w1.heap.size
theorem PR.of {w w1 : World} {p0 p1 p2 : Value} {t : TypeId} (hb : Below ((w.alloc (.cells #[p0, p1, p2] t)).alloc (.cells #[.int .i64 0, .int .i64 0, .slice none 0 0] t)).heap.size ((w.alloc (.cells #[p0, p1, p2] t)).alloc (.cells #[.int .i64 0, .int .i64 0, .slice none 0 0] t)) w1) : PR w p0 p1 p2 w1 := {
  X := ((Box.new w p0 p1 p2 t).alloc _).below hb
  R := by simpa using (Box.new (w.alloc (.cells #[p0, p1, p2] t)) (.int .i64 0) (.int .i64 0) (.slice none 0 0) t).below hb
  T := by simpa using (Thaw.new (w.alloc (.cells #[p0, p1, p2] t)) #[.int .i64 0, .int .i64 0, .slice none 0 0] t).below hb
  B := belowW (belowA (below1 w _)) hb
  z := by have h := hb.size; simp only [World.size_alloc] at h; exact h }
theorem PR.below {w w1 w2 : World} {p0 p1 p2 : Value} (h : PR w p0 p1 p2 w1) (hb : Below w1.heap.size w1 w2) : PR w p0 p1 p2 w2 := ⟨h.X.below hb, h.R.below hb, h.T.below hb, belowW h.B hb, Nat.le_trans h.z hb.size⟩
theorem PR.drew {w w1 : World} {p0 p1 p2 : Value} (h : PR w p0 p1 p2 w1) : PR w p0 p1 p2 w1.drew := ⟨h.X.drew, h.R.drew, h.T.drew, h.B.drew, h.z⟩
theorem PR.alloc {w w1 : World} {p0 p1 p2 : Value} (h : PR w p0 p1 p2 w1) (o : Obj) : PR w p0 p1 p2 (w1.alloc o) := h.below (below1 w1 o)
theorem PR.grown {w w1 w2 : World} {p0 p1 p2 : Value} {base top : Nat} {e : TypeId} {A : Option Addr} {n c : Nat} {vs : List Value} (h : PR w p0 p1 p2 w1) (hg : w1.grownBy w2 (A.map (·.block))) (o : Own w1 base top e A n c vs) (hb : w.heap.size + 2 ≤ base) : PR w p0 p1 p2 w2 :=
  ⟨h.X.grown hg (o.offBox (by omega)), h.R.grown hg (o.offBox (by omega)), h.T.grown hg (o.offBox (by omega)), belowG h.B hg o (by omega), Nat.le_trans h.z hg.size⟩
theorem PR.set {w w1 : World} {p0 p1 p2 : Value} (h : PR w p0 p1 p2 w1) {p : Addr} (hp : w.heap.size + 2 ≤ p.block) (v : Value) : PR w p0 p1 p2 (w1.setCell p v) :=
  ⟨h.X.setFar (by omega) v, h.R.setFar (by omega) v, h.T.setCell p v, h.B.setCell (by omega) v, by rw [World.size_setCell]; exact h.z⟩
theorem PR.fin {w w1 : World} {p0 p1 p2 : Value} (h : PR w p0 p1 p2 w1) (v0 v1 v2 : Value) : Below w.heap.size w (((w1.setCell ⟨w.heap.size + 1, 0, none⟩ v0).setCell ⟨w.heap.size + 1, 1, none⟩ v1).setCell ⟨w.heap.size + 1, 2, none⟩ v2) :=
  ((h.B.setCell (show w.heap.size ≤ w.heap.size + 1 by omega) _).setCell (show w.heap.size ≤ w.heap.size + 1 by omega) _).setCell (show w.heap.size ≤ w.heap.size + 1 by omega) _
theorem PR.own {w w1 : World} {base top b : Nat} {e : TypeId} {A : Option Addr} {n c : Nat} {vs : List Value} (o : Own w1 base top e A n c vs) (hb : w.heap.size + 1 = b) (hbase : w.heap.size + 2 ≤ base) (ht : top ≤ w1.heap.size) (v0 v1 v2 : Value) :
    Own (((w1.setCell ⟨b, 0, none⟩ v0).setCell ⟨b, 1, none⟩ v1).setCell ⟨b, 2, none⟩ v2) w.heap.size (((w1.setCell ⟨b, 0, none⟩ v0).setCell ⟨b, 1, none⟩ v1).setCell ⟨b, 2, none⟩ v2).heap.size e A n c vs := by
  subst hb
  refine ((((o.setBelow ?_ _).setBelow ?_ _).setBelow ?_ _).base (by omega)).top (by simp only [World.size_setCell]; exact ht) <;> show w.heap.size + 1 < base <;> omega

/-- The same with two regions as parameters. -/
structure PR2 (w : World) (p0 p1 p2 q0 q1 q2 : Value) (w1 : World) : Prop where
  X : Box w1 w.heap.size p0 p1 p2
  Y : Box w1 (w.heap.size + 1) q0 q1 q2
  R : Box w1 (w.heap.size + 2) (.int .i64 0) (.int .i64 0) (.slice none 0 0)
  T : Thaw w1 (w.heap.size + 2)
  B : Below w.heap.size w w1
  z : w.heap.size + 3 ≤ w1.heap.size
theorem PR2.of {w w1 : World} {p0 p1 p2 q0 q1 q2 : Value} {t : TypeId} (hb : Below (((w.alloc (.cells #[p0, p1, p2] t)).alloc (.cells #[q0, q1, q2] t)).alloc (.cells #[.int .i64 0, .int .i64 0, .slice none 0 0] t)).heap.size (((w.alloc (.cells #[p0, p1, p2] t)).alloc (.cells #[q0, q1, q2] t)).alloc (.cells #[.int .i64 0, .int .i64 0, .slice none 0 0] t)) w1) : PR2 w p0 p1 p2 q0 q1 q2 w1 := {
  X := (((Box.new w p0 p1 p2 t).alloc _).alloc _).below hb
  Y := by simpa using ((Box.new (w.alloc (.cells #[p0, p1, p2] t)) q0 q1 q2 t).alloc _).below hb
  R := by simpa using (Box.new ((w.alloc (.cells #[p0, p1, p2] t)).alloc (.cells #[q0, q1, q2] t)) (.int .i64 0) (.int .i64 0) (.slice none 0 0) t).below hb
  T := by simpa using (Thaw.new ((w.alloc (.cells #[p0, p1, p2] t)).alloc (.cells #[q0, q1, q2] t)) #[.int .i64 0, .int .i64 0, .slice none 0 0] t).below hb
  B := belowW (belowA (belowA (below1 w _))) hb
  z := by have h := hb.size; simp only [World.size_alloc] at h; exact h }
theorem PR2.below {w w1 w2 : World} {p0 p1 p2 q0 q1 q2 : Value} (h : PR2 w p0 p1 p2 q0 q1 q2 w1) (hb : Below w1.heap.size w1 w2) : PR2 w p0 p1 p2 q0 q1 q2 w2 := ⟨h.X.below hb, h.Y.below hb, h.R.below hb, h.T.below hb, belowW h.B hb, Nat.le_trans h.z hb.size⟩
theorem PR2.drew {w w1 : World} {p0 p1 p2 q0 q1 q2 : Value} (h : PR2 w p0 p1 p2 q0 q1 q2 w1) : PR2 w p0 p1 p2 q0 q1 q2 w1.drew := ⟨h.X.drew, h.Y.drew, h.R.drew, h.T.drew, h.B.drew, h.z⟩
theorem PR2.alloc {w w1 : World} {p0 p1 p2 q0 q1 q2 : Value} (h : PR2 w p0 p1 p2 q0 q1 q2 w1) (o : Obj) : PR2 w p0 p1 p2 q0 q1 q2 (w1.alloc o) := h.below (below1 w1 o)
theorem PR2.grown {w w1 w2 : World} {p0 p1 p2 q0 q1 q2 : Value} {base top : Nat} {e : TypeId} {A : Option Addr} {n c : Nat} {vs : List Value} (h : PR2 w p0 p1 p2 q0 q1 q2 w1) (hg : w1.grownBy w2 (A.map (·.block))) (o : Own w1 base top e A n c vs) (hb : w.heap.size + 3 ≤ base) : PR2 w p0 p1 p2 q0 q1 q2 w2 :=
  ⟨h.X.grown hg (o.offBox (by omega)), h.Y.grown hg (o.offBox (by omega)), h.R.grown hg (o.offBox (by omega)), h.T.grown hg (o.offBox (by omega)), belowG h.B hg o (by omega), Nat.le_trans h.z hg.size⟩
theorem PR2.set {w w1 : World} {p0 p1 p2 q0 q1 q2 : Value} (h : PR2 w p0 p1 p2 q0 q1 q2 w1) {p : Addr} (hp : w.heap.size + 3 ≤ p.block) (v : Value) : PR2 w p0 p1 p2 q0 q1 q2 (w1.setCell p v) :=
  ⟨h.X.setFar (by omega) v, h.Y.setFar (by omega) v, h.R.setFar (by omega) v, h.T.setCell p v, h.B.setCell (by omega) v, by rw [World.size_setCell]; exact h.z⟩
theorem PR2.fin {w w1 : World} {p0 p1 p2 q0 q1 q2 : Value} (h : PR2 w p0 p1 p2 q0 q1 q2 w1) (v0 v1 v2 : Value) : Below w.heap.size w (((w1.setCell ⟨w.heap.size + 2, 0, none⟩ v0).setCell ⟨w.heap.size + 2, 1, none⟩ v1).setCell ⟨w.heap.size + 2, 2, none⟩ v2) :=
  ((h.B.setCell (show w.heap.size ≤ w.heap.size + 2 by omega) _).setCell (show w.heap.size ≤ w.heap.size + 2 by omega) _).setCell (show w.heap.size ≤ w.heap.size + 2 by omega) _
theorem PR2.own {w w1 : World} {base top b : Nat} {e : TypeId} {A : Option Addr} {n c : Nat} {vs : List Value} (o : Own w1 base top e A n c vs) (hb : w.heap.size + 2 = b) (hbase : w.heap.size + 3 ≤ base) (ht : top ≤ w1.heap.size) (v0 v1 v2 : Value) :
    Own (((w1.setCell ⟨b, 0, none⟩ v0).setCell ⟨b, 1, none⟩ v1).setCell ⟨b, 2, none⟩ v2) w.heap.size (((w1.setCell ⟨b, 0, none⟩ v0).setCell ⟨b, 1, none⟩ v1).setCell ⟨b, 2, none⟩ v2).heap.size e A n c vs := by
  subst hb
  refine ((((o.setBelow ?_ _).setBelow ?_ _).setBelow ?_ _).base (by omega)).top (by simp only [World.size_setCell]; exact ht) <;> show w.heap.size + 2 < base <;> omega

end Go.Proofs.Ytlanbpdaogkkbaa
