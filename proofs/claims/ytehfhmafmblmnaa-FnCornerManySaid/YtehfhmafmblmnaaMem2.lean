/-
  Words for memory, more: a block that may be written; what a call gives back, made.
-/
import Derived.Test.YtehfhmafmblmnaaMem
namespace Go.Proofs.Ytehfhmafmblmnaa
open Go.RowKit

/-- Block b may be written. -/
def Thaw (w : World) (b : Nat) : Prop := b < w.heap.size ∧ ∀ i, w.frozen? ⟨b, i, none⟩ = false
theorem Thaw.new (w : World) (cs : Array Value) (t : TypeId) : Thaw (w.alloc (.cells cs t)) w.heap.size := by
  refine ⟨by simp, fun i => ?_⟩
  exact World.frozen?_alloc_at _ _ _ _ rfl
theorem Thaw.keep {w w' : World} {b : Nat} (h : Thaw w b) (hk : w'.heap[b]? = w.heap[b]?) (hs : w.heap.size ≤ w'.heap.size) : Thaw w' b :=
  ⟨Nat.lt_of_lt_of_le h.1 hs, fun i => (World.frozen?_of_block (w := w) hk).trans (h.2 i)⟩
theorem Thaw.below {w w' : World} {b : Nat} (h : Thaw w b) (hb : Below w.heap.size w w') : Thaw w' b := h.keep (hb.block b h.1) hb.size
theorem Thaw.grown {w w' : World} {b : Nat} {row : Option Nat} (h : Thaw w b) (hg : w.grownBy w' row) (hne : some b ≠ row) : Thaw w' b := h.keep (hg.block b h.1 hne) hg.size
theorem Thaw.alloc {w : World} {b : Nat} (h : Thaw w b) (o : Obj) : Thaw (w.alloc o) b := h.below (below1 w o)
theorem Thaw.drew {w : World} {b : Nat} (h : Thaw w b) : Thaw w.drew b := h
theorem Thaw.setCell {w : World} {b : Nat} (h : Thaw w b) (p : Addr) (v : Value) : Thaw (w.setCell p v) b :=
  ⟨by rw [World.size_setCell]; exact h.1, fun i => (World.frozen?_setCell _ _ _ _).trans (h.2 i)⟩
theorem Box.setFar {w : World} {b : Nat} {v0 v1 v2 : Value} (h : Box w b v0 v1 v2) {p : Addr} (hp : b ≠ p.block) (v : Value) : Box (w.setCell p v) b v0 v1 v2 :=
  h.keep (Below.heap_setCell _ _ _ _ hp)
theorem Box.set2 {w : World} {b : Nat} {v0 v1 v2 : Value} (h : Box w b v0 v1 v2) (v : Value) : Box (w.setCell ⟨b, 2, none⟩ v) b v0 v1 v := by
  refine ⟨?_, ?_, ?_⟩
  · rw [World.cell?_setCell_other _ _ _ _ (by simp)]; exact h.1
  · rw [World.cell?_setCell_other _ _ _ _ (by simp)]; exact h.2.1
  · exact World.cell?_setCell_same _ _ _ h.2.2
theorem Box.drewN {w : World} {b : Nat} {v0 v1 v2 : Value} (h : Box w b v0 v1 v2) (k : Nat) : Box (w.drewN k) b v0 v1 v2 := h
theorem Own.drewN {w : World} {base top : Nat} {e : TypeId} {A : Option Addr} {n c : Nat} {vs : List Value} (h : Own w base top e A n c vs) (k : Nat) : Own (w.drewN k) base top e A n c vs := h
theorem Thaw.drewN {w : World} {b : Nat} (h : Thaw w b) (k : Nat) : Thaw (w.drewN k) b := h

theorem OutR.mk {w w' : World} {W T : Int} {cs : List Bool} {A : Option Addr} {n c : Nat} (hl : cs.length = n) (hn : n ≤ 4194304) (ho : Own w' w.heap.size w'.heap.size 4 A n c (cs.map .bool)) (hb : Below w.heap.size w w') :
    OutR w w' (.returned (.agg #[.int .i64 W, .int .i64 T, .slice A n c])) W T cs := by subst hl; exact ⟨A, c, rfl, ho, hb, hn⟩
theorem OutRB.mk {w w' : World} {W T : Int} {cs : List Bool} {ok : Bool} {A : Option Addr} {n c : Nat} (hl : cs.length = n) (hn : n ≤ 4194304) (ho : Own w' w.heap.size w'.heap.size 4 A n c (cs.map .bool)) (hb : Below w.heap.size w w') :
    OutRB w w' (.returned (.tuple #[.agg #[.int .i64 W, .int .i64 T, .slice A n c], .bool ok])) W T cs ok := by subst hl; exact ⟨A, c, rfl, ho, hb, hn⟩
theorem OutL.mk {w w' : World} {zs : List Int} {A : Option Addr} {n c : Nat} (hl : zs.length = n) (hn : n ≤ 4194304) (ho : Own w' w.heap.size w'.heap.size 3 A n c (zs.map (.int .i64))) (hb : Below w.heap.size w w') :
    OutL w w' (.returned (.slice A n c)) zs := by subst hl; exact ⟨A, c, rfl, ho, hb, hn⟩
theorem OutLB.mk {w w' : World} {zs : List Int} {ok : Bool} {A : Option Addr} {n c : Nat} (hl : zs.length = n) (hn : n ≤ 4194304) (ho : Own w' w.heap.size w'.heap.size 3 A n c (zs.map (.int .i64))) (hb : Below w.heap.size w w') :
    OutLB w w' (.returned (.tuple #[.slice A n c, .bool ok])) zs ok := by subst hl; exact ⟨A, c, rfl, ho, hb, hn⟩
theorem own_nil (w : World) (base top : Nat) (e : TypeId) : Own w base top e none 0 0 [] := ⟨World.ownsRow_nil _ _ _ _, fun _ _ h => by cases h⟩
/-- What a function that gives back a region leaves where it gives back nothing. -/
theorem outR_zero (w : World) {w' : World} (hb : Below w.heap.size w w') : OutR w w' (.returned (.agg #[.int .i64 0, .int .i64 0, .slice none 0 0])) 0 0 [] := OutR.mk rfl (by omega) (own_nil _ _ _ _) hb
theorem outRB_zero (w : World) {w' : World} (hb : Below w.heap.size w w') : OutRB w w' (.returned (.tuple #[.agg #[.int .i64 0, .int .i64 0, .slice none 0 0], .bool false])) 0 0 [] false := OutRB.mk rfl (by omega) (own_nil _ _ _ _) hb
theorem outL_nil (w : World) {w' : World} (hb : Below w.heap.size w w') : OutL w w' (.returned (.slice none 0 0)) [] := OutL.mk rfl (by omega) (own_nil _ _ _ _) hb
theorem outLB_nil (w : World) {w' : World} (hb : Below w.heap.size w w') : OutLB w w' (.returned (.tuple #[.slice none 0 0, .bool false])) [] false := OutLB.mk rfl (by omega) (own_nil _ _ _ _) hb

end Go.Proofs.Ytehfhmafmblmnaa
