/-
  A region made by a literal with an append: what lies there then.
-/
import Derived.Test.YtehfhmafmblmnaaClone
namespace Go.Proofs.Ytehfhmafmblmnaa
open Go.RowKit

/-- What lies there when the changed region has been made. -/
def Made (w : World) (n : Nat) (W T : Int) (A : Option Addr) (c : Nat) (vs : List Value) (s : Value) (wx : World) : Prop :=
  ∃ (b : Nat) (A' : Option Addr) (c' d' : Nat), s = .pointer (some ⟨b, 0, none⟩) ∧ w.heap.size + 1 < b ∧ Box wx b (.int .i64 W) (.int .i64 T) (.slice A' n c') ∧ Thaw wx b ∧ Own wx (w.heap.size + 2) wx.heap.size 4 A' n d' vs ∧ (∀ b' off, A' = some ⟨b', off, none⟩ → b' ≠ b) ∧
    PR w (.int .i64 W) (.int .i64 T) (.slice A n c) wx
theorem made_late {w w3 : World} {n c : Nat} {W T : Int} {vs : List Value} {A A' : Option Addr} {c' d' : Nat} (R : PR w (.int .i64 W) (.int .i64 T) (.slice A n c) w3) (hown : Own w3 (w.heap.size + 2) w3.heap.size 4 A' n d' vs) :
    Made w n W T A c vs (.pointer (some ⟨w3.heap.size, 0, none⟩)) (w3.alloc (.cells #[.int .i64 W, .int .i64 T, .slice A' n c'] 27)) := by
  have z := R.z
  refine ⟨w3.heap.size, A', c', d', rfl, by omega, Box.new _ _ _ _ _, Thaw.new _ _ _, (hown.alloc _).top (by simp), fun b' off hA => ?_, R.alloc _⟩
  have := hown.2 b' off hA; omega
theorem made_early {w w3 : World} {n c b : Nat} {W T : Int} {vs : List Value} {A A' : Option Addr} {c' d' : Nat} (R : PR w (.int .i64 W) (.int .i64 T) (.slice A n c) w3) (hb : w.heap.size + 2 ≤ b) (x : Box w3 b (.int .i64 0) (.int .i64 0) (.slice none 0 0)) (t : Thaw w3 b)
    (hown : Own w3 (w.heap.size + 2) w3.heap.size 4 A' n d' vs) (far : ∀ b' off, A' = some ⟨b', off, none⟩ → b' ≠ b) :
    Made w n W T A c vs (.pointer (some ⟨b, 0, none⟩)) (((w3.setCell ⟨b, 0, none⟩ (.int .i64 W)).setCell ⟨b, 1, none⟩ (.int .i64 T)).setCell ⟨b, 2, none⟩ (.slice A' n c')) :=
  ⟨b, A', c', d', rfl, by omega, x.set012 _ _ _, (t.setCell _ _ |>.setCell _ _ |>.setCell _ _), (((hown.setFar far _).setFar far _).setFar far _).top (by simp), far, ((R.set hb _).set hb _).set hb _⟩

end Go.Proofs.Ytehfhmafmblmnaa
