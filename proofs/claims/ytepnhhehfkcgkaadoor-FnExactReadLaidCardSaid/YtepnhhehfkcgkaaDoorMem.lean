/-
  Words for memory: a slice that reads as a list of values; a slice of the call's own. Plain lemmas on worlds.
-/
import Derived.Test.YtepnhhehfkcgkaaDoorBase
import Derived.Deep.Draws
import Derived.Laws.OwnMore
namespace Go.Proofs.YtepnhhehfkcgkaaDoor
open Go.RowKit

/-- The slice of n one-cell elements at A reads as the values vs. -/
def Sl (w : World) (A : Option Addr) (n : Nat) (vs : List Value) : Prop :=
  vs.length = n ∧ (0 < n → ∃ b off, A = some ⟨b, off, none⟩ ∧ ∀ k v, vs[k]? = some v → w.cell? ⟨b, off + k, none⟩ = some v)

theorem Sl.len {w : World} {A : Option Addr} {n : Nat} {vs : List Value} (h : Sl w A n vs) : vs.length = n := h.1
theorem Sl.nil (w : World) (A : Option Addr) : Sl w A 0 [] := ⟨rfl, fun h => absurd h (by omega)⟩
theorem Sl.block {w : World} {A : Option Addr} {n : Nat} {vs : List Value} (h : Sl w A n vs) (hn : 0 < n) : ∃ b off, A = some ⟨b, off, none⟩ ∧ b < w.heap.size := by
  obtain ⟨b, off, hA, hc⟩ := h.2 hn
  have h0 : vs[0]? = some (vs[0]'(by have := h.1; omega)) := List.getElem?_eq_getElem _
  exact ⟨b, off, hA, World.block_lt_of_cell? w _ (hc 0 _ h0)⟩
theorem Sl.at_ {w : World} {A : Option Addr} {n : Nat} {vs : List Value} (h : Sl w A n vs) {k : Nat} (hk : k < n) :
    ∃ b off v, A = some ⟨b, off, none⟩ ∧ vs[k]? = some v ∧ w.cell? ⟨b, off + k, none⟩ = some v := by
  obtain ⟨b, off, hA, hc⟩ := h.2 (by omega)
  have h0 : vs[k]? = some (vs[k]'(by have := h.1; omega)) := List.getElem?_eq_getElem _
  exact ⟨b, off, _, hA, h0, hc k _ h0⟩
theorem Sl.atB {w : World} {A : Option Addr} {n : Nat} {bs : List Bool} (h : Sl w A n (bs.map .bool)) {k : Nat} (hk : k < n) :
    ∃ b off, ∃ x : Bool, A = some ⟨b, off, none⟩ ∧ bs[k]? = some x ∧ w.cell? ⟨b, off + k, none⟩ = some (.bool x) := by
  obtain ⟨b, off, v, hA, hv, hc⟩ := h.at_ hk
  rw [List.getElem?_map] at hv
  cases hx : bs[k]? with
  | none => rw [hx] at hv; cases hv
  | some x => rw [hx] at hv; simp only [Option.map_some, Option.some.injEq] at hv; subst hv; exact ⟨b, off, x, hA, rfl, hc⟩
theorem Sl.atI {w : World} {A : Option Addr} {n : Nat} {k : IntKind} {zs : List Int} (h : Sl w A n (zs.map (.int k))) {i : Nat} (hk : i < n) :
    ∃ b off, ∃ x : Int, A = some ⟨b, off, none⟩ ∧ zs[i]? = some x ∧ w.cell? ⟨b, off + i, none⟩ = some (.int k x) := by
  obtain ⟨b, off, v, hA, hv, hc⟩ := h.at_ hk
  rw [List.getElem?_map] at hv
  cases hx : zs[i]? with
  | none => rw [hx] at hv; cases hv
  | some x => rw [hx] at hv; simp only [Option.map_some, Option.some.injEq] at hv; subst hv; exact ⟨b, off, x, hA, rfl, hc⟩
theorem Sl.keep {w w' : World} {A : Option Addr} {n : Nat} {vs : List Value} (h : Sl w A n vs) (hk : ∀ b off, A = some ⟨b, off, none⟩ → b < w.heap.size → w'.heap[b]? = w.heap[b]?) : Sl w' A n vs := by
  refine ⟨h.1, fun hn => ?_⟩
  obtain ⟨b, off, hA, hlt⟩ := h.block hn
  obtain ⟨b', off', hA', hc⟩ := h.2 hn
  have e : b = b' ∧ off = off' := by rw [hA] at hA'; simpa using hA'
  obtain ⟨rfl, rfl⟩ := e
  exact ⟨b, off, hA, fun k v hv => (World.cell?_of_block (w := w) (hk b off hA hlt)).trans (hc k v hv)⟩
theorem Sl.below {w w' : World} {A : Option Addr} {n : Nat} {vs : List Value} (h : Sl w A n vs) (hb : Below w.heap.size w w') : Sl w' A n vs := h.keep fun b _ _ hlt => hb.block b hlt
theorem Sl.belowB {w w' : World} {A : Option Addr} {n B : Nat} {vs : List Value} (h : Sl w A n vs) (hb : Below B w w') (hB : ∀ b off, A = some ⟨b, off, none⟩ → b < B) : Sl w' A n vs := h.keep fun b off hA _ => hb.block b (hB b off hA)
theorem Sl.grown {w w' : World} {A : Option Addr} {n : Nat} {vs : List Value} {row : Option Nat} (h : Sl w A n vs) (hg : w.grownBy w' row) (hne : ∀ b off, A = some ⟨b, off, none⟩ → some b ≠ row) : Sl w' A n vs :=
  h.keep fun b off hA hlt => hg.block b hlt (hne b off hA)

/-- The slice at A (n elements, capacity c, of type e) is the call's own: its block is from base on, below top; it holds the values vs; it may be written. -/
def Own (w : World) (base top : Nat) (e : TypeId) (A : Option Addr) (n c : Nat) (vs : List Value) : Prop :=
  w.ownsRow base e 1 (.slice A n c) n vs ∧ ∀ b off, A = some ⟨b, off, none⟩ → base ≤ b ∧ b < top

theorem Own.mk {w : World} {base : Nat} {e : TypeId} {A : Option Addr} {n c : Nat} {vs : List Value} (h : w.ownsRow base e 1 (.slice A n c) n vs) : Own w base w.heap.size e A n c vs :=
  ⟨h, fun b off hA => h.lt b (by rw [hA]; rfl)⟩
theorem Own.sl {w : World} {base top : Nat} {e : TypeId} {A : Option Addr} {n c : Nat} {vs : List Value} (h : Own w base top e A n c vs) : Sl w A n vs := by
  refine ⟨by have := h.1.1; omega, fun hn => ?_⟩
  rcases h.1.2 with ⟨_, h0⟩ | ⟨g, cap, cur, hv, _⟩
  · omega
  · injection hv with hA _ _
    subst hA
    exact ⟨g, 0, rfl, fun k v hv => by
      have := h.1.cells (g := g) rfl k v hv
      rw [show (⟨g, 0, none⟩ : Addr).add k = ⟨g, 0 + k, none⟩ by unfold Addr.add; split <;> simp_all] at this
      exact this⟩
theorem Own.len {w : World} {base top : Nat} {e : TypeId} {A : Option Addr} {n c : Nat} {vs : List Value} (h : Own w base top e A n c vs) : vs.length = n := h.sl.1
theorem Own.keep {w w' : World} {base top : Nat} {e : TypeId} {A : Option Addr} {n c : Nat} {vs : List Value} (h : Own w base top e A n c vs) (hk : ∀ b off, A = some ⟨b, off, none⟩ → b < w.heap.size → w'.heap[b]? = w.heap[b]?) : Own w' base top e A n c vs := by
  refine ⟨⟨h.1.1, ?_⟩, h.2⟩
  rcases h.1.2 with h0 | ⟨g, cap, cur, hv, hb, hh, r⟩
  · exact .inl h0
  · refine .inr ⟨g, cap, cur, hv, hb, ?_, r⟩
    injection hv with hA _ _
    rw [hk g 0 hA (Array.getElem?_eq_some_iff.1 hh).1]
    exact hh
theorem Own.below {w w' : World} {base top : Nat} {e : TypeId} {A : Option Addr} {n c : Nat} {vs : List Value} (h : Own w base top e A n c vs) (hb : Below w.heap.size w w') : Own w' base top e A n c vs := h.keep fun b _ _ hlt => hb.block b hlt
theorem Own.grown {w w' : World} {base top : Nat} {e : TypeId} {A : Option Addr} {n c : Nat} {vs : List Value} {row : Option Nat} (h : Own w base top e A n c vs) (hg : w.grownBy w' row) (hne : ∀ b off, A = some ⟨b, off, none⟩ → some b ≠ row) : Own w' base top e A n c vs :=
  h.keep fun b off hA hlt => hg.block b hlt (hne b off hA)
theorem Own.base {w : World} {base base' top : Nat} {e : TypeId} {A : Option Addr} {n c : Nat} {vs : List Value} (h : Own w base top e A n c vs) (hb : base' ≤ base) : Own w base' top e A n c vs := by
  refine ⟨⟨h.1.1, ?_⟩, fun b off hA => ⟨Nat.le_trans hb (h.2 b off hA).1, (h.2 b off hA).2⟩⟩
  rcases h.1.2 with h0 | ⟨g, cap, cur, hv, hg, r⟩
  · exact .inl h0
  · exact .inr ⟨g, cap, cur, hv, Nat.le_trans hb hg, r⟩
theorem Own.top {w : World} {base top top' : Nat} {e : TypeId} {A : Option Addr} {n c : Nat} {vs : List Value} (h : Own w base top e A n c vs) (ht : top ≤ top') : Own w base top' e A n c vs :=
  ⟨h.1, fun b off hA => ⟨(h.2 b off hA).1, Nat.lt_of_lt_of_le (h.2 b off hA).2 ht⟩⟩
/-- Its head, where it holds something. -/
theorem Own.form {w : World} {base top : Nat} {e : TypeId} {A : Option Addr} {n c : Nat} {vs : List Value} (h : Own w base top e A n c vs) (hn : 0 < n) : ∃ g, A = some ⟨g, 0, none⟩ ∧ base ≤ g ∧ g < top := by
  rcases h.1.2 with ⟨_, h0⟩ | ⟨g, cap, cur, hv, hg, _⟩
  · omega
  · injection hv with hA _ _
    exact ⟨g, hA, hg, (h.2 g 0 hA).2⟩
/-- A row that make has laid: n values. -/
theorem Own.made {w : World} {base : Nat} {e : TypeId} {cs : Array Value} {n : Nat} (hb : base ≤ w.heap.size) (hm : n ≤ maxLen) (hs : cs.size = n) :
    Own (w.alloc (.cells cs e)) base (w.heap.size + 1) e (some ⟨w.heap.size, 0, none⟩) n n cs.toList := by
  refine ⟨⟨by simp [hs], .inr ⟨w.heap.size, n, cs, rfl, hb, heap_alloc_new w _, Nat.le_refl _, hm, by simp [hs], by rw [List.take_of_length_le (by simp [hs])]⟩⟩, fun b off hA => ?_⟩
  injection hA with hA
  injection hA with h1
  omega
/-- A store into it. -/
theorem Own.stored {w : World} {base top g : Nat} {e : TypeId} {n c : Nat} {vs : List Value} (h : Own w base top e (some ⟨g, 0, none⟩) n c vs) (k : Nat) (hk : k < n) (v : Value) :
    Own (w.setCell ⟨g, k, none⟩ v) base top e (some ⟨g, 0, none⟩) n c (vs.set k v) := by
  refine ⟨⟨by have := h.1.1; simpa using this, ?_⟩, h.2⟩
  rcases h.1.2 with ⟨_, h0⟩ | ⟨g', cap, cur, hv, hg, hh, h1, h2, h3, h4⟩
  · omega
  · injection hv with hA _ hc
    injection hA with hA
    injection hA with hA _ _
    subst hA
    refine .inr ⟨g, cap, cur.setIfInBounds k v, by rw [hc], hg, ?_, h1, h2, by simpa using h3, ?_⟩
    · simp [World.setCell, Array.getElem?_modify, hh]
    · rw [Array.toList_setIfInBounds, List.take_set, h4]
theorem Own.frozen {w : World} {base top g : Nat} {e : TypeId} {n c : Nat} {vs : List Value} (h : Own w base top e (some ⟨g, 0, none⟩) n c vs) (k : Nat) : w.frozen? ⟨g, k, none⟩ = false := by
  rcases h.1.2 with ⟨h0, _⟩ | ⟨g', cap, cur, hv, hg, hh, _⟩
  · injection h0 with h0; cases h0
  · injection hv with hA _ _
    injection hA with hA
    injection hA with hA _ _
    subst hA
    simp [World.frozen?, hh]
theorem Own.grownSet {w : World} {A : Option Addr} {g : Nat} (hA : A = some ⟨g, 0, none⟩) (k : Nat) (v : Value) : w.grownBy (w.setCell ⟨g, k, none⟩ v) (A.map (·.block)) :=
  ⟨rfl, rfl, rfl, by simp [World.setCell], fun i _ hne => Below.heap_setCell _ _ _ _ (by rintro rfl; exact hne (by rw [hA]; rfl))⟩

theorem Own.setBelow {w : World} {base top : Nat} {e : TypeId} {A : Option Addr} {n c : Nat} {vs : List Value} (h : Own w base top e A n c vs) {p : Addr} (hp : p.block < base) (v : Value) : Own (w.setCell p v) base top e A n c vs :=
  h.keep fun b off hA _ => Below.heap_setCell _ _ _ _ (by have := (h.2 b off hA).1; omega)
theorem Own.setFar {w : World} {base top : Nat} {e : TypeId} {A : Option Addr} {n c : Nat} {vs : List Value} (h : Own w base top e A n c vs) {p : Addr} (hp : ∀ b off, A = some ⟨b, off, none⟩ → b ≠ p.block) (v : Value) : Own (w.setCell p v) base top e A n c vs :=
  h.keep fun b off hA _ => Below.heap_setCell _ _ _ _ (hp b off hA)
theorem Own.alloc {w : World} {base top : Nat} {e : TypeId} {A : Option Addr} {n c : Nat} {vs : List Value} (h : Own w base top e A n c vs) (o : Obj) : Own (w.alloc o) base top e A n c vs := h.below ((Below.refl _ _).alloc (Nat.le_refl _) o)
theorem Sl.setFar {w : World} {A : Option Addr} {n : Nat} {vs : List Value} (h : Sl w A n vs) {p : Addr} (hp : ∀ b off, A = some ⟨b, off, none⟩ → b ≠ p.block) (v : Value) : Sl (w.setCell p v) A n vs :=
  h.keep fun b off hA _ => Below.heap_setCell _ _ _ _ (hp b off hA)

theorem grown_refl (w : World) (row : Option Nat) : w.grownBy w row := ⟨rfl, rfl, rfl, Nat.le_refl _, fun _ _ _ => rfl⟩
theorem grown_trans {a b c : World} {row : Option Nat} (h : a.grownBy b row) (k : b.grownBy c row) : a.grownBy c row :=
  ⟨k.os.trans h.os, k.tape.trans h.tape, k.output.trans h.output, Nat.le_trans h.size k.size, fun i hi hne => (k.block i (Nat.lt_of_lt_of_le hi h.size) hne).trans (h.block i hi hne)⟩
theorem grown_below {a b : World} (h : Below a.heap.size a b) (row : Option Nat) : a.grownBy b row := ⟨h.os, h.tape, h.output, h.size, fun i hi _ => h.block i hi⟩
theorem below_drewN {B : Nat} {a w : World} (h : Below B a w) (n : Nat) : Below B a (w.drewN n) := ⟨h.os, h.tape, h.output, h.size, h.block⟩
theorem below1 (w : World) (o : Obj) : Below w.heap.size w (w.alloc o) := (Below.refl _ _).alloc (Nat.le_refl _) o
/-- Two steps, each of which leaves alone what lay there as it began. -/
theorem below_step {a b c : World} {B : Nat} (h : Below B a b) (k : Below b.heap.size b c) (hB : B ≤ a.heap.size) : Below B a c := h.trans (k.mono (Nat.le_trans hB h.size))

theorem Sl.alloc {w : World} {A : Option Addr} {n : Nat} {vs : List Value} (h : Sl w A n vs) (o : Obj) : Sl (w.alloc o) A n vs := h.below (below1 w o)
theorem Sl.drewN {w : World} {A : Option Addr} {n : Nat} {vs : List Value} (h : Sl w A n vs) (k : Nat) : Sl (w.drewN k) A n vs := h
theorem belowA {w b : World} (h : Below w.heap.size w b) {o : Obj} : Below w.heap.size w (b.alloc o) := h.alloc h.size o
/-- Two slices of the call's own lie in different blocks. -/
theorem Own.apart {w w' : World} {base top base' top' : Nat} {e e' : TypeId} {A A' : Option Addr} {n c n' c' : Nat} {vs vs' : List Value} (h : Own w base top e A n c vs) (h' : Own w' base' top' e' A' n' c' vs') (d : top ≤ base' ∨ top' ≤ base) :
    ∀ b off, A = some ⟨b, off, none⟩ → some b ≠ A'.map (·.block) := by
  intro b off hA he
  have h1 := h.2 b off hA
  rcases h'.1.2 with ⟨hv, _⟩ | ⟨g, cap, cur, hv, _⟩
  · injection hv with hv; subst hv; cases he
  · injection hv with hv; subst hv
    have h2 := h'.2 g 0 rfl
    simp only [Option.map_some, Option.some.injEq] at he
    omega
theorem Own.offBox {w' : World} {b base' top' : Nat} {e' : TypeId} {A' : Option Addr} {n' c' : Nat} {vs' : List Value} (h' : Own w' base' top' e' A' n' c' vs') (d : b < base' ∨ top' ≤ b) : some b ≠ A'.map (·.block) := by
  intro he
  rcases h'.1.2 with ⟨hv, _⟩ | ⟨g, cap, cur, hv, _⟩
  · injection hv with hv; subst hv; cases he
  · injection hv with hv; subst hv
    have h2 := h'.2 g 0 rfl
    simp only [Option.map_some, Option.some.injEq] at he
    omega
theorem belowG {w b c : World} {base top : Nat} {e : TypeId} {A : Option Addr} {n cp : Nat} {vs : List Value} (h : Below w.heap.size w b) (hg : b.grownBy c (A.map (·.block))) (o : Own b base top e A n cp vs) (hb : w.heap.size ≤ base) : Below w.heap.size w c :=
  h.grown hg h.size (fun k hk => by
    rcases Nat.lt_or_ge k w.heap.size with hlt | hge
    · exact absurd hk.symm (o.offBox (by omega))
    · exact hge)

/-- What lay there before a call that only makes memory reads as before. -/
theorem bcell {W w1 : World} {B : Nat} (hb : Below B W w1) : (∀ b o, b < B → w1.cell? ⟨b, o, none⟩ = W.cell? ⟨b, o, none⟩) ∧ (∀ b o, b < B → w1.frozen? ⟨b, o, none⟩ = W.frozen? ⟨b, o, none⟩) :=
  ⟨fun b o h => hb.cell (p := ⟨b, o, none⟩) h, fun b o h => hb.frozen (p := ⟨b, o, none⟩) h⟩

/-- A box of three cells: where a region lies. -/
def Box (w : World) (b : Nat) (v0 v1 v2 : Value) : Prop := w.cell? ⟨b, 0, none⟩ = some v0 ∧ w.cell? ⟨b, 1, none⟩ = some v1 ∧ w.cell? ⟨b, 2, none⟩ = some v2
theorem Box.new (w : World) (v0 v1 v2 : Value) (t : TypeId) : Box (w.alloc (.cells #[v0, v1, v2] t)) w.heap.size v0 v1 v2 := by
  refine ⟨?_, ?_, ?_⟩ <;> rw [World.cell?_alloc_at _ _ _ _ rfl] <;> rfl
theorem Box.keep {w w' : World} {b : Nat} {v0 v1 v2 : Value} (h : Box w b v0 v1 v2) (hk : w'.heap[b]? = w.heap[b]?) : Box w' b v0 v1 v2 :=
  ⟨(World.cell?_of_block (w := w) hk).trans h.1, (World.cell?_of_block (w := w) hk).trans h.2.1, (World.cell?_of_block (w := w) hk).trans h.2.2⟩
theorem Box.lt {w : World} {b : Nat} {v0 v1 v2 : Value} (h : Box w b v0 v1 v2) : b < w.heap.size := World.block_lt_of_cell? w _ h.1
theorem Box.below {w w' : World} {b : Nat} {v0 v1 v2 : Value} (h : Box w b v0 v1 v2) (hb : Below w.heap.size w w') : Box w' b v0 v1 v2 := h.keep (hb.block b h.lt)
theorem Box.grown {w w' : World} {b : Nat} {v0 v1 v2 : Value} {row : Option Nat} (h : Box w b v0 v1 v2) (hg : w.grownBy w' row) (hne : some b ≠ row) : Box w' b v0 v1 v2 := h.keep (hg.block b h.lt hne)
theorem Box.drew {w : World} {b : Nat} {v0 v1 v2 : Value} (h : Box w b v0 v1 v2) : Box w.drew b v0 v1 v2 := h
theorem Sl.drew {w : World} {A : Option Addr} {n : Nat} {vs : List Value} (h : Sl w A n vs) : Sl w.drew A n vs := h
theorem Own.drew {w : World} {base top : Nat} {e : TypeId} {A : Option Addr} {n c : Nat} {vs : List Value} (h : Own w base top e A n c vs) : Own w.drew base top e A n c vs := h
theorem Box.alloc {w : World} {b : Nat} {v0 v1 v2 : Value} (h : Box w b v0 v1 v2) (o : Obj) : Box (w.alloc o) b v0 v1 v2 := h.below (below1 w o)

theorem belowW {w b c : World} (h : Below w.heap.size w b) (k : Below b.heap.size b c) : Below w.heap.size w c := below_step h k (Nat.le_refl _)

theorem take_snoc {α : Type} {l : List α} {k : Nat} {x : α} (h : l[k]? = some x) : l.take (k + 1) = l.take k ++ [x] := by
  rw [List.take_add_one, h]; rfl
theorem lt_of_get {α : Type} {l : List α} {k : Nat} {x : α} (h : l[k]? = some x) : k < l.length := (List.getElem?_eq_some_iff.1 h).1

/-! What a call gives back: a region, a list of ints, and either with a bool. -/
def OutR (w w' : World) (e : Ending) (W T : Int) (cs : List Bool) : Prop :=
  ∃ A c c0, e = .returned (.agg #[.int .i64 W, .int .i64 T, .slice A cs.length c]) ∧ Own w' w.heap.size w'.heap.size 4 A cs.length c0 (cs.map .bool) ∧ Below w.heap.size w w' ∧ cs.length ≤ 4194304
def OutRB (w w' : World) (e : Ending) (W T : Int) (cs : List Bool) (ok : Bool) : Prop :=
  ∃ A c c0, e = .returned (.tuple #[.agg #[.int .i64 W, .int .i64 T, .slice A cs.length c], .bool ok]) ∧ Own w' w.heap.size w'.heap.size 4 A cs.length c0 (cs.map .bool) ∧ Below w.heap.size w w' ∧ cs.length ≤ 4194304
def OutL (w w' : World) (e : Ending) (zs : List Int) : Prop :=
  ∃ A c c0, e = .returned (.slice A zs.length c) ∧ Own w' w.heap.size w'.heap.size 3 A zs.length c0 (zs.map (.int .i64)) ∧ Below w.heap.size w w' ∧ zs.length ≤ 4194304
def OutLB (w w' : World) (e : Ending) (zs : List Int) (ok : Bool) : Prop :=
  ∃ A c c0, e = .returned (.tuple #[.slice A zs.length c, .bool ok]) ∧ Own w' w.heap.size w'.heap.size 3 A zs.length c0 (zs.map (.int .i64)) ∧ Below w.heap.size w w' ∧ zs.length ≤ 4194304

end Go.Proofs.YtepnhhehfkcgkaaDoor
