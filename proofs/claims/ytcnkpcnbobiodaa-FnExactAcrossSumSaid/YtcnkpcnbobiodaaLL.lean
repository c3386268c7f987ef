/-
  Words for memory: a slice of slices of ints of the call's own, each row in a block of its own.
-/
import Derived.Test.YtcnkpcnbobiodaaAppB
import Derived.Test.YtcnkpcnbobiodaaMem2
import Derived.Test.YtcnkpcnbobiodaaMat
namespace Go.Proofs.Ytcnkpcnbobiodaa
open Go.RowKit

theorem infoIS : (Try.prog.info? 33).map (fun i => (i.zero, i.size, i.bytes)) = some (some (.slice none 0 0), 1, 24) := by kernel_rfl
/-- Block g is one row of the call's own: the ints t. -/
def RowAt (w : World) (base : Nat) (g : Nat) (v : Value) (t : List Int) : Prop :=
  ∃ c c0, v = .slice (some ⟨g, 0, none⟩) t.length c ∧ Own w base w.heap.size 3 (some ⟨g, 0, none⟩) t.length c0 (t.map (.int .i64))
theorem RowAt.keep {w w' : World} {base g : Nat} {v : Value} {t : List Int} (h : RowAt w base g v t) (hk : w'.heap[g]? = w.heap[g]?) (hs : w.heap.size ≤ w'.heap.size) : RowAt w' base g v t := by
  obtain ⟨c, c0, rfl, o⟩ := h
  exact ⟨c, c0, rfl, (o.keep (fun b off hA _ => by injection hA with hA; injection hA with h1 _ _; subst h1; exact hk)).top hs⟩
theorem RowAt.lt {w : World} {base g : Nat} {v : Value} {t : List Int} (h : RowAt w base g v t) : base ≤ g ∧ g < w.heap.size := by
  obtain ⟨c, c0, rfl, o⟩ := h
  exact o.2 g 0 rfl
theorem RowAt.base {w : World} {base base' g : Nat} {v : Value} {t : List Int} (h : RowAt w base g v t) (hb : base' ≤ base) : RowAt w base' g v t := by
  obtain ⟨c, c0, rfl, o⟩ := h
  exact ⟨c, c0, rfl, o.base hb⟩
def RowsAt (w : World) (base : Nat) : List Nat → List Value → List (List Int) → Prop
  | [], [], [] => True
  | g :: gs, v :: vs, t :: M => RowAt w base g v t ∧ RowsAt w base gs vs M
  | _, _, _ => False
theorem RowsAt.keep {w w' : World} {base : Nat} (hs : w.heap.size ≤ w'.heap.size) : ∀ {gs : List Nat} {vs : List Value} {M : List (List Int)}, RowsAt w base gs vs M → (∀ g ∈ gs, w'.heap[g]? = w.heap[g]?) → RowsAt w' base gs vs M
  | [], [], [], _, _ => trivial
  | g :: _, _ :: _, _ :: _, h, hk => ⟨h.1.keep (hk g (by simp)) hs, RowsAt.keep hs h.2 (fun g hg => hk g (by simp [hg]))⟩
theorem RowsAt.lt {w : World} {base : Nat} : ∀ {gs : List Nat} {vs : List Value} {M : List (List Int)}, RowsAt w base gs vs M → ∀ g ∈ gs, base ≤ g ∧ g < w.heap.size
  | [], [], [], _, g, hg => by cases hg
  | _ :: _, _ :: _, _ :: _, h, g', hg => by
    rcases List.mem_cons.1 hg with rfl | hg
    · exact h.1.lt
    · exact RowsAt.lt h.2 g' hg
theorem RowsAt.base {w : World} {base base' : Nat} (hb : base' ≤ base) : ∀ {gs : List Nat} {vs : List Value} {M : List (List Int)}, RowsAt w base gs vs M → RowsAt w base' gs vs M
  | [], [], [], _ => trivial
  | _ :: _, _ :: _, _ :: _, h => ⟨h.1.base hb, RowsAt.base hb h.2⟩
theorem RowsAt.append {w : World} {base : Nat} : ∀ {gs gs2 : List Nat} {vs vs2 : List Value} {M M2 : List (List Int)}, RowsAt w base gs vs M → RowsAt w base gs2 vs2 M2 → RowsAt w base (gs ++ gs2) (vs ++ vs2) (M ++ M2)
  | [], _, [], _, [], _, _, h2 => h2
  | _ :: _, _, _ :: _, _, _ :: _, _, h, h2 => ⟨h.1, RowsAt.append h.2 h2⟩
theorem RowsAt.get {w : World} {base : Nat} : ∀ {gs : List Nat} {vs : List Value} {M : List (List Int)}, RowsAt w base gs vs M → ∀ {k : Nat} {t : List Int}, M[k]? = some t → ∃ g v, gs[k]? = some g ∧ vs[k]? = some v ∧ RowAt w base g v t
  | [], [], [], _, _, _, hk => by simp at hk
  | g :: _, v :: _, _ :: _, h, 0, _, hk => by simp at hk; subst hk; exact ⟨g, v, rfl, rfl, h.1⟩
  | _ :: _, _ :: _, _ :: _, h, k + 1, _, hk => by simpa using RowsAt.get h.2 (k := k) (by simpa using hk)
theorem RowsAt.one {w : World} {base : Nat} : ∀ {gs : List Nat} {vs : List Value} {M : List (List Int)}, RowsAt w base gs vs M → ∀ v ∈ vs, v.oneCell' = true
  | [], [], [], _, v, hv => by cases hv
  | _ :: _, _ :: _, _ :: _, h, u, hu => by
    rcases List.mem_cons.1 hu with rfl | hu
    · obtain ⟨c, c0, rfl, _⟩ := h.1; rfl
    · exact RowsAt.one h.2 u hu

theorem RowsAt.single {w : World} {base g : Nat} {v : Value} {t : List Int} (h : RowAt w base g v t) : RowsAt w base [g] [v] [t] := ⟨h, trivial⟩
/-- The slice at C reads as the rows M, each in its own block (gs): all of the call's own. -/
def LL (w : World) (base : Nat) (C : Option Addr) (c0 : Nat) (gs : List Nat) (M : List (List Int)) : Prop :=
  ∃ vs, Own w base w.heap.size 33 C M.length c0 vs ∧ RowsAt w base gs vs M ∧ gs.Nodup ∧ ∀ g ∈ gs, ∀ off, C ≠ some ⟨g, off, none⟩
theorem LL.nil (w : World) (base : Nat) : LL w base none 0 [] [] := ⟨[], own_nil _ _ _ _, trivial, List.nodup_nil, fun g h => by cases h⟩
theorem LL.made (w : World) {base : Nat} (hb : base ≤ w.heap.size) : LL (w.alloc (.cells #[] 33)) base (some ⟨w.heap.size, 0, none⟩) 0 [] [] :=
  ⟨[], by simpa using Own.made (w := w) (base := base) (e := 33) (cs := #[]) (n := 0) hb (by unfold maxLen; omega) rfl, trivial, List.nodup_nil, fun g h => by cases h⟩
theorem LL.keep {w w' : World} {base c0 : Nat} {C : Option Addr} {gs : List Nat} {M : List (List Int)} (h : LL w base C c0 gs M) (hC : ∀ b off, C = some ⟨b, off, none⟩ → b < w.heap.size → w'.heap[b]? = w.heap[b]?) (hk : ∀ g ∈ gs, w'.heap[g]? = w.heap[g]?) (hs : w.heap.size ≤ w'.heap.size) : LL w' base C c0 gs M := by
  obtain ⟨vs, o, hr, hd, hf⟩ := h
  exact ⟨vs, (o.keep hC).top hs, hr.keep hs hk, hd, hf⟩
theorem LL.lt {w : World} {base c0 : Nat} {C : Option Addr} {gs : List Nat} {M : List (List Int)} (h : LL w base C c0 gs M) : ∀ g ∈ gs, base ≤ g ∧ g < w.heap.size := by
  obtain ⟨vs, o, hr, hd, hf⟩ := h
  exact hr.lt
theorem LL.ltC {w : World} {base c0 : Nat} {C : Option Addr} {gs : List Nat} {M : List (List Int)} (h : LL w base C c0 gs M) : ∀ b off, C = some ⟨b, off, none⟩ → base ≤ b ∧ b < w.heap.size := by
  obtain ⟨vs, o, hr, hd, hf⟩ := h
  exact o.2
theorem LL.below {w w' : World} {base c0 : Nat} {C : Option Addr} {gs : List Nat} {M : List (List Int)} (h : LL w base C c0 gs M) (hb : Below w.heap.size w w') : LL w' base C c0 gs M :=
  h.keep (fun b _ _ hlt => hb.block b hlt) (fun g hg => hb.block g (h.lt g hg).2) hb.size
theorem LL.base {w : World} {base base' c0 : Nat} {C : Option Addr} {gs : List Nat} {M : List (List Int)} (h : LL w base C c0 gs M) (hb : base' ≤ base) : LL w base' C c0 gs M := by
  obtain ⟨vs, o, hr, hd, hf⟩ := h
  exact ⟨vs, o.base hb, hr.base hb, hd, hf⟩
theorem LL.setFar {w : World} {base c0 : Nat} {C : Option Addr} {gs : List Nat} {M : List (List Int)} (h : LL w base C c0 gs M) {p : Addr} (hC : ∀ b off, C = some ⟨b, off, none⟩ → b ≠ p.block) (hg : p.block ∉ gs) (v : Value) : LL (w.setCell p v) base C c0 gs M :=
  h.keep (fun b off hA _ => Below.heap_setCell _ _ _ _ (hC b off hA)) (fun g hg' => Below.heap_setCell _ _ _ _ (fun e => hg (e ▸ hg'))) (by simp)
theorem LL.mx {w : World} {base c0 : Nat} {C : Option Addr} {gs : List Nat} {M : List (List Int)} (h : LL w base C c0 gs M) (hl : ∀ t ∈ M, t.length ≤ 9223372036854775807) : Mx w C M.length M := by
  obtain ⟨vs, o, hr, hd, hf⟩ := h
  refine ⟨rfl, fun k row hk => ?_⟩
  obtain ⟨g, v, -, hv, c, c', rfl, o'⟩ := hr.get hk
  obtain ⟨b, off, v', hA, hv', hc⟩ := o.sl.at_ (lt_of_get hk)
  rw [hv] at hv'
  cases hv'
  exact ⟨b, off, _, c, hA, hc, o'.sl, hl row (List.mem_of_getElem? hk)⟩

/-- Where a slice that grew lies: where it lay, or in a block from s on. -/
def NearX (C C' : Option Addr) (s : Nat) : Prop := C' = C ∨ ∃ g, C' = some ⟨g, 0, none⟩ ∧ s ≤ g
theorem NearX.refl (C : Option Addr) (s : Nat) : NearX C C s := .inl rfl
theorem NearX.trans {C C1 C2 : Option Addr} {s s1 : Nat} (h : NearX C C1 s) (k : NearX C1 C2 s1) (hs : s ≤ s1) : NearX C C2 s := by
  rcases k with rfl | ⟨g, rfl, hg⟩
  · exact h
  · exact .inr ⟨g, rfl, by omega⟩
theorem NearX.mono {C C1 : Option Addr} {s s1 : Nat} (h : NearX C C1 s1) (hs : s ≤ s1) : NearX C C1 s := (NearX.refl C s).trans h hs
theorem NearX.of {C C' : Option Addr} {s s1 : Nat} (h : Near C C' s1) (hs : s ≤ s1) : NearX C C' s := by
  rcases h with rfl | rfl
  · exact .inl rfl
  · exact .inr ⟨_, rfl, hs⟩
theorem NearX.far {C C' : Option Addr} {s b : Nat} (h : NearX C C' s) (hb : b < s) (hC : ∀ off, C ≠ some ⟨b, off, none⟩) : ∀ off, C' ≠ some ⟨b, off, none⟩ := by
  rcases h with rfl | ⟨g, rfl, hg⟩
  · exact hC
  · intro off e; injection e with e; injection e with e1 _ _; omega

theorem own_far {w : World} {base top : Nat} {e : TypeId} {A : Option Addr} {n c : Nat} {vs : List Value} (h : Own w base top e A n c vs) {g : Nat} (hf : ∀ off, A ≠ some ⟨g, off, none⟩) : some g ≠ A.map (·.block) := by
  intro he
  rcases h.1.2 with ⟨hv, _⟩ | ⟨b, cap, cur, hv, _⟩
  · injection hv with hv; subst hv; cases he
  · injection hv with hv; subst hv
    simp only [Option.map_some, Option.some.injEq] at he
    subst he
    exact hf 0 rfl
/-- Rows appended. -/
theorem LL.grow {w w0 w5 : World} {base c0 c2 n2 : Nat} {C C2 : Option Addr} {gs gs2 : List Nat} {vs vs2 : List Value} {M M2 : List (List Int)} (o : Own w base w.heap.size 33 C M.length c0 vs) (hr : RowsAt w base gs vs M) (hd : gs.Nodup) (hf : ∀ g ∈ gs, ∀ off, C ≠ some ⟨g, off, none⟩)
    (hr2 : RowsAt w base gs2 vs2 M2) (hd2 : gs2.Nodup) (hx : ∀ g ∈ gs, g ∉ gs2) (hf2 : ∀ g ∈ gs2, ∀ off, C ≠ some ⟨g, off, none⟩) (hb : Below w.heap.size w w0) (hn2 : n2 = (M ++ M2).length)
    (O5 : Own w5 base w5.heap.size 33 C2 n2 c2 (vs ++ vs2)) (hg : w0.grownBy w5 (C.map (·.block))) (hn : Near C C2 w0.heap.size) : LL w5 base C2 c2 (gs ++ gs2) (M ++ M2) := by
  have hG : w.grownBy w5 (C.map (·.block)) := grown_trans (grown_below hb _) hg
  have key : ∀ g, g < w.heap.size → (∀ off, C ≠ some ⟨g, off, none⟩) → w5.heap[g]? = w.heap[g]? ∧ ∀ off, C2 ≠ some ⟨g, off, none⟩ := fun g hlt hfg =>
    ⟨hG.block g hlt (own_far o hfg), (NearX.of hn (Nat.le_refl _)).far (Nat.lt_of_lt_of_le hlt hb.size) hfg⟩
  subst hn2
  refine ⟨vs ++ vs2, O5, (hr.keep hG.size (fun g hg => (key g (hr.lt g hg).2 (hf g hg)).1)).append (hr2.keep hG.size (fun g hg => (key g (hr2.lt g hg).2 (hf2 g hg)).1)), ?_, fun g hg => ?_⟩
  · rw [List.nodup_append]
    exact ⟨hd, hd2, fun a ha b hb e => hx a ha (e ▸ hb)⟩
  · rcases List.mem_append.1 hg with hg | hg
    · exact (key g (hr.lt g hg).2 (hf g hg)).2
    · exact (key g (hr2.lt g hg).2 (hf2 g hg)).2

/-- What a call gives back: rows of ints. -/
def OutSS (w w' : World) (e : Ending) (M : List (List Int)) : Prop :=
  ∃ C c c0 gs, e = .returned (.slice C M.length c) ∧ LL w' w.heap.size C c0 gs M ∧ Below w.heap.size w w' ∧ M.length ≤ 1099511627776 ∧ ∀ t ∈ M, t.length ≤ 36

/-- Two blocks alone may have changed. -/
structure Kp (w w' : World) (bo : Nat) (C : Option Addr) : Prop where
  os : w'.os = w.os
  tape : w'.tape = w.tape
  output : w'.output = w.output
  size : w.heap.size ≤ w'.heap.size
  block : ∀ i, i < w.heap.size → i ≠ bo → (∀ off, C ≠ some ⟨i, off, none⟩) → w'.heap[i]? = w.heap[i]?
theorem Kp.refl (w : World) (bo : Nat) (C : Option Addr) : Kp w w bo C := ⟨rfl, rfl, rfl, Nat.le_refl _, fun _ _ _ _ => rfl⟩
theorem Kp.trans {a b c : World} {bo : Nat} {C C1 : Option Addr} (h : Kp a b bo C) (hn : NearX C C1 a.heap.size) (k : Kp b c bo C1) : Kp a c bo C :=
  ⟨k.os.trans h.os, k.tape.trans h.tape, k.output.trans h.output, Nat.le_trans h.size k.size, fun i hi hne hf => (k.block i (Nat.lt_of_lt_of_le hi h.size) hne (hn.far hi hf)).trans (h.block i hi hne hf)⟩
theorem Kp.below {a b : World} {bo : Nat} {C : Option Addr} (h : Below a.heap.size a b) : Kp a b bo C := ⟨h.os, h.tape, h.output, h.size, fun i hi _ _ => h.block i hi⟩
theorem Kp.then {a b c : World} {bo : Nat} {C : Option Addr} (h : Kp a b bo C) (k : Below b.heap.size b c) : Kp a c bo C :=
  ⟨k.os.trans h.os, k.tape.trans h.tape, k.output.trans h.output, Nat.le_trans h.size k.size, fun i hi hne hf => (k.block i (Nat.lt_of_lt_of_le hi h.size)).trans (h.block i hi hne hf)⟩
theorem Kp.set {a b : World} {bo i : Nat} {C : Option Addr} (h : Kp a b bo C) (v : Value) : Kp a (b.setCell ⟨bo, i, none⟩ v) bo C :=
  ⟨h.os, h.tape, h.output, by rw [World.size_setCell]; exact h.size, fun k hk hne hf => (Below.heap_setCell _ _ _ _ hne).trans (h.block k hk hne hf)⟩
theorem Kp.grown {a b : World} {bo : Nat} {C : Option Addr} (h : a.grownBy b (C.map (·.block))) (hC : ∀ i, (∀ off, C ≠ some ⟨i, off, none⟩) → some i ≠ C.map (·.block)) : Kp a b bo C :=
  ⟨h.os, h.tape, h.output, h.size, fun i hi _ hf => h.block i hi (hC i hf)⟩

end Go.Proofs.Ytcnkpcnbobiodaa
