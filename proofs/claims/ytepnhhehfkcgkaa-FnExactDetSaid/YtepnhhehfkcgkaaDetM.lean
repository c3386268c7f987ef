/-
  A square matrix in memory: rows in blocks of their own, told by the index.
-/
import Derived.Test.YtepnhhehfkcgkaaLL
import Derived.Test.YtepnhhehfkcgkaaMatV
import Derived.Test.YtepnhhehfkcgkaaDetP
namespace Go.Proofs.Ytepnhhehfkcgkaa
open Go.RowKit

/-- n cells of a block, by the index; the block may be written. -/
def Rw (w : World) (b n : Nat) (f : Nat → Value) : Prop := Thaw w b ∧ ∀ i, i < n → w.cell? ⟨b, i, none⟩ = some (f i)
theorem Rw.keep {w w' : World} {b n : Nat} {f : Nat → Value} (h : Rw w b n f) (hk : w'.heap[b]? = w.heap[b]?) (hs : w.heap.size ≤ w'.heap.size) : Rw w' b n f :=
  ⟨h.1.keep hk hs, fun i hi => (World.cell?_of_block (w := w) hk).trans (h.2 i hi)⟩
theorem Rw.congr {w : World} {b n : Nat} {f g : Nat → Value} (h : Rw w b n f) (e : ∀ i, i < n → f i = g i) : Rw w b n g := ⟨h.1, fun i hi => by rw [← e i hi]; exact h.2 i hi⟩
theorem Rw.set {w : World} {b n : Nat} {f : Nat → Value} (h : Rw w b n f) {i : Nat} (hi : i < n) (v : Value) : Rw (w.setCell ⟨b, i, none⟩ v) b n (fun j => if j = i then v else f j) := by
  refine ⟨h.1.setCell _ _, fun j hj => ?_⟩
  by_cases e : j = i
  · subst e; simp only [if_pos]; exact World.cell?_setCell_same _ _ _ (h.2 j hj)
  · simp only [if_neg e]; rw [World.cell?_setCell_other _ _ _ _ (by first | (simp; done) | (simp; omega))]; exact h.2 j hj
theorem Rw.far {w : World} {b n : Nat} {f : Nat → Value} (h : Rw w b n f) {p : Addr} (hp : b ≠ p.block) (v : Value) : Rw (w.setCell p v) b n f := h.keep (Below.heap_setCell _ _ _ _ hp) (by simp)

/-- The matrix F (n rows; the first i lie there) in the block D. -/
structure DM (w : World) (base D n i : Nat) (g c : Nat → Nat) (F : Nat → Nat → Int) : Prop where
  O : Rw w D n (fun r => if r < i then .slice (some ⟨g r, 0, none⟩) n (c r) else .slice none 0 0)
  R : ∀ r, r < i → Rw w (g r) n (fun j => .int .i64 (F r j))
  J : ∀ r s, r < i → s < i → g r = g s → r = s
  U : ∀ r, r < i → g r ≠ D ∧ base ≤ g r
  B : base ≤ D
theorem DM.keep {w w' : World} {base D n i : Nat} {g c : Nat → Nat} {F : Nat → Nat → Int} (h : DM w base D n i g c F) (hb : Below w.heap.size w w') : DM w' base D n i g c F :=
  ⟨h.O.keep (hb.block D h.O.1.1) hb.size, fun r hr => (h.R r hr).keep (hb.block _ (h.R r hr).1.1) hb.size, h.J, h.U, h.B⟩
theorem DM.congr {w : World} {base D n i : Nat} {g c : Nat → Nat} {F G : Nat → Nat → Int} (h : DM w base D n i g c F) (e : ∀ r j, r < i → j < n → F r j = G r j) : DM w base D n i g c G :=
  ⟨h.O, fun r hr => (h.R r hr).congr (fun j hj => by rw [e r j hr hj]), h.J, h.U, h.B⟩
theorem DM.row {w : World} {base D n : Nat} {g c : Nat → Nat} {F : Nat → Nat → Int} (h : DM w base D n n g c F) {r : Nat} (hr : r < n) : w.cell? ⟨D, r, none⟩ = some (.slice (some ⟨g r, 0, none⟩) n (c r)) := by
  have := h.O.2 r hr
  simpa only [if_pos hr] using this
theorem DM.ent {w : World} {base D n : Nat} {g c : Nat → Nat} {F : Nat → Nat → Int} (h : DM w base D n n g c F) {r j : Nat} (hr : r < n) (hj : j < n) : w.cell? ⟨g r, j, none⟩ = some (.int .i64 (F r j)) := (h.R r hr).2 j hj
/-- A number stored. -/
theorem DM.store {w : World} {base D n : Nat} {g c : Nat → Nat} {F : Nat → Nat → Int} (h : DM w base D n n g c F) {r j : Nat} (hr : r < n) (hj : j < n) (z : Int) :
    DM (w.setCell ⟨g r, j, none⟩ (.int .i64 z)) base D n n g c (fun i' j' => if i' = r ∧ j' = j then z else F i' j') := by
  refine ⟨h.O.far (fun e => (h.U r hr).1 e.symm) _, fun s hs => ?_, h.J, h.U, h.B⟩
  by_cases e : s = r
  · subst e
    exact ((h.R s hs).set hj _).congr (fun i hi => by by_cases e : i = j <;> simp [e])
  · exact ((h.R s hs).far (fun e2 => e (h.J s r hs hr e2)) _).congr (fun i hi => by simp [e])
/-- Two rows exchanged. -/
theorem DM.swap {w : World} {base D n : Nat} {g c : Nat → Nat} {F : Nat → Nat → Int} (h : DM w base D n n g c F) {a k : Nat} (ha : a < n) (hk : k < n) (hak : a ≠ k) :
    DM ((w.setCell ⟨D, a, none⟩ (.slice (some ⟨g k, 0, none⟩) n (c k))).setCell ⟨D, k, none⟩ (.slice (some ⟨g a, 0, none⟩) n (c a))) base D n n (fun i => if i = a then g k else if i = k then g a else g i) (fun i => if i = a then c k else if i = k then c a else c i) (Dt.swapF F a k) := by
  have inj : ∀ r s, r < n → s < n → (if r = a then g k else if r = k then g a else g r) = (if s = a then g k else if s = k then g a else g s) → r = s := by
    intro r s hr hs e
    have J := fun r s => h.J r s
    by_cases r1 : r = a
    · by_cases s1 : s = a
      · omega
      · rw [if_pos r1, if_neg s1] at e
        by_cases s2 : s = k
        · rw [if_pos s2] at e; have := h.J k a hk ha e; omega
        · rw [if_neg s2] at e; have := h.J k s hk hs e; omega
    · rw [if_neg r1] at e
      by_cases r2 : r = k
      · rw [if_pos r2] at e
        by_cases s1 : s = a
        · rw [if_pos s1] at e; have := h.J a k ha hk e; omega
        · rw [if_neg s1] at e
          by_cases s2 : s = k
          · omega
          · rw [if_neg s2] at e; have := h.J a s ha hs e; omega
      · rw [if_neg r2] at e
        by_cases s1 : s = a
        · rw [if_pos s1] at e; have := h.J r k hr hk e; omega
        · rw [if_neg s1] at e
          by_cases s2 : s = k
          · rw [if_pos s2] at e; have := h.J r a hr ha e; omega
          · rw [if_neg s2] at e; exact h.J r s hr hs e
  have rows : ∀ r, r < n → Rw ((w.setCell ⟨D, a, none⟩ (.slice (some ⟨g k, 0, none⟩) n (c k))).setCell ⟨D, k, none⟩ (.slice (some ⟨g a, 0, none⟩) n (c a))) (g r) n (fun j => .int .i64 (F r j)) := fun r hr => ((h.R r hr).far (h.U r hr).1 _).far (h.U r hr).1 _
  refine ⟨((h.O.set ha _).set hk _).congr (fun i hi => ?_), fun r hr => ?_, inj, fun r hr => ?_, h.B⟩
  · rw [if_pos hi, if_pos hi]
    by_cases e1 : i = k
    · subst e1; rw [if_pos rfl, if_neg (fun e => hak e.symm), if_pos rfl, if_neg (fun e => hak e.symm), if_pos rfl]
    · rw [if_neg e1]
      by_cases e2 : i = a
      · subst e2; rw [if_pos rfl, if_pos rfl, if_pos rfl]
      · rw [if_neg e2, if_neg e2, if_neg e1, if_neg e2, if_neg e1]
  · by_cases e1 : r = a
    · subst e1; rw [if_pos rfl]; exact (rows k hk).congr (fun j _ => by simp [Dt.swapF])
    · rw [if_neg e1]
      by_cases e2 : r = k
      · subst e2; rw [if_pos rfl]; exact (rows a ha).congr (fun j _ => by simp [Dt.swapF, e1])
      · rw [if_neg e2]; exact (rows r hr).congr (fun j _ => by simp [Dt.swapF, e1, e2])
  · split
    · exact h.U k hk
    · split
      · exact h.U a ha
      · exact h.U r hr
theorem below_set {B : Nat} {w w' : World} (h : Below B w w') {b i : Nat} (hb : B ≤ b) (v : Value) : Below B w (w'.setCell ⟨b, i, none⟩ v) := h.setCell hb v

theorem nodup_inj {g : Nat} : ∀ (gs : List Nat) {r s : Nat}, gs.Nodup → gs[r]? = some g → gs[s]? = some g → r = s
  | [], _, _, _, h, _ => by simp at h
  | _ :: _, 0, 0, _, _, _ => rfl
  | a :: gs, 0, s + 1, hd, h1, h2 => by
    simp at h1 h2; subst h1
    rw [List.nodup_cons] at hd
    exact absurd (List.mem_of_getElem? h2) hd.1
  | a :: gs, r + 1, 0, hd, h1, h2 => by
    simp at h1 h2; subst h2
    rw [List.nodup_cons] at hd
    exact absurd (List.mem_of_getElem? h1) hd.1
  | a :: gs, r + 1, s + 1, hd, h1, h2 => by
    rw [List.nodup_cons] at hd
    have := nodup_inj (r := r) (s := s) gs hd.2 (by simpa using h1) (by simpa using h2)
    omega
/-- The matrix' numbers, by the index. -/
def mF (M : List (List Int)) (i j : Nat) : Int := ((M[i]?).getD [])[j]?.getD 0
theorem LL.dm {w : World} {base c0 n : Nat} {C : Option Addr} {gs : List Nat} {M : List (List Int)} (h : LL w base C c0 gs M) (hn : M.length = n) (h0 : 0 < n) (hr : ∀ row ∈ M, row.length = n) : ∃ D g c, C = some ⟨D, 0, none⟩ ∧ DM w base D n n g c (mF M) := by
  obtain ⟨vs, o, hrows, hd, hf⟩ := h
  obtain ⟨D, hC, hD, -⟩ := o.form (by omega)
  have key : ∀ i, i < n → ∃ g c cc, gs[i]? = some g ∧ vs[i]? = some (.slice (some ⟨g, 0, none⟩) n c) ∧ Own w base w.heap.size 3 (some ⟨g, 0, none⟩) n cc ((M[i]?.getD []).map (.int .i64)) := by
    intro i hi
    have hg : M[i]? = some (M[i]'(by omega)) := List.getElem?_eq_getElem _
    obtain ⟨g, v, h1, h2, c, cc, rfl, ho⟩ := hrows.get hg
    have hl := hr _ (List.mem_of_getElem? hg)
    rw [hl] at h2 ho
    exact ⟨g, c, cc, h1, h2, by rw [hg]; exact ho⟩
  obtain ⟨g, hg⟩ := Classical.axiomOfChoice (r := fun (i : Fin n) (y : Nat × Nat × Nat) => gs[i.1]? = some y.1 ∧ vs[i.1]? = some (.slice (some ⟨y.1, 0, none⟩) n y.2.1) ∧ Own w base w.heap.size 3 (some ⟨y.1, 0, none⟩) n y.2.2 ((M[i.1]?.getD []).map (.int .i64))) (fun i => by
    obtain ⟨a, b, c, h1, h2, h3⟩ := key i.1 i.2; exact ⟨(a, b, c), h1, h2, h3⟩)
  subst hC
  refine ⟨D, fun i => if hi : i < n then (g ⟨i, hi⟩).1 else 0, fun i => if hi : i < n then (g ⟨i, hi⟩).2.1 else 0, rfl, ⟨⟨?_, fun i => o.frozen i⟩, fun r hrn => ?_⟩, fun r hrn => ?_, fun r s hrn hsn e => ?_, fun r hrn => ?_, hD⟩
  · exact (o.2 D 0 rfl).2
  · obtain ⟨h1, h2, h3⟩ := hg ⟨r, hrn⟩
    simp only [hrn, if_true, dif_pos]
    obtain ⟨b', off, v, hA, hv, hc⟩ := o.sl.at_ (show r < M.length by omega)
    injection hA with hA; injection hA with e1 e2 _
    subst e1 e2
    rw [h2] at hv
    injection hv with hv
    rw [← hv, Nat.zero_add] at hc
    exact hc
  · obtain ⟨h1, h2, h3⟩ := hg ⟨r, hrn⟩
    simp only [hrn, dif_pos]
    refine ⟨⟨(h3.2 _ 0 rfl).2, fun i => h3.frozen i⟩, fun j hj => ?_⟩
    obtain ⟨b', off, x, hA, hx, hc⟩ := h3.sl.atI hj
    injection hA with hA; injection hA with e1 e2 _
    subst e1 e2
    rw [Nat.zero_add] at hc
    rw [hc]
    show _ = some (Value.int .i64 (((M[r]?).getD [])[j]?.getD 0))
    rw [hx]; rfl
  · simp only [hrn, hsn, dif_pos] at e
    obtain ⟨h1, -⟩ := hg ⟨r, hrn⟩
    obtain ⟨h2, -⟩ := hg ⟨s, hsn⟩
    rw [← e] at h2
    exact nodup_inj gs hd h1 h2
  · obtain ⟨h1, h2, h3⟩ := hg ⟨r, hrn⟩
    simp only [hrn, dif_pos]
    exact ⟨fun e => hf _ (List.mem_of_getElem? h1) 0 (by rw [e]), (h3.2 _ 0 rfl).1⟩

end Go.Proofs.Ytepnhhehfkcgkaa
