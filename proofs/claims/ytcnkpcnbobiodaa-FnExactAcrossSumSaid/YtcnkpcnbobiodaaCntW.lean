/-
  The closure that counts with a memory: what it returns, and what it leaves of the memory.
-/
import Derived.Test.YtcnkpcnbobiodaaKeyP
import Derived.Test.YtcnkpcnbobiodaaClone
import Derived.Test.YtcnkpcnbobiodaaValid
import Derived.Maps.OwnSet
import Derived.Laws.IdiomStrings
import Derived.Laws.BytesString
import Derived.Deep.QuietTactic
import Derived.BigQuiet
import Derived.Deep.LoopGhost
namespace Go.Proofs.Ytcnkpcnbobiodaa
open Go.RowKit
open Til (on to cntA avC cov2 keyU valK oneW)

theorem Try.infoU8 : (Try.prog.info? 5).map (fun i => (i.zero, i.size, i.bytes)) = some (some (.int .u8 0), 1, 1) := by kernel_rfl
theorem Try.zeroInt (w : World) : (zeroValue 3).run Try.prog w = .ok (.int .i64 0) w := by kernel_rfl
theorem Try.keyed : Go.Maps.Keyed Try.prog 9 := Go.Maps.string_keyed Try.underlying9

/-- The memory holds right counts. -/
def MInv (W T : Nat) (bs : List Bool) (D : DataW Unit) : Prop :=
  Go.Maps.IsMap D ∧ ∀ s : List UInt8, Go.Maps.has D (.string s) = true → D.atKey (.string s) (.lit (.int .i64 0)) = .lit (.int .i64 (valK W T bs s))
theorem MInv.nil (W T : Nat) (bs : List Bool) : MInv W T bs (.map []) := ⟨Go.Maps.isMap_empty, fun s h => by simp [Go.Maps.has] at h⟩
theorem isKey_string (s : List UInt8) : WideAt.IsKeyLit (.string s) := by trivial
theorem MInv.put {W T : Nat} {bs : List Bool} {D : DataW Unit} (h : MInv W T bs D) (s : List UInt8) : MInv W T bs (D.put (.string s) (.lit (.int .i64 (valK W T bs s)))) := by
  refine ⟨h.1.put _ _, fun s' hs => ?_⟩
  by_cases e : s' = s
  · subst e
    exact Go.Maps.atKey_put_same h.1 (isKey_string _) _ _
  · have hne : (Lit.string s') ≠ .string s := by simpa using e
    rw [Go.Maps.has_put_other hne] at hs
    rw [Go.Maps.atKey_put_other hne]
    exact h.2 s' hs

/-- Where the closure's variables lie, and what they hold. -/
structure WI (Bm br bk bw : Nat) (W T : Nat) (A : Option Addr) (n c : Nat) (bs : List Bool) (N : Nat) (w : World) : Prop where
  X : Box w br (.int .i64 W) (.int .i64 T) (.slice A n c)
  K : w.cell? ⟨bk, 0, none⟩ = some (.map (some Bm))
  F : w.cell? ⟨bw, 0, none⟩ = some (.func (.func 90) #[] #[.pointer (some ⟨br, 0, none⟩), .pointer (some ⟨bk, 0, none⟩), .pointer (some ⟨bw, 0, none⟩)])
  M : ∃ D : DataW Unit, w.ownsMap Try.prog 9 (plainElem Try.prog 3) Bm N D ∧ MInv W T bs D
  S : Sl w A n (bs.map .bool)
  n1 : br ≠ Bm
  n2 : bk ≠ Bm
  n3 : bw ≠ Bm
  n4 : ∀ b off, A = some ⟨b, off, none⟩ → b ≠ Bm

theorem WI.keep {Bm br bk bw W T n c N : Nat} {A : Option Addr} {bs : List Bool} {w w' : World} (h : WI Bm br bk bw W T A n c bs N w) (hg : w.grownBy w' none) : WI Bm br bk bw W T A n c bs N w' := by
  obtain ⟨D, hm, hi⟩ := h.M
  have k1 : w'.heap[bk]? = w.heap[bk]? := hg.block bk (World.block_lt_of_cell? w _ h.K) (by simp)
  have k2 : w'.heap[bw]? = w.heap[bw]? := hg.block bw (World.block_lt_of_cell? w _ h.F) (by simp)
  exact ⟨h.X.grown hg (by simp), (World.cell?_of_block (w := w) k1).trans h.K, (World.cell?_of_block (w := w) k2).trans h.F, ⟨D, hm.kept hg (by simp), hi⟩, h.S.grown hg (by simp), h.n1, h.n2, h.n3, h.n4⟩
theorem WI.below {Bm br bk bw W T n c N : Nat} {A : Option Addr} {bs : List Bool} {w w' : World} (h : WI Bm br bk bw W T A n c bs N w) (hb : Below w.heap.size w w') : WI Bm br bk bw W T A n c bs N w' := h.keep (grown_below hb none)
/-- A store into the memory. -/
theorem WI.put {Bm br bk bw W T n c N : Nat} {A : Option Addr} {bs : List Bool} {w w' : World} {D : DataW Unit} (h : WI Bm br bk bw W T A n c bs N w) (hg : w.grownBy w' (some Bm)) (hm : w'.ownsMap Try.prog 9 (plainElem Try.prog 3) Bm (N + 1) D) (hi : MInv W T bs D) : WI Bm br bk bw W T A n c bs (N + 1) w' := by
  have k1 : w'.heap[bk]? = w.heap[bk]? := hg.block bk (World.block_lt_of_cell? w _ h.K) (by simpa using h.n2)
  have k2 : w'.heap[bw]? = w.heap[bw]? := hg.block bw (World.block_lt_of_cell? w _ h.F) (by simpa using h.n3)
  exact ⟨h.X.grown hg (by simpa using h.n1), (World.cell?_of_block (w := w) k1).trans h.K, (World.cell?_of_block (w := w) k2).trans h.F, ⟨D, hm, hi⟩, h.S.grown hg (fun b off hA => by simpa using h.n4 b off hA), h.n1, h.n2, h.n3, h.n4⟩
theorem WI.mono {Bm br bk bw W T n c N N' : Nat} {A : Option Addr} {bs : List Bool} {w : World} (h : WI Bm br bk bw W T A n c bs N w) (hN : N ≤ N') : WI Bm br bk bw W T A n c bs N' w := by
  obtain ⟨D, hm, hi⟩ := h.M
  exact ⟨h.X, h.K, h.F, ⟨D, hm.mono hN, hi⟩, h.S, h.n1, h.n2, h.n3, h.n4⟩

/-- The first loop is behind: cells from k to j are not free. -/
def Skip (bs cov : List Bool) (k j : Nat) : Prop := ∀ i, k ≤ i → i < j → on (avC bs cov) i = false
theorem Skip.succ {bs cov : List Bool} {k j : Nat} (h : Skip bs cov k j) (hj : on (avC bs cov) j = false) : Skip bs cov k (j + 1) := by
  intro i h1 h2
  by_cases e : i = j
  · subst e; exact hj
  · exact h i h1 (by omega)
theorem Skip.cnt {W T n k j : Nat} {bs cov : List Bool} (h : Skip bs cov k j) (hkj : k ≤ j) (hj : j ≤ n) : cntA W T (n - k) k (avC bs cov) = cntA W T (n - j) j (avC bs cov) := by
  have := Til.cntA_skips (W := W) (T := T) (av := avC bs cov) (j - k) k (n - j) (fun i h1 h2 => h i h1 (by omega))
  rw [show n - j + (j - k) = n - k by omega, show k + (j - k) = j by omega] at this
  exact this
theorem on_of {bs : List Bool} {k : Nat} {x : Bool} (h : bs[k]? = some x) : on bs k = x := by unfold on; rw [h]; rfl

theorem drop_sl {w : World} {b off n j : Nat} {vs : List Value} (h : Sl w (some ⟨b, off, none⟩) n vs) (hj : j ≤ n) : Sl w (some ⟨b, off + j, none⟩) (n - j) (vs.drop j) := by
  refine ⟨by rw [List.length_drop, h.1], fun h0 => ⟨b, off + j, rfl, fun k v hv => ?_⟩⟩
  obtain ⟨b', off', hA, hc⟩ := h.2 (by omega)
  injection hA with hA
  injection hA with h1 h2 _
  subst h1 h2
  rw [List.getElem?_drop] at hv
  have := hc (j + k) v hv
  rwa [← Nat.add_assoc] at this

/-- The sum over the first ways. -/
def sumW (f : Int → Nat) : Nat → Nat
  | 0 => 0
  | i + 1 => sumW f i + f ((i + 1 : Nat) : Int)

theorem sumW_le {f : Int → Nat} {p : Nat} (h : ∀ v, f v ≤ p) : ∀ i, i ≤ 1 → sumW f i ≤ p
  | 0, _ => by simp [sumW]
  | 1, _ => by have := h 1; simp [sumW]; exact this
  | i + 2, hi => by omega
theorem sumW_two {f : Int → Nat} {m : Nat} (h : m = f 1 + f 2) : sumW f 2 = m := by rw [h]; simp [sumW]
theorem pow36 {m : Nat} (h : m ≤ 36) : 2 ^ m ≤ 68719476736 := Nat.le_trans (Nat.pow_le_pow_right (by omega) h) (by decide)

/-! the key's bytes -/
def byteV (b : UInt8) : Value := .int .u8 b.toNat
theorem key_len {j : Nat} {cov : List Bool} : (keyU j cov).length = 1 + (cov.length - j) := by rw [keyU, List.length_cons, List.length_map, List.length_drop, Nat.add_comm]
theorem key_take0 {j : Nat} {cov : List Bool} (hj : j < 256) : ([] ++ [Value.int .u8 (j : Int)]) = ((keyU j cov).take 1).map byteV := by
  have : (UInt8.ofNat j).toNat = j := by rw [UInt8.toNat_ofNat']; exact Nat.mod_eq_of_lt hj
  simp [keyU, byteV, this]
theorem key_get {j i : Nat} {cov : List Bool} {y : Bool} (h : (cov.drop j)[i]? = some y) : (keyU j cov)[1 + i]? = some (Til.signU y) := by
  rw [keyU, Nat.add_comm, List.getElem?_cons_succ, List.getElem?_map, h]; rfl
theorem key_snoc {j i : Nat} {cov : List Bool} {u : UInt8} {v : Int} (h : (keyU j cov)[1 + i]? = some u) (hv : byteV u = .int .u8 v) : ((keyU j cov).take (1 + i)).map byteV ++ [.int .u8 v] = ((keyU j cov).take (1 + (i + 1))).map byteV := by
  rw [show 1 + (i + 1) = (1 + i) + 1 from rfl, take_snoc h, List.map_append, ← hv]; rfl
theorem key_convert {w : World} {base top g m q : Nat} {word : List UInt8} (h : Own w base top 5 (some ⟨g, 0, none⟩) m q (word.map byteV)) (hm : word.length = m) :
    (convert 74 9 (.slice (some ⟨g, 0, none⟩) m q)).run Try.prog w = .ok (.string ⟨word.toArray⟩) w := by
  subst hm
  refine run_convert_bytes_back (P := Try.prog) w 74 9 5 ⟨g, 0, none⟩ q word Try.underlying74 Try.underlying5 Try.underlying9 (fun k hk => ?_)
  obtain ⟨b, off, hA, hc⟩ := h.sl.2 (by omega)
  injection hA with hA
  injection hA with h1 h2 _
  subst h1 h2
  have := hc k (byteV word[k]) (by rw [List.getElem?_map, List.getElem?_eq_getElem hk]; rfl)
  rw [show (⟨g, 0, none⟩ : Addr).add k = ⟨g, 0 + k, none⟩ by unfold Addr.add; split <;> simp_all]
  exact this
theorem key_of (word : List UInt8) (h : word.length ≤ maxLen) : keyOf Try.prog 9 (.string ⟨word.toArray⟩) = some (.string word) := by
  simpa using Go.WideMaps.keyOf_string_mk (P := Try.prog) Try.underlying9 (s := ⟨word.toArray⟩) (by simpa [ByteArray.size] using h)

end Go.Proofs.Ytcnkpcnbobiodaa
