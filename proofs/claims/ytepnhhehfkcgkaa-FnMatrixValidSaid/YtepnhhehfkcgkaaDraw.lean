/-
  The laws' drawing of an input: l20Open, pick, odd: they end, and give back small numbers.
-/
import Derived.Test.YtepnhhehfkcgkaaMem2
import Derived.Test.YtepnhhehfkcgkaaDark
import Derived.Laws.BitsAllLaws
import Derived.Laws.BitsLemmas
namespace Go.Proofs.Ytepnhhehfkcgkaa
open Go.RowKit

/-- A reader at block q: its bytes lie at A, its place is p. -/
def Rd (w : World) (q : Nat) (A : Option Addr) (n c : Nat) (us : List Int) (p : Nat) : Prop :=
  w.cell? ⟨q, 0, none⟩ = some (.slice A n c) ∧ w.cell? ⟨q, 1, none⟩ = some (.int .i64 p) ∧ Thaw w q ∧ Sl w A n (us.map (.int .u8)) ∧ (∀ u ∈ us, 0 ≤ u ∧ u ≤ 255) ∧ n ≤ 2000 ∧ (0 < n → ∀ b off, A = some ⟨b, off, none⟩ → b < q)

theorem Rd.keep {w w' : World} {q : Nat} {A : Option Addr} {n c : Nat} {us : List Int} {p : Nat} (h : Rd w q A n c us p) (hb : ∀ b, b < w.heap.size → (b = q ∨ ∃ off, A = some ⟨b, off, none⟩) → w'.heap[b]? = w.heap[b]?) (hs : w.heap.size ≤ w'.heap.size) : Rd w' q A n c us p := by
  obtain ⟨h1, h2, h3, h4, h5, h6, h7⟩ := h
  have hq := hb q h3.1 (.inl rfl)
  exact ⟨(World.cell?_of_block (w := w) hq).trans h1, (World.cell?_of_block (w := w) hq).trans h2, h3.keep hq hs, h4.keep (fun b off hA hlt => hb b hlt (.inr ⟨off, hA⟩)), h5, h6, h7⟩
theorem Rd.keepLe {w w' : World} {q : Nat} {A : Option Addr} {n c : Nat} {us : List Int} {p : Nat} (h : Rd w q A n c us p) (hb : ∀ b, b ≤ q → w'.heap[b]? = w.heap[b]?) (hs : w.heap.size ≤ w'.heap.size) : Rd w' q A n c us p := by
  obtain ⟨h1, h2, h3, h4, h5, h6, h7⟩ := h
  have hq := hb q (Nat.le_refl _)
  refine ⟨(World.cell?_of_block (w := w) hq).trans h1, (World.cell?_of_block (w := w) hq).trans h2, h3.keep hq hs, ?_, h5, h6, h7⟩
  by_cases hn : n = 0
  · subst hn; exact ⟨h4.1, fun h => absurd h (by omega)⟩
  · exact h4.keep (fun b off hA _ => hb b (Nat.le_of_lt (h7 (by omega) b off hA)))
theorem Rd.above {w w' : World} {q B : Nat} {A : Option Addr} {n c : Nat} {us : List Int} {p : Nat} (h : Rd w q A n c us p) (hb : Below B w w') (hB : q < B) : Rd w' q A n c us p := h.keepLe (fun b hbq => hb.block b (by omega)) hb.size
theorem grown_then {a b c : World} {row : Option Nat} {B : Nat} (h : a.grownBy b row) (k : Below B b c) (hB : a.heap.size ≤ B) : a.grownBy c row :=
  ⟨k.os.trans h.os, k.tape.trans h.tape, k.output.trans h.output, Nat.le_trans h.size k.size, fun i hi hne => (k.block i (by omega)).trans (h.block i hi hne)⟩
/-- An append onto a slice of the call's own leaves alone what lies below its base. -/
theorem Own.grownBelow {w w' : World} {base top : Nat} {e : TypeId} {A : Option Addr} {n c : Nat} {vs : List Value} (o : Own w base top e A n c vs) (hg : w.grownBy w' (A.map (·.block))) (hb : base ≤ w.heap.size) : Below base w w' :=
  (Below.refl base w).grown hg hb (fun k hk => by
    rcases Nat.lt_or_ge k base with hlt | hge
    · exact absurd hk.symm (o.offBox (.inl hlt))
    · exact hge)
theorem Rd.below {w w' : World} {q : Nat} {A : Option Addr} {n c : Nat} {us : List Int} {p : Nat} (h : Rd w q A n c us p) (hb : Below w.heap.size w w') : Rd w' q A n c us p := h.keep (fun b hlt _ => hb.block b hlt) hb.size
theorem Rd.alloc {w : World} {q : Nat} {A : Option Addr} {n c : Nat} {us : List Int} {p : Nat} (h : Rd w q A n c us p) (o : Obj) : Rd (w.alloc o) q A n c us p := h.below (below1 w o)
theorem Rd.drew {w : World} {q : Nat} {A : Option Addr} {n c : Nat} {us : List Int} {p : Nat} (h : Rd w q A n c us p) : Rd w.drew q A n c us p := h

/-- What pick gives back: a number below N, or 0; the reader is one further. -/
def Picked (q : Nat) (A : Option Addr) (n c : Nat) (us : List Int) (p : Nat) (N : Int) (w : World) (e : Ending) (w' : World) : Prop :=
  ∃ v : Int, e = .returned (.int .i64 v) ∧ 0 ≤ v ∧ (v < N ∨ v = 0) ∧ Rd w' q A n c us (p + 1) ∧ w.grownBy w' (some q)

theorem xor_nonneg (x y : Int) (hx : 0 ≤ x) (hx' : x < 9223372036854775808) (hy : 0 ≤ y) (hy' : y < 9223372036854775808) : 0 ≤ bits .xor .i64 x y := by
  obtain ⟨a, rfl⟩ := Int.eq_ofNat_of_zero_le hx
  obtain ⟨b, rfl⟩ := Int.eq_ofNat_of_zero_le hy
  have ha : a < 2 ^ 63 := by omega
  have hb : b < 2 ^ 63 := by omega
  have h := Nat.xor_lt_two_pow ha hb
  show 0 ≤ IntKind.i64.wrap ((BitVec.ofInt 64 (a : Int) ^^^ BitVec.ofInt 64 (b : Int)).toNat : Int)
  rw [BitVec.toNat_xor, BitVec.ofInt_natCast, BitVec.ofInt_natCast, BitVec.toNat_ofNat, BitVec.toNat_ofNat, Nat.mod_eq_of_lt (by omega), Nat.mod_eq_of_lt (by omega), IntKind.wrap_i64]
  omega

theorem Rd.step {w : World} {q : Nat} {A : Option Addr} {n c : Nat} {us : List Int} {p : Nat} (h : Rd w q A n c us p) (v : Int) (hv : v = (p + 1 : Nat)) : Rd (w.setCell ⟨q, 1, none⟩ (.int .i64 v)) q A n c us (p + 1) := by
  obtain ⟨h1, h2, h3, h4, h5, h6, h7⟩ := h
  subst hv
  refine ⟨(World.cell?_setCell_other _ _ _ _ (by simp)).trans h1, World.cell?_setCell_same _ _ _ h2, h3.setCell _ _, ?_, h5, h6, h7⟩
  by_cases hn : n = 0
  · subst hn; exact ⟨h4.1, fun h => absurd h (by omega)⟩
  · exact h4.setFar (fun b off hA => by have := h7 (by omega) b off hA; show b ≠ q; omega) _
theorem Rd.new {w : World} {A : Option Addr} {n : Nat} {us : List Int} (h : Sl w A n (us.map (.int .u8))) (hu : ∀ u ∈ us, 0 ≤ u ∧ u ≤ 255) (hn : n ≤ 2000) (c : Nat) (t : TypeId) : Rd (w.alloc (.cells #[.slice A n c, .int .i64 0] t)) w.heap.size A n c us 0 := by
  refine ⟨?_, ?_, Thaw.new _ _ _, h.alloc _, hu, hn, fun h0 b off hA => ?_⟩
  · rw [World.cell?_alloc_at _ _ _ _ rfl]; rfl
  · rw [World.cell?_alloc_at _ _ _ _ rfl]; rfl
  · obtain ⟨b', off', hA', hlt⟩ := h.block h0
    rw [hA'] at hA; injection hA with hA; injection hA with h1 _ _; omega
theorem grown_set (w : World) (q i : Nat) (v : Value) : w.grownBy (w.setCell ⟨q, i, none⟩ v) (some q) :=
  ⟨rfl, rfl, rfl, by simp [World.setCell], fun k _ hne => Below.heap_setCell _ _ _ _ (by rintro rfl; exact hne rfl)⟩
theorem grown_drewN {w w' : World} {row : Option Nat} (h : w.grownBy w' row) (k : Nat) : w.grownBy (w'.drewN k) row := ⟨h.os, h.tape, h.output, h.size, h.block⟩
theorem grown_drew {w w' : World} {row : Option Nat} (h : w.grownBy w' row) : w.grownBy w'.drew row := ⟨h.os, h.tape, h.output, h.size, h.block⟩

set_option maxHeartbeats 1000000 in
theorem pick_any (q : Nat) (A : Option Addr) (n c : Nat) (us : List Int) (p : Nat) (N : Int) (w : World) (h : Rd w q A n c us p) (hp : p ≤ 100000) (hN : -100000 ≤ N ∧ N ≤ 100000) :
    Calls Try.prog 79 #[.pointer (some ⟨q, 0, none⟩), .int .i64 N] w (Picked q A n c us p N w) := by
  have hst := h.step ((p : Int) + 1) (by omega)
  obtain ⟨k1, k2, k3, k4, k5, k6, k7⟩ := h
  have f1 := k3.2 1
  by_cases hN1 : N < 1
  · go_enter Try.func79, Try.ntmps79
    go_wp2_with fail
    go_ret
    exact ⟨0, rfl, by omega, .inr rfl, hst, grown_set _ _ _ _⟩
  by_cases hn0 : n = 0
  · subst hn0
    go_enter Try.func79, Try.ntmps79
    go_wp2_with fail
    go_ret
    exact ⟨0, rfl, by omega, .inr rfl, hst, grown_set _ _ _ _⟩
  have hn0' : ((n : Int) == 0) = false := beq_eq_false_iff_ne.2 (by omega)
  have hN0' : (N == 0) = false := beq_eq_false_iff_ne.2 (by omega)
  by_cases hpn : p < n
  · obtain ⟨b, off, u, hA, hu, hc⟩ := k4.atI hpn
    have hub := k5 u (List.mem_of_getElem? hu)
    subst hA
    have hbq := Nat.ne_of_lt (k7 (by omega) b off rfl)
    clear hn0 hu
    go_enter Try.func79, Try.ntmps79
    go_wp2_with fail
    go_ret
    exact ⟨u % N, rfl, Int.emod_nonneg _ (by omega), .inl (Int.emod_lt_of_pos _ (by omega)), hst, grown_set _ _ _ _⟩
  · obtain ⟨i1, hi1⟩ : ∃ i1, i1 = p % n := ⟨_, rfl⟩
    obtain ⟨i2, hi2⟩ : ∃ i2, i2 = (p * 7 + 3) % n := ⟨_, rfl⟩
    have h1 : i1 < n := by rw [hi1]; exact Nat.mod_lt _ (by omega)
    have h2 : i2 < n := by rw [hi2]; exact Nat.mod_lt _ (by omega)
    obtain ⟨b, off, u, hA, hu, hc⟩ := k4.atI h1
    have hub := k5 u (List.mem_of_getElem? hu)
    obtain ⟨b', off', u2, hA', hu2, hc2⟩ := k4.atI h2
    have hub2 := k5 u2 (List.mem_of_getElem? hu2)
    obtain ⟨rfl, rfl⟩ : b = b' ∧ off = off' := by rw [hA] at hA'; simpa using hA'
    subst hA
    have hbq := Nat.ne_of_lt (k7 (by omega) b off rfl)
    have e1 : (p : Int) % (n : Int) = (i1 : Int) := by rw [hi1]; simp
    have e2 : ((p : Int) * 7 + 3) % (n : Int) = (i2 : Int) := by rw [hi2]; simp
    obtain ⟨d, hd⟩ : ∃ d : Nat, d = p / n := ⟨_, rfl⟩
    have e3 : (p : Int) / (n : Int) = (d : Int) := by rw [hd]; simp
    have hdb : d ≤ p := by rw [hd]; exact Nat.div_le_self _ _
    have g1 : (0 : Int) ≤ (i1 : Int) := by omega
    have g2 : (i1 : Int) < (n : Int) := by omega
    have g3 : (0 : Int) ≤ (i2 : Int) := by omega
    have g4 : (i2 : Int) < (n : Int) := by omega
    clear hn0 hu hu2 hA' hi1 hi2 hd
    go_enter Try.func79, Try.ntmps79
    go_wp2_with fail
    go_quiet (fail)
    have hx := xor_nonneg (u * 131 + u2 * 1117 + (p : Int) * 29 + (d : Int) * 53) ((u * 131 + u2 * 1117 + (p : Int) * 29 + (d : Int) * 53) / 64) (by omega) (by omega) (by omega) (by omega)
    go_wp2_with fail
    go_ret
    exact ⟨_, rfl, Int.emod_nonneg _ (by omega), .inl (Int.emod_lt_of_pos _ (by omega)), hst, grown_drewN (grown_set _ _ _ _) _⟩


/-- What odd gives back: a bool; the reader is one further. -/
def Odded (q : Nat) (A : Option Addr) (n c : Nat) (us : List Int) (p : Nat) (w : World) (e : Ending) (w' : World) : Prop :=
  ∃ v : Bool, e = .returned (.bool v) ∧ Rd w' q A n c us (p + 1) ∧ w.grownBy w' (some q)

theorem odd_any (q : Nat) (A : Option Addr) (n c : Nat) (us : List Int) (p : Nat) (N : Int) (w : World) (h : Rd w q A n c us p) (hp : p ≤ 100000) (hN : 1 ≤ N ∧ N ≤ 100000) :
    Calls Try.prog 80 #[.pointer (some ⟨q, 0, none⟩), .int .i64 N] w (Odded q A n c us p w) := by
  have hN0 : (0 : Int) < N := by omega
  go_enter Try.func80, Try.ntmps80
  go_wp2_with (go_at_call 79; refine (pick_any q A n c us p N _ h hp ⟨by omega, by omega⟩).mono ?_; rintro e w1 ⟨v, rfl, hv0, hv1, hrd, hg⟩)
  go_ret
  exact ⟨_, rfl, hrd, hg⟩

theorem open_any (A : Option Addr) (n c : Nat) (us : List Int) (w : World) (hn : n ≤ 9223372036854775807) (hnc : n ≤ c) (h : Sl w A n (us.map (.int .u8))) (hu : ∀ u ∈ us, 0 ≤ u ∧ u ≤ 255) :
    Calls Try.prog 49 #[.slice A n c] w fun e w' => e = .returned (.pointer (some ⟨w.heap.size, 0, none⟩)) ∧ (∃ n' us', Rd w' w.heap.size A n' c us' 0) ∧ Below w.heap.size w w' ∧ w'.heap.size = w.heap.size + 1 := by
  have hl := h.1
  rw [List.length_map] at hl
  by_cases hbig : 2000 < n
  · have hcap : (2000 : Nat) ≤ c := by omega
    obtain ⟨b, off, hA, hlt⟩ := h.block (by omega)
    have hs2 : Sl w A 2000 ((us.take 2000).map (.int .u8)) := by
      refine ⟨by simp; omega, fun _ => ?_⟩
      obtain ⟨b, off, hA, hc⟩ := h.2 (by omega)
      refine ⟨b, off, hA, fun k v hv => hc k v ?_⟩
      rw [List.map_take, List.getElem?_take] at hv
      split at hv
      · exact hv
      · cases hv
    have HL := Lib.hid hl
    clear hl
    subst hA
    go_enter Try.func49, Try.ntmps49
    go_wp2_with fail
    go_ret
    exact ⟨rfl, ⟨_, _, Rd.new hs2 (fun u h => hu u (List.mem_of_mem_take h)) (Nat.le_refl _) _ _⟩, below1 _ _, by simp⟩
  · have HL := Lib.hid hl
    clear hl
    go_enter Try.func49, Try.ntmps49
    go_wp2_with fail
    go_ret
    exact ⟨rfl, ⟨_, _, Rd.new h hu (by omega) _ _⟩, below1 _ _, by simp⟩

end Go.Proofs.Ytepnhhehfkcgkaa
