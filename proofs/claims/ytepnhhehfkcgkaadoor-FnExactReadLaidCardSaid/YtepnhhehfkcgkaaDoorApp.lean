/-
  append of one element onto a slice of the call's own: the walk's law in the words of Mem.
-/
import Derived.Test.YtepnhhehfkcgkaaDoorMem
import Derived.Maps.AppendAt
import Derived.Deep.AppendLies
namespace Go.Proofs.YtepnhhehfkcgkaaDoor
open Go.RowKit

theorem own_value {w : World} {base : Nat} {e : TypeId} {v : Value} {n : Nat} {xs : List Value} (h : w.ownsRow base e 1 v n xs) : ∃ A c, v = .slice A n c := by
  rcases h.2 with ⟨rfl, rfl⟩ | ⟨g, cap, cur, rfl, _⟩
  · exact ⟨none, 0, rfl⟩
  · exact ⟨some ⟨g, 0, none⟩, cap, rfl⟩
theorem own_block (A : Option Addr) (n c : Nat) : (Value.slice A n c).ownBlock = A.map (·.block) := by cases A <;> rfl

theorem cell0_new (w : World) (u : Value) (t : TypeId) : (w.alloc (.cells #[u] t)).cell? ⟨w.heap.size, 0, none⟩ = some u := by
  rw [World.cell?_alloc_at _ _ _ _ rfl]; rfl

/-- Where a slice that grew lies: where it lay, or in the block that was just made. -/
def Near (A A' : Option Addr) (s : Nat) : Prop := A' = A ∨ A' = some ⟨s, 0, none⟩
theorem Own.near {w w' : World} {base base' top top' : Nat} {e : TypeId} {A A' : Option Addr} {n n' c c' : Nat} {vs vs' : List Value} (h : Own w base top e A n c vs) (h' : Own w' base' top' e A' n' c' vs') {s : Nat} (hn : Near A A' s) (hs : base ≤ s) (ht : top ≤ s + 1) : Own w' base (s + 1) e A' n' c' vs' := by
  have hb : ∀ b off, A' = some ⟨b, off, none⟩ → base ≤ b ∧ b < s + 1 := by
    intro b off hA
    rcases hn with rfl | rfl
    · have := h.2 b off hA; omega
    · injection hA with hA; injection hA with h1 _ _; omega
  refine ⟨⟨h'.1.1, ?_⟩, hb⟩
  rcases h'.1.2 with h0 | ⟨g, cap, cur, hv, hg, r⟩
  · exact .inl h0
  · refine .inr ⟨g, cap, cur, hv, ?_, r⟩
    injection hv with hA _ _
    exact (hb g 0 hA).1

theorem wpList_append1 {P : Program} {w : World} {ops : Array Oper} {rest : List Oper} {o : Oper} {a : Act} {Q : Exit → Act → World → Prop} (hgd : o.guard = none) (s x : Operand) (t : TypeId)
    (ho : o.op = .call { callee := .builtin .append, args := #[s, x], argTypes := #[t, t] })
    (e : TypeId) (z : Value) (bytes : Nat) (ht : P.underlying t = some (.slice e)) (hinfo : (P.info? e).map (fun i => (i.zero, i.size, i.bytes)) = some (some z, 1, bytes)) (hzc : z.cells.size = 1)
    {base top : Nat} {A : Option Addr} {n c : Nat} {xs : List Value} (hown : Own w base top e A n c xs) (hs : a.eval s = .slice A n c)
    (g0 : Nat) (u : Value) (hx : a.eval x = .slice (some ⟨g0, 0, none⟩) 1 1) (hg0 : w.cell? ⟨g0, 0, none⟩ = some u) (h1 : u.oneCell' = true)
    (hn : n ≤ 4194304) (hby : bytes ≤ 64) (hbase : base ≤ w.heap.size)
    (h : ∀ A' c' w', Own w' base w'.heap.size e A' (n + 1) c' (xs ++ [u]) → w.grownBy w' (A.map (·.block)) → Near A A' w.heap.size → wpList P ops Q rest (a.put o.dst (.slice A' (n + 1) c')) w') :
    wpList P ops Q (o :: rest) a w := by
  obtain ⟨i, hi, hz0, hz1, hz2⟩ := info_parts hinfo
  refine wpList_append_own_at w hgd s x t ho base e i z 1 bytes ht hi hz0 hz1 hz2 hzc (by omega) (.slice A n c) n xs hs hown.1 ⟨g0, 0, none⟩ 1 1 [u] hx rfl ?_ ?_ (by unfold maxLen; omega) ?_ hbase ?_
  · intro j v hj
    match j, hj with
    | 0, hj => simp at hj; subst hj; simpa [Addr.add] using hg0
  · intro v hv; simp at hv; subst hv; exact h1
  · have : (n + 1) * bytes ≤ 4194305 * 64 := Nat.mul_le_mul (by omega) hby
    omega
  · intro v' w' hown' hg _ hat
    obtain ⟨A', c', rfl⟩ := own_value hown'
    rw [own_block] at hg hat
    rw [own_block] at hat
    refine h A' c' w' (Own.mk hown') hg ?_
    rcases hown'.2 with ⟨hv, h0⟩ | ⟨g', cap, cur, hv, _⟩
    · omega
    · injection hv with hA _ _
      subst hA
      rcases hat with hat | hat
      · left
        rcases hown.1.2 with ⟨hv, _⟩ | ⟨g2, cap2, cur2, hv, _⟩
        · injection hv with hA _ _
          subst hA
          cases hat
        · injection hv with hA _ _
          subst hA
          simp only [Option.map_some, Option.some.injEq] at hat
          rw [hat]
      · right
        simp only [Option.map_some, Option.some.injEq] at hat
        rw [hat]

theorem step_append1 {P : Program} {w : World} {ops : Array Oper} {o : Oper} {a : Act} {K : Act → World → Prop} {Q : Exit → Act → World → Prop} {E : Prop} (hgd : o.guard = none) (s x : Operand) (t : TypeId)
    (ho : o.op = .call { callee := .builtin .append, args := #[s, x], argTypes := #[t, t] })
    (e : TypeId) (z : Value) (bytes : Nat) (ht : P.underlying t = some (.slice e)) (hinfo : (P.info? e).map (fun i => (i.zero, i.size, i.bytes)) = some (some z, 1, bytes)) (hzc : z.cells.size = 1)
    {base top : Nat} {A : Option Addr} {n c : Nat} {xs : List Value} (hown : Own w base top e A n c xs) (hs : a.eval s = .slice A n c)
    (g0 : Nat) (u : Value) (hx : a.eval x = .slice (some ⟨g0, 0, none⟩) 1 1) (hg0 : w.cell? ⟨g0, 0, none⟩ = some u) (h1 : u.oneCell' = true)
    (hn : n ≤ 4194304) (hby : bytes ≤ 64) (hbase : base ≤ w.heap.size)
    (h : ∀ A' c' w', Own w' base w'.heap.size e A' (n + 1) c' (xs ++ [u]) → w.grownBy w' (A.map (·.block)) → Near A A' w.heap.size → K (a.put o.dst (.slice A' (n + 1) c')) w') :
    if Region.wanted o (yielded ops a.tmps) = true then Oper.wp P o a w K Q else E := by
  obtain ⟨i, hi, hz0, hz1, hz2⟩ := info_parts hinfo
  refine step_append_lies w hgd s x t ho base e i z 1 bytes ht hi hz0 hz1 hz2 hzc (by omega) (.slice A n c) n xs hs hown.1 ⟨g0, 0, none⟩ 1 1 [u] hx rfl ?_ ?_ (by omega) (by unfold maxLen; omega) ?_ hbase w.heap.size rfl ?_
  · intro j v hj
    match j, hj with
    | 0, hj => simp at hj; subst hj; simpa [Addr.add] using hg0
  · intro v hv; simp at hv; subst hv; exact h1
  · have : (n + 1) * bytes ≤ 4194305 * 64 := Nat.mul_le_mul (by omega) hby
    omega
  · intro g cap w' hown' hg hat _
    rw [own_block] at hg hat
    refine h (some ⟨g, 0, none⟩) cap w' (Own.mk hown') hg ?_
    rcases hat with hat | hat
    · left
      rcases hown.1.2 with ⟨hv, _⟩ | ⟨g2, cap2, cur2, hv, _⟩
      · injection hv with hA _ _
        subst hA
        cases hat
      · injection hv with hA _ _
        subst hA
        simp only [Option.map_some, Option.some.injEq] at hat
        rw [hat]
    · right; rw [hat]

/-- append of a whole slice onto a slice of the call's own. -/
theorem wpList_appendN {P : Program} {w : World} {ops : Array Oper} {rest : List Oper} {o : Oper} {a : Act} {Q : Exit → Act → World → Prop} (hgd : o.guard = none) (s x : Operand) (t : TypeId)
    (ho : o.op = .call { callee := .builtin .append, args := #[s, x], argTypes := #[t, t] })
    (e : TypeId) (z : Value) (bytes : Nat) (ht : P.underlying t = some (.slice e)) (hinfo : (P.info? e).map (fun i => (i.zero, i.size, i.bytes)) = some (some z, 1, bytes)) (hzc : z.cells.size = 1)
    {base top : Nat} {A : Option Addr} {n c : Nat} {xs : List Value} (hown : Own w base top e A n c xs) (hs : a.eval s = .slice A n c)
    (ad : Addr) (m d : Nat) (us : List Value) (hx : a.eval x = .slice (some ad) m d) (hsl : Sl w (some ad) m us) (h1 : ∀ u ∈ us, u.oneCell' = true)
    (hn : n + m ≤ 4194304) (hby : bytes ≤ 64) (hbase : base ≤ w.heap.size)
    (h : ∀ A' c' w', Own w' base w'.heap.size e A' (n + m) c' (xs ++ us) → w.grownBy w' (A.map (·.block)) → wpList P ops Q rest (a.put o.dst (.slice A' (n + m) c')) w') :
    wpList P ops Q (o :: rest) a w := by
  obtain ⟨i, hi, hz0, hz1, hz2⟩ := info_parts hinfo
  refine wpList_append_own w hgd s x t ho base e i z 1 bytes ht hi hz0 hz1 hz2 hzc (by omega) (.slice A n c) n xs hs hown.1 ad m d us hx (by rw [hsl.1, Nat.mul_one]) ?_ h1 (by unfold maxLen; omega) ?_ hbase ?_
  · intro j v hj
    have hjm : j < m := by have := lt_of_get hj; have := hsl.1; omega
    obtain ⟨b, off, hA, hc⟩ := hsl.2 (by omega)
    injection hA with hA
    subst hA
    rw [show (⟨b, off, none⟩ : Addr).add j = ⟨b, off + j, none⟩ by unfold Addr.add; split <;> simp_all]
    exact hc j v hj
  · have : (n + m) * bytes ≤ 4194305 * 64 := Nat.mul_le_mul (by omega) hby
    omega
  · intro v' w' hown' hg _
    obtain ⟨A', c', rfl⟩ := own_value hown'
    rw [own_block] at hg
    exact h A' c' w' (Own.mk hown') hg
theorem Own.cap {w : World} {base top : Nat} {e : TypeId} {A : Option Addr} {n c : Nat} {vs : List Value} (h : Own w base top e A n c vs) : n ≤ c := by
  rcases h.1.2 with ⟨hv, h0⟩ | ⟨g, cap, cur, hv, _, _, h1, _⟩
  · omega
  · injection hv with _ _ hc; omega

theorem step_appendN {P : Program} {w : World} {ops : Array Oper} {o : Oper} {a : Act} {K : Act → World → Prop} {Q : Exit → Act → World → Prop} {E : Prop} (hgd : o.guard = none) (s x : Operand) (t : TypeId)
    (ho : o.op = .call { callee := .builtin .append, args := #[s, x], argTypes := #[t, t] })
    (e : TypeId) (z : Value) (bytes : Nat) (ht : P.underlying t = some (.slice e)) (hinfo : (P.info? e).map (fun i => (i.zero, i.size, i.bytes)) = some (some z, 1, bytes)) (hzc : z.cells.size = 1)
    {base top : Nat} {A : Option Addr} {n c : Nat} {xs : List Value} (hown : Own w base top e A n c xs) (hs : a.eval s = .slice A n c)
    (ad : Addr) (m d : Nat) (us : List Value) (hx : a.eval x = .slice (some ad) m d) (hsl : Sl w (some ad) m us) (h1 : ∀ u ∈ us, u.oneCell' = true) (hm : 0 < m)
    (hn : n + m ≤ 4194304) (hby : bytes ≤ 64) (hbase : base ≤ w.heap.size)
    (h : ∀ A' c' w', Own w' base w'.heap.size e A' (n + m) c' (xs ++ us) → w.grownBy w' (A.map (·.block)) → Near A A' w.heap.size → K (a.put o.dst (.slice A' (n + m) c')) w') :
    if Region.wanted o (yielded ops a.tmps) = true then Oper.wp P o a w K Q else E := by
  obtain ⟨i, hi, hz0, hz1, hz2⟩ := info_parts hinfo
  refine step_append_lies w hgd s x t ho base e i z 1 bytes ht hi hz0 hz1 hz2 hzc (by omega) (.slice A n c) n xs hs hown.1 ad m d us hx (by rw [hsl.1, Nat.mul_one]) ?_ h1 hm (by unfold maxLen; omega) ?_ hbase w.heap.size rfl ?_
  · intro j v hj
    have hjm : j < m := by have := lt_of_get hj; have := hsl.1; omega
    obtain ⟨b, off, hA, hc⟩ := hsl.2 (by omega)
    injection hA with hA
    subst hA
    rw [show (⟨b, off, none⟩ : Addr).add j = ⟨b, off + j, none⟩ by unfold Addr.add; split <;> simp_all]
    exact hc j v hj
  · have : (n + m) * bytes ≤ 4194305 * 64 := Nat.mul_le_mul (by omega) hby
    omega
  · intro g cap w' hown' hg hat _
    rw [own_block] at hg hat
    refine h (some ⟨g, 0, none⟩) cap w' (Own.mk hown') hg ?_
    rcases hat with hat | hat
    · left
      rcases hown.1.2 with ⟨hv, _⟩ | ⟨g2, cap2, cur2, hv, _⟩
      · injection hv with hA _ _
        subst hA
        cases hat
      · injection hv with hA _ _
        subst hA
        simp only [Option.map_some, Option.some.injEq] at hat
        rw [hat]
    · right; rw [hat]

end Go.Proofs.YtepnhhehfkcgkaaDoor
