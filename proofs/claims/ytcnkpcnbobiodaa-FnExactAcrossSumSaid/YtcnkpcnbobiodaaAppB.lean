/-
  append onto slices of slices: the laws of App with a wider bound.
-/
import Derived.Test.YtcnkpcnbobiodaaApp
namespace Go.Proofs.Ytcnkpcnbobiodaa
open Go.RowKit

theorem wpList_append1B {P : Program} {w : World} {ops : Array Oper} {rest : List Oper} {o : Oper} {a : Act} {Q : Exit → Act → World → Prop} (hgd : o.guard = none) (s x : Operand) (t : TypeId)
    (ho : o.op = .call { callee := .builtin .append, args := #[s, x], argTypes := #[t, t] })
    (e : TypeId) (z : Value) (bytes : Nat) (ht : P.underlying t = some (.slice e)) (hinfo : (P.info? e).map (fun i => (i.zero, i.size, i.bytes)) = some (some z, 1, bytes)) (hzc : z.cells.size = 1)
    {base top : Nat} {A : Option Addr} {n c : Nat} {xs : List Value} (hown : Own w base top e A n c xs) (hs : a.eval s = .slice A n c)
    (g0 : Nat) (u : Value) (hx : a.eval x = .slice (some ⟨g0, 0, none⟩) 1 1) (hg0 : w.cell? ⟨g0, 0, none⟩ = some u) (h1 : u.oneCell' = true)
    (hn : n ≤ 1099511627776) (hby : bytes ≤ 32) (hbase : base ≤ w.heap.size)
    (h : ∀ A' c' w', Own w' base w'.heap.size e A' (n + 1) c' (xs ++ [u]) → w.grownBy w' (A.map (·.block)) → Near A A' w.heap.size → wpList P ops Q rest (a.put o.dst (.slice A' (n + 1) c')) w') :
    wpList P ops Q (o :: rest) a w := by
  obtain ⟨i, hi, hz0, hz1, hz2⟩ := info_parts hinfo
  refine wpList_append_own_at w hgd s x t ho base e i z 1 bytes ht hi hz0 hz1 hz2 hzc (by omega) (.slice A n c) n xs hs hown.1 ⟨g0, 0, none⟩ 1 1 [u] hx rfl ?_ ?_ (by unfold maxLen; omega) ?_ hbase ?_
  · intro j v hj
    match j, hj with
    | 0, hj => simp at hj; subst hj; simpa [Addr.add] using hg0
  · intro v hv; simp at hv; subst hv; exact h1
  · have : (n + 1) * bytes ≤ 1099511627777 * 32 := Nat.mul_le_mul (by omega) hby
    omega
  · intro v' w' hown' hg _ hat
    obtain ⟨A', c', rfl⟩ := own_value hown'
    rw [own_block] at hg hat
    rw [own_block] at hat
    refine h A' c' w' (Own.mk hown') hg ?_
    rcases hown'.2 with ⟨hv, h0⟩ | ⟨g', cap, cur, hv, _⟩
    · omega
    · injection hv with hA _ _
      subst hA
      rcases hat with hat | hat
      · left
        rcases hown.1.2 with ⟨hv, _⟩ | ⟨g2, cap2, cur2, hv, _⟩
        · injection hv with hA _ _
          subst hA
          cases hat
        · injection hv with hA _ _
          subst hA
          simp only [Option.map_some, Option.some.injEq] at hat
          rw [hat]
      · right
        simp only [Option.map_some, Option.some.injEq] at hat
        rw [hat]


theorem wpList_appendNB {P : Program} {w : World} {ops : Array Oper} {rest : List Oper} {o : Oper} {a : Act} {Q : Exit → Act → World → Prop} (hgd : o.guard = none) (s x : Operand) (t : TypeId)
    (ho : o.op = .call { callee := .builtin .append, args := #[s, x], argTypes := #[t, t] })
    (e : TypeId) (z : Value) (bytes : Nat) (ht : P.underlying t = some (.slice e)) (hinfo : (P.info? e).map (fun i => (i.zero, i.size, i.bytes)) = some (some z, 1, bytes)) (hzc : z.cells.size = 1)
    {base top g : Nat} {n c : Nat} {xs : List Value} (hown : Own w base top e (some ⟨g, 0, none⟩) n c xs) (hs : a.eval s = .slice (some ⟨g, 0, none⟩) n c)
    (ad : Addr) (m d : Nat) (us : List Value) (hx : a.eval x = .slice (some ad) m d) (hsl : Sl w (some ad) m us) (h1 : ∀ u ∈ us, u.oneCell' = true)
    (hn : n + m ≤ 1099511627776) (hby : bytes ≤ 32) (hbase : base ≤ w.heap.size)
    (h : ∀ g' c' w', Own w' base w'.heap.size e (some ⟨g', 0, none⟩) (n + m) c' (xs ++ us) → w.grownBy w' (some g) → Near (some ⟨g, 0, none⟩) (some ⟨g', 0, none⟩) w.heap.size → wpList P ops Q rest (a.put o.dst (.slice (some ⟨g', 0, none⟩) (n + m) c')) w') :
    wpList P ops Q (o :: rest) a w := by
  obtain ⟨i, hi, hz0, hz1, hz2⟩ := info_parts hinfo
  refine wpList_append_own_at w hgd s x t ho base e i z 1 bytes ht hi hz0 hz1 hz2 hzc (by omega) (.slice (some ⟨g, 0, none⟩) n c) n xs hs hown.1 ad m d us hx (by rw [hsl.1, Nat.mul_one]) ?_ h1 (by unfold maxLen; omega) ?_ hbase ?_
  · intro j v hj
    have hjm : j < m := by have := lt_of_get hj; have := hsl.1; omega
    obtain ⟨b, off, hA, hc⟩ := hsl.2 (by omega)
    injection hA with hA
    subst hA
    rw [show (⟨b, off, none⟩ : Addr).add j = ⟨b, off + j, none⟩ by unfold Addr.add; split <;> simp_all]
    exact hc j v hj
  · have : (n + m) * bytes ≤ 1099511627777 * 32 := Nat.mul_le_mul (by omega) hby
    omega
  · intro v' w' hown' hg hnil hat
    rcases hown'.2 with ⟨hv, h0⟩ | ⟨g', cap, cur, hv, _⟩
    · obtain ⟨h3, _⟩ := hnil.1 hv
      cases h3
    · subst hv
      refine h g' cap w' (Own.mk hown') hg ?_
      rcases hat with hat | hat
      · left
        simp only [own_block, Option.map_some, Option.some.injEq] at hat
        rw [hat]
      · right
        simp only [own_block, Option.map_some, Option.some.injEq] at hat
        rw [hat]

theorem step_appendNB {P : Program} {w : World} {ops : Array Oper} {o : Oper} {a : Act} {K : Act → World → Prop} {Q : Exit → Act → World → Prop} {E : Prop} (hgd : o.guard = none) (s x : Operand) (t : TypeId)
    (ho : o.op = .call { callee := .builtin .append, args := #[s, x], argTypes := #[t, t] })
    (e : TypeId) (z : Value) (bytes : Nat) (ht : P.underlying t = some (.slice e)) (hinfo : (P.info? e).map (fun i => (i.zero, i.size, i.bytes)) = some (some z, 1, bytes)) (hzc : z.cells.size = 1)
    {base top : Nat} {A : Option Addr} {n c : Nat} {xs : List Value} (hown : Own w base top e A n c xs) (hs : a.eval s = .slice A n c)
    (ad : Addr) (m d : Nat) (us : List Value) (hx : a.eval x = .slice (some ad) m d) (hsl : Sl w (some ad) m us) (h1 : ∀ u ∈ us, u.oneCell' = true) (hm : 0 < m)
    (hn : n + m ≤ 1099511627776) (hby : bytes ≤ 32) (hbase : base ≤ w.heap.size)
    (h : ∀ A' c' w', Own w' base w'.heap.size e A' (n + m) c' (xs ++ us) → w.grownBy w' (A.map (·.block)) → Near A A' w.heap.size → K (a.put o.dst (.slice A' (n + m) c')) w') :
    if Region.wanted o (yielded ops a.tmps) = true then Oper.wp P o a w K Q else E := by
  obtain ⟨i, hi, hz0, hz1, hz2⟩ := info_parts hinfo
  refine step_append_lies w hgd s x t ho base e i z 1 bytes ht hi hz0 hz1 hz2 hzc (by omega) (.slice A n c) n xs hs hown.1 ad m d us hx (by rw [hsl.1, Nat.mul_one]) ?_ h1 hm (by unfold maxLen; omega) ?_ hbase w.heap.size rfl ?_
  · intro j v hj
    have hjm : j < m := by have := lt_of_get hj; have := hsl.1; omega
    obtain ⟨b, off, hA, hc⟩ := hsl.2 (by omega)
    injection hA with hA
    subst hA
    rw [show (⟨b, off, none⟩ : Addr).add j = ⟨b, off + j, none⟩ by unfold Addr.add; split <;> simp_all]
    exact hc j v hj
  · have : (n + m) * bytes ≤ 1099511627777 * 32 := Nat.mul_le_mul (by omega) hby
    omega
  · intro g cap w' hown' hg hat _
    rw [own_block] at hg hat
    refine h (some ⟨g, 0, none⟩) cap w' (Own.mk hown') hg ?_
    rcases hat with hat | hat
    · left
      rcases hown.1.2 with ⟨hv, _⟩ | ⟨g2, cap2, cur2, hv, _⟩
      · injection hv with hA _ _
        subst hA
        cases hat
      · injection hv with hA _ _
        subst hA
        simp only [Option.map_some, Option.some.injEq] at hat
        rw [hat]
    · right; rw [hat]


end Go.Proofs.Ytcnkpcnbobiodaa
