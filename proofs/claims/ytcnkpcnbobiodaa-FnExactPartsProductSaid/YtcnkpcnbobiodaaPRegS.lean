/-
  PartRegion of the reference: what it returns.
-/
import Derived.Test.YtcnkpcnbobiodaaPReg
import Derived.Deep.DeepCutAuto
namespace Go.Proofs.Ytcnkpcnbobiodaa
open Go.RowKit
attribute [local go_sem ↓] Go.wp_at_zero Go.wp_at_succ

theorem inPart_of {o : List Int} {p z : Int} {k : Nat} (hp : 0 ≤ p) (h : Parts.lab o k = z) : inPart o p k = (z == p) := by
  rw [inPart, h]
  cases e : (z == p) with
  | false => rw [Bool.and_false]
  | true => obtain rfl : z = p := by simpa using e
            rw [decide_eq_true hp]; rfl
theorem pregL_succ' {o : List Int} {p z : Int} {k : Nat} {v : Bool} (h : inPart o p k = (z == p)) (hv : (z == p) = v) : pregL o p (k + 1) = pregL o p k ++ [v] := by rw [pregL_succ, h, hv]
theorem flag_yes {a b : Nat} (h : decide (0 < a) = true) : Value.bool true = .bool (decide (0 < a + b)) := by
  have := of_decide_eq_true h
  rw [decide_eq_true (show 0 < a + b by omega)]
theorem flag_no {a : Nat} {v : Bool} (h : decide (0 < a) = false) : Value.bool v = .bool (decide (0 < a + if v = true then 1 else 0)) := by
  have := of_decide_eq_false h
  cases v
  · rw [if_neg (by simp), Nat.add_zero, h]
  · rw [if_pos rfl, decide_eq_true (by omega)]
/-- What lies there behind a round. -/
def AfterP (w2 w : World) (k : Nat) (W T : Int) (A : Option Addr) (n c : Nat) (P : Option Addr) (o : List Int) (cs : List Bool) (wx : World) : Prop :=
  ∃ (D : Option Addr) (q : Nat), Own wx (w2.heap.size + 1) wx.heap.size 4 D k q (cs.map .bool) ∧ Box wx w2.heap.size (.int .i64 W) (.int .i64 T) (.slice D k q) ∧ Thaw wx w2.heap.size ∧ Sl wx P n (o.map (.int .i64)) ∧ PR w (.int .i64 W) (.int .i64 T) (.slice A n c) wx
theorem afterP_one {w2 w wr w4 : World} {k : Nat} {W T : Int} {A : Option Addr} {n c : Nat} {P : Option Addr} {o : List Int} {cs : List Bool} {D D' : Option Addr} {q q' : Nat} {u : Bool} (hown : Own wr (w2.heap.size + 1) wr.heap.size 4 D k q (cs.map .bool)) (hx : Box wr w2.heap.size (.int .i64 W) (.int .i64 T) (.slice D k q)) (ht : Thaw wr w2.heap.size) (hP : ∀ b off, P = some ⟨b, off, none⟩ → b < w2.heap.size)
    (sP : Sl wr P n (o.map (.int .i64))) (R : PR w (.int .i64 W) (.int .i64 T) (.slice A n c) wr)
    (hown4 : Own w4 (w2.heap.size + 1) w4.heap.size 4 D' (k + 1) q' (cs.map .bool ++ [.bool u])) (hg4 : (wr.alloc (.cells #[.bool u] 4)).drew.grownBy w4 (D.map (·.block))) (z2 : w.heap.size + 2 ≤ w2.heap.size) :
    AfterP w2 w (k + 1) W T A n c P o (cs ++ [u]) (w4.setCell ⟨w2.heap.size, 2, none⟩ (.slice D' (k + 1) q')) := by
  have hx4 := (hx.alloc (.cells #[.bool u] 4)).drew.grown hg4 (hown.offBox (.inl (Nat.lt_succ_self _)))
  have ht4 := (ht.alloc (.cells #[.bool u] 4)).drew.grown hg4 (hown.offBox (.inl (Nat.lt_succ_self _)))
  have R4 := (R.alloc (.cells #[.bool u] 4)).drew.grown hg4 (hown.alloc _).drew (by omega)
  have s4 := (sP.alloc (.cells #[.bool u] 4)).drew.grown hg4 (fun b off hA => hown.offBox (.inl (Nat.lt_succ_of_lt (hP b off hA))))
  refine ⟨D', q', ?_, hx4.set2 _, ht4.setCell _ _, s4.setFar (fun b off hA => Nat.ne_of_lt (hP b off hA)) _, R4.set (by show _ ≤ w2.heap.size; exact z2) _⟩
  rw [List.map_append]
  exact (hown4.setBelow (show w2.heap.size < w2.heap.size + 1 by omega) _).top (by simp)

set_option maxRecDepth 100000 in
set_option maxHeartbeats 2000000 in
theorem preg_spec (A : Option Addr) (n c : Nat) (W T : Int) (bs : List Bool) (p : Int) (w : World) (hn : n ≤ 1048576) (h : Sl w A n (bs.map .bool)) (_hp : I64 p) :
    Calls Try.prog 60 #[.agg #[.int .i64 W, .int .i64 T, .slice A n c], .int .i64 p] w fun e w' => OutRB w w' e (pregW W T n bs p) (pregT W T n bs p) (pregC W T n bs p) (pregB W T n bs p) := by
  have hl := h.1
  rw [List.length_map] at hl
  have s0 := (h.alloc (.cells #[.int .i64 W, .int .i64 T, .slice A n c] 27)).alloc (.cells #[.int .i64 0, .int .i64 0, .slice none 0 0] 27)
  by_cases hv : validB W T n bs = true
  · obtain ⟨W, T, rfl, rfl, V⟩ := valid_of hv hl
    have E : Hid (pregB W T n bs p = decide (0 < cnt (pregL (partL W T bs) p n))) := by show _ = _; rw [pregB, hv]; rfl
    have EF : Hid (partsF W T n bs = partL W T bs) := by show _ = _; rw [partsF, if_pos hv]; rfl
    have hlen : (partL W T bs).length = n := by rw [partL, partAt_len]; exact V.size.symm
    have HLE := Lib.hid hlen
    have n36 := V.n36
    clear hl hv hlen
    go_enter Try.func60, Try.ntmps60
    go_wp2_with fail
    refine (partsOf_spec A n c W T bs _ hn s0).mono ?_; rintro e w2 ⟨P, d, d0, rfl, own, hb2, -⟩
    have R2 := PR.of hb2
    rw [EF.out, HLE.out] at own
    rw [EF.out, HLE.out]
    have z2 := R2.z
    have hP : ∀ b off, P = some ⟨b, off, none⟩ → b < w2.heap.size := fun b off hA => (own.2 b off hA).2
    have sP := own.sl
    clear hb2 s0 own
    have k1 := R2.X.1
    have k2 := R2.X.2.1
    have k3 := R2.X.2.2
    have lt2 : w.heap.size < w2.heap.size := by omega
    have ne2 : w.heap.size ≠ w2.heap.size := by omega
    by_cases hp0 : 0 ≤ p
    · go_wp2_with fail
      go_loopg [8, 9] n (fun gk s i wr => ∃ (k : Nat) (D : Option Addr) (q : Nat), k ≤ n ∧ gk = n - k ∧ i = .int .i64 k ∧ s = .bool (decide (0 < cnt (pregL (partL W T bs) p k))) ∧ Own wr (w2.heap.size + 1) wr.heap.size 4 D k q ((pregL (partL W T bs) p k).map .bool) ∧ Box wr w2.heap.size (.int .i64 W) (.int .i64 T) (.slice D k q) ∧ Thaw wr w2.heap.size ∧ Sl wr P n ((partL W T bs).map (.int .i64)) ∧ PR w (.int .i64 W) (.int .i64 T) (.slice A n c) wr)
      case atStart => exact ⟨0, none, 0, Nat.zero_le _, rfl, rfl, rfl, own_nil _ _ _ _, Box.new _ _ _ _ _, Thaw.new _ _ _, sP.alloc _, R2.alloc _⟩
      case round =>
        clear sP R2 k1 k2 k3
        obtain ⟨k, D, q, hk, rfl, rfl, rfl, hown, hx, ht, sP, R⟩ := hrel
        by_cases hlt : k < n
        · obtain ⟨b, off, z, hA, hzz, hc⟩ := sP.atI hlt
          have HZZ := Lib.hid hzz
          have IP : Hid (inPart (partL W T bs) p k = (z == p)) := by show _ = _; exact inPart_of hp0 (lab_get hzz)
          have CN : Hid (cnt (pregL (partL W T bs) p (k + 1)) = cnt (pregL (partL W T bs) p k) + if (z == p) then 1 else 0) := by show _ = _; rw [pregL_succ, cnt_snoc, IP.out]
          subst hA
          clear hzz
          have p2 : (0 : Int) ≤ (k : Int) := by omega
          have p3 : (k : Int) < (n : Int) := by omega
          have q3 := hx.2.2
          have hl1 := ht.1
          have hne1 := Nat.ne_of_lt hl1
          obtain ⟨s, hs⟩ : ∃ s, decide (0 < cnt (pregL (partL W T bs) p k)) = s := ⟨_, rfl⟩
          rw [hs]
          have HS := Lib.hid hs
          clear hs
          cases hzp : (z == p)
          all_goals
            go_wp2_with fail
            first
              | go_region_law (first | (refine step_append1 (by rfl) (.tmp 28) (.tmp 35) 22 (by rfl) 4 (.bool false) 1 Try.underlying22 Try.infoBool rfl (hown.alloc (.cells #[.bool false] 4)).drew (by rfl) wr.heap.size (.bool false) (by rfl) (cell0_new _ _ _) (by rfl) (by omega) (by omega) (by simp; omega) ?_; intro D' q' w4 hown4 hg4 hn4; have hx4 := (hx.alloc (.cells #[.bool false] 4)).drew.grown hg4 (hown.offBox (.inl (Nat.lt_succ_self _))); have ht4 := (ht.alloc (.cells #[.bool false] 4)).drew.grown hg4 (hown.offBox (.inl (Nat.lt_succ_self _))); have q4 := hx4.2.2; have f4 := ht4.2 2) | fail)
              | go_region_law (first | (refine step_append1 (by rfl) (.tmp 28) (.tmp 35) 22 (by rfl) 4 (.bool false) 1 Try.underlying22 Try.infoBool rfl (hown.alloc (.cells #[.bool true] 4)).drew (by rfl) wr.heap.size (.bool true) (by rfl) (cell0_new _ _ _) (by rfl) (by omega) (by omega) (by simp; omega) ?_; intro D' q' w4 hown4 hg4 hn4; have hx4 := (hx.alloc (.cells #[.bool true] 4)).drew.grown hg4 (hown.offBox (.inl (Nat.lt_succ_self _))); have ht4 := (ht.alloc (.cells #[.bool true] 4)).drew.grown hg4 (hown.offBox (.inl (Nat.lt_succ_self _))); have q4 := hx4.2.2; have f4 := ht4.2 2) | fail)
              | fail
          all_goals
            have AF := afterP_one hown hx ht hP sP R hown4 hg4 z2
            obtain ⟨D5, q5, o5, x5, t5, s5, R5⟩ := AF
            have c5 := s5.cellI HZZ.out
            have CN2 := CN.out
            rw [← pregL_succ' IP.out hzp] at o5
            rw [hzp] at CN2
            have HCN := Lib.hid CN2
            clear CN2 hown hx ht sP R hown4 hg4 q3 q4 f4
            cases s
            · go_wp2_with fail
              go_roundg (n - (k + 1))
              case measure => omega
              case rel => exact ⟨k + 1, _, _, by omega, rfl, by go_num, by rw [HCN.out]; exact flag_no HS.out, o5, x5, t5, s5, R5⟩
            · go_wp2_with fail
              go_roundg (n - (k + 1))
              case measure => omega
              case rel => exact ⟨k + 1, _, _, by omega, rfl, by go_num, by rw [HCN.out]; exact flag_yes HS.out, o5, x5, t5, s5, R5⟩
        · have e : k = n := by omega
          subst e
          have q1 := hx.1
          have q2 := hx.2.1
          have q3 := hx.2.2
          have f1 := R.T.2 0
          have f2 := R.T.2 1
          have f3 := R.T.2 2
          have c4 := R.R.1
          have c5 := R.R.2.1
          have c6 := R.R.2.2
          have hne : w2.heap.size ≠ w.heap.size + 1 := by omega
          cases hs : decide (0 < cnt (pregL (partL W T bs) p k))
          · have E2 : Hid (pregB W T k bs p = false) := by show _ = _; rw [E.out, hs]
            clear hs
            go_wp2_with fail
            obtain ⟨e1, e2, e3⟩ := preg_no E2.out
            rw [e1, e2, e3, E2.out]
            exact bodyPost_ret (v := .tuple #[.agg #[.int .i64 0, .int .i64 0, .slice none 0 0], .bool false]) (by simp [results, Try.results60, go_sem, c4, c5, c6]) rfl (outRB_zero w (R.fin _ _ _))
          · have E2 : Hid (pregB W T k bs p = true) := by show _ = _; rw [E.out, hs]
            clear hs
            go_wp2_with fail
            obtain ⟨e1, e2, e3⟩ := preg_yes E2.out
            rw [e1, e2, e3, E2.out]
            exact bodyPost_ret (v := .tuple #[.agg #[.int .i64 W, .int .i64 T, .slice D k q], .bool true]) (by simp [results, Try.results60, go_sem, c4, c5, c6]) rfl (OutRB.mk (pregL_len _ _ _) (by omega) (PR.own hown rfl (by omega) (Nat.le_refl _) _ _ _) (R.fin _ _ _))
    · have E2 : Hid (pregB W T n bs p = false) := by show _ = _; rw [E.out, pregL_none hp0]; rfl
      have R3 := R2.alloc (.cells #[.int .i64 W, .int .i64 T, .slice none 0 0] 27)
      have hV := V.size
      have f1 := R3.T.2 0
      have f2 := R3.T.2 1
      have f3 := R3.T.2 2
      have c4 := R3.R.1
      have c5 := R3.R.2.1
      have c6 := R3.R.2.2
      have hpos : 0 < n := by rw [hV]; exact Nat.mul_pos V.w0 V.t0
      clear hV
      go_wp2_with fail
      go_loopg [8, 9] 0 (fun gk s i wr => (w2.alloc (.cells #[.int .i64 W, .int .i64 T, .slice none 0 0] 27)) = wr ∧ gk = 0 ∧ i = .int .i64 0 ∧ s = .bool false)
      case atStart => exact ⟨rfl, rfl, rfl, rfl⟩
      case round =>
        obtain ⟨rfl, rfl, rfl, rfl⟩ := hrel
        go_wp2_with fail
        obtain ⟨e1, e2, e3⟩ := preg_no E2.out
        rw [e1, e2, e3, E2.out]
        exact bodyPost_ret (v := .tuple #[.agg #[.int .i64 0, .int .i64 0, .slice none 0 0], .bool false]) (by simp [results, Try.results60, go_sem, c4, c5, c6]) rfl (outRB_zero w (R3.fin _ _ _))
  · have hv' : validB W T n bs = false := by simpa using hv
    have E : pregB W T n bs p = false := by rw [pregB, hv']; rfl
    have EF : Hid (partsF W T n bs = []) := by show _ = _; rw [partsF, hv']; rfl
    obtain ⟨e1, e2, e3⟩ := preg_no E
    rw [e1, e2, e3, E]
    clear hv hv' hl e1 e2 e3 E
    go_enter Try.func60, Try.ntmps60
    go_wp2_with fail
    refine (partsOf_spec A n c W T bs _ hn s0).mono ?_; rintro e w2 ⟨P, d, d0, rfl, own, hb2, -⟩
    have R2 := PR.of hb2
    rw [EF.out]
    have z2 := R2.z
    clear hb2 s0 own
    have k1 := R2.X.1
    have k2 := R2.X.2.1
    have k3 := R2.X.2.2
    have lt2 : w.heap.size < w2.heap.size := by omega
    have ne2 : w.heap.size ≠ w2.heap.size := by omega
    have R3 := R2.alloc (.cells #[.int .i64 W, .int .i64 T, .slice none 0 0] 27)
    have f1 := R3.T.2 0
    have f2 := R3.T.2 1
    have f3 := R3.T.2 2
    have c4 := R3.R.1
    have c5 := R3.R.2.1
    have c6 := R3.R.2.2
    go_wp2_with fail
    go_loopg [8, 9] 0 (fun gk s i wr => (w2.alloc (.cells #[.int .i64 W, .int .i64 T, .slice none 0 0] 27)) = wr ∧ gk = 0 ∧ i = .int .i64 0 ∧ s = .bool false)
    case atStart => exact ⟨rfl, rfl, rfl, rfl⟩
    case round =>
      obtain ⟨rfl, rfl, rfl, rfl⟩ := hrel
      go_wp2_with fail
      exact bodyPost_ret (v := .tuple #[.agg #[.int .i64 0, .int .i64 0, .slice none 0 0], .bool false]) (by simp [results, Try.results60, go_sem, c4, c5, c6]) rfl (outRB_zero w (R3.fin _ _ _))

end Go.Proofs.Ytcnkpcnbobiodaa
