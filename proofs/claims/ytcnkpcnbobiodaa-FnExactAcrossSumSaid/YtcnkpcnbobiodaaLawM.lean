/-
  The laws' marks in slices of int slices.
-/
import Derived.Test.YtcnkpcnbobiodaaLL
import Derived.Test.YtcnkpcnbobiodaaLawI
import Derived.Deep.LoopGhost
namespace Go.Proofs.Ytcnkpcnbobiodaa
open Go.RowKit

set_option maxHeartbeats 400000 in
theorem markIntS_X {c0 : Nat} (A : Option Addr) (n c base top : Nat) (zs : List Int) (k : Int) (w : World) (hk0 : 0 ≤ k) (hk : k ≤ 4611686018427387904) (hn : n ≤ 4194304) (h : Own w base top 3 A n c0 (zs.map (.int .i64))) :
    Calls Try.prog 27 #[.slice A n c, .int .i64 k] w fun e w' => e = .returned (.int .i64 (k + n)) ∧ Own w' base top 3 A n c0 ((marksI k n).map (.int .i64)) ∧ w.grownBy w' (A.map (·.block)) := by
  have hlen := h.len
  rw [List.length_map] at hlen
  have HL := Lib.hid hlen
  clear hlen
  go_enter Try.func27, Try.ntmps27
  go_wp2
  go_loopw [1, 5] (fun kv iv wr => ∃ i : Nat, i ≤ n ∧ iv = .int .i64 i ∧ kv = .int .i64 (k + i) ∧ Own wr base top 3 A n c0 (((marksI k n).take i ++ zs.drop i).map (.int .i64)) ∧ w.grownBy wr (A.map (·.block))) (fun _ iv _ => n - (intOf iv).toNat)
  case atStart => exact ⟨0, Nat.zero_le _, rfl, by simp, by simpa using h, grown_refl _ _⟩
  case round =>
    obtain ⟨i, hi, rfl, rfl, hown, hg⟩ := hrel
    by_cases hlt : i < n
    · obtain ⟨g, hA, -, -⟩ := hown.form (by omega)
      subst hA
      have hfr := hown.frozen i
      obtain ⟨b', off', v', hA', -, hcs⟩ := hown.sl.at_ hlt
      obtain ⟨rfl, rfl⟩ : g = b' ∧ 0 = off' := by simpa using hA'
      have hcs' : wr.cell? ⟨g, i, none⟩ = some v' := by simpa using hcs
      clear hcs hA'
      go_wp2
      go_roundw
      case rel =>
        refine ⟨i + 1, by omega, by go_num, by go_num, ?_, grown_trans hg (Own.grownSet rfl i _)⟩
        have := hown.stored i hlt (.int .i64 (k + i))
        have hl : (((marksI k n).take i).map (Value.int .i64)).length = i := by simp [marksI_len]; omega
        rw [take_snoc (marksI_get k n i hlt)]
        rw [List.map_append, List.set_append_right _ _ (by omega), hl, Nat.sub_self] at this
        rw [show zs.drop i = zs[i]'(by have := HL.out; omega) :: zs.drop (i + 1) from List.drop_eq_getElem_cons _, List.map_cons, List.set_cons_zero] at this
        simpa using this
      case measure => simp [intOf]; omega
    · have e : i = n := by omega
      subst e
      go_wp2
      go_ret
      refine ⟨rfl, ?_, hg⟩
      rw [List.take_of_length_le (by rw [marksI_len]; exact Nat.le_refl _), List.drop_eq_nil_of_le (by rw [HL.out]; exact Nat.le_refl _), List.append_nil] at hown
      exact hown

set_option maxHeartbeats 400000 in
theorem heldIntS_X (A : Option Addr) (n c : Nat) (k : Int) (w : World) (hk0 : 0 ≤ k) (hk : k ≤ 4611686018427387904) (hn : n ≤ 4194304) (h : Sl w A n ((marksI k n).map (.int .i64))) :
    Calls Try.prog 28 #[.slice A n c, .int .i64 k] w fun e w' => e = .returned (.int .i64 (k + n)) ∧ Below w.heap.size w w' := by
  go_enter Try.func28, Try.ntmps28
  go_wp2
  go_loop [1, 5] (fun kv iv => ∃ i : Nat, i ≤ n ∧ iv = .int .i64 i ∧ kv = .int .i64 (k + i)) (fun _ iv => n - (intOf iv).toNat)
  case atStart => exact ⟨0, Nat.zero_le _, rfl, by simp⟩
  case round =>
    obtain ⟨i, hi, rfl, rfl⟩ := hrel
    by_cases hlt : i < n
    · obtain ⟨b, off, x, rfl, hx, hc⟩ := h.atI hlt
      rw [marksI_get k n i hlt] at hx
      obtain rfl : (k + i) = x := by simpa using hx
      clear hx
      go_wp2
      go_round
      case rel => exact ⟨i + 1, by omega, by go_num, by go_num⟩
      case measure => simp [intOf]; omega
    · have e : i = n := by omega
      subst e
      go_wp2
      go_ret
      exact ⟨rfl, Below.refl _ _⟩


/-- How many numbers stand in rows. -/
def lenM : List (List Int) → Nat
  | [] => 0
  | t :: M => t.length + lenM M
theorem lenM_snoc (M : List (List Int)) (t : List Int) : lenM (M ++ [t]) = lenM M + t.length := by
  induction M with
  | nil => simp [lenM]
  | cons a M ih => rw [List.cons_append, lenM, lenM, ih]; omega
theorem lenM_take (M : List (List Int)) (i : Nat) : lenM (M.take i) ≤ lenM M := by
  induction M generalizing i with
  | nil => simp
  | cons a M ih =>
    cases i with
    | zero => simp [lenM]
    | succ i => rw [List.take_succ_cons, lenM, lenM]; have := ih i; omega
theorem lenM_le {M : List (List Int)} {b : Nat} (h : ∀ t ∈ M, t.length ≤ b) : lenM M ≤ M.length * b := by
  induction M with
  | nil => simp [lenM]
  | cons a M ih =>
    rw [lenM, List.length_cons, Nat.succ_mul]
    have := ih (fun t ht => h t (by simp [ht]))
    have := h a (by simp)
    omega
/-- What the laws write into rows, from k on. -/
def mkM (k : Int) : List (List Int) → List (List Int)
  | [] => []
  | t :: M => marksI k t.length :: mkM (k + t.length) M
theorem mkM_len (k : Int) (M : List (List Int)) : (mkM k M).length = M.length := by
  induction M generalizing k with
  | nil => rfl
  | cons a M ih => rw [mkM, List.length_cons, List.length_cons, ih]
theorem mkM_snoc (k : Int) (M : List (List Int)) (t : List Int) : mkM k (M ++ [t]) = mkM k M ++ [marksI (k + lenM M) t.length] := by
  induction M generalizing k with
  | nil => simp [mkM, lenM]
  | cons a M ih =>
    rw [List.cons_append, mkM, mkM, ih, lenM, List.cons_append]
    rw [show k + (a.length : Int) + (lenM M : Int) = k + ((a.length + lenM M : Nat) : Int) by omega]
theorem mkM_get {k : Int} {M : List (List Int)} {i : Nat} {t : List Int} (h : M[i]? = some t) : (mkM k M)[i]? = some (marksI (k + lenM (M.take i)) t.length) := by
  induction M generalizing k i with
  | nil => simp at h
  | cons a M ih =>
    cases i with
    | zero => simp at h; subst h; simp [mkM, lenM]
    | succ i =>
      rw [mkM, List.getElem?_cons_succ, ih (by simpa using h), List.take_succ_cons, lenM]
      rw [show k + (a.length : Int) + (lenM (M.take i) : Int) = k + ((a.length + lenM (M.take i) : Nat) : Int) by omega]

theorem LL.alloc {w : World} {base c0 : Nat} {C : Option Addr} {gs : List Nat} {M : List (List Int)} (h : LL w base C c0 gs M) (o : Obj) : LL (w.alloc o) base C c0 gs M := h.below (below1 w o)
theorem LL.drew {w : World} {base c0 : Nat} {C : Option Addr} {gs : List Nat} {M : List (List Int)} (h : LL w base C c0 gs M) : LL w.drew base C c0 gs M := h.below (Below.refl _ _).drew
theorem LL.grown {w w' : World} {base c0 : Nat} {C : Option Addr} {gs : List Nat} {M : List (List Int)} {row : Option Nat} (h : LL w base C c0 gs M) (hg : w.grownBy w' row) (h1 : ∀ g ∈ gs, some g ≠ row) (h2 : ∀ b off, C = some ⟨b, off, none⟩ → some b ≠ row) : LL w' base C c0 gs M :=
  h.keep (fun b off hA hlt => hg.block b hlt (h2 b off hA)) (fun g hm => hg.block g (h.lt g hm).2 (h1 g hm)) hg.size
theorem LL.belowB {w w' : World} {base c0 B : Nat} {C : Option Addr} {gs : List Nat} {M : List (List Int)} (h : LL w base C c0 gs M) (hb : Below B w w') (h1 : ∀ g ∈ gs, g < B) (h2 : ∀ b off, C = some ⟨b, off, none⟩ → b < B) : LL w' base C c0 gs M :=
  h.keep (fun b off hA _ => hb.block b (h2 b off hA)) (fun g hm => hb.block g (h1 g hm)) hb.size
theorem RowsAt.set {w w' : World} {base g : Nat} {v : Value} {t' : List Int} (hg : w.grownBy w' (some g)) (hn : RowAt w' base g v t') : ∀ {gs : List Nat} {vs : List Value} {M : List (List Int)} {i : Nat}, RowsAt w base gs vs M → gs.Nodup → gs[i]? = some g → vs[i]? = some v → RowsAt w' base gs vs (M.set i t')
  | [], [], [], _, _, _, h, _ => by simp at h
  | a :: gs, u :: vs, t :: M, 0, h, hd, h1, h2 => by
    simp at h1 h2
    subst h1 h2
    rw [List.nodup_cons] at hd
    exact ⟨hn, h.2.keep hg.size (fun b hb => hg.block b (h.2.lt b hb).2 (fun e => by injection e with e; subst e; exact hd.1 hb))⟩
  | a :: gs, u :: vs, t :: M, i + 1, h, hd, h1, h2 => by
    rw [List.nodup_cons] at hd
    rw [List.getElem?_cons_succ] at h1 h2
    exact ⟨h.1.keep (hg.block a h.1.lt.2 (fun e => by injection e with e; subst e; exact hd.1 (List.mem_of_getElem? h1))) hg.size, RowsAt.set hg hn h.2 hd.2 h1 h2⟩
/-- One row after another. -/
theorem LL.row {w : World} {base c0 i : Nat} {C : Option Addr} {gs : List Nat} {M : List (List Int)} {t : List Int} (h : LL w base C c0 gs M) (hi : M[i]? = some t) :
    ∃ b g c cc, C = some ⟨b, 0, none⟩ ∧ w.cell? ⟨b, i, none⟩ = some (.slice (some ⟨g, 0, none⟩) t.length c) ∧ Own w base w.heap.size 3 (some ⟨g, 0, none⟩) t.length cc (t.map (.int .i64)) ∧ base ≤ g ∧
      ∀ (w' : World) (t' : List Int), w.grownBy w' (some g) → t'.length = t.length → Own w' base w'.heap.size 3 (some ⟨g, 0, none⟩) t.length cc (t'.map (.int .i64)) → LL w' base C c0 gs (M.set i t') := by
  obtain ⟨vs, o, hr, hd, hf⟩ := h
  obtain ⟨g, v, hgs, hv, c, cc, rfl, o'⟩ := hr.get hi
  obtain ⟨b, hC, -, -⟩ := o.form (show 0 < M.length by have := lt_of_get hi; omega)
  obtain ⟨b', off, v', hA, hv', hc⟩ := o.sl.at_ (lt_of_get hi)
  rw [hv] at hv'
  cases hv'
  rw [hC] at hA
  injection hA with hA
  injection hA with h1 h2 _
  subst h1 h2
  rw [Nat.zero_add] at hc
  refine ⟨b, g, c, cc, hC, hc, o', (o'.2 g 0 rfl).1, fun w' t' hg hl o2 => ⟨vs, ?_, hr.set hg ⟨c, cc, by rw [hl], by rw [hl]; exact o2⟩ hd hgs hv, hd, hf⟩⟩
  rw [List.length_set]
  exact (o.grown hg (fun b off hA e => by injection e with e; subst e; exact hf b (List.mem_of_getElem? hgs) off hA)).top hg.size

set_option maxHeartbeats 1000000 in
theorem markIntSS_any (C : Option Addr) (c c0 base n : Nat) (gs : List Nat) (M : List (List Int)) (k : Int) (w : World) (hk0 : 0 ≤ k) (hk : k ≤ 4194304) (hn : M.length = n) (hlen : lenM M ≤ 1152921504606846976) (hr : ∀ t ∈ M, t.length ≤ 4194304) (h : LL w base C c0 gs M) :
    Calls Try.prog 37 #[.slice C n c, .int .i64 k] w fun e w' => e = .returned (.int .i64 (k + lenM M)) ∧ LL w' base C c0 gs (mkM k M) ∧ Below base w w' := by
  have HR := Lib.hid hr
  have HN := Lib.hid hn
  have hnm : n ≤ 9223372036854775807 := by
    obtain ⟨vs, o, -⟩ := h
    have h1 := o.cap
    rcases o.1.2 with ⟨_, h0⟩ | ⟨g, cap, cur, hv, _, _, h2, h3, _⟩
    · omega
    · unfold maxLen at h3; injection hv with _ _ hv; omega
  clear hr hn
  go_enter Try.func37, Try.ntmps37
  go_wp2_with fail
  go_loopg [1, 5] n (fun gk kv iv wr => ∃ i : Nat, i ≤ n ∧ gk = n - i ∧ iv = .int .i64 i ∧ kv = .int .i64 (k + lenM (M.take i)) ∧ LL wr base C c0 gs (mkM k (M.take i) ++ M.drop i) ∧ Below base w wr)
  case atStart => exact ⟨0, Nat.zero_le _, rfl, rfl, by simp [lenM], by simpa [mkM] using h, Below.refl _ _⟩
  case round =>
    clear h
    obtain ⟨i, hi, rfl, rfl, rfl, L, B⟩ := hrel
    have hti := lenM_take M i
    by_cases hlt : i < n
    · have hgi : M[i]? = some (M[i]'(by rw [HN.out]; exact hlt)) := List.getElem?_eq_getElem _
      obtain ⟨t, ht⟩ : ∃ t, M[i]'(by rw [HN.out]; exact hlt) = t := ⟨_, rfl⟩
      rw [ht] at hgi
      have hl1 : (mkM k (M.take i)).length = i := by rw [mkM_len, List.length_take, HN.out]; omega
      have hrow : (mkM k (M.take i) ++ M.drop i)[i]? = some t := by
        rw [List.getElem?_append_right (by omega), hl1, Nat.sub_self, List.getElem?_drop]; exact hgi
      obtain ⟨b, g, cc, c1, rfl, hc, hO, hbg, hset⟩ := L.row hrow
      have hts := lenM_take M (i + 1)
      rw [take_snoc hgi, lenM_snoc] at hts
      have htl := HR.out t (List.mem_of_getElem? hgi)
      have HG := Lib.hid hgi
      have HS := Lib.hid hset
      have HL1 := Lib.hid hl1
      clear hgi hset hrow hl1 ht
      go_wp2_with fail
      refine (markIntS_X (some ⟨g, 0, none⟩) t.length cc base _ t (k + lenM (M.take i)) _ (by omega) (by omega) htl hO).mono ?_; rintro e w3 ⟨rfl, hO3, hg3⟩
      have L3 := HS.out w3 (marksI (k + lenM (M.take i)) t.length) hg3 (marksI_len _ _) (hO3.top hg3.size)
      have B3 : Below base w w3 := B.trans ⟨hg3.os, hg3.tape, hg3.output, hg3.size, fun j hj => by
        rcases Nat.lt_or_ge j wr.heap.size with hlt | hge
        · exact hg3.block j hlt (fun e => by simp at e; omega)
        · have := (hO.2 g 0 rfl).2; omega⟩
      go_wp2_with fail
      go_roundg (n - (i + 1))
      case measure => omega
      case rel =>
        refine ⟨i + 1, by omega, rfl, by go_num, ?_, ?_, B3⟩
        · rw [take_snoc HG.out, lenM_snoc]; congr 1; omega
        · have e1 : (mkM k (M.take i) ++ M.drop i).set i (marksI (k + lenM (M.take i)) t.length) = mkM k (M.take (i + 1)) ++ M.drop (i + 1) := by
            rw [take_snoc HG.out, mkM_snoc, List.set_append_right _ _ (by rw [HL1.out]; exact Nat.le_refl _), HL1.out, Nat.sub_self]
            rw [List.drop_eq_getElem_cons (by rw [HN.out]; exact hlt), List.set_cons_zero, List.append_assoc]; rfl
          rw [← e1]; exact L3
    · have e : i = n := by omega
      subst e
      have e2 : M.take i = M := List.take_of_length_le (by rw [HN.out]; exact Nat.le_refl _)
      have e3 : M.drop i = [] := List.drop_eq_nil_of_le (by rw [HN.out]; exact Nat.le_refl _)
      rw [e2, e3, List.append_nil] at L
      rw [e2]
      go_wp2_with fail
      go_ret
      exact ⟨rfl, L, B⟩

set_option maxHeartbeats 1000000 in
theorem heldIntSS_any (C : Option Addr) (c n : Nat) (M : List (List Int)) (k : Int) (w : World) (hk0 : 0 ≤ k) (hk : k ≤ 4194304) (hn : M.length = n) (hnm : n ≤ 9223372036854775807) (hlen : lenM M ≤ 1152921504606846976) (hr : ∀ t ∈ M, t.length ≤ 4194304) (h : Mx w C n (mkM k M)) :
    Calls Try.prog 38 #[.slice C n c, .int .i64 k] w fun e w' => e = .returned (.int .i64 (k + lenM M)) ∧ Below w.heap.size w w' := by
  have HR := Lib.hid hr
  have HN := Lib.hid hn
  clear hr hn
  go_enter Try.func38, Try.ntmps38
  go_wp2_with fail
  go_loopg [1, 5] n (fun gk kv iv wr => ∃ i : Nat, i ≤ n ∧ gk = n - i ∧ iv = .int .i64 i ∧ kv = .int .i64 (k + lenM (M.take i)) ∧ Below w.heap.size w wr)
  case atStart => exact ⟨0, Nat.zero_le _, rfl, rfl, by simp [lenM], Below.refl _ _⟩
  case round =>
    obtain ⟨i, hi, rfl, rfl, rfl, B⟩ := hrel
    have hti := lenM_take M i
    by_cases hlt : i < n
    · have hgi : M[i]? = some (M[i]'(by rw [HN.out]; exact hlt)) := List.getElem?_eq_getElem _
      obtain ⟨t, ht⟩ : ∃ t, M[i]'(by rw [HN.out]; exact hlt) = t := ⟨_, rfl⟩
      rw [ht] at hgi
      obtain ⟨row, b, off, r, cc, hrow, rfl, hc, hs, hrl⟩ := (h.below B).at_ hlt
      rw [mkM_get hgi] at hrow
      injection hrow with hrow
      subst hrow
      rw [marksI_len] at hc hs hrl
      have hts := lenM_take M (i + 1)
      rw [take_snoc hgi, lenM_snoc] at hts
      have htl := HR.out t (List.mem_of_getElem? hgi)
      have HG := Lib.hid hgi
      have hneg : decide (k + (lenM (M.take i) : Int) + (t.length : Int) < 0) = false := decide_eq_false (by omega)
      clear hgi ht
      go_wp2_with fail
      refine (heldIntS_X r t.length cc (k + lenM (M.take i)) _ (by omega) (by omega) htl hs).mono ?_; rintro e w3 ⟨rfl, hb3⟩
      go_wp2_with fail
      go_roundg (n - (i + 1))
      case measure => omega
      case rel =>
        refine ⟨i + 1, by omega, rfl, by go_num, ?_, belowW B hb3⟩
        rw [take_snoc HG.out, lenM_snoc]; congr 1; omega
    · have e : i = n := by omega
      subst e
      have e2 : M.take i = M := List.take_of_length_le (by rw [HN.out]; exact Nat.le_refl _)
      rw [e2]
      go_wp2_with fail
      go_ret
      exact ⟨rfl, B⟩

end Go.Proofs.Ytcnkpcnbobiodaa
