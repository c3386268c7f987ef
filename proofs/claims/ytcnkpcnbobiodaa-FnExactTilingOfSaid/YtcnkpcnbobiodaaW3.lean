/-
  l3With of the reference: how many tilings have all dominoes of a list.
-/
import Derived.Test.YtcnkpcnbobiodaaTilA
import Derived.Test.YtcnkpcnbobiodaaLess
import Derived.Test.YtcnkpcnbobiodaaSpT
namespace Go.Proofs.Ytcnkpcnbobiodaa
open Go.RowKit
open Til (tilings)

/-- The cells with a domino, below k. -/
def cov (zs : List Int) : Nat → List Nat
  | 0 => []
  | k + 1 => cov zs k ++ (if ent zs k == 0 then [] else [k])
theorem cov_mem {zs : List Int} {i : Nat} : ∀ k, i ∈ cov zs k ↔ i < k ∧ ent zs i ≠ 0
  | 0 => by simp [cov]
  | k + 1 => by
    rw [cov, List.mem_append, cov_mem k]
    by_cases e : ent zs k = 0
    · have h0 : (if ent zs k == 0 then ([] : List Nat) else [k]) = [] := by rw [e]; rfl
      rw [h0]
      constructor
      · rintro (⟨h1, h2⟩ | h)
        · exact ⟨by omega, h2⟩
        · cases h
      · rintro ⟨h1, h2⟩
        refine .inl ⟨?_, h2⟩
        by_cases hik : i = k
        · subst hik; exact absurd e h2
        · omega
    · have h0 : (if ent zs k == 0 then ([] : List Nat) else [k]) = [k] := by rw [if_neg (by simp [e])]
      rw [h0, List.mem_singleton]
      constructor
      · rintro (⟨h1, h2⟩ | rfl)
        · exact ⟨by omega, h2⟩
        · exact ⟨by omega, e⟩
      · rintro ⟨h1, h2⟩
        by_cases hik : i = k
        · exact .inr hik
        · exact .inl ⟨by omega, h2⟩
theorem cov_len (zs : List Int) : ∀ k, (cov zs k).length ≤ k
  | 0 => Nat.le_refl _
  | k + 1 => by
    rw [cov, List.length_append]
    have := cov_len zs k
    split <;> simp <;> omega
theorem less_cov {W T n : Nat} {bs : List Bool} {zs : List Int} (hb : bs.length = n) (hl : zs.length = n) : Til.cntA W T n 0 (lessL bs (cov zs n)) = (tilings W T n bs zs).length := by
  rw [Til.tilings_len hb hl]
  refine Til.cntA_eq fun i _ => ?_
  rw [on_lessL, Til.on_avL]
  by_cases h : ent zs i = 0
  · have : (cov zs n).contains i = false := by
      cases hc : (cov zs n).contains i with
      | false => rfl
      | true => rw [List.contains_iff_mem, cov_mem] at hc; exact absurd h hc.2
    rw [this, h]; rfl
  · rw [show (ent zs i == 0) = false by rw [beq_eq_false_iff_ne]; exact h]
    by_cases hi : i < n
    · have : (cov zs n).contains i = true := by rw [List.contains_iff_mem, cov_mem]; exact ⟨hi, h⟩
      rw [this]; rfl
    · have : Til.on bs i = false := by unfold Til.on; rw [List.getElem?_eq_none (by omega)]; rfl
      rw [this]; rfl

set_option maxRecDepth 100000 in
set_option maxHeartbeats 4000000 in
theorem l3With_any (A : Option Addr) (n c W T : Nat) (bs : List Bool) (B : Option Addr) (d : Nat) (zs : List Int) (w : World) (V : Valid W T n bs) (h : Sl w A n (bs.map .bool)) (h' : Sl w B n (zs.map (.int .i64))) :
    Calls Try.prog 77 #[.agg #[.int .i64 W, .int .i64 T, .slice A n c], .slice B n d] w fun e w' => e = .returned (.int .i64 ((tilings W T n bs zs).length : Nat)) ∧ Below w.heap.size w w' := by
  have n36 := V.n36
  have hl' := h'.1
  rw [List.length_map] at hl'
  have HL := Lib.hid hl'
  have HC := Lib.hid (less_cov (W := W) (T := T) V.len hl')
  clear hl'
  have R0 := (P1.new w (.int .i64 W) (.int .i64 T) (.slice A n c) 27).alloc (.cells #[] 3)
  have O0 : Own ((w.alloc (.cells #[.int .i64 W, .int .i64 T, .slice A n c] 27)).alloc (.cells #[] 3)) (w.heap.size + 1) ((w.alloc (.cells #[.int .i64 W, .int .i64 T, .slice A n c] 27)).alloc (.cells #[] 3)).heap.size 3 (some ⟨w.heap.size + 1, 0, none⟩) (cov zs 0).length 0 (((cov zs 0).map fun (k : Nat) => (k : Int)).map (.int .i64)) := by
    simpa [cov] using Own.made (w := w.alloc (.cells #[.int .i64 W, .int .i64 T, .slice A n c] 27)) (base := w.heap.size + 1) (e := 3) (cs := #[]) (n := 0) (by simp) (by unfold maxLen; omega) rfl
  go_enter Try.func77, Try.ntmps77
  go_wp2_with fail
  go_loopg [5, 6] n (fun gk s5 s6 wx => ∃ (k : Nat) (C : Option Addr) (cc : Nat), k ≤ n ∧ gk = n - k ∧ s6 = .int .i64 k ∧ s5 = .slice C (cov zs k).length cc ∧ Own wx (w.heap.size + 1) wx.heap.size 3 C (cov zs k).length cc (((cov zs k).map fun (k : Nat) => (k : Int)).map (.int .i64)) ∧ P1 w (.int .i64 W) (.int .i64 T) (.slice A n c) wx)
  case atStart => exact ⟨0, some ⟨w.heap.size + 1, 0, none⟩, 0, Nat.zero_le _, rfl, rfl, rfl, O0, R0⟩
  case round =>
    clear O0 R0
    obtain ⟨k, C, cc, hk, rfl, rfl, rfl, O, R⟩ := hrel
    have hcl := cov_len zs k
    have zr := R.z
    by_cases hlt : k < n
    · obtain ⟨b, off, x, rfl, hx, hc⟩ := (h'.below R.B).atI hlt
      have HX := Lib.hid (ent_of hx)
      clear hx
      by_cases hx0 : x = 0
      · subst hx0
        have hcs : cov zs (k + 1) = cov zs k := by rw [cov, HX.out]; simp
        have HCS := Lib.hid hcs
        clear hcs
        go_wp2_with fail
        go_roundg (n - (k + 1))
        case measure => omega
        case rel => exact ⟨k + 1, C, cc, by omega, rfl, by go_num, by rw [HCS.out], by rw [HCS.out]; exact O, R⟩
      · have hxb : (x != 0) = true := by rw [bne_iff_ne]; exact hx0
        have hcs : cov zs (k + 1) = cov zs k ++ [k] := by rw [cov, HX.out, show (x == 0) = false by rw [beq_eq_false_iff_ne]; exact hx0]; simp
        have HCS := Lib.hid hcs
        clear hcs hx0
        go_wp2_with (at_builtin; go_loud (refine wpList_append1 rfl _ _ 33 rfl 3 (.int .i64 0) 8 Try.underlying33 Try.infoInt rfl (O.alloc _) rfl wr.heap.size _ rfl (cell0_new _ _ _) rfl (by omega) (by omega) (by simp; omega) ?_; intro C2 c2 w5 O5 hg5 hn5))
        have R5 := (R.alloc (.cells #[.int .i64 k] 3)).grown hg5 (O.alloc _) (Nat.le_refl _)
        go_roundg (n - (k + 1))
        case measure => omega
        case rel => exact ⟨k + 1, C2, c2, by omega, rfl, by go_num, by rw [HCS.out]; simp, by rw [HCS.out]; simpa using O5, R5⟩
    · have e : k = n := by omega
      subst e
      have k1 := R.X.1
      have k2 := R.X.2.1
      have k3 := R.X.2.2
      go_wp2_with fail
      refine (less_any A k c W T bs C (cov zs k).length cc (cov zs k) _ V (h.below R.B) O.sl (fun i hi => ((cov_mem k).1 hi).1) (by omega)).mono ?_; rintro e w2 ⟨D, q, q0, rfl, own, hb2, hle⟩
      have LV := less_valid V (cov zs k)
      have hll := LV.len
      rw [hll] at own
      rw [hll]
      have R2 := R.below hb2
      go_wp2_with fail
      refine (til_many_spec D k q W T (lessL bs (cov zs k)) _ (by omega) own.sl).mono ?_; rintro e w3 ⟨rfl, hb3⟩
      have E : tilF (W : Int) (T : Int) k (lessL bs (cov zs k)) = ((tilings W T k bs zs).length : Nat) := by rw [tilF, if_pos LV.ok, Int.toNat_natCast, Int.toNat_natCast, HC.out]
      rw [E]
      go_wp2_with fail
      go_ret
      exact ⟨rfl, belowW R2.B hb3⟩

end Go.Proofs.Ytcnkpcnbobiodaa
