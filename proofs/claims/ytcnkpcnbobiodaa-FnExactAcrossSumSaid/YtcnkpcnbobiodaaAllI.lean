/-
  tilings and TilingsAll of the program: what they return.
-/
import Derived.Test.YtcnkpcnbobiodaaAllC
import Derived.Test.YtcnkpcnbobiodaaClone
namespace Go.Proofs.Ytcnkpcnbobiodaa
open Go.RowKit
open Til (tilings cntA)

/-- All tilings of a valid region. -/
def bare (W T n : Nat) (bs : List Bool) : List (List Int) := tilings W T n bs (List.replicate n 0)
def tilL (W T : Int) (n : Nat) (bs : List Bool) : List (List Int) := if validB W T n bs then bare W.toNat T.toNat n bs else []
theorem bare_len {W T n : Nat} {bs : List Bool} (V : Valid W T n bs) : (bare W T n bs).length = cntA W T n 0 bs := by
  rw [bare, Til.tilings_len V.len (by simp), Til.cnt_bare]
theorem bare_le {W T n : Nat} {bs : List Bool} (V : Valid W T n bs) : (bare W T n bs).length ≤ 68719476736 := by
  rw [bare_len V]
  exact Nat.le_trans (Til.cntA_le _ _ _ _ _) (Nat.le_trans (Nat.pow_le_pow_right (by omega) V.n36) (by decide))
theorem bare_mem {W T n : Nat} {bs : List Bool} (V : Valid W T n bs) : ∀ t ∈ bare W T n bs, t.length = n := fun _ ht => (Til.tilings_mem_len (by simp [V.len]) ht).trans V.len

theorem Kp.toBelow {a b : World} {bo B : Nat} (h : Kp a b bo none) (hB : B ≤ bo) (hs : B ≤ a.heap.size) : Below B a b := ⟨h.os, h.tape, h.output, h.size, fun i hi => h.block i (by omega) (by omega) (fun off e => by cases e)⟩

theorem sclipX (A : Option Addr) (n c : Nat) (w : World) (_hn : n ≤ 68719476736) (h : n ≤ c) :
    Calls Try.prog 99 #[.slice A n c] w fun e w' => e = .returned (.slice A n n) ∧ w = w' := by
  go_enter Try.func99, Try.ntmps99
  go_wp2_with fail
  go_ret
  exact ⟨rfl, rfl⟩

set_option maxRecDepth 100000 in
set_option maxHeartbeats 8000000 in
theorem tilings_any (A : Option Addr) (n c W T : Nat) (bs : List Bool) (w : World) (V : Valid W T n bs) (h : Sl w A n (bs.map .bool)) :
    Calls Try.prog 73 #[.agg #[.int .i64 W, .int .i64 T, .slice A n c]] w fun e w' => OutSS w w' e (bare W T n bs) := by
  have n36 := V.n36
  have hmk := run_make_row' (P := Try.prog) 33 3 (.int .i64 0) 8 Try.underlying33 Try.infoInt rfl .i64 .i64 n (by omega) (by omega)
  have hmf : ∀ (fn : Fn) (first cap : Array Value) (w : World), (Instr.makeFunc fn first cap).run Try.prog w = .ok (.func fn first cap) w := fun _ _ _ _ => rfl
  have n0 : 0 < n := by have := V.size; have := Nat.mul_pos V.w0 V.t0; omega
  have hA : ∀ b off, A = some ⟨b, off, none⟩ → b < w.heap.size := fun b off hA => by
    obtain ⟨b', off', hA', hlt⟩ := h.block n0
    rw [hA'] at hA; injection hA with hA; injection hA with h1 _ _; omega
  have HA := Lib.hid hA
  have x0 := (Box.new w (.int .i64 W) (.int .i64 T) (.slice A n c) 27).alloc (.cells #[.slice none 0 0] 43)
  have c2 := cell0_new (w.alloc (.cells #[.int .i64 W, .int .i64 T, .slice A n c] 27)) (.slice none 0 0) 43
  have t2 := Thaw.new (w.alloc (.cells #[.int .i64 W, .int .i64 T, .slice A n c] 27)) #[.slice none 0 0] 43
  clear hA
  go_enter Try.func73, Try.ntmps73
  go_wp2_with fail
  obtain ⟨w2, hw2⟩ : ∃ w2, (w.alloc (.cells #[.int .i64 W, .int .i64 T, .slice A n c] 27)).alloc (.cells #[.slice none 0 0] 43) = w2 := ⟨_, rfl⟩
  have B2 : Below w.heap.size w w2 := by rw [← hw2]; exact belowA (below1 w _)
  have hz2 : w2.heap.size = w.heap.size + 2 := by rw [← hw2]; simp
  rw [hw2] at x0 c2 t2
  rw [hw2]
  rw [World.size_alloc] at c2 t2
  clear hw2
  have HC2 := Lib.hid c2
  have k1 := x0.1
  have k2 := x0.2.1
  have k3 := x0.2.2
  clear c2
  have own : Own (w2.alloc (.cells (madeCells #[.int .i64 0] n) 3)).drew w2.heap.size (w2.heap.size + 1) 3 (some ⟨w2.heap.size, 0, none⟩) n n ((List.replicate n (0 : Int)).map (.int .i64)) := by
    have := Own.made (w := w2) (base := w2.heap.size) (e := 3) (cs := madeCells #[.int .i64 0] n) (n := n) (Nat.le_refl _) (by unfold maxLen; omega) (by rw [← Array.length_toList, toList_madeCells_one, List.length_replicate])
    rw [toList_madeCells_one] at this; rw [List.map_replicate]; exact this
  rw [hz2] at own
  have hz3 : (w2.alloc (.cells (madeCells #[.int .i64 0] n) 3)).drew.heap.size = w.heap.size + 3 := by show (w2.alloc _).heap.size = _; rw [World.size_alloc, hz2]
  have HZ3 := Lib.hid hz3
  have HCALL := Lib.hid (eachAll_any (w.heap.size + 1) A n c W T bs V (w.heap.size + 2) (by omega) (fun b off e => by have := HA.out b off e; omega) n (some ⟨w.heap.size + 2, 0, none⟩) n n (List.replicate n 0) (w2.alloc (.cells (madeCells #[.int .i64 0] n) 3)).drew none 0 [] [] (Nat.le_refl _) (fun i hi => by omega) (by simp) ((h.below B2).alloc _).drew (own.top (by omega)) ((World.cell?_of_block (w := w2) ((below1 w2 _).drew.block (w.heap.size + 1) (by omega))).trans HC2.out) (t2.alloc _).drew (LL.nil _ _) (fun b off e => ⟨by simp, fun off' e => by cases e⟩) (by have := bare_le V; rw [bare] at this; simp; omega))
  have HX := Lib.hid ((x0.alloc (.cells (madeCells #[.int .i64 0] n) 3)).drew)
  clear own t2 HC2 h HA hz3
  go_region_held3 (fun w' => w'.cell? ⟨w.heap.size, 0, none⟩ = some (.int .i64 W) ∧ w'.cell? ⟨w.heap.size, 1, none⟩ = some (.int .i64 T) ∧ w'.cell? ⟨w.heap.size, 2, none⟩ = some (.slice A n c))
    (first | exact ⟨k1, k2, k3⟩ | go_keep)
    (first
      | (go_at_call 67; refine HCALL.out.mono ?_; rintro e w4 ⟨rfl, C2, c2, gs2, hK, hN, hV, hZ, hL, hG⟩; have X4 := HX.out.keep (hK.block _ (by rw [HZ3.out]; omega) (by omega) (fun off e => by cases e)); have r1 := X4.1; have r2 := X4.2.1; have r3 := X4.2.2)
      | fail)
  all_goals
    have HLE : Hid (([] ++ tilings W T n bs (List.replicate n 0)).length ≤ 68719476736) := by show _; rw [List.nil_append]; exact bare_le V
    have HCAP : Hid (([] ++ tilings W T n bs (List.replicate n 0)).length ≤ c2) := by show _; obtain ⟨vs, o, -⟩ := hL; exact o.cap
    go_wp2_with (go_at_call 99; go_loud (refine (sclipX C2 _ c2 _ HLE.out HCAP.out).mono ?_; rintro e w5 ⟨rfl, rfl⟩))
    go_ret
    exact ⟨C2, _, c2, gs2, rfl, hL.base (by omega), (belowA B2).drew.trans (hK.toBelow (by omega) (by rw [HZ3.out]; omega)), Nat.le_trans (bare_le V) (by omega), fun t ht => by rw [bare_mem V t ht]; exact n36⟩

set_option maxHeartbeats 1000000 in
theorem tilAll_impl (A : Option Addr) (n c : Nat) (W T : Int) (bs : List Bool) (w : World) (hn : n ≤ 1048576) (h : Sl w A n (bs.map .bool)) :
    Calls Try.prog 35 #[.agg #[.int .i64 W, .int .i64 T, .slice A n c]] w fun e w' => OutSS w w' e (tilL W T n bs) := by
  have hl := h.1
  rw [List.length_map] at hl
  by_cases hv : validB W T n bs = true
  · obtain ⟨W, T, rfl, rfl, V⟩ := valid_of hv hl
    have E : tilL W T n bs = bare W T n bs := by rw [tilL, if_pos hv]; rfl
    rw [E]
    have HV := Lib.hid hv
    clear hl hv E
    go_enter Try.func35, Try.ntmps35
    go_wp2_with fail
    refine (valid_impl A n c W T bs _ (by omega) (h.alloc _)).mono ?_; rintro e w1 ⟨rfl, hb1⟩
    rw [HV.out]
    have R1 := P1.of hb1
    clear hb1
    have k1 := R1.X.1
    have k2 := R1.X.2.1
    have k3 := R1.X.2.2
    go_wp2_with fail
    refine (tilings_any A n c W T bs _ V (h.below R1.B)).mono ?_; rintro e w2 ⟨C, c2, c0, gs, rfl, hL, hb2, hm, hmem⟩
    go_wp2_with fail
    go_ret
    exact ⟨C, c2, c0, gs, rfl, hL.base R1.B.size, belowW R1.B hb2, hm, hmem⟩
  · have E : tilL W T n bs = [] := by rw [tilL, if_neg hv]
    rw [E]
    have hv' : validB W T n bs = false := by simpa using hv
    have HV := Lib.hid hv'
    clear hl hv hv' E
    go_enter Try.func35, Try.ntmps35
    go_wp2_with fail
    refine (valid_impl A n c W T bs _ (by omega) (h.alloc _)).mono ?_; rintro e w1 ⟨rfl, hb1⟩
    rw [HV.out]
    have R1 := P1.of hb1
    clear hb1
    go_wp2_with fail
    go_ret
    exact ⟨none, 0, 0, [], rfl, LL.nil _ _, R1.B, by simp, fun t ht => by cases ht⟩

end Go.Proofs.Ytcnkpcnbobiodaa
