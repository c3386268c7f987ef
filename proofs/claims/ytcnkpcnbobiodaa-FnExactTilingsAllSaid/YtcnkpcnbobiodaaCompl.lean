/-
  Complete of the program: what it returns.
-/
import Derived.Test.YtcnkpcnbobiodaaEachC
import Derived.Test.YtcnkpcnbobiodaaCompD
namespace Go.Proofs.Ytcnkpcnbobiodaa
open Go.RowKit
open Til (tilings)

set_option maxRecDepth 100000 in
set_option maxHeartbeats 4000000 in
theorem complete_impl (A : Option Addr) (n c : Nat) (W T : Int) (bs : List Bool) (B : Option Addr) (m d : Nat) (zs : List Int) (w : World) (hn : n ≤ 1048576) (h : Sl w A n (bs.map .bool)) (hm : m ≤ 1048576) (h' : Sl w B m (zs.map (.int .i64))) (hz : ∀ z ∈ zs, I64 z) :
    Calls Try.prog 31 #[.agg #[.int .i64 W, .int .i64 T, .slice A n c], .slice B m d] w fun e w' => OutLB w w' e (compZ W T n bs m zs) (compB W T n bs m zs) := by
  have hl := h.1
  rw [List.length_map] at hl
  have hl' := h'.1
  rw [List.length_map] at hl'
  have HZ0 := Lib.hid hz
  clear hz
  cases hv : laidB W T n bs m zs
  · have E1 : compZ W T n bs m zs = [] := by rw [compZ, hv]; rfl
    have E2 : compB W T n bs m zs = false := by rw [compB, hv]; rfl
    rw [E1, E2]
    have HV := Lib.hid hv
    clear hl hl' hv E1 E2
    go_enter Try.func31, Try.ntmps31
    go_wp2_with fail
    refine (laid_impl A n c W T bs B m d zs _ hn (h.alloc _) hm (h'.alloc _) HZ0.out).mono ?_; rintro e w1 ⟨rfl, hb1⟩
    rw [HV.out]
    go_wp2_with fail
    exact bodyPost_ret (v := .tuple #[.slice none 0 0, .bool false]) (by simp [results, Try.results31, go_sem]) rfl (outLB_nil w (belowW (below1 w _) hb1))
  · have HV := Lib.hid hv
    obtain ⟨W, T, rfl, rfl, V, e, -⟩ := laid_of hv hl
    subst e
    have n36 := V.n36
    have E1 : compZ W T m bs m zs = compL W T m bs zs := by rw [compZ, hv]; rfl
    have E2 : compB W T m bs m zs = !(tilings W T m bs zs).isEmpty := by rw [compB, hv]; rfl
    rw [E1, E2]
    have HL := Lib.hid hl'
    have HVL := Lib.hid V.len
    have hA : ∀ b off, A = some ⟨b, off, none⟩ → b < w.heap.size := fun b off hA => by
      obtain ⟨b', off', hA', hlt⟩ := h.block (by have := V.size; have := Nat.mul_pos V.w0 V.t0; omega)
      rw [hA'] at hA; injection hA with hA; injection hA with h1 _ _; omega
    have HA := Lib.hid hA
    clear hl hl' hv E1 E2 hA
    have hmf : ∀ (fn : Fn) (first cap : Array Value) (w : World), (Instr.makeFunc fn first cap).run Try.prog w = .ok (.func fn first cap) w := fun _ _ _ _ => rfl
    go_enter Try.func31, Try.ntmps31
    go_wp2_with fail
    refine (laid_impl A m c W T bs B m d zs _ hn (h.alloc _) hm (h'.alloc _) HZ0.out).mono ?_; rintro e w1 ⟨rfl, hb1⟩
    rw [HV.out]
    have R1 := P1.of hb1
    clear hb1
    have z1 := R1.z
    have R2 := R1.alloc (.cells #[.slice none 0 0] 33)
    have c2 := cell0_new w1 (.slice none 0 0) 33
    have t2 := Thaw.new w1 #[.slice none 0 0] 33
    have k1 := R1.X.1
    have k2 := R1.X.2.1
    have k3 := R1.X.2.2
    have l2 := Nat.ne_of_lt R1.X.lt
    go_wp2_with fail
    obtain ⟨w2, hw2⟩ : ∃ w2, w1.alloc (.cells #[.slice none 0 0] 33) = w2 := ⟨_, rfl⟩
    have hz2 : w2.heap.size = w1.heap.size + 1 := by rw [← hw2]; simp
    rw [hw2] at R2 c2 t2
    rw [hw2]
    clear hw2 R1 k1 k2 k3 l2
    have k1 := R2.X.1
    have k2 := R2.X.2.1
    have k3 := R2.X.2.2
    have HZ2 := Lib.hid hz2
    have HC2 := Lib.hid c2
    clear hz2 c2
    go_region_held3 (fun w' => w'.cell? ⟨w.heap.size, 0, none⟩ = some (.int .i64 W) ∧ w'.cell? ⟨w.heap.size, 1, none⟩ = some (.int .i64 T) ∧ w'.cell? ⟨w.heap.size, 2, none⟩ = some (.slice A m c))
      (first | exact ⟨k1, k2, k3⟩ | go_keep)
      (first
        | (go_at_call 67; refine (eachC_any w1.heap.size (.slice none 0 0) A m c W T bs V w.heap.size m D m d3 zs _ (Nat.le_refl _) (fun i hi => by omega) HL.out (h.below R3.B) (own.base (by show w.heap.size ≤ w2.heap.size; have := HZ2.out; omega)) (by have := R3.z; omega) ((World.cell?_of_block (w := w2) (hb3.block w1.heap.size (by show w1.heap.size < w2.heap.size; have := HZ2.out; omega))).trans HC2.out) (t2.drew.below hb3) (fun b off hA => by have := HA.out b off hA; omega) (fun b off hA => by have h9 : w2.heap.size ≤ b := (own.2 b off hA).1; have := HZ2.out; omega)).mono ?_; rintro e w4 ⟨hg4, hZ4, r, rfl, hr⟩; have X4 := R3.X.grown hg4 (by simp; omega); have r1 := X4.1; have r2 := X4.2.1; have r3 := X4.2.2)
        | (go_at_call 68; refine (clone_int B m d _ _ hn (h'.below R2.B).drew (ints_one zs)).mono ?_; rintro e w3 ⟨D, d3, rfl, own, hb3⟩; have R3 := R2.drew.below hb3; have q1 := R3.X.1; have q2 := R3.X.2.1; have q3 := R3.X.2.2)
        | fail)
    all_goals
      have B4 : Below w.heap.size w w4 := R3.B.grown hg4 R3.B.size (fun j hj => by simp at hj; omega)
      cases r
      · obtain ⟨t, rest, C, q9, q90, ht, hC9, own9⟩ := hr
        have hlen := comp_len HVL.out HL.out ht
        have HT := Lib.hid ht
        clear ht
        go_wp2_with fail
        refine bodyPost_ret (v := .tuple #[.slice C m q9, .bool true]) (by simp [results, Try.results31, go_sem]) rfl ?_
        rw [compL, HT.out]
        exact OutLB.mkL (c0 := q90) hlen (by omega) own9 B4
      · obtain ⟨ht, hC9⟩ := hr
        have HT := Lib.hid ht
        clear ht
        go_wp2_with fail
        refine bodyPost_ret (v := .tuple #[.slice none 0 0, .bool false]) (by simp [results, Try.results31, go_sem]) rfl ?_
        rw [compL, HT.out]
        exact outLB_nil w B4

end Go.Proofs.Ytcnkpcnbobiodaa
