/-
  Complete of the reference: what it returns.
-/
import Derived.Test.YtcnkpcnbobiodaaCompD
import Derived.Test.YtcnkpcnbobiodaaL2C
import Derived.Test.YtcnkpcnbobiodaaTot
import Derived.Deep.RegionHeld3
import Derived.Deep.LoopGhost
import Derived.Test.YtcnkpcnbobiodaaLayS
import Derived.Deep.RegionLaw
namespace Go.Proofs.Ytcnkpcnbobiodaa
open Go.RowKit
open Til (on open' tilings Done oneT)

set_option maxRecDepth 100000 in
set_option maxHeartbeats 4000000 in
theorem complete_spec (A : Option Addr) (n c : Nat) (W T : Int) (bs : List Bool) (B : Option Addr) (m d : Nat) (zs : List Int) (w : World) (hn : n ≤ 1048576) (h : Sl w A n (bs.map .bool)) (hm : m ≤ 1048576) (h' : Sl w B m (zs.map (.int .i64))) (hz : ∀ z ∈ zs, I64 z) :
    Calls Try.prog 29 #[.agg #[.int .i64 W, .int .i64 T, .slice A n c], .slice B m d] w fun e w' => OutLB w w' e (compZ W T n bs m zs) (compB W T n bs m zs) := by
  have hl := h.1
  rw [List.length_map] at hl
  have hl' := h'.1
  rw [List.length_map] at hl'
  have HZ0 := Lib.hid hz
  clear hz
  cases hv : laidB W T n bs m zs
  · have E1 : compZ W T n bs m zs = [] := by rw [compZ, hv]; rfl
    have E2 : compB W T n bs m zs = false := by rw [compB, hv]; rfl
    rw [E1, E2]
    have HV := Lib.hid hv
    clear hl hl' hv E1 E2
    go_enter Try.func29, Try.ntmps29
    go_wp2_with fail
    refine (laid_spec A n c W T bs B m d zs _ hn (h.alloc _) hm (h'.alloc _) HZ0.out).mono ?_; rintro e w1 ⟨rfl, hb1⟩
    rw [HV.out]
    have B1 := belowW (below1 w _) hb1
    clear hb1
    go_wp2_with fail
    exact bodyPost_ret (v := .tuple #[.slice (some ⟨w1.heap.size, 0, none⟩) 0 0, .bool false]) (by simp [results, Try.results29, go_sem]) rfl (OutLB.mk rfl (by omega) (((own_empty w1).base B1.size).top (by simp)) (belowA B1))
  · have HV := Lib.hid hv
    obtain ⟨W, T, rfl, rfl, V, e, hla⟩ := laid_of hv hl
    subst e
    have n36 := V.n36
    have E1 : compZ W T m bs m zs = compL W T m bs zs := by rw [compZ, hv]; rfl
    have E2 : compB W T m bs m zs = !(tilings W T m bs zs).isEmpty := by rw [compB, hv]; rfl
    rw [E1, E2]
    have HL := Lib.hid hl'
    have HLA := Lib.hid hla
    have HVL := Lib.hid V.len
    have hm0 : 0 < m := by have := V.size; have := Nat.mul_pos V.w0 V.t0; omega
    obtain ⟨b0, off0, rfl⟩ : ∃ b off, B = some ⟨b, off, none⟩ := by
      obtain ⟨b, off, hA, _⟩ := h'.2 hm0; exact ⟨b, off, hA⟩
    clear hl hl' hv E1 E2 hla
    go_enter Try.func29, Try.ntmps29
    go_wp2_with fail
    refine (laid_spec A m c W T bs (some ⟨b0, off0, none⟩) m d zs _ hn (h.alloc _) hm (h'.alloc _) HZ0.out).mono ?_; rintro e w1 ⟨rfl, hb1⟩
    rw [HV.out]
    have R1 := P1.of hb1
    clear hb1
    have z1 := R1.z
    have k1 := R1.X.1
    have k2 := R1.X.2.1
    have k3 := R1.X.2.2
    have o1 := own_empty w1
    have s1 := h'.below R1.B
    have nn := Nat.ne_of_lt R1.X.lt
    go_wp2_with fail
    go_region_held3 (fun w' => w'.cell? ⟨w.heap.size, 0, none⟩ = some (.int .i64 W) ∧ w'.cell? ⟨w.heap.size, 1, none⟩ = some (.int .i64 T) ∧ w'.cell? ⟨w.heap.size, 2, none⟩ = some (.slice A m c))
      (first | exact ⟨k1, k2, k3⟩ | go_keep)
      (first
        | (go_at_call 65; refine (l2Complete_any A m c W T bs V w1.heap.size m A' c' c' zs _ (Nat.le_refl _) (fun i hi => by omega) HL.out HLA.out (h.below R3.B) hown1 (by have := hg.size; simp at this; omega)).mono ?_; rintro e w4 ⟨C, q4, q40, rfl, own4, hb4⟩; have R4 := R3.below hb4; have r1 := R4.X.1; have r2 := R4.X.2.1; have r3 := R4.X.2.2)
        | ((refine step_appendN rfl _ _ 33 (by rfl) 3 (.int .i64 0) 8 Try.underlying33 Try.infoInt rfl o1.drew (by rfl) _ m d (zs.map (.int .i64)) (by rfl) (s1.alloc _).drew (ints_one _) hm0 (by omega) (by omega) (by simp) ?_; intro A' c' w3 hown1 hg near1; have R3 := (R1.alloc (.cells #[] 3)).drew.grown hg o1.drew z1; have q1 := R3.X.1; have q2 := R3.X.2.1; have q3 := R3.X.2.2; rw [List.nil_append, Nat.zero_add] at hown1))
        | fail)
    all_goals
      go_wp2_with fail
      refine bodyPost_ret (v := .tuple #[.slice C (compL W T m bs zs).length q4, .bool (!(tilings W T m bs zs).isEmpty)]) (by simp [results, Try.results29, go_sem]) rfl ?_
      have hcl : (compL W T m bs zs).length ≤ 4194304 := by
        rw [compL]
        cases ht : tilings W T m bs zs with
        | nil => simp
        | cons t rest => have := comp_len HVL.out HL.out ht; simp; omega
      exact OutLB.mkL (c0 := q40) rfl hcl (own4.base (by omega)) R4.B

end Go.Proofs.Ytcnkpcnbobiodaa
