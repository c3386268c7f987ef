/-
  TilingFirst, both sides: what it returns.
-/
import Derived.Test.YtcnkpcnbobiodaaCompl
import Derived.Test.YtcnkpcnbobiodaaComplS
import Derived.Test.YtcnkpcnbobiodaaBare
namespace Go.Proofs.Ytcnkpcnbobiodaa
open Go.RowKit

def firstZ (W T : Int) (n : Nat) (bs : List Bool) : List Int := compZ W T n bs (bareF W T n bs).length (bareF W T n bs)
def firstB (W T : Int) (n : Nat) (bs : List Bool) : Bool := compB W T n bs (bareF W T n bs).length (bareF W T n bs)
theorem bare_i64 {W T : Int} {n : Nat} {bs : List Bool} : ∀ z ∈ bareF W T n bs, I64 z := by
  intro z hz
  rw [bareF] at hz
  split at hz
  · have := List.eq_of_mem_replicate hz; rw [this]; exact ⟨by omega, by omega⟩
  · cases hz

set_option maxHeartbeats 2000000 in
theorem first_impl (A : Option Addr) (n c : Nat) (W T : Int) (bs : List Bool) (w : World) (hn : n ≤ 1048576) (h : Sl w A n (bs.map .bool)) :
    Calls Try.prog 33 #[.agg #[.int .i64 W, .int .i64 T, .slice A n c]] w fun e w' => OutLB w w' e (firstZ W T n bs) (firstB W T n bs) := by
  have hbl : (bareF W T n bs).length ≤ 1048576 := by
    rw [bareF]
    split
    · simpa using hn
    · simp
  have R0 := P1.new w (.int .i64 W) (.int .i64 T) (.slice A n c) 27
  have k1 := R0.X.1
  have k2 := R0.X.2.1
  have k3 := R0.X.2.2
  go_enter Try.func33, Try.ntmps33
  go_wp2_with fail
  go_region_held3 (fun w' => w'.cell? ⟨w.heap.size, 0, none⟩ = some (.int .i64 W) ∧ w'.cell? ⟨w.heap.size, 1, none⟩ = some (.int .i64 T) ∧ w'.cell? ⟨w.heap.size, 2, none⟩ = some (.slice A n c))
    (first | exact ⟨k1, k2, k3⟩ | go_keep)
    (first
      | (go_at_call 31; refine (complete_impl A n c W T bs D (bareF W T n bs).length d (bareF W T n bs) _ hn (h.below R3.B) hbl own.sl bare_i64).mono ?_; rintro e w4 ⟨C, q, q0, rfl, own4, hb4, hle4⟩; have R4 := R3.below hb4; have r1 := R4.X.1; have r2 := R4.X.2.1; have r3 := R4.X.2.2)
      | (go_at_call 71; refine (bare_impl A n c W T bs _ hn (h.below R0.B).drew).mono ?_; rintro e w3 ⟨D, d, d0, rfl, own, hb3, hle⟩; have R3 := R0.drew.below hb3; have q1 := R3.X.1; have q2 := R3.X.2.1; have q3 := R3.X.2.2)
      | fail)
  all_goals
    go_wp2_with fail
    refine bodyPost_ret (v := .tuple #[.slice C (firstZ W T n bs).length q, .bool (firstB W T n bs)]) (by simp [results, Try.results33, go_sem]; exact ⟨rfl, rfl⟩) rfl (OutLB.mkL (c0 := q0) rfl hle4 (own4.base R3.B.size) R4.B)
set_option maxHeartbeats 2000000 in
theorem first_spec (A : Option Addr) (n c : Nat) (W T : Int) (bs : List Bool) (w : World) (hn : n ≤ 1048576) (h : Sl w A n (bs.map .bool)) :
    Calls Try.prog 32 #[.agg #[.int .i64 W, .int .i64 T, .slice A n c]] w fun e w' => OutLB w w' e (firstZ W T n bs) (firstB W T n bs) := by
  have hbl : (bareF W T n bs).length ≤ 1048576 := by
    rw [bareF]
    split
    · simpa using hn
    · simp
  have R0 := P1.new w (.int .i64 W) (.int .i64 T) (.slice A n c) 27
  have k1 := R0.X.1
  have k2 := R0.X.2.1
  have k3 := R0.X.2.2
  go_enter Try.func32, Try.ntmps32
  go_wp2_with fail
  go_region_held3 (fun w' => w'.cell? ⟨w.heap.size, 0, none⟩ = some (.int .i64 W) ∧ w'.cell? ⟨w.heap.size, 1, none⟩ = some (.int .i64 T) ∧ w'.cell? ⟨w.heap.size, 2, none⟩ = some (.slice A n c))
    (first | exact ⟨k1, k2, k3⟩ | go_keep)
    (first
      | (go_at_call 29; refine (complete_spec A n c W T bs D (bareF W T n bs).length d (bareF W T n bs) _ hn (h.below R3.B) hbl own.sl bare_i64).mono ?_; rintro e w4 ⟨C, q, q0, rfl, own4, hb4, hle4⟩; have R4 := R3.below hb4; have r1 := R4.X.1; have r2 := R4.X.2.1; have r3 := R4.X.2.2)
      | (go_at_call 70; refine (bare_spec A n c W T bs _ hn (h.below R0.B).drew).mono ?_; rintro e w3 ⟨D, d, d0, rfl, own, hb3, hle⟩; have R3 := R0.drew.below hb3; have q1 := R3.X.1; have q2 := R3.X.2.1; have q3 := R3.X.2.2)
      | fail)
  all_goals
    go_wp2_with fail
    refine bodyPost_ret (v := .tuple #[.slice C (firstZ W T n bs).length q, .bool (firstB W T n bs)]) (by simp [results, Try.results32, go_sem]; exact ⟨rfl, rfl⟩) rfl (OutLB.mkL (c0 := q0) rfl hle4 (own4.base R3.B.size) R4.B)

end Go.Proofs.Ytcnkpcnbobiodaa
