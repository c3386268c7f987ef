/-
  The law FnCellsMany: its walk.
-/
import Derived.Test.YtepnhhehfkcgkaaDrawD
import Derived.Test.YtepnhhehfkcgkaaScal
import Derived.Test.YtepnhhehfkcgkaaFlipP
namespace Go.Proofs.Ytepnhhehfkcgkaa
open Go.RowKit

set_option maxHeartbeats 1000000 in
theorem law_FnCellsMany (A : Option Addr) (n c : Nat) (us : List Int) (w : World) (hn : n ≤ 9223372036854775807 ∧ n ≤ c) (h : Sl w A n (us.map (.int .u8))) (hu : ∀ u ∈ us, 0 ≤ u ∧ u ≤ 255) :
    Calls Try.prog 6 #[.slice A n c] w fun e w' => e = .returned (.bool true) ∧ Below w.heap.size w w' := by
  have hn1 := hn.1
  by_cases hbig : 1048576 < n
  · go_enter Try.func6, Try.ntmps6
    go_wp2_with fail
    go_ret
    exact ⟨rfl, Below.refl _ _⟩
  go_enter Try.func6, Try.ntmps6
  go_wp2_with fail
  refine (drawCE_any A n c us _ hn h hu).mono ?_; rintro e w1 ⟨W, T, cs, hcs, D, d, d0, rfl, hown, hb1, -⟩
  go_wp2_with fail
  have x1 := Box.new w1 (.int .i64 W) (.int .i64 T) (.slice D cs.length d) 34
  have B1 := belowA (o := .cells #[.int .i64 W, .int .i64 T, .slice D cs.length d] 34) hb1
  have s1 := hown.sl.alloc (.cells #[.int .i64 W, .int .i64 T, .slice D cs.length d] 34)
  have hl := hown.sl.1
  rw [List.length_map] at hl
  by_cases hv : validB W T cs.length cs = true
  · obtain ⟨W, T, rfl, rfl, V⟩ := valid_of hv hl
    have e6 : cellsF (W : Int) (T : Int) cs.length cs = cnt cs := by rw [cellsF, if_pos hv]
    have EF : Hid (partsF W T cs.length cs = partL W T cs) := by show _ = _; rw [partsF, if_pos hv]; rfl
    have hlen : (partL W T cs).length = cs.length := by rw [partL, partAt_len]; exact V.size.symm
    have hpc := pos_cnt (T := T) (bs := cs) V.w0 V.size (W * T) (Nat.le_refl _)
    rw [← V.size, List.take_length] at hpc
    have many := V.many
    obtain ⟨cc, hcc⟩ : ∃ cc, cnt cs = cc := ⟨_, rfl⟩
    rw [hcc] at e6 hpc many
    have n36 := V.n36
    have HPC := Lib.hid hpc
    have HLE := Lib.hid hlen
    clear hv hl hcc hpc hlen
    refine (cells_impl D cs.length d W T cs _ (by omega) s1).mono ?_; rintro e w2 ⟨rfl, hb2⟩
    have x2 := x1.below hb2
    have B2 := belowW B1 hb2
    have s2 := s1.below hb2
    clear x1 B1 s1 hb2
    have k1 := x2.1
    have k2 := x2.2.1
    have k3 := x2.2.2
    rw [e6]
    go_wp2_with fail
    refine (cells_spec D cs.length d W T cs _ (by omega) s2).mono ?_; rintro e w3 ⟨rfl, hb3⟩
    have x3 := x2.below hb3
    have B3 := belowW B2 hb3
    have s3 := s2.below hb3
    clear x2 B2 s2 hb3 k1 k2 k3
    have k1 := x3.1
    have k2 := x3.2.1
    have k3 := x3.2.2
    rw [e6]
    clear e6
    go_wp2_with fail
    refine (partsOf_impl D cs.length d W T cs _ (by omega) s3).mono ?_; rintro e w4 ⟨P, q, q0, rfl, o4, hb4, -⟩
    have B4 := belowW B3 hb4
    rw [EF.out, HLE.out] at o4
    rw [EF.out, HLE.out]
    have sP := o4.sl
    clear x3 B3 s3 hb4 k1 k2 k3 o4
    go_wp2_with fail
    go_loopg [6, 7] cs.length (fun gk s i wx => w4 = wx ∧ ∃ k : Nat, k ≤ cs.length ∧ gk = cs.length - k ∧ i = .int .i64 k ∧ s = .int .i64 (posN (partL W T cs) k))
    case atStart => exact ⟨rfl, 0, Nat.zero_le _, rfl, rfl, rfl⟩
    case round =>
      obtain ⟨rfl, k, hk, rfl, rfl, rfl⟩ := hrel
      have hpl := pos_le (partL W T cs) k
      by_cases hlt : k < cs.length
      · obtain ⟨b, off, z, rfl, hz, hc⟩ := sP.atI hlt
        have HZ := Lib.hid (lab_get hz)
        clear hz
        by_cases hz0 : 0 ≤ z
        · have HZ0 := Lib.hid hz0
          go_wp2_with fail
          go_roundg (cs.length - (k + 1))
          case measure => omega
          case rel => exact ⟨rfl, k + 1, by omega, rfl, by go_num, by rw [posN, HZ.out, if_pos HZ0.out]; go_num⟩
        · have HZ0 := Lib.hid hz0
          have hd : decide ((0 : Int) ≤ z) = false := decide_eq_false hz0
          clear hz0
          go_wp2_with fail
          go_roundg (cs.length - (k + 1))
          case measure => omega
          case rel => exact ⟨rfl, k + 1, by omega, rfl, by go_num, by rw [posN, HZ.out, if_neg (by have := HZ0.out; omega)]; rfl⟩
      · have e : k = cs.length := by omega
        subst e
        rw [HPC.out]
        go_wp2_with fail
        go_ret
        exact ⟨ret_b (by simp; omega), B4⟩
  · have e1 : cellsF W T cs.length cs = -1 := by rw [cellsF, if_neg hv]
    have hv' : validB W T cs.length cs = false := by simpa using hv
    clear hv hl
    refine (cells_impl D cs.length d W T cs _ (by omega) s1).mono ?_; rintro e w2 ⟨rfl, hb2⟩
    have x2 := x1.below hb2
    have B2 := belowW B1 hb2
    have s2 := s1.below hb2
    clear x1 B1 s1 hb2
    have k1 := x2.1
    have k2 := x2.2.1
    have k3 := x2.2.2
    rw [e1]
    go_wp2_with fail
    refine (cells_spec D cs.length d W T cs _ (by omega) s2).mono ?_; rintro e w3 ⟨rfl, hb3⟩
    have x3 := x2.below hb3
    have B3 := belowW B2 hb3
    have s3 := s2.below hb3
    rw [e1]
    clear k1 k2 k3 x2
    have k1 := x3.1
    have k2 := x3.2.1
    have k3 := x3.2.2
    go_wp2_with fail
    refine (valid_impl D cs.length d W T cs _ (by omega) s3).mono ?_; rintro e w4 ⟨rfl, hb4⟩
    rw [hv']
    go_wp2_with fail
    refine (alive_any _).mono ?_; rintro e w5 ⟨rfl, hb5⟩
    go_wp2_with fail
    go_ret
    exact ⟨rfl, belowW (belowW B3 hb4) hb5⟩

end Go.Proofs.Ytepnhhehfkcgkaa
