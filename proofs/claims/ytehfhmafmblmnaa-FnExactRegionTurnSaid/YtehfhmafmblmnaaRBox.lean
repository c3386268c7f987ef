/-
  field and RegionBox, both sides: what they return.
-/
import Derived.Test.YtehfhmafmblmnaaValid
import Derived.Test.YtehfhmafmblmnaaMem2
import Derived.Test.YtehfhmafmblmnaaApp
import Derived.Test.YtehfhmafmblmnaaLawB
namespace Go.Proofs.Ytehfhmafmblmnaa
open Go.RowKit

set_option maxHeartbeats 400000 in
theorem field_any (W T m : Nat) (w : World) (hW : W ≤ 6) (hT : T ≤ 6) (hm : m = W * T) :
    Calls Try.prog 93 #[.int .i64 W, .int .i64 T] w fun e w' => ∃ g, e = .returned (.agg #[.int .i64 W, .int .i64 T, .slice (some ⟨g, 0, none⟩) m m]) ∧ Own w' w.heap.size w'.heap.size 4 (some ⟨g, 0, none⟩) m m (List.replicate m (.bool false)) ∧ Below w.heap.size w w' := by
  have hm1 : m ≤ 36 := by rw [hm]; exact Nat.mul_le_mul hW hT
  have hm2 : (W : Int) * (T : Int) = (m : Int) := by rw [hm]; simp
  clear hm
  have hmk := run_make_row' (P := Try.prog) 22 4 (.bool false) 1 Try.underlying22 Try.infoBool rfl .i64 .i64 m (by omega) (by omega)
  go_enter Try.func93, Try.ntmps93
  go_wp2
  refine bodyPost_ret (v := .agg #[.int .i64 W, .int .i64 T, .slice (some ⟨w.heap.size + 1, 0, none⟩) m m]) (by simp [results, Try.results93, go_sem]) rfl ⟨w.heap.size + 1, rfl, ?_, ?_⟩
  · have := Own.made (w := w.alloc (.cells #[.int .i64 W, .int .i64 T, .slice (some ⟨w.heap.size + 1, 0, none⟩) m m] 27)) (base := w.heap.size) (e := 4) (cs := madeCells #[.bool false] m) (n := m) (by simp) (by unfold maxLen; omega) (by rw [← Array.length_toList, toList_madeCells_one, List.length_replicate])
    rw [toList_madeCells_one] at this
    simpa using this
  · exact (below1 w _).alloc (by simp) _

def boxOk (W T : Int) : Bool := inB W 1 6 && (inB T 1 6 && decide (W * T ≤ 24))
def boxW (W T : Int) : Int := if boxOk W T then W else 0
def boxT (W T : Int) : Int := if boxOk W T then T else 0
def boxC (W T : Int) : List Bool := if boxOk W T then List.replicate (W * T).toNat true else []

set_option maxHeartbeats 1000000 in
theorem box_impl_ok (W T m : Nat) (w : World) (h1 : inB W 1 6 = true) (h2 : inB T 1 6 = true) (hW6 : W ≤ 6) (hT6 : T ≤ 6) (hm : m = W * T) (hm24 : m ≤ 24) :
    Calls Try.prog 71 #[.int .i64 W, .int .i64 T] w fun e w' => OutR w w' e W T (List.replicate m true) := by
  have hm' : ((W : Int) * (T : Int)) = m := by rw [hm]; simp
  have h24 : (m : Int) ≤ 24 := by omega
  have HM := Lib.hid hm
  clear hm
  go_enter Try.func71, Try.ntmps71
  go_wp2_with (first | (go_at_call 69; refine (in_any _ _ _ _).mono ?_; rintro e w' ⟨rfl, rfl⟩) | (go_at_call 93; refine (field_any W T m _ hW6 hT6 HM.out).mono ?_; rintro e w1 ⟨g, rfl, hown, hb1⟩))
  have z1 : w.heap.size + 1 ≤ w1.heap.size := by have h := hb1.size; simp only [World.size_alloc] at h; exact h
  have t1 := (Thaw.new w #[.int .i64 0, .int .i64 0, .slice none 0 0] 27).below hb1
  have r1 := (Box.new w (.int .i64 0) (.int .i64 0) (.slice none 0 0) 27).below hb1
  have B1 := belowW (below1 w _) hb1
  have o1 : Own w1 (w.heap.size + 1) w1.heap.size 4 (some ⟨g, 0, none⟩) m m (List.replicate m (.bool false)) := hown.base (by simp)
  have hg := o1.2 g 0 rfl
  clear hb1 hown hm'
  go_loopw [6, 28] (fun _ i wr => ∃ k : Nat, k ≤ m ∧ i = .int .i64 k ∧ Own wr (w.heap.size + 1) w1.heap.size 4 (some ⟨g, 0, none⟩) m m (List.replicate k (.bool true) ++ List.replicate (m - k) (.bool false)) ∧ Below w.heap.size w wr ∧
      Thaw wr w.heap.size ∧ Box wr w.heap.size (.int .i64 0) (.int .i64 0) (.slice none 0 0) ∧ Box wr w1.heap.size (.int .i64 W) (.int .i64 T) (.slice (some ⟨g, 0, none⟩) m m) ∧ w1.heap.size < wr.heap.size) (fun _ i _ => m - (intOf i).toNat)
  case atStart => exact ⟨0, Nat.zero_le _, rfl, by simpa using o1.alloc _, belowA B1, t1.alloc _, r1.alloc _, Box.new _ _ _ _ _, by simp⟩
  case round =>
    clear o1 B1 t1 r1
    obtain ⟨k, hk, rfl, hown, hb, ht, hr, hx, hsz⟩ := hrel
    have k1 := hx.1
    have k2 := hx.2.1
    have k3 := hx.2.2
    by_cases hlt : k < m
    · have hfr := hown.frozen k
      obtain ⟨b', off', v', hA', -, hcs⟩ := hown.sl.at_ hlt
      obtain ⟨rfl, rfl⟩ : g = b' ∧ 0 = off' := by simpa using hA'
      have hcs' : wr.cell? ⟨g, k, none⟩ = some v' := by simpa using hcs
      clear hcs hA'
      go_wp2_with fail
      go_roundw
      case rel =>
        refine ⟨k + 1, by omega, by go_num, ?_, hb.setCell (show w.heap.size ≤ g by omega) _, ht.setCell _ _, hr.setFar (show w.heap.size ≠ g by omega) _, hx.setFar (show w1.heap.size ≠ g by omega) _, by simpa using hsz⟩
        have := hown.stored k hlt (.bool true)
        rw [List.set_append_right _ _ (by simp), List.length_replicate, Nat.sub_self, show m - k = (m - (k + 1)) + 1 by omega, List.replicate_succ, List.set_cons_zero] at this
        rw [List.replicate_succ', List.append_assoc]
        simpa using this
      case measure => simp [intOf]; omega
    · have e : k = m := by omega
      subst e
      have f1 := ht.2 0
      have f2 := ht.2 1
      have f3 := ht.2 2
      have k4 := hr.1
      have k5 := hr.2.1
      have k6 := hr.2.2
      have hne : w.heap.size ≠ w1.heap.size := by omega
      go_wp2_with fail
      rw [Nat.sub_self, List.replicate_zero, List.append_nil] at hown
      refine bodyPost_ret (v := .agg #[.int .i64 W, .int .i64 T, .slice (some ⟨g, 0, none⟩) k k]) (by simp [results, Try.results71, go_sem, k4, k5, k6]) rfl (OutR.mk (by simp) (by omega) ?_ ?_)
      · rw [List.map_replicate]
        exact ((((hown.setBelow (by simp) _).setBelow (by simp) _).setBelow (by simp) _).base (by omega)).top (by simp; omega)
      · exact ((hb.setCell (Nat.le_refl _) _).setCell (Nat.le_refl _) _).setCell (Nat.le_refl _) _

theorem box_impl_no (W T : Int) (w : World) (h : boxOk W T = false) :
    Calls Try.prog 71 #[.int .i64 W, .int .i64 T] w fun e w' => OutR w w' e 0 0 [] := by
  by_cases h1 : inB W 1 6 = true
  · by_cases h2 : inB T 1 6 = true
    · have b1 := inB_iff.1 h1
      have b2 := inB_iff.1 h2
      obtain ⟨b3, b4⟩ := mul_bd b1.1 b1.2 b2.1 b2.2
      have h3 : (24 : Int) < W * T := by simp [boxOk, h1, h2] at h; omega
      clear h b1 b2
      go_enter Try.func71, Try.ntmps71
      go_wp2_with (first | (go_at_call 69; refine (in_any _ _ _ _).mono ?_; rintro e w' ⟨rfl, rfl⟩))
      exact bodyPost_ret (v := .agg #[.int .i64 0, .int .i64 0, .slice none 0 0]) (by simp [results, Try.results71, go_sem]) rfl (outR_zero w (below1 w _))
    · have e2 : inB T 1 6 = false := by simpa using h2
      clear h2 h
      go_enter Try.func71, Try.ntmps71
      go_wp2_with (first | (go_at_call 69; refine (in_any _ _ _ _).mono ?_; rintro e w' ⟨rfl, rfl⟩))
      exact bodyPost_ret (v := .agg #[.int .i64 0, .int .i64 0, .slice none 0 0]) (by simp [results, Try.results71, go_sem]) rfl (outR_zero w (below1 w _))
  · have e1 : inB W 1 6 = false := by simpa using h1
    clear h1 h
    go_enter Try.func71, Try.ntmps71
    go_wp2_with (first | (go_at_call 69; refine (in_any _ _ _ _).mono ?_; rintro e w' ⟨rfl, rfl⟩))
    exact bodyPost_ret (v := .agg #[.int .i64 0, .int .i64 0, .slice none 0 0]) (by simp [results, Try.results71, go_sem]) rfl (outR_zero w (below1 w _))



theorem boxOk_nat {W T : Int} (h : boxOk W T = true) : ∃ W' T' m : Nat, W = W' ∧ T = T' ∧ inB W 1 6 = true ∧ inB T 1 6 = true ∧ W' ≤ 6 ∧ T' ≤ 6 ∧ m = W' * T' ∧ m ≤ 24 ∧ boxW W T = W' ∧ boxT W T = T' ∧ boxC W T = List.replicate m true := by
  have h' := h
  simp only [boxOk, Bool.and_eq_true, decide_eq_true_eq] at h'
  obtain ⟨h1, h2, h3⟩ := h'
  have b1 := inB_iff.1 h1
  have b2 := inB_iff.1 h2
  obtain ⟨W', rfl⟩ := Int.eq_ofNat_of_zero_le (show 0 ≤ W by omega)
  obtain ⟨T', rfl⟩ := Int.eq_ofNat_of_zero_le (show 0 ≤ T by omega)
  have e : ((W' : Int) * (T' : Int)) = ((W' * T' : Nat) : Int) := by simp
  refine ⟨W', T', W' * T', rfl, rfl, h1, h2, by omega, by omega, rfl, by omega, by rw [boxW, if_pos h], by rw [boxT, if_pos h], by rw [boxC, if_pos h, e]; rfl⟩

theorem box_impl (W T : Int) (w : World) (_hx : I64 W) (_hy : I64 T) :
    Calls Try.prog 71 #[.int .i64 W, .int .i64 T] w fun e w' => OutR w w' e (boxW W T) (boxT W T) (boxC W T) := by
  by_cases h : boxOk W T = true
  · obtain ⟨W', T', m, rfl, rfl, h1, h2, h3, h4, h5, h6, e1, e2, e3⟩ := boxOk_nat h
    rw [e1, e2, e3]
    exact box_impl_ok W' T' m w h1 h2 h3 h4 h5 h6
  · rw [boxW, boxT, boxC, if_neg h, if_neg h, if_neg h]
    exact box_impl_no W T w (by simpa using h)

end Go.Proofs.Ytehfhmafmblmnaa
