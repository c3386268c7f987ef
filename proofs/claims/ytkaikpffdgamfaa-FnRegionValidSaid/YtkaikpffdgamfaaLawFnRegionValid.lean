/-
  The law FnRegionValid: its walk.
-/
import Derived.Test.YtkaikpffdgamfaaDrawV
import Derived.Deep.RegionHeld3
namespace Go.Proofs.Ytkaikpffdgamfaa
open Go.RowKit

theorem Own.cap {w : World} {base top : Nat} {e : TypeId} {A : Option Addr} {n c : Nat} {vs : List Value} (h : Own w base top e A n c vs) : n ≤ c := by
  rcases h.1.2 with ⟨h0, h1⟩ | ⟨g, cap, cur, hv, _, _, h1, _, _, _⟩
  · omega
  · injection hv with _ _ hc
    omega
theorem Sl.drop1 {w : World} {g n : Nat} {vs : List Value} (h : Sl w (some ⟨g, 0, none⟩) n vs) (hn : 1 ≤ n) : Sl w (some ⟨g, 1, none⟩) (n - 1) (vs.drop 1) := by
  obtain ⟨b, off, hA, hc⟩ := h.2 (by omega)
  injection hA with hA
  injection hA with h1 h2 _
  subst h1 h2
  refine ⟨by rw [List.length_drop, h.1], fun _ => ⟨g, 1, rfl, fun k v hv => ?_⟩⟩
  rw [List.getElem?_drop] at hv
  have := hc (1 + k) v hv
  rwa [Nat.zero_add] at this

theorem valid_zero : validB 0 0 0 [] = false := by decide

set_option maxHeartbeats 200000 in
theorem law_FnRegionValid (A : Option Addr) (n c : Nat) (us : List Int) (w : World) (hn : n ≤ 9223372036854775807 ∧ n ≤ c) (h : Sl w A n (us.map (.int .u8))) (hu : ∀ u ∈ us, 0 ≤ u ∧ u ≤ 255) :
    Calls Try.prog 12 #[.slice A n c] w fun e w' => e = .returned (.bool true) ∧ Below w.heap.size w w' := by
  have hn1 := hn.1
  by_cases hbig : 1048576 < n
  · go_enter Try.func12, Try.ntmps12
    go_wp2_with fail
    go_ret
    exact ⟨rfl, Below.refl _ _⟩
  go_enter Try.func12, Try.ntmps12
  go_wp2_with fail
  refine (drawRV_any A n c us _ hn h hu).mono ?_; rintro e w1 ⟨W, T, cs, hcs, D, d, rfl, hown, hb1, -⟩
  go_wp2_with fail
  have x1 := Box.new w1 (.int .i64 W) (.int .i64 T) (.slice D cs.length d) 27
  have B1 := belowA (o := .cells #[.int .i64 W, .int .i64 T, .slice D cs.length d] 27) hb1
  have s1 := hown.sl.alloc (.cells #[.int .i64 W, .int .i64 T, .slice D cs.length d] 27)
  refine (valid_impl D cs.length d W T cs _ (by omega) s1).mono ?_; rintro e w2 ⟨rfl, hb2⟩
  have x2 := x1.below hb2
  have B2 := belowW B1 hb2
  have s2 := s1.below hb2
  clear x1 B1 s1 hb2
  have k1 := x2.1
  have k2 := x2.2.1
  have k3 := x2.2.2
  go_wp2_with fail
  refine (valid_spec D cs.length d W T cs _ (by omega) s2).mono ?_; rintro e w3 ⟨rfl, hb3⟩
  have x3 := x2.below hb3
  have B3 := belowW B2 hb3
  have s3 := s2.below hb3
  clear x2 B2 s2 hb3 k1 k2 k3
  have k1 := x3.1
  have k2 := x3.2.1
  have k3 := x3.2.2
  have hl := hown.sl.1
  rw [List.length_map] at hl
  by_cases hv : validB W T cs.length cs = true
  · obtain ⟨W, T, rfl, rfl, V⟩ := valid_of hv hl
    have hv1 : validB W T cs.length (List.replicate cs.length false) = true := by
      have h0 : cnt (List.replicate cs.length false) = 0 := by unfold cnt; rw [List.count_replicate]; simp
      exact Valid.ok ⟨V.w0, V.w1, V.t0, V.t1, V.size, by simp, by omega⟩
    have hv2 : validB W T (cs.length - 1) (cs.drop 1) = false := by
      have e : ((cs.length : Nat) : Int) = (W : Int) * T := by rw [V.size]; simp
      have := V.w0
      have := V.t0
      have hp : 0 < W * T := Nat.mul_pos (by omega) (by omega)
      have hp2 := V.size
      have : ¬ (((cs.length - 1 : Nat) : Int) = (W : Int) * T) := by omega
      simp [validB, this]
    have hp : 1 ≤ cs.length := by
      have := V.w0
      have := V.t0
      have hp : 0 < W * T := Nat.mul_pos (by omega) (by omega)
      have hp2 := V.size
      omega
    obtain ⟨g, rfl, hg1, hg2⟩ := hown.form (by omega)
    go_wp2_with fail
    clear hv
    have hld : cs.length ≤ d := hown.cap
    have mk : Sl (w3.drew.alloc (.cells (madeCells #[.bool false] cs.length) 4)) (some ⟨w3.heap.size, 0, none⟩) cs.length ((List.replicate cs.length false).map .bool) := by
      have := (Own.made (w := w3.drew) (base := 0) (e := 4) (cs := madeCells #[.bool false] cs.length) (n := cs.length) (Nat.zero_le _) (by unfold maxLen; omega) (by rw [← Array.length_toList, toList_madeCells_one, List.length_replicate])).sl
      rw [toList_madeCells_one] at this
      rw [List.map_replicate]
      exact this
    have hmk := run_make_row' (P := Try.prog) 25 4 (.bool false) 1 Try.underlying25 Try.infoBool rfl .i64 .i64 cs.length (by omega) (by omega)
    have B3' := B3.drew
    have i1 : (1 : Int) ≤ (cs.length : Int) := by omega
    have i2 : (cs.length : Int) ≤ (d : Int) := by omega
    have x3' := (x3.drew).alloc (.cells (madeCells #[.bool false] cs.length) 4)
    have s3' : Sl (w3.drew.alloc (.cells (madeCells #[.bool false] cs.length) 4)) (some ⟨g, 1, none⟩) (cs.length - 1) ((cs.drop 1).map .bool) := by
      rw [List.map_drop]
      exact (s3.drew.alloc _).drop1 hp
    have s3'' : d = 1 → Sl (w3.drew.alloc (.cells (madeCells #[.bool false] cs.length) 4)) (some ⟨g, 0, none⟩) (cs.length - 1) ((cs.drop 1).map .bool) := by
      intro h1
      rw [List.map_drop, show cs.length - 1 = 0 by omega, List.drop_eq_nil_of_le (by simp; omega)]
      exact Sl.nil _ _
    by_cases hd1 : d = 1
    · have s4 := s3'' hd1
      clear s3' s3''
      go_region_held3 (fun w' => w'.cell? ⟨w1.heap.size, 0, none⟩ = some (.int .i64 W) ∧ w'.cell? ⟨w1.heap.size, 1, none⟩ = some (.int .i64 T) ∧ w'.cell? ⟨w1.heap.size, 2, none⟩ = some (.slice (some ⟨g, 0, none⟩) cs.length d))
        (first | exact ⟨k1, k2, k3⟩ | exact ⟨x3'.1, x3'.2.1, x3'.2.2⟩ | exact ⟨(x3'.below hb4).1, (x3'.below hb4).2.1, (x3'.below hb4).2.2⟩ | exact ⟨((x3'.below hb4).below hb5).1, ((x3'.below hb4).below hb5).2.1, ((x3'.below hb4).below hb5).2.2⟩)
        (first
          | (go_at_call 27; have hq := s4.below hb4; refine (valid_impl _ (cs.length - 1) _ W T (cs.drop 1) _ (by omega) hq).mono ?_; rintro e w5 ⟨rfl, hb5⟩; rw [hv2])
          | (go_at_call 27; refine (valid_impl (some ⟨w3.heap.size, 0, none⟩) cs.length cs.length W T (List.replicate cs.length false) _ (by omega) mk).mono ?_; rintro e w4 ⟨rfl, hb4⟩; rw [hv1]))
      go_wp2_with fail
      go_ret
      exact ⟨rfl, belowW (belowW (belowA B3') hb4) hb5⟩
    · clear s3''
      go_region_held3 (fun w' => w'.cell? ⟨w1.heap.size, 0, none⟩ = some (.int .i64 W) ∧ w'.cell? ⟨w1.heap.size, 1, none⟩ = some (.int .i64 T) ∧ w'.cell? ⟨w1.heap.size, 2, none⟩ = some (.slice (some ⟨g, 0, none⟩) cs.length d))
        (first | exact ⟨k1, k2, k3⟩ | exact ⟨x3'.1, x3'.2.1, x3'.2.2⟩ | exact ⟨(x3'.below hb4).1, (x3'.below hb4).2.1, (x3'.below hb4).2.2⟩ | exact ⟨((x3'.below hb4).below hb5).1, ((x3'.below hb4).below hb5).2.1, ((x3'.below hb4).below hb5).2.2⟩)
        (first
          | (go_at_call 27; have hq := s3'.below hb4; refine (valid_impl _ (cs.length - 1) _ W T (cs.drop 1) _ (by omega) hq).mono ?_; rintro e w5 ⟨rfl, hb5⟩; rw [hv2])
          | (go_at_call 27; refine (valid_impl (some ⟨w3.heap.size, 0, none⟩) cs.length cs.length W T (List.replicate cs.length false) _ (by omega) mk).mono ?_; rintro e w4 ⟨rfl, hb4⟩; rw [hv1]))
      go_wp2_with fail
      go_ret
      exact ⟨rfl, belowW (belowW (belowA B3') hb4) hb5⟩
  · have hv' : validB W T cs.length cs = false := by simpa using hv
    clear hv
    have hz := valid_zero
    go_wp2_with fail
    refine (valid_impl none 0 0 0 0 [] _ (by omega) (Sl.nil _ _)).mono ?_; rintro e w4 ⟨rfl, hb4⟩
    go_wp2_with fail
    refine (alive_any _).mono ?_; rintro e w5 ⟨rfl, hb5⟩
    go_wp2_with fail
    go_ret
    exact ⟨rfl, belowW (belowW B3 hb4) hb5⟩

end Go.Proofs.Ytkaikpffdgamfaa
