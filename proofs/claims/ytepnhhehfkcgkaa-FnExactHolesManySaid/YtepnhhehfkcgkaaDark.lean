/-
  xy, dark, darks and DarkMany, both sides: what they return.
-/
import Derived.Test.YtepnhhehfkcgkaaValid
import Derived.BigQuiet
import Derived.Deep.QuietTactic
namespace Go.Proofs.Ytepnhhehfkcgkaa
open Go.RowKit

theorem div_bd (k W : Nat) : 0 ≤ (k : Int) / (W : Int) ∧ (k : Int) / (W : Int) ≤ k ∧ 0 ≤ (k : Int) % (W : Int) ∧ (k : Int) % (W : Int) ≤ k := by
  have e1 : (k : Int) / (W : Int) = ((k / W : Nat) : Int) := (Int.natCast_ediv k W).symm
  have e2 : (k : Int) % (W : Int) = ((k % W : Nat) : Int) := (Int.natCast_emod k W).symm
  rw [e1, e2]
  exact ⟨Int.natCast_nonneg _, Int.ofNat_le.2 (Nat.div_le_self k W), Int.natCast_nonneg _, Int.ofNat_le.2 (Nat.mod_le k W)⟩

set_option maxHeartbeats 400000 in
theorem xy_any (A : Option Addr) (n c W k x y : Nat) (T : Int) (w : World) (hW : 1 ≤ W) (hk : k ≤ 4194304) (hx : k % W = x) (hy : k / W = y) :
    Calls Try.prog 85 #[.agg #[.int .i64 W, .int .i64 T, .slice A n c], .int .i64 k] w fun e w' => e = .returned (.tuple #[.int .i64 x, .int .i64 y]) ∧ Below w.heap.size w w' := by
  obtain ⟨h1, h2, h3, h4⟩ := div_bd k W
  have E1 : Hid ((k : Int) / (W : Int) = (y : Int)) := by show _ = _; rw [← hy]; exact (Int.natCast_ediv k W).symm
  have E2 : Hid ((k : Int) % (W : Int) = (x : Int)) := by show _ = _; rw [← hx]; exact (Int.natCast_emod k W).symm
  clear hx hy
  have hW1 : (1 : Int) ≤ (W : Int) := by omega
  have hz : ((W : Int) == 0) = false := beq_eq_false_iff_ne.2 (by omega)
  go_enter Try.func85, Try.ntmps85
  go_wp2
  go_quiet (fail)
  go_wp2
  go_ret2
  exact ⟨ret_ii E2.out E1.out, below_drewN (below1 w _) _⟩

/-- Is a cell dark? -/
def darkB (W k : Nat) : Bool := (k % W + k / W) % 2 == 0

theorem dark_any (A : Option Addr) (n c W k : Nat) (T : Int) (w : World) (hW : 1 ≤ W) (hk : k ≤ 4194304) :
    Calls Try.prog 84 #[.agg #[.int .i64 W, .int .i64 T, .slice A n c], .int .i64 k] w fun e w' => e = .returned (.bool (darkB W k)) ∧ Below w.heap.size w w' := by
  obtain ⟨x, hx⟩ : ∃ x, k % W = x := ⟨_, rfl⟩
  obtain ⟨y, hy⟩ : ∃ y, k / W = y := ⟨_, rfl⟩
  have hx1 : x ≤ k := by rw [← hx]; exact Nat.mod_le k W
  have hy1 : y ≤ k := by rw [← hy]; exact Nat.div_le_self k W
  have HX := Lib.hid hx
  have HY := Lib.hid hy
  have HE : Hid ((((x : Int) + y) % 2 == 0) = darkB W k) := by
    show _ = _
    rw [darkB, hx, hy, Bool.eq_iff_iff, beq_iff_eq, beq_iff_eq]; omega
  clear hx hy
  go_enter Try.func84, Try.ntmps84
  go_wp2_with (go_at_call 85; refine (xy_any A n c W k x y T _ hW hk HX.out HY.out).mono ?_; rintro e w1 ⟨rfl, hb1⟩)
  go_ret
  exact ⟨ret_b HE.out, belowW (below1 w _) hb1⟩

/-- How many of the first k cells belong to the region and are dark. -/
def darkN (W : Nat) (bs : List Bool) : Nat → Nat
  | 0 => 0
  | k + 1 => darkN W bs k + (if bs[k]?.getD false && darkB W k then 1 else 0)
theorem darkN_le (W : Nat) (bs : List Bool) (k : Nat) : darkN W bs k ≤ k := by
  induction k with
  | zero => exact Nat.le_refl _
  | succ k ih => rw [darkN]; split <;> omega
theorem darkN_yes {W : Nat} {bs : List Bool} {k : Nat} (h1 : bs[k]? = some true) (h2 : darkB W k = true) : darkN W bs (k + 1) = darkN W bs k + 1 := by simp [darkN, h1, h2]
theorem darkN_no1 {W : Nat} {bs : List Bool} {k : Nat} (h1 : bs[k]? = some false) : darkN W bs (k + 1) = darkN W bs k := by simp [darkN, h1]
theorem darkN_no2 {W : Nat} {bs : List Bool} {k : Nat} (h2 : darkB W k = false) : darkN W bs (k + 1) = darkN W bs k := by simp [darkN, h2]

set_option maxHeartbeats 400000 in
theorem darks_any (A : Option Addr) (n c W : Nat) (T : Int) (bs : List Bool) (w : World) (hW : 1 ≤ W) (hn : n ≤ 4194304) (h : Sl w A n (bs.map .bool)) :
    Calls Try.prog 58 #[.agg #[.int .i64 W, .int .i64 T, .slice A n c]] w fun e w' => e = .returned (.int .i64 (darkN W bs n)) ∧ Below w.heap.size w w' := by
  go_enter Try.func58, Try.ntmps58
  go_wp2_with fail
  go_loopw [3, 4, 5, 9] (fun s _ _ i wr => ∃ k : Nat, k ≤ n ∧ i = .int .i64 k ∧ s = .int .i64 (darkN W bs k) ∧ Box wr w.heap.size (.int .i64 W) (.int .i64 T) (.slice A n c) ∧ Below w.heap.size w wr) (fun _ _ _ i _ => n - (intOf i).toNat)
  case atStart => exact ⟨0, Nat.zero_le _, rfl, rfl, Box.new _ _ _ _ _, below1 _ _⟩
  case round =>
    obtain ⟨k, hk, rfl, rfl, hbx, hb⟩ := hrel
    have hd := darkN_le W bs k
    have k1 := hbx.1
    have k2 := hbx.2.1
    have k3 := hbx.2.2
    by_cases hlt : k < n
    · obtain ⟨b, off, x, rfl, hx, hc⟩ := (h.below hb).atB hlt
      have HX := Lib.hid hx
      clear hx
      cases x
      · go_wp2_with fail
        go_roundw
        case rel => exact ⟨k + 1, by omega, by go_num, by rw [darkN_no1 HX.out], hbx, hb⟩
        case measure => simp [intOf]; omega
      · cases hdk : darkB W k
        · have HD := Lib.hid hdk
          go_wp2_with (go_at_call 84; refine (dark_any _ n c W k T _ hW (by omega)).mono ?_; rintro e w1 ⟨rfl, hb1⟩)
          go_roundw
          case rel => exact ⟨k + 1, by omega, by go_num, by rw [darkN_no2 HD.out], hbx.below hb1, belowW hb hb1⟩
          case measure => simp [intOf]; omega
        · have HD := Lib.hid hdk
          go_wp2_with (go_at_call 84; refine (dark_any _ n c W k T _ hW (by omega)).mono ?_; rintro e w1 ⟨rfl, hb1⟩)
          go_roundw
          case rel => exact ⟨k + 1, by omega, by go_num, by rw [darkN_yes HX.out HD.out]; go_num, hbx.below hb1, belowW hb hb1⟩
          case measure => simp [intOf]; omega
    · have e : k = n := by omega
      subst e
      go_wp2_with fail
      go_ret
      exact ⟨rfl, hb⟩

def darkF (W T : Int) (n : Nat) (bs : List Bool) : Int := if validB W T n bs then darkN W.toNat bs n else -1

theorem dark_impl (A : Option Addr) (n c : Nat) (W T : Int) (bs : List Bool) (w : World) (hn : n ≤ 1048576) (h : Sl w A n (bs.map .bool)) :
    Calls Try.prog 22 #[.agg #[.int .i64 W, .int .i64 T, .slice A n c]] w fun e w' => e = .returned (.int .i64 (darkF W T n bs)) ∧ Below w.heap.size w w' := by
  have hl := h.1
  rw [List.length_map] at hl
  by_cases hv : validB W T n bs = true
  · obtain ⟨W, T, rfl, rfl, V⟩ := valid_of hv hl
    have E : Hid (darkF W T n bs = darkN W bs n) := by show _ = _; rw [darkF, if_pos hv]; rfl
    clear hl
    go_enter Try.func22, Try.ntmps22
    go_wp2_with fail
    refine (valid_impl A n c W T bs _ (by omega) (h.alloc _)).mono ?_; rintro e w1 ⟨rfl, hb1⟩
    have r1 := (Box.new w (.int .i64 W) (.int .i64 T) (.slice A n c) 34).below hb1
    have k1 := r1.1
    have k2 := r1.2.1
    have k3 := r1.2.2
    go_wp2_with fail
    refine (darks_any A n c W T bs _ V.w0 (by omega) ((h.alloc _).below hb1)).mono ?_; rintro e w2 ⟨rfl, hb2⟩
    go_wp2_with fail
    go_ret
    exact ⟨ret_i E.out.symm, belowW (belowW (below1 w _) hb1) hb2⟩
  · have E : Hid (darkF W T n bs = -1) := by show _ = _; rw [darkF, if_neg hv]
    have hv' : validB W T n bs = false := by simpa using hv
    clear hv hl
    go_enter Try.func22, Try.ntmps22
    go_wp2_with fail
    refine (valid_impl A n c W T bs _ (by omega) (h.alloc _)).mono ?_; rintro e w1 ⟨rfl, hb1⟩
    go_wp2_with fail
    go_ret
    exact ⟨ret_i E.out.symm, belowW (below1 w _) hb1⟩

set_option maxHeartbeats 1000000 in
theorem dark_spec (A : Option Addr) (n c : Nat) (W T : Int) (bs : List Bool) (w : World) (hn : n ≤ 1048576) (h : Sl w A n (bs.map .bool)) :
    Calls Try.prog 23 #[.agg #[.int .i64 W, .int .i64 T, .slice A n c]] w fun e w' => e = .returned (.int .i64 (darkF W T n bs)) ∧ Below w.heap.size w w' := by
  have hl := h.1
  rw [List.length_map] at hl
  by_cases hv : validB W T n bs = true
  · obtain ⟨W, T, rfl, rfl, V⟩ := valid_of hv hl
    have E : Hid (darkF W T n bs = darkN W bs n) := by show _ = _; rw [darkF, if_pos hv]; rfl
    clear hl
    have hW0 := V.w0
    have hW1 : (1 : Int) ≤ (W : Int) := by omega
    have hz : ((W : Int) == 0) = false := beq_eq_false_iff_ne.2 (by omega)
    go_enter Try.func23, Try.ntmps23
    go_wp2_with fail
    refine (valid_spec A n c W T bs _ (by omega) (h.alloc _)).mono ?_; rintro e w1 ⟨rfl, hb1⟩
    have r1 := (Box.new w (.int .i64 W) (.int .i64 T) (.slice A n c) 34).below hb1
    have B1 := belowW (below1 w _) hb1
    clear hb1
    go_wp2_with fail
    go_loopw [3, 4] (fun s i wr => ∃ k : Nat, k ≤ n ∧ i = .int .i64 k ∧ s = .int .i64 (darkN W bs k) ∧ Box wr w.heap.size (.int .i64 W) (.int .i64 T) (.slice A n c) ∧ Below w.heap.size w wr) (fun _ i _ => n - (intOf i).toNat)
    case atStart => exact ⟨0, Nat.zero_le _, rfl, rfl, r1, B1⟩
    case round =>
      clear r1 B1
      obtain ⟨k, hk, rfl, rfl, hbx, hb⟩ := hrel
      have hd := darkN_le W bs k
      have k1 := hbx.1
      have k2 := hbx.2.1
      have k3 := hbx.2.2
      by_cases hlt : k < n
      · obtain ⟨b, off, x, rfl, hx, hc⟩ := (h.below hb).atB hlt
        have HX := Lib.hid hx
        clear hx
        have h0k : (0 : Int) ≤ (k : Int) := by omega
        have hkn : (k : Int) < (n : Int) := by omega
        cases x
        · go_wp2_with fail
          go_quiet (fail)
          go_wp2_with fail
          go_roundw
          case rel => exact ⟨k + 1, by omega, by go_num, by rw [darkN_no1 HX.out], hbx, below_drewN hb _⟩
          case measure => simp [intOf]; omega
        · obtain ⟨h1, h2, h3, h4⟩ := div_bd k W
          have HE : ((((k : Int) % (W : Int) + (k : Int) / (W : Int)) % 2) == 0) = darkB W k := by
            rw [darkB, ← Int.natCast_ediv, ← Int.natCast_emod, Bool.eq_iff_iff, beq_iff_eq, beq_iff_eq]; omega
          cases hdk : darkB W k
          · have HD := Lib.hid hdk
            rw [hdk] at HE
            go_wp2_with fail
            go_quiet (fail)
            go_wp2_with fail
            go_roundw
            case rel => exact ⟨k + 1, by omega, by go_num, by rw [darkN_no2 HD.out], hbx, below_drewN hb _⟩
            case measure => simp [intOf]; omega
          · have HD := Lib.hid hdk
            rw [hdk] at HE
            go_wp2_with fail
            go_quiet (fail)
            go_wp2_with fail
            go_roundw
            case rel => exact ⟨k + 1, by omega, by go_num, by rw [darkN_yes HX.out HD.out]; go_num, hbx, below_drewN hb _⟩
            case measure => simp [intOf]; omega
      · have e : k = n := by omega
        subst e
        go_wp2_with fail
        go_ret
        exact ⟨ret_i E.out.symm, hb⟩
  · have E : Hid (darkF W T n bs = -1) := by show _ = _; rw [darkF, if_neg hv]
    have hv' : validB W T n bs = false := by simpa using hv
    clear hv hl
    go_enter Try.func23, Try.ntmps23
    go_wp2_with fail
    refine (valid_spec A n c W T bs _ (by omega) (h.alloc _)).mono ?_; rintro e w1 ⟨rfl, hb1⟩
    go_wp2_with fail
    go_ret
    exact ⟨ret_i E.out.symm, belowW (below1 w _) hb1⟩
end Go.Proofs.Ytepnhhehfkcgkaa
