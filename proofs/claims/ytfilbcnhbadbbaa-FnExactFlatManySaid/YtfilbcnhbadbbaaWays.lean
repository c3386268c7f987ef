/-
  Index, Contains, ways, LaidMany and FlatMany, both sides: what they return.
-/
import Derived.Test.YtfilbcnhbadbbaaTilOk
namespace Go.Proofs.Ytfilbcnhbadbbaa
open Go.RowKit

/-- Is a number in a list? -/
def hasZ (ws : List Int) (x : Int) : Bool := ws.contains x
/-- What Index gives back: a place, or -1 where there is none. -/
def IdxOf (P : Bool) (w : World) (e : Ending) (w' : World) : Prop := ∃ i : Int, e = .returned (.int .i64 i) ∧ (decide (0 ≤ i) = P) ∧ w = w'

set_option maxHeartbeats 400000 in
theorem idx_any (A : Option Addr) (n c : Nat) (ws : List Int) (x : Int) (w : World) (hn : n ≤ 1048576) (h : Sl w A n (ws.map (.int .i64))) :
    Calls Try.prog 92 #[.slice A n c, .int .i64 x] w (IdxOf (hasZ ws x) w) := by
  have hl := h.1
  rw [List.length_map] at hl
  have HL := Lib.hid hl
  clear hl
  go_enter Try.func92, Try.ntmps92
  go_wp2_with fail
  go_loop [5, 8] (fun _ i => ∃ k : Nat, k ≤ n ∧ i = .int .i64 k ∧ (ws.take k).contains x = false) (fun _ i => n - (intOf i).toNat)
  case atStart => exact ⟨0, Nat.zero_le _, rfl, rfl⟩
  case round =>
    obtain ⟨k, hk, rfl, hno⟩ := hrel
    have HN := Lib.hid hno
    clear hno
    by_cases hlt : k < n
    · obtain ⟨b, off, y, rfl, hy, hc⟩ := h.atI hlt
      have HY := Lib.hid hy
      clear hy
      cases hxy : (x == y)
      · have HXY := Lib.hid hxy
        go_wp2_with fail
        go_round
        case rel => exact ⟨k + 1, by omega, by go_num, by rw [take_snoc HY.out, List.contains_append, HN.out]; simp; simpa using HXY.out⟩
        case measure => simp [intOf]; omega
      · have YES : Hid (hasZ ws x = true) := by
          show ws.contains x = true
          obtain rfl : x = y := by simpa using hxy
          rw [List.contains_iff_mem]; exact List.mem_of_getElem? HY.out
        go_wp2_with fail
        go_ret
        exact ⟨k, rfl, by rw [YES.out]; simp, rfl⟩
    · have e : k = n := by omega
      subst e
      go_wp2_with fail
      go_ret
      refine ⟨-1, rfl, ?_, rfl⟩
      have := HN.out
      rw [List.take_of_length_le (by rw [HL.out]; exact Nat.le_refl _)] at this
      rw [hasZ, this]; rfl

theorem contains_any (A : Option Addr) (n c : Nat) (ws : List Int) (x : Int) (w : World) (hn : n ≤ 1048576) (h : Sl w A n (ws.map (.int .i64))) :
    Calls Try.prog 91 #[.slice A n c, .int .i64 x] w fun e w' => e = .returned (.bool (hasZ ws x)) ∧ w = w' := by
  go_enter Try.func91, Try.ntmps91
  go_wp2_with fail
  refine (idx_any A n c ws x _ hn h).mono ?_; rintro e w1 ⟨i, rfl, hi, rfl⟩
  have HI := Lib.hid hi
  clear hi
  go_wp2_with fail
  go_ret
  exact ⟨ret_b HI.out, rfl⟩

/-- How many of the first k entries are among some numbers. -/
def wayN (ws zs : List Int) (k : Nat) : Nat := (zs.take k).countP fun z => hasZ ws z
theorem wayN_le (ws zs : List Int) (k : Nat) : wayN ws zs k ≤ k := Nat.le_trans List.countP_le_length (List.length_take_le _ _)
theorem wayN_succ {ws zs : List Int} {k : Nat} {z : Int} (h : zs[k]? = some z) : wayN ws zs (k + 1) = wayN ws zs k + (if hasZ ws z then 1 else 0) := by
  rw [wayN, take_snoc h, List.countP_append, List.countP_cons, List.countP_nil, wayN]; omega

set_option maxHeartbeats 400000 in
theorem ways_any (B : Option Addr) (m d : Nat) (zs : List Int) (A : Option Addr) (n c : Nat) (ws : List Int) (w : World) (hm : m ≤ 1048576) (h' : Sl w B m (zs.map (.int .i64))) (hn : n ≤ 1048576) (h : Sl w A n (ws.map (.int .i64))) :
    Calls Try.prog 82 #[.slice B m d, .slice A n c] w fun e w' => e = .returned (.int .i64 (wayN ws zs m)) ∧ w = w' := by
  go_enter Try.func82, Try.ntmps82
  go_wp2_with fail
  go_loop [5, 7, 10] (fun s _ i => ∃ k : Nat, k ≤ m ∧ i = .int .i64 k ∧ s = .int .i64 (wayN ws zs k)) (fun _ _ i => m - (intOf i).toNat)
  case atStart => exact ⟨0, Nat.zero_le _, rfl, rfl⟩
  case round =>
    obtain ⟨k, hk, rfl, rfl⟩ := hrel
    have hb := wayN_le ws zs k
    by_cases hlt : k < m
    · obtain ⟨b, off, z, rfl, hz, hc⟩ := h'.atI hlt
      have HZ := Lib.hid hz
      clear hz
      cases hw : hasZ ws z
      · have HW := Lib.hid hw
        clear hw
        go_wp2_with fail
        refine (contains_any A n c ws z _ hn h).mono ?_; rintro e w1 ⟨rfl, rfl⟩
        rw [HW.out]
        go_wp2_with fail
        go_round
        case rel => exact ⟨k + 1, by omega, by go_num, by rw [wayN_succ HZ.out, HW.out]; rfl⟩
        case measure => simp [intOf]; omega
      · have HW := Lib.hid hw
        clear hw
        go_wp2_with fail
        refine (contains_any A n c ws z _ hn h).mono ?_; rintro e w1 ⟨rfl, rfl⟩
        rw [HW.out]
        go_wp2_with fail
        go_round
        case rel => exact ⟨k + 1, by omega, by go_num, by rw [wayN_succ HZ.out, HW.out, if_pos rfl]; go_num⟩
        case measure => simp [intOf]; omega
    · have e : k = m := by omega
      subst e
      go_wp2_with fail
      go_ret
      exact ⟨rfl, rfl⟩

def manyF (ws : List Int) (W T : Int) (n : Nat) (bs : List Bool) (m : Nat) (zs : List Int) : Int := if laidB W T n bs m zs then wayN ws zs m else -1
theorem ints_new (w : World) (xs : List Int) (cs : Array Value) (t : TypeId) (h : cs.toList = xs.map (.int .i64)) : Sl (w.alloc (.cells cs t)) (some ⟨w.heap.size, 0, none⟩) xs.length (xs.map (.int .i64)) := by
  refine ⟨by simp, fun _ => ⟨w.heap.size, 0, rfl, fun k v hv => ?_⟩⟩
  rw [World.cell?_alloc_at _ _ _ _ rfl, Nat.zero_add]
  rw [← h] at hv
  simpa using hv

set_option maxHeartbeats 400000 in
theorem many_impl (A : Option Addr) (n c : Nat) (W T : Int) (bs : List Bool) (B : Option Addr) (m d : Nat) (zs : List Int) (w : World) (hn : n ≤ 1048576) (h : Sl w A n (bs.map .bool)) (hm : m ≤ 1048576) (h' : Sl w B m (zs.map (.int .i64))) (hz : ∀ z ∈ zs, I64 z) :
    Calls Try.prog 51 #[.agg #[.int .i64 W, .int .i64 T, .slice A n c], .slice B m d] w fun e w' => e = .returned (.int .i64 (manyF [1, 2] W T n bs m zs)) ∧ Below w.heap.size w w' := by
  have HZ0 := Lib.hid hz
  clear hz
  cases hv : laidB W T n bs m zs
  · have E : Hid (manyF [1, 2] W T n bs m zs = -1) := by show _ = _; rw [manyF, hv]; rfl
    have HV := Lib.hid hv
    clear hv
    go_enter Try.func51, Try.ntmps51
    go_wp2_with fail
    refine (laid_impl A n c W T bs B m d zs _ hn (h.alloc _) hm (h'.alloc _) HZ0.out).mono ?_; rintro e w1 ⟨rfl, hb1⟩
    rw [HV.out]
    go_wp2_with fail
    go_ret
    exact ⟨ret_i E.out.symm, belowW (below1 w _) hb1⟩
  · have E : Hid (manyF [1, 2] W T n bs m zs = wayN [1, 2] zs m) := by show _ = _; rw [manyF, if_pos hv]
    have HV := Lib.hid hv
    clear hv
    go_enter Try.func51, Try.ntmps51
    go_wp2_with fail
    refine (laid_impl A n c W T bs B m d zs _ hn (h.alloc _) hm (h'.alloc _) HZ0.out).mono ?_; rintro e w1 ⟨rfl, hb1⟩
    rw [HV.out]
    have B1 := belowW (below1 w _) hb1
    clear hb1
    go_wp2_with fail
    refine (ways_any B m d zs (some ⟨w1.heap.size, 0, none⟩) 2 2 [1, 2] _ hm ((h'.below B1).alloc _) (by omega) (ints_new w1 [1, 2] _ _ rfl)).mono ?_; rintro e w2 ⟨rfl, rfl⟩
    go_wp2_with fail
    go_ret
    exact ⟨ret_i E.out.symm, belowA B1⟩
set_option maxHeartbeats 400000 in
theorem flat_impl (A : Option Addr) (n c : Nat) (W T : Int) (bs : List Bool) (B : Option Addr) (m d : Nat) (zs : List Int) (w : World) (hn : n ≤ 1048576) (h : Sl w A n (bs.map .bool)) (hm : m ≤ 1048576) (h' : Sl w B m (zs.map (.int .i64))) (hz : ∀ z ∈ zs, I64 z) :
    Calls Try.prog 49 #[.agg #[.int .i64 W, .int .i64 T, .slice A n c], .slice B m d] w fun e w' => e = .returned (.int .i64 (manyF [1] W T n bs m zs)) ∧ Below w.heap.size w w' := by
  have HZ0 := Lib.hid hz
  clear hz
  cases hv : laidB W T n bs m zs
  · have E : Hid (manyF [1] W T n bs m zs = -1) := by show _ = _; rw [manyF, hv]; rfl
    have HV := Lib.hid hv
    clear hv
    go_enter Try.func49, Try.ntmps49
    go_wp2_with fail
    refine (laid_impl A n c W T bs B m d zs _ hn (h.alloc _) hm (h'.alloc _) HZ0.out).mono ?_; rintro e w1 ⟨rfl, hb1⟩
    rw [HV.out]
    go_wp2_with fail
    go_ret
    exact ⟨ret_i E.out.symm, belowW (below1 w _) hb1⟩
  · have E : Hid (manyF [1] W T n bs m zs = wayN [1] zs m) := by show _ = _; rw [manyF, if_pos hv]
    have HV := Lib.hid hv
    clear hv
    go_enter Try.func49, Try.ntmps49
    go_wp2_with fail
    refine (laid_impl A n c W T bs B m d zs _ hn (h.alloc _) hm (h'.alloc _) HZ0.out).mono ?_; rintro e w1 ⟨rfl, hb1⟩
    rw [HV.out]
    have B1 := belowW (below1 w _) hb1
    clear hb1
    go_wp2_with fail
    refine (ways_any B m d zs (some ⟨w1.heap.size, 0, none⟩) 1 1 [1] _ hm ((h'.below B1).alloc _) (by omega) (ints_new w1 [1] _ _ rfl)).mono ?_; rintro e w2 ⟨rfl, rfl⟩
    go_wp2_with fail
    go_ret
    exact ⟨ret_i E.out.symm, belowA B1⟩

set_option maxHeartbeats 400000 in
theorem many_spec (A : Option Addr) (n c : Nat) (W T : Int) (bs : List Bool) (B : Option Addr) (m d : Nat) (zs : List Int) (w : World) (hn : n ≤ 1048576) (h : Sl w A n (bs.map .bool)) (hm : m ≤ 1048576) (h' : Sl w B m (zs.map (.int .i64))) (hz : ∀ z ∈ zs, I64 z) :
    Calls Try.prog 50 #[.agg #[.int .i64 W, .int .i64 T, .slice A n c], .slice B m d] w fun e w' => e = .returned (.int .i64 (manyF [1, 2] W T n bs m zs)) ∧ Below w.heap.size w w' := by
  have HZ0 := Lib.hid hz
  clear hz
  cases hv : laidB W T n bs m zs
  · have E : Hid (manyF [1, 2] W T n bs m zs = -1) := by show _ = _; rw [manyF, hv]; rfl
    have HV := Lib.hid hv
    clear hv
    go_enter Try.func50, Try.ntmps50
    go_wp2_with fail
    refine (laid_spec A n c W T bs B m d zs _ hn (h.alloc _) hm (h'.alloc _) HZ0.out).mono ?_; rintro e w1 ⟨rfl, hb1⟩
    rw [HV.out]
    go_wp2_with fail
    go_ret
    exact ⟨ret_i E.out.symm, belowW (below1 w _) hb1⟩
  · have E : Hid (manyF [1, 2] W T n bs m zs = wayN [1, 2] zs m) := by show _ = _; rw [manyF, if_pos hv]
    have HV := Lib.hid hv
    clear hv
    go_enter Try.func50, Try.ntmps50
    go_wp2_with fail
    refine (laid_spec A n c W T bs B m d zs _ hn (h.alloc _) hm (h'.alloc _) HZ0.out).mono ?_; rintro e w1 ⟨rfl, hb1⟩
    rw [HV.out]
    have B1 := belowW (below1 w _) hb1
    clear hb1
    go_wp2_with fail
    go_loop [5, 6] (fun s i => ∃ k : Nat, k ≤ m ∧ i = .int .i64 k ∧ s = .int .i64 (wayN [1, 2] zs k)) (fun _ i => m - (intOf i).toNat)
    case atStart => exact ⟨0, Nat.zero_le _, rfl, rfl⟩
    case round =>
      obtain ⟨k, hk, rfl, rfl⟩ := hrel
      have hb := wayN_le [1, 2] zs k
      by_cases hlt : k < m
      · obtain ⟨b, off, z, rfl, hz, hc⟩ := (h'.below B1).atI hlt
        have HZ := Lib.hid hz
        clear hz
        cases h1 : (z == 1)
        · cases h2 : (z == 2)
          · have HW : Hid (hasZ [1, 2] z = false) := by show ([1, 2] : List Int).contains z = false; simp at h1 h2 ⊢; first | exact ⟨h1, h2⟩ | exact h1
            go_wp2_with fail
            go_round
            case rel => exact ⟨k + 1, by omega, by go_num, by rw [wayN_succ HZ.out, HW.out]; rfl⟩
            case measure => simp [intOf]; omega
          · obtain rfl : z = 2 := by simpa using h2
            go_wp2_with fail
            go_round
            case rel => exact ⟨k + 1, by omega, by go_num, by rw [wayN_succ HZ.out]; first | (rw [show hasZ [1, 2] 2 = true from rfl, if_pos rfl]; go_num) | (rw [show hasZ [1, 2] 2 = false from rfl]; rfl)⟩
            case measure => simp [intOf]; omega
        · obtain rfl : z = 1 := by simpa using h1
          go_wp2_with fail
          go_round
          case rel => exact ⟨k + 1, by omega, by go_num, by rw [wayN_succ HZ.out, show hasZ [1, 2] 1 = true from rfl, if_pos rfl]; go_num⟩
          case measure => simp [intOf]; omega
      · have e : k = m := by omega
        subst e
        go_wp2_with fail
        go_ret
        exact ⟨ret_i E.out.symm, B1⟩
set_option maxHeartbeats 400000 in
theorem flat_spec (A : Option Addr) (n c : Nat) (W T : Int) (bs : List Bool) (B : Option Addr) (m d : Nat) (zs : List Int) (w : World) (hn : n ≤ 1048576) (h : Sl w A n (bs.map .bool)) (hm : m ≤ 1048576) (h' : Sl w B m (zs.map (.int .i64))) (hz : ∀ z ∈ zs, I64 z) :
    Calls Try.prog 48 #[.agg #[.int .i64 W, .int .i64 T, .slice A n c], .slice B m d] w fun e w' => e = .returned (.int .i64 (manyF [1] W T n bs m zs)) ∧ Below w.heap.size w w' := by
  have HZ0 := Lib.hid hz
  clear hz
  cases hv : laidB W T n bs m zs
  · have E : Hid (manyF [1] W T n bs m zs = -1) := by show _ = _; rw [manyF, hv]; rfl
    have HV := Lib.hid hv
    clear hv
    go_enter Try.func48, Try.ntmps48
    go_wp2_with fail
    refine (laid_spec A n c W T bs B m d zs _ hn (h.alloc _) hm (h'.alloc _) HZ0.out).mono ?_; rintro e w1 ⟨rfl, hb1⟩
    rw [HV.out]
    go_wp2_with fail
    go_ret
    exact ⟨ret_i E.out.symm, belowW (below1 w _) hb1⟩
  · have E : Hid (manyF [1] W T n bs m zs = wayN [1] zs m) := by show _ = _; rw [manyF, if_pos hv]
    have HV := Lib.hid hv
    clear hv
    go_enter Try.func48, Try.ntmps48
    go_wp2_with fail
    refine (laid_spec A n c W T bs B m d zs _ hn (h.alloc _) hm (h'.alloc _) HZ0.out).mono ?_; rintro e w1 ⟨rfl, hb1⟩
    rw [HV.out]
    have B1 := belowW (below1 w _) hb1
    clear hb1
    go_wp2_with fail
    go_loop [5, 6] (fun s i => ∃ k : Nat, k ≤ m ∧ i = .int .i64 k ∧ s = .int .i64 (wayN [1] zs k)) (fun _ i => m - (intOf i).toNat)
    case atStart => exact ⟨0, Nat.zero_le _, rfl, rfl⟩
    case round =>
      obtain ⟨k, hk, rfl, rfl⟩ := hrel
      have hb := wayN_le [1] zs k
      by_cases hlt : k < m
      · obtain ⟨b, off, z, rfl, hz, hc⟩ := (h'.below B1).atI hlt
        have HZ := Lib.hid hz
        clear hz
        cases h1 : (z == 1)
        · cases h2 : (z == 2)
          · have HW : Hid (hasZ [1] z = false) := by show ([1] : List Int).contains z = false; simp at h1 h2 ⊢; first | exact ⟨h1, h2⟩ | exact h1
            go_wp2_with fail
            go_round
            case rel => exact ⟨k + 1, by omega, by go_num, by rw [wayN_succ HZ.out, HW.out]; rfl⟩
            case measure => simp [intOf]; omega
          · obtain rfl : z = 2 := by simpa using h2
            go_wp2_with fail
            go_round
            case rel => exact ⟨k + 1, by omega, by go_num, by rw [wayN_succ HZ.out]; first | (rw [show hasZ [1] 2 = true from rfl, if_pos rfl]; go_num) | (rw [show hasZ [1] 2 = false from rfl]; rfl)⟩
            case measure => simp [intOf]; omega
        · obtain rfl : z = 1 := by simpa using h1
          go_wp2_with fail
          go_round
          case rel => exact ⟨k + 1, by omega, by go_num, by rw [wayN_succ HZ.out, show hasZ [1] 1 = true from rfl, if_pos rfl]; go_num⟩
          case measure => simp [intOf]; omega
      · have e : k = m := by omega
        subst e
        go_wp2_with fail
        go_ret
        exact ⟨ret_i E.out.symm, B1⟩

end Go.Proofs.Ytfilbcnhbadbbaa
