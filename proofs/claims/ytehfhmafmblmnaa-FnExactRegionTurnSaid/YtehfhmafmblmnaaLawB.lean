/-
  The laws' own helpers over bool slices and regions: their sizes, copies, comparisons, marks.
-/
import Derived.Test.YtehfhmafmblmnaaMem
import Derived.Deep.OwnRows
import Derived.BigQuiet
import Derived.Deep.QuietTactic
namespace Go.Proofs.Ytehfhmafmblmnaa
open Go.RowKit

theorem Try.infoBool : (Try.prog.info? 4).map (fun i => (i.zero, i.size, i.bytes)) = some (some (.bool false), 1, 1) := by kernel_rfl

def szV (left : Int) (n : Nat) : Int := if left < n then -1 else left - n

theorem szBoolS_any (A : Option Addr) (n c : Nat) (left : Int) (w : World) (hn : n ≤ 9223372036854775807) (h0 : 0 ≤ left) (h1 : left ≤ 1048576) :
    Calls Try.prog 54 #[.slice A n c, .int .i64 left] w fun e w' => e = .returned (.int .i64 (szV left n)) ∧ w = w' := by
  by_cases h : left < n
  · have h2 : left - n < 0 := by omega
    go_enter Try.func54, Try.ntmps54
    go_wp2
    go_ret
    exact ⟨ret_i (by rw [szV, if_pos h]), rfl⟩
  · have h2 : 0 ≤ left - n := by omega
    go_enter Try.func54, Try.ntmps54
    go_wp2
    go_ret
    exact ⟨ret_i (by rw [szV, if_neg (by omega)]), rfl⟩

theorem szRegion_any (A : Option Addr) (n c : Nat) (W T left : Int) (w : World) (hn : n ≤ 9223372036854775807) (h0 : 0 ≤ left) (h1 : left ≤ 1048576) :
    Calls Try.prog 15 #[.agg #[.int .i64 W, .int .i64 T, .slice A n c], .int .i64 left] w fun e w' => e = .returned (.int .i64 (szV left n)) ∧ Below w.heap.size w w' := by
  by_cases h : left < n
  · have e : szV left n = -1 := by rw [szV, if_pos h]
    have E := Lib.hid e
    go_enter Try.func15, Try.ntmps15
    go_wp2_with (go_at_call 54; refine (szBoolS_any A n c left _ hn h0 h1).mono ?_; rintro e w' ⟨rfl, rfl⟩)
    go_ret
    exact ⟨ret_i E.out.symm, below1 _ _⟩
  · have e : 0 ≤ szV left n := by rw [szV, if_neg h]; omega
    go_enter Try.func15, Try.ntmps15
    go_wp2_with (go_at_call 54; refine (szBoolS_any A n c left _ hn h0 h1).mono ?_; rintro e w' ⟨rfl, rfl⟩)
    go_ret
    exact ⟨rfl, below1 _ _⟩

set_option maxHeartbeats 400000 in
theorem toBoolS_any (A : Option Addr) (n c : Nat) (bs : List Bool) (w : World) (hn : n ≤ 1048576) (h : Sl w A n (bs.map .bool)) :
    Calls Try.prog 58 #[.slice A n c] w fun e w' => e = .returned (.slice (some ⟨w.heap.size, 0, none⟩) n n) ∧ Own w' w.heap.size (w.heap.size + 1) 4 (some ⟨w.heap.size, 0, none⟩) n n (bs.map .bool) ∧ Below w.heap.size w w' ∧ w'.heap.size = w.heap.size + 1 := by
  have hmk := run_make_row' (P := Try.prog) 22 4 (.bool false) 1 Try.underlying22 Try.infoBool rfl .i64 .i64 n (by omega) (by omega)
  go_enter Try.func58, Try.ntmps58
  go_wp2
  go_loopw [4] (fun i wr => ∃ k : Nat, k ≤ n ∧ i = .int .i64 k ∧ Own wr w.heap.size (w.heap.size + 1) 4 (some ⟨w.heap.size, 0, none⟩) n n ((bs.take k).map .bool ++ List.replicate (n - k) (.bool false)) ∧ Below w.heap.size w wr ∧ wr.heap.size = w.heap.size + 1)
    (fun i _ => n - (intOf i).toNat)
  case atStart => exact ⟨0, Nat.zero_le _, rfl, by simpa [toList_madeCells_one] using Own.made (w := w) (base := w.heap.size) (e := 4) (cs := madeCells #[.bool false] n) (n := n) (Nat.le_refl _) (by unfold maxLen; omega) (by rw [← Array.length_toList, toList_madeCells_one, List.length_replicate]), below1 _ _, by simp⟩
  case round =>
    obtain ⟨k, hk, rfl, hown, hb, hsz⟩ := hrel
    have HZ := Lib.hid hsz
    clear hsz hmk
    by_cases hlt : k < n
    · obtain ⟨b, off, x, rfl, hx, hc⟩ := (h.below hb).atB hlt
      have HX := Lib.hid hx
      clear hx
      have hfr := hown.frozen k
      obtain ⟨b', off', v', hA', -, hcs⟩ := hown.sl.at_ hlt
      obtain ⟨rfl, rfl⟩ : w.heap.size = b' ∧ 0 = off' := by simpa using hA'
      have hcs' : wr.cell? ⟨w.heap.size, k, none⟩ = some v' := by simpa using hcs
      clear hcs hA'
      go_wp2
      go_roundw
      case rel =>
        refine ⟨k + 1, by omega, by go_num, ?_, hb.setCell (Nat.le_refl _) _, by simp [HZ.out]⟩
        have := hown.stored k hlt (.bool x)
        rw [take_snoc HX.out]
        have hl : ((bs.take k).map Value.bool).length = k := by have := h.1; simp at this ⊢; omega
        rw [List.set_append_right _ _ (by omega), hl, Nat.sub_self, show n - k = (n - (k + 1)) + 1 by omega, List.replicate_succ, List.set_cons_zero] at this
        simpa using this
      case measure => simp [intOf]; omega
    · have e : k = n := by omega
      subst e
      go_wp2
      go_ret
      refine ⟨rfl, ?_, hb, HZ.out⟩
      have hl := h.1
      rw [List.length_map] at hl
      rw [Nat.sub_self, List.replicate_zero, List.append_nil, List.take_of_length_le (by omega)] at hown
      exact hown

/-- A region as a Go value. -/
def regV (W T : Int) (A : Option Addr) (n c : Nat) : Value := .agg #[.int .i64 W, .int .i64 T, .slice A n c]

set_option maxHeartbeats 400000 in
theorem toRegion_any (A : Option Addr) (n c : Nat) (W T : Int) (bs : List Bool) (w : World) (hn : n ≤ 1048576) (h : Sl w A n (bs.map .bool)) :
    Calls Try.prog 17 #[.agg #[.int .i64 W, .int .i64 T, .slice A n c]] w fun e w' => ∃ g, e = .returned (.agg #[.int .i64 W, .int .i64 T, .slice (some ⟨g, 0, none⟩) n n]) ∧ Own w' w.heap.size w'.heap.size 4 (some ⟨g, 0, none⟩) n n (bs.map .bool) ∧ Below w.heap.size w w' := by
  go_enter Try.func17, Try.ntmps17
  go_wp2_with (go_at_call 58; refine (toBoolS_any A n c bs _ hn (((h.alloc _).alloc _).alloc _)).mono ?_; rintro e w1 ⟨rfl, hown, hb, hsz⟩; obtain ⟨hc, hf⟩ := bcell hb; simp only [World.size_alloc] at hc hf)
  simp only [World.size_alloc] at hown hsz
  refine bodyPost_ret (v := .agg #[.int .i64 W, .int .i64 T, .slice (some ⟨w.heap.size + 1 + 1 + 1, 0, none⟩) n n]) (by simp [results, Try.results17, go_sem, hc]) rfl ⟨_, rfl, ?_, ?_⟩
  · exact ((((((hown.setBelow (by simp) _).setBelow (by simp) _).setBelow (by simp) _).setBelow (by simp) _).base (by omega)).top (by simp [hsz]))
  · exact (((((((below1 w _).alloc (by simp) _).alloc (by simp; omega) _).trans (hb.mono (by simp; omega))).setCell (by simp; omega) _).setCell (by simp) _).setCell (by simp) _).setCell (by simp) _

set_option maxHeartbeats 400000 in
theorem eqBoolS_any (A B : Option Addr) (n m c d : Nat) (xs ys : List Bool) (w : World) (hn : n ≤ 9223372036854775807) (ha : Sl w A n (xs.map .bool)) (hb : Sl w B m (ys.map .bool)) :
    Calls Try.prog 61 #[.slice A n c, .slice B m d] w fun e w' => e = .returned (.bool (decide (xs = ys))) ∧ Below w.heap.size w w' := by
  have la := ha.1
  have lb := hb.1
  rw [List.length_map] at la lb
  by_cases hne : n = m
  · subst hne
    have hnn : ((n : Int) != n) = false := by simp
    have LA := Lib.hid la
    have LB := Lib.hid lb
    clear la lb
    go_enter Try.func61, Try.ntmps61
    go_wp2
    go_loopw [5] (fun i wr => ∃ k : Nat, k ≤ n ∧ i = .int .i64 k ∧ xs.take k = ys.take k ∧ Below w.heap.size w wr) (fun i _ => n - (intOf i).toNat)
    case atStart => exact ⟨0, Nat.zero_le _, rfl, rfl, Below.refl _ _⟩
    case round =>
      obtain ⟨k, hk, rfl, heq, hw⟩ := hrel
      have HE := Lib.hid heq
      clear heq hnn
      by_cases hlt : k < n
      · obtain ⟨b, off, x, rfl, hx, hc⟩ := (ha.below hw).atB hlt
        obtain ⟨b', off', y, rfl, hy, hc'⟩ := (hb.below hw).atB hlt
        have HX := Lib.hid hx
        have HY := Lib.hid hy
        clear hx hy
        by_cases hxy : x = y
        · subst hxy
          go_wp2
          go_quiet (fail)
          go_wp2
          go_roundw
          case rel => exact ⟨k + 1, by omega, by go_num, by rw [take_snoc HX.out, take_snoc HY.out, HE.out], below_drewN hw _⟩
          case measure => simp [intOf]; omega
        · have hxb : (x == y) = false := by simpa using hxy
          have hno : decide (xs = ys) = false := by
            rw [decide_eq_false_iff_not]; rintro rfl; rw [HX.out] at HY; exact hxy (by simpa using HY.out)
          have HN := Lib.hid hno
          clear hno hxy
          go_wp2
          go_quiet (fail)
          go_wp2
          go_ret
          exact ⟨ret_b HN.out.symm, below_drewN hw _⟩
      · have e : k = n := by omega
        subst e
        go_wp2
        go_ret
        refine ⟨ret_b ?_, hw⟩
        have h := HE.out
        rw [List.take_of_length_le (by rw [LA.out]; exact Nat.le_refl _), List.take_of_length_le (by rw [LB.out]; exact Nat.le_refl _)] at h
        simp [h]
  · have hnn : ((n : Int) != m) = true := by rw [bne_iff_ne]; omega
    have hno : decide (xs = ys) = false := by rw [decide_eq_false_iff_not]; rintro rfl; omega
    have HN := Lib.hid hno
    clear hno hne la lb
    go_enter Try.func61, Try.ntmps61
    go_wp2
    go_ret
    exact ⟨ret_b HN.out.symm, Below.refl _ _⟩


/-- Are two regions one? -/
def regEq (W T W' T' : Int) (xs ys : List Bool) : Bool := decide (W = W' ∧ T = T' ∧ xs = ys)
theorem regEq_self (W T : Int) (xs : List Bool) : regEq W T W T xs xs = true := by simp [regEq]

set_option maxHeartbeats 400000 in
theorem eqRegion_any (A B : Option Addr) (n m c d : Nat) (W T W' T' : Int) (xs ys : List Bool) (w : World) (hn : n ≤ 9223372036854775807) (ha : Sl w A n (xs.map .bool)) (hb : Sl w B m (ys.map .bool)) :
    Calls Try.prog 19 #[.agg #[.int .i64 W, .int .i64 T, .slice A n c], .agg #[.int .i64 W', .int .i64 T', .slice B m d]] w fun e w' => e = .returned (.bool (regEq W T W' T' xs ys)) ∧ Below w.heap.size w w' := by
  by_cases h1 : W = W'
  · subst h1
    by_cases h2 : T = T'
    · subst h2
      by_cases h3 : xs = ys
      · have E : Hid (regEq W T W T xs ys = true) := by show _ = true; simp [regEq, h3]
        have E3 : decide (xs = ys) = true := by simpa using h3
        clear h3
        go_enter Try.func19, Try.ntmps19
        go_wp2_with (go_at_call 61; refine (eqBoolS_any A B n m c d xs ys _ hn ((ha.alloc _).alloc _) ((hb.alloc _).alloc _)).mono ?_; rintro e w1 ⟨rfl, hb1⟩)
        go_ret
        exact ⟨ret_b E.out.symm, ((below1 w _).alloc (by simp) _).trans (hb1.mono (by simp; omega))⟩
      · have E : Hid (regEq W T W T xs ys = false) := by show _ = false; simp [regEq, h3]
        have E3 : decide (xs = ys) = false := by simpa using h3
        clear h3
        go_enter Try.func19, Try.ntmps19
        go_wp2_with (go_at_call 61; refine (eqBoolS_any A B n m c d xs ys _ hn ((ha.alloc _).alloc _) ((hb.alloc _).alloc _)).mono ?_; rintro e w1 ⟨rfl, hb1⟩)
        go_ret
        exact ⟨ret_b E.out.symm, ((below1 w _).alloc (by simp) _).trans (hb1.mono (by simp; omega))⟩
    · have E : Hid (regEq W T W T' xs ys = false) := by show _ = false; simp [regEq, h2]
      have E2 : (T == T') = false := by simpa using h2
      clear h2
      go_enter Try.func19, Try.ntmps19
      go_wp2_with fail
      go_ret
      exact ⟨ret_b E.out.symm, (below1 w _).alloc (by simp) _⟩
  · have E : Hid (regEq W T W' T' xs ys = false) := by show _ = false; simp [regEq, h1]
    have E2 : (W == W') = false := by simpa using h1
    clear h1
    go_enter Try.func19, Try.ntmps19
    go_wp2_with fail
    go_ret
    exact ⟨ret_b E.out.symm, (below1 w _).alloc (by simp) _⟩

/-- What the laws write into a bool slice, from k on. -/
def marksB (k : Int) (n : Nat) : List Bool := (List.range n).map fun (i : Nat) => ((k + i) % 3 == 0)
theorem marksB_len (k : Int) (n : Nat) : (marksB k n).length = n := by simp [marksB]
theorem marksB_get (k : Int) (n i : Nat) (h : i < n) : (marksB k n)[i]? = some ((k + i) % 3 == 0) := by simp [marksB, h]

set_option maxHeartbeats 400000 in
theorem markBoolS_any {c0 : Nat} (A : Option Addr) (n c base top : Nat) (bs : List Bool) (k : Int) (w : World) (hk0 : 0 ≤ k) (hk : k ≤ 4194304) (hn : n ≤ 4194304) (h : Own w base top 4 A n c0 (bs.map .bool)) :
    Calls Try.prog 74 #[.slice A n c, .int .i64 k] w fun e w' => e = .returned (.int .i64 (k + n)) ∧ Own w' base top 4 A n c0 ((marksB k n).map .bool) ∧ w.grownBy w' (A.map (·.block)) ∧ w'.heap.size = w.heap.size := by
  have hlen := h.len
  rw [List.length_map] at hlen
  have HL := Lib.hid hlen
  clear hlen
  go_enter Try.func74, Try.ntmps74
  go_wp2
  go_loopw [1, 5] (fun kv iv wr => ∃ i : Nat, i ≤ n ∧ iv = .int .i64 i ∧ kv = .int .i64 (k + i) ∧ Own wr base top 4 A n c0 (((marksB k n).take i ++ bs.drop i).map .bool) ∧ w.grownBy wr (A.map (·.block)) ∧ wr.heap.size = w.heap.size) (fun _ iv _ => n - (intOf iv).toNat)
  case atStart => exact ⟨0, Nat.zero_le _, rfl, by simp, by simpa using h, grown_refl _ _, rfl⟩
  case round =>
    obtain ⟨i, hi, rfl, rfl, hown, hg, hsz⟩ := hrel
    have HZ := Lib.hid hsz
    clear hsz
    by_cases hlt : i < n
    · obtain ⟨g, hA, -, -⟩ := hown.form (by omega)
      subst hA
      have hfr := hown.frozen i
      obtain ⟨b', off', v', hA', -, hcs⟩ := hown.sl.at_ hlt
      obtain ⟨rfl, rfl⟩ : g = b' ∧ 0 = off' := by simpa using hA'
      have hcs' : wr.cell? ⟨g, i, none⟩ = some v' := by simpa using hcs
      clear hcs hA'
      go_wp2
      go_roundw
      case rel =>
        refine ⟨i + 1, by omega, by go_num, by go_num, ?_, grown_trans hg (Own.grownSet rfl i _), by simp [HZ.out]⟩
        have := hown.stored i hlt (.bool ((k + i) % 3 == 0))
        have hl : (((marksB k n).take i).map Value.bool).length = i := by simp [marksB_len]; omega
        rw [take_snoc (marksB_get k n i hlt)]
        rw [List.map_append, List.set_append_right _ _ (by omega), hl, Nat.sub_self] at this
        rw [show bs.drop i = bs[i]'(by have := HL.out; omega) :: bs.drop (i + 1) from List.drop_eq_getElem_cons _, List.map_cons, List.set_cons_zero] at this
        simpa using this
      case measure => simp [intOf]; omega
    · have e : i = n := by omega
      subst e
      go_wp2
      go_ret
      refine ⟨rfl, ?_, hg, HZ.out⟩
      rw [List.take_of_length_le (by rw [marksB_len]; exact Nat.le_refl _), List.drop_eq_nil_of_le (by rw [HL.out]; exact Nat.le_refl _), List.append_nil] at hown
      exact hown

set_option maxHeartbeats 400000 in
theorem heldBoolS_any (A : Option Addr) (n c : Nat) (k : Int) (w : World) (hk0 : 0 ≤ k) (hk : k ≤ 4194304) (hn : n ≤ 4194304) (h : Sl w A n ((marksB k n).map .bool)) :
    Calls Try.prog 78 #[.slice A n c, .int .i64 k] w fun e w' => e = .returned (.int .i64 (k + n)) ∧ w = w' := by
  go_enter Try.func78, Try.ntmps78
  go_wp2
  go_loop [1, 5] (fun kv iv => ∃ i : Nat, i ≤ n ∧ iv = .int .i64 i ∧ kv = .int .i64 (k + i)) (fun _ iv => n - (intOf iv).toNat)
  case atStart => exact ⟨0, Nat.zero_le _, rfl, by simp⟩
  case round =>
    obtain ⟨i, hi, rfl, rfl⟩ := hrel
    by_cases hlt : i < n
    · obtain ⟨b, off, x, rfl, hx, hc⟩ := h.atB hlt
      rw [marksB_get k n i hlt] at hx
      obtain rfl : ((k + i) % 3 == 0) = x := by simpa using hx
      clear hx
      go_wp2
      go_round
      case rel => exact ⟨i + 1, by omega, by go_num, by go_num⟩
      case measure => simp [intOf]; omega
    · have e : i = n := by omega
      subst e
      go_wp2
      go_ret
      exact ⟨rfl, rfl⟩

theorem markRegion_any {c0 : Nat} (A : Option Addr) (n c base top : Nat) (W T : Int) (bs : List Bool) (k : Int) (w : World) (hk0 : 0 ≤ k) (hk : k ≤ 4194304) (hn : n ≤ 4194304) (h : Own w base top 4 A n c0 (bs.map .bool)) :
    Calls Try.prog 31 #[.agg #[.int .i64 W, .int .i64 T, .slice A n c], .int .i64 k] w fun e w' => e = .returned (.int .i64 (k + n)) ∧ Own w' base top 4 A n c0 ((marksB k n).map .bool) ∧ w.grownBy w' (A.map (·.block)) := by
  go_enter Try.func31, Try.ntmps31
  go_wp2_with (go_at_call 74; refine (markBoolS_any A n c base top bs k _ hk0 hk hn (h.alloc _)).mono ?_; rintro e w1 ⟨rfl, hown, hg, hsz⟩)
  go_ret
  exact ⟨rfl, hown, grown_trans (World.grownBy_alloc _ _ _) hg⟩

theorem heldRegion_any (A : Option Addr) (n c : Nat) (W T : Int) (k : Int) (w : World) (hk0 : 0 ≤ k) (hk : k ≤ 4194304) (hn : n ≤ 4194304) (h : Sl w A n ((marksB k n).map .bool)) :
    Calls Try.prog 38 #[.agg #[.int .i64 W, .int .i64 T, .slice A n c], .int .i64 k] w fun e w' => e = .returned (.int .i64 (k + n)) ∧ Below w.heap.size w w' := by
  go_enter Try.func38, Try.ntmps38
  go_wp2_with (go_at_call 78; refine (heldBoolS_any A n c k _ hk0 hk hn (h.alloc _)).mono ?_; rintro e w1 ⟨rfl, rfl⟩)
  go_ret
  exact ⟨rfl, below1 _ _⟩

/-- What a drawn call that gives back a region leaves: the region in a box of its own. -/
def MeetR (w0 : World) (W T : Int) (cs : List Bool) (s : Value) (wx : World) : Prop :=
  ∃ (b : Nat) (Q : Option Addr) (q d : Nat), s = .pointer (some ⟨b, 0, none⟩) ∧ w0.heap.size ≤ b ∧ Box wx b (.int .i64 W) (.int .i64 T) (.slice Q cs.length q) ∧ Own wx w0.heap.size wx.heap.size 4 Q cs.length d (cs.map .bool) ∧ Below w0.heap.size w0 wx ∧ cs.length ≤ 4194304
theorem meetR_late {w0 wS : World} {W T : Int} {cs : List Bool} {Q : Option Addr} {q d base : Nat} {t : TypeId} (D : Below w0.heap.size w0 wS) (o : Own wS base wS.heap.size 4 Q cs.length d (cs.map .bool)) (hb : w0.heap.size ≤ base) (hm : cs.length ≤ 4194304) :
    MeetR w0 W T cs (.pointer (some ⟨wS.heap.size, 0, none⟩)) (wS.alloc (.cells #[.int .i64 W, .int .i64 T, .slice Q cs.length q] t)) :=
  ⟨wS.heap.size, Q, q, d, rfl, D.size, Box.new _ _ _ _ _, ((o.base hb).alloc _).top (by simp), belowA D, hm⟩
theorem meetR_early {w0 wS : World} {W T : Int} {cs : List Bool} {Q : Option Addr} {q d base zb : Nat} {v0 v1 v2 : Value} (D : Below w0.heap.size w0 wS) (o : Own wS base wS.heap.size 4 Q cs.length d (cs.map .bool)) (hb : w0.heap.size ≤ base) (hm : cs.length ≤ 4194304) (zx : Box wS zb v0 v1 v2) (zl : w0.heap.size ≤ zb) (zb' : zb < base) :
    MeetR w0 W T cs (.pointer (some ⟨zb, 0, none⟩)) (((wS.setCell ⟨zb, 0, none⟩ (.int .i64 W)).setCell ⟨zb, 1, none⟩ (.int .i64 T)).setCell ⟨zb, 2, none⟩ (.slice Q cs.length q)) := by
  obtain ⟨h0, h1, h2⟩ := zx
  refine ⟨zb, Q, q, d, rfl, zl, ⟨?_, ?_, ?_⟩, ((((o.setBelow zb' _).setBelow zb' _).setBelow zb' _).base hb).top (by simp), ((D.setCell zl _).setCell zl _).setCell zl _, hm⟩
  · rw [World.cell?_setCell_other _ _ _ _ (by simp), World.cell?_setCell_other _ _ _ _ (by simp)]; exact World.cell?_setCell_same _ _ _ h0
  · rw [World.cell?_setCell_other _ _ _ _ (by simp)]; exact World.cell?_setCell_same _ _ _ ((World.cell?_setCell_other _ _ _ _ (by simp)).trans h1)
  · exact World.cell?_setCell_same _ _ _ ((World.cell?_setCell_other _ _ _ _ (by simp)).trans ((World.cell?_setCell_other _ _ _ _ (by simp)).trans h2))

end Go.Proofs.Ytehfhmafmblmnaa
