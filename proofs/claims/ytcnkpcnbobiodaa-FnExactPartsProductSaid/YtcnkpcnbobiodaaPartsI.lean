/-
  parts, partsMany, PartsOf and PartsMany of the program: what they return.
-/
import Derived.Test.YtcnkpcnbobiodaaPartsP
import Derived.Test.YtcnkpcnbobiodaaP1
import Derived.Test.YtcnkpcnbobiodaaLawI
import Derived.RegionTactic
import Derived.BigRegion
import Derived.Deep.LoopGhost
import Derived.Deep.RegionHeld3
import Derived.Outline
namespace Go.Proofs.Ytcnkpcnbobiodaa
open Go.RowKit

/-- The labels of all cells, after so many rounds; at the end. -/
def partAt (W T : Nat) (bs : List Bool) (r : Nat) : List Int := Parts.iter (fun o => Parts.cellsI W T o (W * T)) (Parts.startL bs (W * T)) r
def partL (W T : Nat) (bs : List Bool) : List Int := partAt W T bs (W * T)

theorem waysI_len (W T k : Nat) (o : List Int) : ∀ q, (Parts.waysI W T k o q).length = o.length
  | 0 => rfl
  | q + 1 => by rw [Parts.waysI, Parts.lookI]; split <;> simp [waysI_len W T k o q]
theorem cellsI_len (W T : Nat) (o : List Int) : ∀ k, (Parts.cellsI W T o k).length = o.length
  | 0 => rfl
  | k + 1 => by rw [Parts.cellsI, waysI_len, cellsI_len W T o k]
theorem iterI_len (W T : Nat) (o : List Int) : ∀ r, (Parts.iter (fun o => Parts.cellsI W T o (W * T)) o r).length = o.length
  | 0 => rfl
  | r + 1 => by rw [Parts.iter, cellsI_len, iterI_len W T o r]
theorem startL_len (bs : List Bool) (n : Nat) : (Parts.startL bs n).length = n := by simp [Parts.startL]
theorem partAt_len (W T : Nat) (bs : List Bool) (r : Nat) : (partAt W T bs r).length = W * T := by rw [partAt, iterI_len, startL_len]
theorem lab_get {o : List Int} {k : Nat} {x : Int} (h : o[k]? = some x) : Parts.lab o k = x := by rw [Parts.lab, h]; rfl
theorem startL_get {bs : List Bool} {n k : Nat} {x : Bool} (hk : k < n) (h : bs[k]? = some x) : (Parts.startL bs n)[k]? = some (if x then (k : Int) else -1) := by
  rw [Parts.startL, List.getElem?_map, List.getElem?_range hk, Option.map_some, Parts.onB, h]; rfl

theorem min_if (z u : Int) : min z u = if u < z then u else z := by rw [Int.min_def]; split <;> split <;> omega

set_option maxRecDepth 100000 in
set_option maxHeartbeats 2000000 in
theorem parts_any (A : Option Addr) (n c W T : Nat) (bs : List Bool) (w : World) (V : Valid W T n bs) (h : Sl w A n (bs.map .bool)) :
    Calls Try.prog 94 #[.agg #[.int .i64 W, .int .i64 T, .slice A n c]] w fun e w' => OutL w w' e (partL W T bs) := by
  have n36 := V.n36
  have v0 := V.w0
  have v1 := V.w1
  have v2 := V.t0
  have v3 := V.t1
  have hsz := Lib.hid V.size
  have HL := Lib.hid V.len
  have hmk := run_make_row' (P := Try.prog) 33 3 (.int .i64 0) 8 Try.underlying33 Try.infoInt rfl .i64 .i64 n (by omega) (by omega)
  have om := Own.made (w := w.alloc (.cells #[.int .i64 W, .int .i64 T, .slice A n c] 27)) (base := w.heap.size + 1) (e := 3) (cs := madeCells #[.int .i64 0] n) (n := n) (by simp) (by unfold maxLen; omega) (by rw [← Array.length_toList, toList_madeCells_one, List.length_replicate])
  rw [toList_madeCells_one] at om
  simp only [World.size_alloc] at om
  have R0 := (P1.new w (.int .i64 W) (.int .i64 T) (.slice A n c) 27).alloc (.cells (madeCells #[.int .i64 0] n) 3)
  go_enter Try.func94, Try.ntmps94
  go_wp2_with fail
  clear hmk
  go_loopg [4, 5, 16] n (fun gk _ _ i wr => ∃ k : Nat, k ≤ n ∧ gk = n - k ∧ i = .int .i64 k ∧ Own wr (w.heap.size + 1) (w.heap.size + 2) 3 (some ⟨w.heap.size + 1, 0, none⟩) n n (((Parts.startL bs n).take k ++ List.replicate (n - k) 0).map (.int .i64)) ∧ P1 w (.int .i64 W) (.int .i64 T) (.slice A n c) wr ∧ w.heap.size + 2 ≤ wr.heap.size)
  case atStart => exact ⟨0, Nat.zero_le _, rfl, rfl, by simpa using om, R0, by simp⟩
  case round =>
    clear om R0
    obtain ⟨k, hk, rfl, rfl, own, R, hz2⟩ := hrel
    have k1 := R.X.1
    have k2 := R.X.2.1
    have k3 := R.X.2.2
    by_cases hlt : k < n
    · obtain ⟨b, off, x, rfl, hx, hc⟩ := (h.below R.B).atB hlt
      have HX := Lib.hid hx
      clear hx
      have f1 := own.frozen k
      obtain ⟨v', f2⟩ := own.cellAt hlt
      have hst : ∀ v : Int, ∀ wx : World, Own wx (w.heap.size + 1) (w.heap.size + 2) 3 (some ⟨w.heap.size + 1, 0, none⟩) n n ((((Parts.startL bs n).take k ++ List.replicate (n - k) 0).map (Value.int .i64)).set k (.int .i64 (if x then (k : Int) else -1))) → Own wx (w.heap.size + 1) (w.heap.size + 2) 3 (some ⟨w.heap.size + 1, 0, none⟩) n n (((Parts.startL bs n).take (k + 1) ++ List.replicate (n - (k + 1)) 0).map (Value.int .i64)) := by
        intro _ wx o
        rw [take_snoc (startL_get hlt HX.out)]
        have hl : ((Parts.startL bs n).take k).length = k := by rw [List.length_take, startL_len]; omega
        rw [List.map_append, List.set_append_right _ _ (by rw [List.length_map, hl]; exact Nat.le_refl _), List.length_map, hl, Nat.sub_self, show n - k = (n - (k + 1)) + 1 by omega, List.replicate_succ, List.map_cons, List.set_cons_zero] at o
        simpa using o
      have HST := Lib.hid hst
      clear hst
      cases x
      · go_wp2_with fail
        go_roundg (n - (k + 1))
        case measure => omega
        case rel => exact ⟨k + 1, by omega, rfl, by go_num, HST.out 0 _ (own.stored k hlt (.int .i64 (-1))), R.set (show w.heap.size + 1 ≤ w.heap.size + 1 from Nat.le_refl _) _, by rw [World.size_setCell]; exact hz2⟩
      · have own2 := own.stored k hlt (.int .i64 (-1))
        have f3 := own2.frozen k
        obtain ⟨v2, f4⟩ := own2.cellAt hlt
        go_wp2_with fail
        go_roundg (n - (k + 1))
        case measure => omega
        case rel => exact ⟨k + 1, by omega, rfl, by go_num, HST.out 0 _ (by have := own2.stored k hlt (.int .i64 k); rw [List.set_set] at this; exact this), (R.set (show w.heap.size + 1 ≤ w.heap.size + 1 from Nat.le_refl _) _).set (show w.heap.size + 1 ≤ w.heap.size + 1 from Nat.le_refl _) _, by rw [World.size_setCell, World.size_setCell]; exact hz2⟩
    · have e : k = n := by omega
      subst e
      rw [Nat.sub_self, List.replicate_zero, List.append_nil, List.take_of_length_le (by rw [startL_len]; exact Nat.le_refl _)] at own
      go_wp2_with fail
      have own0 : Own wr (w.heap.size + 1) (w.heap.size + 2) 3 (some ⟨w.heap.size + 1, 0, none⟩) k k ((partAt W T bs 0).map (.int .i64)) := by rw [partAt, Parts.iter, ← hsz.out]; exact own
      clear own
      go_loopg [6, 7, 8, 33, 38] k (fun gk _ _ _ i _ wr => ∃ r : Nat, r ≤ k ∧ gk = k - r ∧ i = .int .i64 r ∧ Own wr (w.heap.size + 1) (w.heap.size + 2) 3 (some ⟨w.heap.size + 1, 0, none⟩) k k ((partAt W T bs r).map (.int .i64)) ∧ P1 w (.int .i64 W) (.int .i64 T) (.slice A k c) wr ∧ w.heap.size + 2 ≤ wr.heap.size)
      case atStart => exact ⟨0, Nat.zero_le _, rfl, rfl, own0, R, hz2⟩
      case round =>
        clear own0 R hz2 k1 k2 k3
        obtain ⟨r, hr, rfl, rfl, own, R, hz2⟩ := hrel
        have k1 := R.X.1
        have k2 := R.X.2.1
        have k3 := R.X.2.2
        by_cases hrt : r < k
        · go_wp2_with fail
          go_loopg [6, 7, 8, 38] k (fun gk _ _ _ i wr => ∃ q : Nat, q ≤ k ∧ gk = k - q ∧ i = .int .i64 q ∧ Own wr (w.heap.size + 1) (w.heap.size + 2) 3 (some ⟨w.heap.size + 1, 0, none⟩) k k ((Parts.cellsI W T (partAt W T bs r) q).map (.int .i64)) ∧ P1 w (.int .i64 W) (.int .i64 T) (.slice A k c) wr ∧ w.heap.size + 2 ≤ wr.heap.size)
          case atStart => exact ⟨0, Nat.zero_le _, rfl, rfl, own, R, hz2⟩
          case round =>
            clear own R hz2 k1 k2 k3
            obtain ⟨q, hq, rfl, rfl, own, R, hz2⟩ := hrel
            have k1 := R.X.1
            have k2 := R.X.2.1
            have k3 := R.X.2.2
            by_cases hqt : q < k
            · have hqWT : q < W * T := by rw [← V.size]; exact hqt
              have HK := Lib.hid hqWT
              clear hqWT
              go_wp2_with fail
              go_loopg [7, 8] 4 (fun gk way _ wr => ∃ y : Nat, y ≤ 4 ∧ gk = 4 - y ∧ way = .int .i64 ((y : Int) + 1) ∧ Own wr (w.heap.size + 1) (w.heap.size + 2) 3 (some ⟨w.heap.size + 1, 0, none⟩) k k ((Parts.waysI W T q (Parts.cellsI W T (partAt W T bs r) q) y).map (.int .i64)) ∧ P1 w (.int .i64 W) (.int .i64 T) (.slice A k c) wr ∧ w.heap.size + 2 ≤ wr.heap.size)
              case atStart => exact ⟨0, Nat.zero_le _, rfl, rfl, own, R, hz2⟩
              case round =>
                clear own R hz2 k1 k2 k3
                obtain ⟨y, hy, rfl, rfl, own, R, hz2⟩ := hrel
                have k1 := R.X.1
                have k2 := R.X.2.1
                have k3 := R.X.2.2
                obtain ⟨o, ho⟩ : ∃ o, Parts.waysI W T q (Parts.cellsI W T (partAt W T bs r) q) y = o := ⟨_, rfl⟩
                rw [ho] at own
                have HO := Lib.hid ho
                clear ho
                by_cases hy4 : y < 4
                · have hstep : Parts.waysI W T q (Parts.cellsI W T (partAt W T bs r) q) (y + 1) = Parts.lookI W T q ((y : Int) + 1) o := by rw [Parts.waysI, HO.out]
                  have HS := Lib.hid hstep
                  clear hstep
                  go_wp2_with fail
                  refine (step_any A k c W T q ((y : Int) + 1) _ v0 v1 v2 v3 HK.out).mono ?_; rintro e w2 ⟨rfl, hb2⟩
                  have R2 := R.below hb2
                  have own2 := own.below hb2
                  have hz3 : w.heap.size + 2 ≤ w2.heap.size := Nat.le_trans hz2 hb2.size
                  clear hb2 R own k1 k2 k3 hz2
                  have k1 := R2.X.1
                  have k2 := R2.X.2.1
                  have k3 := R2.X.2.2
                  obtain ⟨t, ht⟩ : ∃ t, stepF W T q ((y : Int) + 1) = t := ⟨_, rfl⟩
                  obtain ⟨t1, t2⟩ := stepF_bound (way := (y : Int) + 1) v0 HK.out
                  rw [ht] at t1 t2
                  rw [ht]
                  have HT := Lib.hid ht
                  clear ht
                  obtain ⟨b1, off1, z, hA, hz, hc1⟩ := own2.sl.atI hqt
                  injection hA with hA
                  injection hA with hA1 hA2 _
                  subst hA1 hA2
                  rw [Nat.zero_add] at hc1
                  have HZ := Lib.hid (lab_get hz)
                  have p2 : (0 : Int) ≤ (q : Int) := by omega
                  have p3 : (q : Int) < (k : Int) := by omega
                  have f1 := own2.frozen q
                  have look : ∀ o' : List Int, (if 0 ≤ t ∧ 0 ≤ z ∧ 0 ≤ Parts.lab o t.toNat then o.set q (min z (Parts.lab o t.toNat)) else o) = o' → Parts.waysI W T q (Parts.cellsI W T (partAt W T bs r) q) (y + 1) = o' := by
                    intro o' h; rw [HS.out, Parts.lookI, HT.out, HZ.out]; exact h
                  have LOOK := Lib.hid look
                  clear hz look
                  by_cases ht0 : 0 ≤ t
                  · obtain ⟨j, rfl⟩ := Int.eq_ofNat_of_zero_le ht0
                    have hj : j < k := by have := hsz.out; omega
                    obtain ⟨b2, off2, u, hA, hu, hc2⟩ := own2.sl.atI hj
                    injection hA with hA
                    injection hA with hA1 hA2 _
                    subst hA1 hA2
                    rw [Nat.zero_add] at hc2
                    have HU := Lib.hid (lab_get hu)
                    have j0 : (0 : Int) ≤ (j : Int) := by omega
                    have j1 : (j : Int) < (k : Int) := by omega
                    clear t1 t2 ht0 hu
                    by_cases hz0 : 0 ≤ z
                    · by_cases hu0 : 0 ≤ u
                      · by_cases huz : u < z
                        · have NEW := LOOK.out (o.set q u) (by rw [if_pos ⟨by omega, hz0, by rw [Int.toNat_natCast, HU.out]; exact hu0⟩, Int.toNat_natCast, HU.out, min_if, if_pos huz])
                          have HN := Lib.hid NEW
                          clear NEW
                          go_wp2_with fail
                          go_region
                          all_goals
                            go_wp2_with fail
                            go_roundg (4 - (y + 1))
                            case measure => omega
                            case rel => exact ⟨y + 1, by omega, rfl, by go_num, by rw [HN.out, List.map_set]; exact (own2.stored q hqt _).drew, (R2.set (show w.heap.size + 1 ≤ w.heap.size + 1 from Nat.le_refl _) _).drew, by show _ ≤ (w2.setCell _ _).heap.size; rw [World.size_setCell]; exact hz3⟩
                        · have NEW := LOOK.out (o.set q z) (by rw [if_pos ⟨by omega, hz0, by rw [Int.toNat_natCast, HU.out]; exact hu0⟩, Int.toNat_natCast, HU.out, min_if, if_neg huz])
                          have HN := Lib.hid NEW
                          clear NEW
                          go_wp2_with fail
                          go_region
                          all_goals
                            go_wp2_with fail
                            go_roundg (4 - (y + 1))
                            case measure => omega
                            case rel => exact ⟨y + 1, by omega, rfl, by go_num, by rw [HN.out, List.map_set]; exact (own2.stored q hqt _).drew, (R2.set (show w.heap.size + 1 ≤ w.heap.size + 1 from Nat.le_refl _) _).drew, by show _ ≤ (w2.setCell _ _).heap.size; rw [World.size_setCell]; exact hz3⟩
                      · have NEW := LOOK.out o (by rw [if_neg (by rw [Int.toNat_natCast, HU.out]; omega)])
                        have HN := Lib.hid NEW
                        clear NEW
                        go_wp2_with fail
                        go_roundg (4 - (y + 1))
                        case measure => omega
                        case rel => exact ⟨y + 1, by omega, rfl, by go_num, by rw [HN.out]; exact own2, R2, hz3⟩
                    · have NEW := LOOK.out o (by rw [if_neg (by omega)])
                      have HN := Lib.hid NEW
                      clear NEW
                      go_wp2_with fail
                      go_roundg (4 - (y + 1))
                      case measure => omega
                      case rel => exact ⟨y + 1, by omega, rfl, by go_num, by rw [HN.out]; exact own2, R2, hz3⟩
                  · have NEW := LOOK.out o (by rw [if_neg (by omega)])
                    have HN := Lib.hid NEW
                    clear NEW t2
                    go_wp2_with fail
                    go_roundg (4 - (y + 1))
                    case measure => omega
                    case rel => exact ⟨y + 1, by omega, rfl, by go_num, by rw [HN.out]; exact own2, R2, hz3⟩
                · have e : y = 4 := by omega
                  subst e
                  go_wp2_with fail
                  go_roundg (k - (q + 1))
                  case measure => omega
                  case rel => exact ⟨q + 1, by omega, rfl, by go_num, by rw [Parts.cellsI, HO.out]; exact own, R, hz2⟩
            · have e : q = k := by omega
              subst e
              go_wp2_with fail
              go_roundg (q - (r + 1))
              case measure => omega
              case rel => exact ⟨r + 1, by omega, rfl, by go_num, by rw [partAt, Parts.iter]; rw [partAt, hsz.out] at own; rw [hsz.out]; exact own, R, hz2⟩
        · have e : r = k := by omega
          subst e
          go_wp2_with fail
          go_ret
          refine OutL.mk (n := r) ?_ (by omega) ?_ R.B
          · rw [partL, partAt_len]; exact hsz.out.symm
          · rw [partL, ← hsz.out]
            exact (own.base (show w.heap.size ≤ w.heap.size + 1 by omega)).top hz2

def partsF (W T : Int) (n : Nat) (bs : List Bool) : List Int := if validB W T n bs then partL W.toNat T.toNat bs else []


/-- How many cells of the first k bear their own label. -/
def ownN (o : List Int) : Nat → Nat
  | 0 => 0
  | k + 1 => ownN o k + (if Parts.lab o k == (k : Int) then 1 else 0)
theorem ownN_le (o : List Int) : ∀ k, ownN o k ≤ k
  | 0 => Nat.le_refl _
  | k + 1 => by have := ownN_le o k; rw [ownN]; split <;> omega
def partsManyF (W T : Int) (n : Nat) (bs : List Bool) : Int := if validB W T n bs then ownN (partL W.toNat T.toNat bs) n else -1



end Go.Proofs.Ytcnkpcnbobiodaa
