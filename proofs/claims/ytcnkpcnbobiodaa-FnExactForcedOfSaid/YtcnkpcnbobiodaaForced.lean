/-
  ForcedOf, both sides: what it returns.
-/
import Derived.Test.YtcnkpcnbobiodaaWith
namespace Go.Proofs.Ytcnkpcnbobiodaa
open Go.RowKit

def forW (f : Nat → Bool) (k : Nat) : Nat → List Int
  | 0 => []
  | q + 1 => forW f k q ++ (if f (q + 1) then [(k : Int)] else [])
def forL (g : Nat → Nat → Bool) : Nat → List Int
  | 0 => []
  | k + 1 => forL g k ++ forW (g k) k 4
theorem forW_len (f : Nat → Bool) (k : Nat) : ∀ q, (forW f k q).length ≤ q
  | 0 => Nat.le_refl _
  | q + 1 => by have := forW_len f k q; rw [forW, List.length_append]; split <;> simp <;> omega
theorem forL_len (g : Nat → Nat → Bool) : ∀ k, (forL g k).length ≤ 4 * k
  | 0 => Nat.le_refl _
  | k + 1 => by have := forL_len g k; have := forW_len (g k) k 4; rw [forL, List.length_append]; omega
theorem forW_no {f : Nat → Bool} {k : Nat} (h : ∀ q, f q = false) : ∀ q, forW f k q = []
  | 0 => rfl
  | q + 1 => by rw [forW, forW_no h q, h]; rfl
theorem forL_no {g : Nat → Nat → Bool} (h : ∀ k q, g k q = false) : ∀ k, forL g k = []
  | 0 => rfl
  | k + 1 => by rw [forL, forL_no h k, forW_no (h k)]; rfl
/-- Does the domino of a cell go that way in all tilings? -/
def forG (W T n : Nat) (bs : List Bool) (k q : Nat) : Bool := onR bs k && (decide (0 < Til.cntA W T n 0 bs) && (withF W T n bs k q == (Til.cntA W T n 0 bs : Nat)))
def forcedF (W T : Int) (n : Nat) (bs : List Bool) : List Int := if validB W T n bs then forL (forG W.toNat T.toNat n bs) n else []

theorem tot_le (W T n : Nat) (bs : List Bool) (h : n ≤ 36) : Til.cntA W T n 0 bs ≤ 68719476736 := Nat.le_trans (Til.cntA_le _ _ _ _ _) (pow36 h)

set_option maxRecDepth 100000 in
set_option maxHeartbeats 4000000 in
theorem forced_impl (A : Option Addr) (n c : Nat) (W T : Int) (bs : List Bool) (w : World) (hn : n ≤ 1048576) (h : Sl w A n (bs.map .bool)) :
    Calls Try.prog 24 #[.agg #[.int .i64 W, .int .i64 T, .slice A n c]] w fun e w' => OutL w w' e (forcedF W T n bs) := by
  have hl := h.1
  rw [List.length_map] at hl
  by_cases hv : validB W T n bs = true
  · obtain ⟨W, T, rfl, rfl, V⟩ := valid_of hv hl
    have n36 := V.n36
    have HV := Lib.hid hv
    have E : Hid (forcedF W T n bs = forL (forG W T n bs) n) := by show _ = _; rw [forcedF, if_pos hv]; rfl
    rw [E.out]
    obtain ⟨tot, htot⟩ : ∃ tot, Til.cntA W T n 0 bs = tot := ⟨_, rfl⟩
    have htl : tot ≤ 68719476736 := by rw [← htot]; exact tot_le _ _ _ _ n36
    have HTOT := Lib.hid htot
    clear hl hv htot
    go_enter Try.func24, Try.ntmps24
    go_wp2_with fail
    refine (valid_impl A n c W T bs _ (by omega) (h.alloc _)).mono ?_; rintro e w1 ⟨rfl, hb1⟩
    rw [HV.out]
    have R1 := P1.of hb1
    clear hb1
    have k1 := R1.X.1
    have k2 := R1.X.2.1
    have k3 := R1.X.2.2
    go_wp2_with fail
    refine (total_any A n c W T bs _ V (h.below R1.B)).mono ?_; rintro e w2 ⟨rfl, hb2⟩
    have R2 := R1.below hb2
    rw [HTOT.out]
    clear hb2 R1 k1 k2 k3
    have k1 := R2.X.1
    have k2 := R2.X.2.1
    have k3 := R2.X.2.2
    have z2 := R2.z
    go_wp2_with fail
    go_loopg [4, 5, 6, 7, 16] n (fun gk s4 _ _ _ s16 wx => ∃ (k : Nat) (D : Option Addr) (q : Nat), k ≤ n ∧ gk = n - k ∧ s16 = .int .i64 k ∧ s4 = .slice D (forL (forG W T n bs) k).length q ∧ Own wx w2.heap.size wx.heap.size 3 D (forL (forG W T n bs) k).length q ((forL (forG W T n bs) k).map (.int .i64)) ∧ P1 w (.int .i64 W) (.int .i64 T) (.slice A n c) wx ∧ w2.heap.size ≤ wx.heap.size)
    case atStart => exact ⟨0, none, 0, Nat.zero_le _, rfl, rfl, rfl, own_nil _ _ _ _, R2, Nat.le_refl _⟩
    case round =>
      clear R2 k1 k2 k3
      obtain ⟨k, D, q, hk, rfl, rfl, rfl, own, R, hz⟩ := hrel
      obtain ⟨wo, hwo⟩ : ∃ wo, wo = wr := ⟨_, rfl⟩
      subst hwo
      have k1 := R.X.1
      have k2 := R.X.2.1
      have k3 := R.X.2.2
      have hfl := forL_len (forG W T n bs) k
      obtain ⟨L, hL⟩ : ∃ L, forL (forG W T n bs) k = L := ⟨_, rfl⟩
      rw [hL] at own hfl
      rw [hL]
      have HL := Lib.hid hL
      clear hL
      by_cases hlt : k < n
      · obtain ⟨b, off, x, rfl, hx, hc⟩ := (h.below R.B).atB hlt
        have HX := Lib.hid (onR_of hx)
        clear hx
        by_cases hcase : x = true ∧ 0 < tot
        · obtain ⟨rfl, ht0⟩ := hcase
          have ht1 : (0 : Int) < (tot : Int) := by omega
          have HT0 := Lib.hid ht0
          clear ht0
          go_wp2_with fail
          go_loopg [4, 7] 4 (fun gk s4 s7 wx => ∃ (y : Nat) (D : Option Addr) (q : Nat), y ≤ 4 ∧ gk = 4 - y ∧ s7 = .int .i64 ((y + 1 : Nat) : Int) ∧ s4 = .slice D (L ++ forW (forG W T n bs k) k y).length q ∧ Own wx w2.heap.size wx.heap.size 3 D (L ++ forW (forG W T n bs k) k y).length q ((L ++ forW (forG W T n bs k) k y).map (.int .i64)) ∧ P1 w (.int .i64 W) (.int .i64 T) (.slice (some ⟨b, off, none⟩) n c) wx ∧ w2.heap.size ≤ wx.heap.size)
          case atStart => exact ⟨0, D, q, Nat.zero_le _, rfl, rfl, by rw [forW, List.append_nil], by rw [forW, List.append_nil]; exact own, R, hz⟩
          case round =>
            clear own R k1 k2 k3 hc hz
            obtain ⟨y, D, q, hy, rfl, rfl, rfl, own, R, hz⟩ := hrel
            have k1 := R.X.1
            have k2 := R.X.2.1
            have k3 := R.X.2.2
            have hwl := forW_len (forG W T n bs k) k y
            obtain ⟨M, hM⟩ : ∃ M, L ++ forW (forG W T n bs k) k y = M := ⟨_, rfl⟩
            have hml : M.length ≤ 4 * k + y := by rw [← hM, List.length_append]; omega
            rw [hM] at own
            rw [hM]
            have HM := Lib.hid hM
            clear hM hwl
            by_cases hy4 : y < 4
            · have hyi : (((y + 1 : Nat) : Int)) = (y : Int) + 1 := by omega
              rw [hyi]
              go_wp2_with fail
              refine (with_impl (some ⟨b, off, none⟩) n c W T bs k ((y : Int) + 1) _ hn (h.below R.B) ⟨by omega, by omega⟩ ⟨by omega, by omega⟩).mono ?_; rintro e w4 ⟨rfl, hb4⟩
              have own4 := (own.below hb4).top hb4.size
              have R4 := R.below hb4
              have hz4 := Nat.le_trans hz hb4.size
              clear own R k1 k2 k3 hb4 hz
              obtain ⟨v, hv⟩ : ∃ v, withF W T n bs k ((y : Int) + 1) = v := ⟨_, rfl⟩
              rw [hv]
              have HG := Lib.hid (show forG W T n bs k (y + 1) = (v == (tot : Int)) by rw [forG, HX.out, HTOT.out, decide_eq_true HT0.out, show (((y + 1 : Nat) : Nat) : Int) = (y : Int) + 1 by omega, hv]; rfl)
              have HS := Lib.hid (show L ++ forW (forG W T n bs k) k (y + 1) = M ++ (if forG W T n bs k (y + 1) then [(k : Int)] else []) by rw [← HM.out, forW, List.append_assoc])
              clear hv hyi
              cases hvt : (v == (tot : Int))
              · have HS2 := Lib.hid (show L ++ forW (forG W T n bs k) k (y + 1) = M by rw [HS.out, HG.out, hvt]; simp)
                go_wp2_with fail
                go_roundg (4 - (y + 1))
                case measure => omega
                case rel => exact ⟨y + 1, D, q, by omega, rfl, by go_num, by rw [HS2.out], by rw [HS2.out]; exact own4, R4, hz4⟩
              · have HS2 := Lib.hid (show L ++ forW (forG W T n bs k) k (y + 1) = M ++ [(k : Int)] by rw [HS.out, HG.out, hvt]; rfl)
                go_wp2_with (at_builtin; refine wpList_append1 rfl _ _ 33 rfl 3 (.int .i64 0) 8 Try.underlying33 Try.infoInt rfl (own4.alloc _) rfl w4.heap.size _ rfl (cell0_new _ _ _) rfl (by omega) (by omega) (by simp; omega) ?_; intro D6 q6 w6 own6 hg6 hn6)
                have R6 := (R4.alloc _).grown hg6 (own4.alloc _) z2
                have hz6 := hg6.size
                simp only [World.size_alloc] at hz6
                go_roundg (4 - (y + 1))
                case measure => omega
                case rel => exact ⟨y + 1, D6, q6, by omega, rfl, by go_num, by rw [HS2.out, List.length_append]; rfl, by rw [HS2.out, List.length_append, List.map_append]; exact own6, R6, by omega⟩
            · obtain rfl : y = 4 := by omega
              have hfin : M = forL (forG W T n bs) (k + 1) := by rw [← HM.out, forL, HL.out]
              go_wp2_with fail
              go_roundg (n - (k + 1))
              case measure => omega
              case rel => exact ⟨k + 1, D, q, by omega, rfl, by go_num, by rw [← hfin], by rw [← hfin]; exact own, R, hz⟩
        · have hno : ∀ y, forG W T n bs k y = false := by
            intro y
            rw [forG, HX.out, HTOT.out]
            cases x
            · rfl
            · have : ¬ 0 < tot := fun h => hcase ⟨rfl, h⟩
              rw [decide_eq_false this]; rfl
          have hfin : forL (forG W T n bs) (k + 1) = L := by rw [forL, forW_no hno, HL.out, List.append_nil]
          have HFIN := Lib.hid hfin
          have hcc : x = false ∨ (x = true ∧ tot = 0) := by
            cases x
            · exact .inl rfl
            · exact .inr ⟨rfl, by have : ¬ 0 < tot := fun h => hcase ⟨rfl, h⟩; omega⟩
          clear hfin hno hcase
          rcases hcc with rfl | ⟨rfl, rfl⟩
          all_goals
            go_wp2_with fail
            go_loopg [4, 7] 0 (fun gk s4 s7 wx => wo = wx ∧ gk = 0 ∧ s7 = .int .i64 1 ∧ s4 = .slice D L.length q)
            case atStart => exact ⟨rfl, rfl, rfl, rfl⟩
            case round =>
              obtain ⟨rfl, rfl, rfl, rfl⟩ := hrel
              go_wp2_with fail
              go_roundg (n - (k + 1))
              case measure => omega
              case rel => exact ⟨k + 1, D, q, by omega, rfl, by go_num, by rw [HFIN.out], by rw [HFIN.out]; exact own, R, hz⟩
      · obtain rfl : k = n := by omega
        go_wp2_with fail
        refine (sclip_int D L.length q _ (by omega) own.cap).mono ?_; rintro e w9 ⟨rfl, rfl⟩
        go_wp2_with fail
        go_ret
        exact OutL.mkL (c0 := q) (by rw [HL.out]) (by omega) (by rw [HL.out]; exact own.base (by omega)) R.B
  · have E : Hid (forcedF W T n bs = []) := by show _ = _; rw [forcedF, if_neg hv]
    have hv' : validB W T n bs = false := by simpa using hv
    have HV := Lib.hid hv'
    rw [E.out]
    clear hv hv' hl
    go_enter Try.func24, Try.ntmps24
    go_wp2_with fail
    refine (valid_impl A n c W T bs _ (by omega) (h.alloc _)).mono ?_; rintro e w1 ⟨rfl, hb1⟩
    rw [HV.out]
    go_wp2_with fail
    go_ret
    exact outL_nil w (belowW (below1 w _) hb1)

end Go.Proofs.Ytcnkpcnbobiodaa
