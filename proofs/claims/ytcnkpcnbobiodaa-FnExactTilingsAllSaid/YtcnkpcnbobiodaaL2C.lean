/-
  l2Complete of the reference: what it returns.
-/
import Derived.Test.YtcnkpcnbobiodaaCompD
import Derived.Test.YtcnkpcnbobiodaaFirstA
import Derived.Test.YtcnkpcnbobiodaaTot
import Derived.Deep.RegionHeld3
import Derived.Deep.LoopGhost
import Derived.Test.YtcnkpcnbobiodaaLayS
import Derived.Deep.RegionLaw
namespace Go.Proofs.Ytcnkpcnbobiodaa
open Go.RowKit
open Til (on open' tilings Done oneT)

/-- What l2Complete gives back. -/
def CompS (W T n : Nat) (bs : List Bool) (zs : List Int) (base : Nat) (w : World) (e : Ending) (w' : World) : Prop :=
  ∃ C q q0, e = .returned (.tuple #[.slice C (compL W T n bs zs).length q, .bool (!(tilings W T n bs zs).isEmpty)]) ∧ Own w' base w'.heap.size 3 C (compL W T n bs zs).length q0 ((compL W T n bs zs).map (.int .i64)) ∧ Below w.heap.size w w'

set_option maxRecDepth 100000 in
set_option maxHeartbeats 4000000 in
theorem l2Complete_any (A : Option Addr) (n c W T : Nat) (bs : List Bool) (V : Valid W T n bs) (base : Nat) : ∀ (rem : Nat) (B : Option Addr) (d d0 : Nat) (zs : List Int) (w : World), rem ≤ n → Done bs zs (n - rem) → zs.length = n → laysAll W T bs zs n = true → Sl w A n (bs.map .bool) → Own w base w.heap.size 3 B n d0 (zs.map (.int .i64)) → base ≤ w.heap.size →
    Calls Try.prog 65 #[.agg #[.int .i64 W, .int .i64 T, .slice A n c], .slice B n d] w (CompS W T n bs zs base w) := by
  have n36 := V.n36
  have HVS := Lib.hid V.size
  have HVL := Lib.hid V.len
  intro rem
  induction rem using Nat.strongRecOn with
  | ind rem ih =>
  intro B d d0 zs w hrem hdone hlz hla hS hO hbase
  have HIH := Lib.hid ih
  have HLZ := Lib.hid hlz
  have HLA := Lib.hid hla
  have HDONE := Lib.hid hdone
  clear ih hlz hdone hla
  go_enter Try.func65, Try.ntmps65
  have R0 := P1.new w (.int .i64 W) (.int .i64 T) (.slice A n c) 27
  go_wp2_with fail
  refine (first_any A n c W T bs B d zs _ V (hS.below R0.B) (hO.sl.below R0.B)).mono ?_; rintro e w1 ⟨f, rfl, hf, hb1⟩
  have R1 := R0.below hb1
  have O1 := ((hO.below R0.B).below hb1).top (top' := w1.heap.size) (by have := R1.B.size; omega)
  clear R0 hO hb1
  have k1 := R1.X.1
  have k2 := R1.X.2.1
  have k3 := R1.X.2.2
  rcases hf with ⟨rfl, hdn⟩ | ⟨j, rfl, hlt, hdn, hop⟩
  · have HT := Lib.hid (Til.tilings_none (W := W) (T := T) hdn)
    clear hdn
    go_wp2_with fail
    refine bodyPost_ret (v := .tuple #[.slice B n d, .bool true]) (by simp [results, Try.results65, go_sem]) rfl ?_
    exact ⟨B, d, d0, by rw [compL, HT.out]; show _ = Ending.returned (.tuple #[.slice B zs.length d, .bool true]); rw [HLZ.out], by rw [compL, HT.out]; show Own w1 base w1.heap.size 3 B zs.length d0 (zs.map (.int .i64)); rw [HLZ.out]; exact O1, R1.B⟩
  · have HTF := Lib.hid (Til.tilings_first (W := W) (T := T) HVL.out HLZ.out hlt hdn hop)
    have hjr : n - rem ≤ j := by
      rcases Nat.lt_or_ge j (n - rem) with h | h
      · have := HDONE.out j h; rw [hop] at this; cases this
      · exact h
    have HDN := Lib.hid hdn
    have hj0 : decide ((j : Int) < 0) = false := decide_eq_false (by omega)
    have HV := Lib.hid (laid_true V HLA.out)
    have HZI := Lib.hid (lays_i64 HLZ.out HLA.out)
    clear hdn hop
    go_wp2_with fail
    go_loopg [7, 8, 9, 10, 11] 2 (fun gk s7 _ _ _ _ wx => ∃ y : Nat, y ≤ 2 ∧ gk = 2 - y ∧ s7 = .int .i64 ((y + 1 : Nat) : Int) ∧ (∀ q : Nat, q < y → oneT W T n bs zs j ((q + 1 : Nat) : Int) = []) ∧ P1 w (.int .i64 W) (.int .i64 T) (.slice A n c) wx ∧ Own wx base wx.heap.size 3 B n d0 (zs.map (.int .i64)))
    case atStart => exact ⟨0, by omega, rfl, rfl, fun q hq => by omega, R1, O1⟩
    case round =>
      clear R1 O1 k1 k2 k3
      obtain ⟨y, hy2, rfl, rfl, hno, R, O⟩ := hrel
      have HNO := Lib.hid hno
      clear hno
      have k1 := R.X.1
      have k2 := R.X.2.1
      have k3 := R.X.2.2
      by_cases hy3 : y < 2
      · have hyi : ((y + 1 : Nat) : Int) = (y : Int) + 1 := by omega
        have HWI := Lib.hid hyi
        obtain ⟨f, hf⟩ : ∃ f, freeK W T bs zs j ((y : Int) + 1) = f := ⟨_, rfl⟩
        have HF := Lib.hid hf
        have hFB : freeB W T n bs zs (j : Int) ((y : Int) + 1) = f := by rw [freeB, inB_iff.2 (by omega), Bool.true_and]; exact hf
        have hok : layOk W T n bs n zs j ((y : Int) + 1) = f := by rw [layOk, Int.toNat_natCast, Int.toNat_natCast, HV.out, hFB]; rfl
        have hZ : layZ W T n bs n zs j ((y : Int) + 1) = if f then layL W T zs j ((y : Int) + 1) else zs := by rw [layZ, HV.out, if_pos rfl, Int.toNat_natCast, Int.toNat_natCast, hFB, Int.toNat_natCast]
        have HOK := Lib.hid hok
        have HZ := Lib.hid hZ
        rw [hyi]
        clear hyi hFB hok hZ
        go_wp2_with fail
        have HLAY := lay_spec A n c W T bs B n d zs (j : Int) ((y : Int) + 1) wr (by omega) (hS.below R.B) (by omega) O.sl HZI.out ⟨by omega, by omega⟩ ⟨by omega, by omega⟩
        rw [HOK.out] at HLAY
        refine HLAY.mono ?_; rintro e w4 ⟨D, q, q0, rfl, own, hb4, hle⟩
        have R4 := R.below hb4
        have O4 := (O.below hb4).top hb4.size
        have hzr := R.B.size
        clear R O k1 k2 k3
        have k1 := R4.X.1
        have k2 := R4.X.2.1
        have k3 := R4.X.2.2
        have z4 := hb4.size
        cases f
        · have HONE := Lib.hid (show oneT W T n bs zs j ((y + 1 : Nat) : Int) = [] by rw [Til.oneT, HWI.out, HF.out]; rfl)
          clear hf own hb4
          go_wp2_with fail
          go_roundg (2 - (y + 1))
          case measure => omega
          case rel => exact ⟨y + 1, by omega, rfl, by go_num, fun q hq => by
            by_cases e : q = y
            · subst e; exact HONE.out
            · exact HNO.out q (by omega), R4, O4⟩
        · obtain ⟨jj, hs, hjj, w0, w4'⟩ := free_step V hlt hf
          have HONE := Lib.hid (show oneT W T n bs zs j ((y + 1 : Nat) : Int) = tilings W T n bs (layL W T zs j ((y : Int) + 1)) by rw [Til.oneT, HWI.out, HF.out]; rfl)
          have HDL := Lib.hid (HDN.out.lay (W := W) (T := T) (way := ((y : Int) + 1)) (by rw [HLZ.out, HVL.out]) (by rw [HLZ.out]; exact hlt) hs (by rw [HLZ.out]; exact hjj) w0)
          have HLL := Lib.hid (Til.lays_lay V.w0 HVS.out HVL.out HLZ.out HLA.out hf)
          rw [HZ.out, if_pos rfl, Til.layL_len, HLZ.out] at own
          rw [HZ.out, if_pos rfl, Til.layL_len, HLZ.out]
          have HC := Lib.hid (HIH.out (n - (j + 1)) (by omega) D q q0 (layL W T zs j ((y : Int) + 1)) w4 (by omega) (by rw [show n - (n - (j + 1)) = j + 1 by omega]; exact HDL.out) (by rw [Til.layL_len, HLZ.out]) HLL.out (hS.below R4.B) (own.base (by omega)) (by have := R4.B.size; omega))
          clear hf hs own
          go_wp2_with fail
          refine HC.out.mono ?_; rintro e w5 ⟨C, q5, q50, rfl, own5, hb5⟩
          have R5 := R4.below hb5
          have O5 := (O4.below hb5).top hb5.size
          clear R4 O4 k1 k2 k3 hb4 hb5 HC
          have k1 := R5.X.1
          have k2 := R5.X.2.1
          have k3 := R5.X.2.2
          cases ht : tilings W T n bs (layL W T zs j ((y : Int) + 1)) with
          | nil =>
            have HO2 := Lib.hid (HONE.out.trans ht)
            rw [List.isEmpty_nil]
            clear ht own5
            go_wp2_with fail
            go_roundg (2 - (y + 1))
            case measure => omega
            case rel => exact ⟨y + 1, by omega, rfl, by go_num, fun q hq => by
              by_cases e : q = y
              · subst e; exact HO2.out
              · exact HNO.out q (by omega), R5, O5⟩
          | cons t rest =>
            have HO2 := Lib.hid (HONE.out.trans ht)
            have hcl : compL W T n bs (layL W T zs j ((y : Int) + 1)) = t := by rw [compL, ht]; rfl
            have hfin : ∃ rest', tilings W T n bs zs = t :: rest' := by
              rcases (show y = 0 ∨ y = 1 by omega) with rfl | rfl
              · exact ⟨rest ++ oneT W T n bs zs j 2, by rw [HTF.out, show oneT W T n bs zs j 1 = t :: rest from HO2.out]; rfl⟩
              · exact ⟨rest, by rw [HTF.out, show oneT W T n bs zs j 1 = [] from HNO.out 0 (by omega), show oneT W T n bs zs j 2 = t :: rest from HO2.out]; rfl⟩
            obtain ⟨rest', hfin⟩ := hfin
            have HFIN := Lib.hid hfin
            rw [hcl] at own5
            rw [hcl, List.isEmpty_cons]
            clear ht hcl hfin
            go_wp2_with fail
            refine bodyPost_ret (v := .tuple #[.slice C t.length q5, .bool true]) (by simp [results, Try.results65, go_sem]) rfl ?_
            exact ⟨C, q5, q50, by rw [compL, HFIN.out]; rfl, by rw [compL, HFIN.out]; exact own5, R5.B⟩
      · obtain rfl : y = 2 := by omega
        have HEMP := Lib.hid (show tilings W T n bs zs = [] by rw [HTF.out, show oneT W T n bs zs j 1 = [] from HNO.out 0 (by omega), show oneT W T n bs zs j 2 = [] from HNO.out 1 (by omega)]; rfl)
        have e0 := own_empty wr
        go_wp2_with fail
        refine bodyPost_ret (v := .tuple #[.slice (some ⟨wr.heap.size, 0, none⟩) 0 0, .bool false]) (by simp [results, Try.results65, go_sem]) rfl ?_
        exact ⟨some ⟨wr.heap.size, 0, none⟩, 0, 0, by rw [compL, HEMP.out]; rfl, by rw [compL, HEMP.out]; exact (e0.base (by have := R.B.size; omega)).top (by simp), belowA R.B⟩

end Go.Proofs.Ytcnkpcnbobiodaa
