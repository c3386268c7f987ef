/-
  RankOf and TilingOf of the reference: what they return.
-/
import Derived.Test.YtcnkpcnbobiodaaRankI
import Derived.Test.YtcnkpcnbobiodaaW3
import Derived.Test.YtcnkpcnbobiodaaFirstA
import Derived.Test.YtcnkpcnbobiodaaBare
import Derived.Test.YtcnkpcnbobiodaaLayS
namespace Go.Proofs.Ytcnkpcnbobiodaa
open Go.RowKit
open Til (tilings pos Done open' oneT)

theorem layK_spec (A : Option Addr) (n c W T : Nat) (bs : List Bool) (B : Option Addr) (d : Nat) (zs : List Int) (j : Nat) (way : Int) (w : World) (V : Valid W T n bs) (h : Sl w A n (bs.map .bool)) (h' : Sl w B n (zs.map (.int .i64))) (hl : zs.length = n) (hla : laysAll W T bs zs n = true) (hj : j < n) (hw : I64 way) :
    Calls Try.prog 76 #[.agg #[.int .i64 W, .int .i64 T, .slice A n c], .slice B n d, .int .i64 j, .int .i64 way] w fun e w' => ∃ D q q0, e = .returned (.tuple #[.slice D n q, .bool (freeK W T bs zs j way)]) ∧ Own w' w.heap.size w'.heap.size 3 D n q0 ((if freeK W T bs zs j way then layL W T zs j way else zs).map (.int .i64)) ∧ Below w.heap.size w w' := by
  have n36 := V.n36
  have hV := laid_true V hla
  have hFB : freeB W T n bs zs (j : Int) way = freeK W T bs zs j way := by rw [freeB, inB_iff.2 (by omega), Bool.true_and]; rfl
  have hok : layOk W T n bs n zs j way = freeK W T bs zs j way := by rw [layOk, Int.toNat_natCast, Int.toNat_natCast, hV, hFB]; rfl
  have hZ : layZ W T n bs n zs j way = if freeK W T bs zs j way then layL W T zs j way else zs := by rw [layZ, hV, if_pos rfl, Int.toNat_natCast, Int.toNat_natCast, hFB, Int.toNat_natCast]
  have hL : (if freeK W T bs zs j way then layL W T zs j way else zs).length = n := by
    split
    · rw [Til.layL_len]; exact hl
    · exact hl
  refine (lay_spec A n c W T bs B n d zs (j : Int) way w (by omega) h (by omega) h' (lays_i64 hl hla) ⟨by omega, by omega⟩ hw).mono ?_
  rintro e w' ⟨D, q, q0, rfl, own, hb, hle⟩
  rw [hZ, hL] at own
  rw [hZ, hL, hok]
  exact ⟨D, q, q0, rfl, own, hb⟩
theorem oneT_true {W T n j : Nat} {bs : List Bool} {zs : List Int} {way : Int} (h : freeK W T bs zs j way = true) : oneT W T n bs zs j way = tilings W T n bs (layL W T zs j way) := by rw [Til.oneT, h]; rfl
theorem oneT_false {W T n j : Nat} {bs : List Bool} {zs : List Int} {way : Int} (h : freeK W T bs zs j way = false) : oneT W T n bs zs j way = [] := by rw [Til.oneT, h]; rfl

/-- Where the first open cell is; the measure. -/
def FirstG (bs : List Bool) (zs : List Int) (n gk : Nat) (f : Int) : Prop := (f = -1 ∧ Done bs zs n ∧ gk = 0) ∨ ∃ j : Nat, f = (j : Int) ∧ j < n ∧ Done bs zs j ∧ open' bs zs j = true ∧ gk = n - j
theorem FirstR.g {bs : List Bool} {zs : List Int} {n : Nat} {f : Int} (h : FirstR bs zs n f) : ∃ gk, FirstG bs zs n gk f := by
  rcases h with ⟨h1, h2⟩ | ⟨j, h1, h2, h3, h4⟩
  · exact ⟨0, .inl ⟨h1, h2, rfl⟩⟩
  · exact ⟨n - j, .inr ⟨j, h1, h2, h3, h4, rfl⟩⟩
theorem FirstG.lt {bs : List Bool} {zs : List Int} {n gk j : Nat} {f : Int} (h : FirstG bs zs n gk f) (hd : Done bs zs (j + 1)) (hj : j < n) : gk < n - j := by
  rcases h with ⟨_, _, rfl⟩ | ⟨i, _, h2, _, h4, rfl⟩
  · omega
  · rcases Nat.lt_or_ge j i with h | h
    · omega
    · have := hd i (by omega); rw [h4] at this; cases this

set_option maxRecDepth 100000 in
set_option maxHeartbeats 4000000 in
theorem rank_spec (A : Option Addr) (n c : Nat) (W T : Int) (bs : List Bool) (B : Option Addr) (m d : Nat) (ts : List Int) (w : World) (hn : n ≤ 1048576) (h : Sl w A n (bs.map .bool)) (hm : m ≤ 1048576) (h' : Sl w B m (ts.map (.int .i64))) (hz : ∀ z ∈ ts, I64 z) :
    Calls Try.prog 39 #[.agg #[.int .i64 W, .int .i64 T, .slice A n c], .slice B m d] w fun e w' => e = .returned (.int .i64 (rankF W T n bs m ts)) ∧ Below w.heap.size w w' := by
  have hl := h.1
  rw [List.length_map] at hl
  have hl' := h'.1
  rw [List.length_map] at hl'
  have HZ0 := Lib.hid hz
  clear hz
  have R0 := P1.new w (.int .i64 W) (.int .i64 T) (.slice A n c) 27
  cases hv : tilB W T n bs m ts
  · have E : Hid (rankF W T n bs m ts = -1) := by show _ = _; rw [rankF, hv]; rfl
    have HV := Lib.hid hv
    clear hl hl' hv
    go_enter Try.func39, Try.ntmps39
    go_wp2_with fail
    refine (til_spec A n c W T bs B m d ts _ hn (h.below R0.B) hm (h'.below R0.B) HZ0.out).mono ?_; rintro e w1 ⟨rfl, hb1⟩
    rw [HV.out]
    go_wp2_with fail
    go_ret
    exact ⟨ret_i E.out.symm, belowW R0.B hb1⟩
  · have E : Hid (rankF W T n bs m ts = (pos ts (tilL W T n bs) : Nat)) := by show _ = _; rw [rankF, hv]; rfl
    have HV := Lib.hid hv
    obtain ⟨W, T, rfl, rfl, V, rfl, hla, hfu⟩ := til_parts hv hl
    have n36 := V.n36
    have EL : Hid (tilL (W : Int) (T : Int) m bs = bare W T m bs) := by show _ = _; rw [tilL, if_pos V.ok]; rfl
    have EB : bareF (W : Int) (T : Int) m bs = List.replicate m 0 := by rw [bareF, if_pos V.ok]
    have HIN := Lib.hid (bare_in V hl' hla hfu)
    have HLA := Lib.hid hla
    have HFU := Lib.hid hfu
    have HL := Lib.hid hl'
    have HBL := Lib.hid (bare_le V)
    have HVS := Lib.hid V.size
    have HVL := Lib.hid V.len
    have HEB := Lib.hid EB
    clear hl hl' hv hla hfu EB
    go_enter Try.func39, Try.ntmps39
    go_wp2_with fail
    refine (til_spec A m c W T bs B m d ts _ hn (h.below R0.B) hm (h'.below R0.B) HZ0.out).mono ?_; rintro e w1 ⟨rfl, hb1⟩
    rw [HV.out]
    have R1 := R0.below hb1
    clear R0 hb1
    have k1 := R1.X.1
    have k2 := R1.X.2.1
    have k3 := R1.X.2.2
    go_wp2_with fail
    refine (bare_spec A m c W T bs _ hn (h.below R1.B)).mono ?_; rintro e w2 ⟨D, q, q0, rfl, own, hb2, hle⟩
    rw [HEB.out, List.length_replicate] at own
    rw [HEB.out, List.length_replicate]
    have R2 := R1.below hb2
    have O2 := own.base R1.B.size
    clear R1 k1 k2 k3 hb2 own
    have k1 := R2.X.1
    have k2 := R2.X.2.1
    have k3 := R2.X.2.2
    go_wp2_with fail
    refine (first_any A m c W T bs D q (List.replicate m 0) _ V (h.below R2.B) O2.sl).mono ?_; rintro e w3 ⟨f, rfl, hf, hb3⟩
    obtain ⟨gk0, hf0⟩ := hf.g
    have R3 := R2.below hb3
    have O3 := (O2.below hb3).top hb3.size
    clear R2 O2 k1 k2 k3 hb3 hf
    go_wp2_with fail
    go_loopg [5, 6, 7, 8, 9, 10, 11] gk0 (fun gk s5 s6 s7 _ _ _ _ wx => ∃ (zs : List Int) (D : Option Addr) (q q0 r : Nat) (f : Int), s5 = .int .i64 r ∧ s6 = .slice D m q ∧ s7 = .int .i64 f ∧ FirstG bs zs m gk f ∧ zs.length = m ∧ laysAll W T bs zs m = true ∧ Til.Ext zs ts ∧ r + pos ts (tilings W T m bs zs) = pos ts (bare W T m bs) ∧ Own wx w.heap.size wx.heap.size 3 D m q0 (zs.map (.int .i64)) ∧ P1 w (.int .i64 W) (.int .i64 T) (.slice A m c) wx)
    case atStart => exact ⟨List.replicate m 0, D, q, q0, 0, f, rfl, rfl, rfl, hf0, by simp, lays_zero, ext_zero HL.out, by rw [Nat.zero_add]; rfl, O3, R3⟩
    case round =>
      clear O3 R3 hf0
      obtain ⟨zs, D, q, q0, r, f, rfl, rfl, rfl, hf, hlz, hlz2, hext, hr, O, R⟩ := hrel
      have HLZ := Lib.hid hlz
      have HLZ2 := Lib.hid hlz2
      have HEX := Lib.hid hext
      have HR := Lib.hid hr
      have hmem := Til.tilings_mem V.w0 V.size V.len HL.out HLA.out HFU.out hlz hlz2 hext
      have hpl := Til.pos_lt hmem
      have hpb := Til.pos_lt HIN.out
      have hbl := HBL.out
      have HPL := Lib.hid hpl
      clear hlz hlz2 hext hr hmem hpl
      have k1 := R.X.1
      have k2 := R.X.2.1
      have k3 := R.X.2.2
      have zr := R.B.size
      rcases hf with ⟨rfl, hdn, rfl⟩ | ⟨j, rfl, hj, hdn, hop, rfl⟩
      · have ET : tilings W T m bs zs = [zs] := Til.tilings_none hdn
        have hr := HR.out
        have hp := HPL.out
        rw [ET, List.length_singleton] at hp
        rw [ET] at hr
        clear hdn ET
        go_wp2_with fail
        go_ret
        exact ⟨ret_i (by rw [E.out, EL.out]; congr 1; omega), R.B⟩
      · obtain ⟨hfree, hext2, hps⟩ := Til.pos_step V.w0 V.size V.len HLZ.out hj HLZ2.out hdn hop HL.out HLA.out HFU.out HEX.out
        obtain ⟨b, off, x, rfl, hx, hc⟩ := (h'.below R.B).atI hj
        have hxe := ent_of hx
        have hHI := HZ0.out x (List.mem_of_getElem? hx)
        rw [hxe] at hfree hext2 hps
        have hjI : I64 (j : Int) := ⟨by omega, by omega⟩
        have p0 : (0 : Int) ≤ (j : Int) := by omega
        have p1 : (j : Int) < (m : Int) := by omega
        obtain ⟨jj, hs, hjj, w0, w4⟩ := free_step V hj hfree
        have HF := Lib.hid hfree
        have HX2 := Lib.hid hext2
        have HDN2 := Lib.hid (hdn.lay (W := W) (T := T) (way := x) (by rw [HLZ.out, HVL.out]) (by rw [HLZ.out]; exact hj) hs (by rw [HLZ.out]; exact hjj) w0)
        have HLA2 := Lib.hid (Til.lays_lay V.w0 HVS.out HVL.out HLZ.out HLZ2.out hfree)
        have HS := Lib.hid hs
        clear hx hxe hfree hext2 hdn hop hs
        have HBB := Lib.hid (show b < w.heap.size by
          obtain ⟨b', off', hA', hlt⟩ := h'.block (by omega)
          injection hA' with hA'; injection hA' with h1 _ _; omega)
        rcases hps with ⟨rfl, hps⟩ | ⟨rfl, hps⟩
        · have HPS := Lib.hid hps
          clear hps
          go_wp2_with fail
          go_region_held3 (fun w' => w'.cell? ⟨w.heap.size, 0, none⟩ = some (.int .i64 W) ∧ w'.cell? ⟨w.heap.size, 1, none⟩ = some (.int .i64 T) ∧ w'.cell? ⟨w.heap.size, 2, none⟩ = some (.slice A m c) ∧ w'.cell? ⟨b, off + j, none⟩ = some (.int .i64 1))
            (first | exact ⟨k1, k2, k3, hc⟩ | go_keep)
            (first
              | (go_at_call 76; refine (layK_spec A m c W T bs D q zs j 1 _ V (h.below R.B).drew O.sl.drew HLZ.out HLZ2.out hj ⟨by omega, by omega⟩).mono ?_; rintro e w4 ⟨D4, q4, q40, rfl, own, hb4⟩; rw [HF.out, if_pos rfl] at own; rw [HF.out]; have R4 := R.drew.below hb4; have r1 := R4.X.1; have r2 := R4.X.2.1; have r3 := R4.X.2.2; have r4 := (hb4.cell (p := ⟨b, off + j, none⟩) (by have := HBB.out; show b < wr.heap.size; omega)).trans hc)
              | fail)
          all_goals
            go_wp2_with fail
            have O4 := own.base (base' := w.heap.size) zr
            refine (first_any A m c W T bs D4 q4 (layL W T zs j 1) _ V (h.below R4.B) O4.sl).mono ?_; rintro e w5 ⟨f5, rfl, hf5, hb5⟩
            obtain ⟨gk5, hf5⟩ := hf5.g
            go_wp2_with fail
            go_roundg gk5
            case measure => exact hf5.lt HDN2.out hj
            case rel => exact ⟨layL W T zs j 1, D4, q4, q40, r, f5, rfl, rfl, rfl, hf5, by rw [Til.layL_len, HLZ.out], HLA2.out, HX2.out, by rw [← HPS.out]; exact HR.out, (O4.below hb5).top hb5.size, R4.below hb5⟩
        · have HPS := Lib.hid hps
          have hR := HR.out
          rw [hps] at hR
          have HR2 := Lib.hid hR
          have hone : (oneT W T m bs zs j 1).length ≤ 68719476736 := by omega
          have hrb : r ≤ 68719476736 := by omega
          clear hps hR
          obtain ⟨f1, hf1⟩ : ∃ f1, freeK W T bs zs j 1 = f1 := ⟨_, rfl⟩
          have HF1 := Lib.hid hf1
          clear hf1
          go_wp2_with fail
          refine (layK_spec A m c W T bs D q zs j 1 _ V (h.below R.B) O.sl HLZ.out HLZ2.out hj ⟨by omega, by omega⟩).mono ?_; rintro e wa ⟨Da, qa, qa0, rfl, owna, hba⟩
          rw [HF1.out] at owna
          rw [HF1.out]
          have Ra := R.below hba
          have Oa := (O.below hba).top hba.size
          have hca := (hba.cell (p := ⟨b, off + j, none⟩) (by have := HBB.out; show b < wr.heap.size; omega)).trans hc
          have za := hba.size
          clear R O k1 k2 k3 hba hc
          have k1 := Ra.X.1
          have k2 := Ra.X.2.1
          have k3 := Ra.X.2.2
          cases f1
          · have HON := Lib.hid (show (oneT W T m bs zs j 1).length = 0 by rw [oneT_false HF1.out]; rfl)
            clear owna
            go_wp2_with fail
            go_region_held3 (fun w' => w'.cell? ⟨w.heap.size, 0, none⟩ = some (.int .i64 W) ∧ w'.cell? ⟨w.heap.size, 1, none⟩ = some (.int .i64 T) ∧ w'.cell? ⟨w.heap.size, 2, none⟩ = some (.slice A m c) ∧ w'.cell? ⟨b, off + j, none⟩ = some (.int .i64 2))
              (first | exact ⟨k1, k2, k3, hca⟩ | go_keep)
              (first
                | (go_at_call 76; refine (layK_spec A m c W T bs D q zs j 2 _ V (h.below Ra.B).drew Oa.sl.drew HLZ.out HLZ2.out hj ⟨by omega, by omega⟩).mono ?_; rintro e w4 ⟨D4, q4, q40, rfl, own, hb4⟩; rw [HF.out, if_pos rfl] at own; rw [HF.out]; have R4 := Ra.drew.below hb4; have r1 := R4.X.1; have r2 := R4.X.2.1; have r3 := R4.X.2.2; have r4 := (hb4.cell (p := ⟨b, off + j, none⟩) (by have := HBB.out; show b < wa.heap.size; omega)).trans hca)
                | fail)
            all_goals
              go_wp2_with fail
              have O4 := own.base (base' := w.heap.size) (by show _ ≤ wa.heap.size; omega)
              refine (first_any A m c W T bs D4 q4 (layL W T zs j 2) _ V (h.below R4.B) O4.sl).mono ?_; rintro e w5 ⟨f5, rfl, hf5, hb5⟩
              obtain ⟨gk5, hf5⟩ := hf5.g
              go_wp2_with fail
              go_roundg gk5
              case measure => exact hf5.lt HDN2.out hj
              case rel => exact ⟨layL W T zs j 2, D4, q4, q40, r, f5, rfl, rfl, rfl, hf5, by rw [Til.layL_len, HLZ.out], HLA2.out, HX2.out, by have := HR2.out; have := HON.out; omega, (O4.below hb5).top hb5.size, R4.below hb5⟩
          · have HON := Lib.hid (show (oneT W T m bs zs j 1).length = (tilings W T m bs (layL W T zs j 1)).length by rw [oneT_true HF1.out])
            rw [if_pos rfl] at owna
            go_wp2_with fail
            refine (l3With_any A m c W T bs Da qa (layL W T zs j 1) _ V (h.below Ra.B) owna.sl).mono ?_; rintro e wb ⟨rfl, hbb⟩
            rw [← HON.out]
            have Rb := Ra.below hbb
            have Ob := (Oa.below hbb).top hbb.size
            have hcb := (hbb.cell (p := ⟨b, off + j, none⟩) (by have := HBB.out; show b < wa.heap.size; omega)).trans hca
            have zb := hbb.size
            clear Ra Oa k1 k2 k3 hca owna hbb
            have k1 := Rb.X.1
            have k2 := Rb.X.2.1
            have k3 := Rb.X.2.2
            go_wp2_with fail
            go_region_held3 (fun w' => w'.cell? ⟨w.heap.size, 0, none⟩ = some (.int .i64 W) ∧ w'.cell? ⟨w.heap.size, 1, none⟩ = some (.int .i64 T) ∧ w'.cell? ⟨w.heap.size, 2, none⟩ = some (.slice A m c) ∧ w'.cell? ⟨b, off + j, none⟩ = some (.int .i64 2))
              (first | exact ⟨k1, k2, k3, hcb⟩ | go_keep)
              (first
                | (go_at_call 76; refine (layK_spec A m c W T bs D q zs j 2 _ V (h.below Rb.B).drew Ob.sl.drew HLZ.out HLZ2.out hj ⟨by omega, by omega⟩).mono ?_; rintro e w4 ⟨D4, q4, q40, rfl, own, hb4⟩; rw [HF.out, if_pos rfl] at own; rw [HF.out]; have R4 := Rb.drew.below hb4; have r1 := R4.X.1; have r2 := R4.X.2.1; have r3 := R4.X.2.2; have r4 := (hb4.cell (p := ⟨b, off + j, none⟩) (by have := HBB.out; show b < wb.heap.size; omega)).trans hcb)
                | fail)
            all_goals
              go_wp2_with fail
              have O4 := own.base (base' := w.heap.size) (by show _ ≤ wb.heap.size; omega)
              refine (first_any A m c W T bs D4 q4 (layL W T zs j 2) _ V (h.below R4.B) O4.sl).mono ?_; rintro e w5 ⟨f5, rfl, hf5, hb5⟩
              obtain ⟨gk5, hf5⟩ := hf5.g
              go_wp2_with fail
              go_roundg gk5
              case measure => exact hf5.lt HDN2.out hj
              case rel => exact ⟨layL W T zs j 2, D4, q4, q40, r + (oneT W T m bs zs j 1).length, f5, by go_num, rfl, rfl, hf5, by rw [Til.layL_len, HLZ.out], HLA2.out, HX2.out, by have := HR2.out; omega, (O4.below hb5).top hb5.size, R4.below hb5⟩

set_option maxRecDepth 100000 in
set_option maxHeartbeats 4000000 in
theorem tof_spec (A : Option Addr) (n c : Nat) (W T : Int) (bs : List Bool) (x : Int) (w : World) (hn : n ≤ 1048576) (h : Sl w A n (bs.map .bool)) (hx : I64 x) :
    Calls Try.prog 41 #[.agg #[.int .i64 W, .int .i64 T, .slice A n c], .int .i64 x] w fun e w' => OutLB w w' e (tofZ W T n bs x) (tofB W T n bs x) := by
  have hl := h.1
  rw [List.length_map] at hl
  have R0 := P1.new w (.int .i64 W) (.int .i64 T) (.slice A n c) 27
  by_cases hv : validB W T n bs = true
  · obtain ⟨W, T, rfl, rfl, V⟩ := valid_of hv hl
    have n36 := V.n36
    have EL : tilL (W : Int) (T : Int) n bs = bare W T n bs := by rw [tilL, if_pos hv]; rfl
    have EB : bareF (W : Int) (T : Int) n bs = List.replicate n 0 := by rw [bareF, if_pos hv]
    have ET : tilF (W : Int) (T : Int) n bs = ((bare W T n bs).length : Nat) := by rw [tilF, if_pos hv, Int.toNat_natCast, Int.toNat_natCast, bare_len V]
    have HV := Lib.hid hv
    have HEL := Lib.hid EL
    have HEB := Lib.hid EB
    have HET := Lib.hid ET
    have HBL := Lib.hid (bare_le V)
    have HVS := Lib.hid V.size
    have HVL := Lib.hid V.len
    clear hl hv EL EB ET
    go_enter Try.func41, Try.ntmps41
    go_wp2_with fail
    refine (valid_spec A n c W T bs _ (by omega) (h.below R0.B)).mono ?_; rintro e w1 ⟨rfl, hb1⟩
    rw [HV.out]
    have R1 := R0.below hb1
    clear R0 hb1
    have k1 := R1.X.1
    have k2 := R1.X.2.1
    have k3 := R1.X.2.2
    go_wp2_with fail
    refine (til_many_spec A n c W T bs _ hn (h.below R1.B)).mono ?_; rintro e w2 ⟨rfl, hb2⟩
    rw [HET.out]
    have R2 := R1.below hb2
    have hbl := HBL.out
    clear R1 hb2 k1 k2 k3
    have k1 := R2.X.1
    have k2 := R2.X.2.1
    have k3 := R2.X.2.2
    go_wp2_with fail
    refine (l1In_any _ _ _ _).mono ?_; rintro e w3 ⟨rfl, rfl⟩
    have EB : tofB W T n bs x = inB x 0 ((bare W T n bs).length - 1) := by rw [tofB, HEL.out]
    cases hi : inB x 0 ((bare W T n bs).length - 1)
    · have E1 : tofB W T n bs x = false := by rw [EB, hi]
      have E2 : tofZ W T n bs x = [] := by rw [tofZ, E1]; rfl
      have HE1 := Lib.hid E1
      have HE2 := Lib.hid E2
      clear E1 E2 EB hi
      go_wp2_with fail
      exact bodyPost_ret (v := .tuple #[.slice (some ⟨w2.heap.size, 0, none⟩) 0 0, .bool false]) (by simp [results, Try.results41, go_sem]) rfl (by rw [HE1.out, HE2.out]; exact OutLB.mk rfl (by omega) (((own_empty w2).base R2.B.size).top (by simp)) (belowA R2.B))
    · have bd := inB_iff.1 hi
      obtain ⟨k, rfl⟩ := Int.eq_ofNat_of_zero_le bd.1
      have hk : k < (bare W T n bs).length := by omega
      have hg : (bare W T n bs)[k]? = some ((bare W T n bs)[k]) := List.getElem?_eq_getElem hk
      obtain ⟨t, ht⟩ : ∃ t, (bare W T n bs)[k] = t := ⟨_, rfl⟩
      rw [ht] at hg
      have E1 : tofB W T n bs (k : Int) = true := by rw [EB, hi]
      have E2 : tofZ W T n bs (k : Int) = t := by rw [tofZ, E1, HEL.out, Int.toNat_natCast, hg]; rfl
      have HE1 := Lib.hid E1
      have HE2 := Lib.hid E2
      have HG := Lib.hid hg
      clear E1 E2 EB ht hg hi bd
      go_wp2_with fail
      refine (bare_spec A n c W T bs _ hn (h.below R2.B)).mono ?_; rintro e w3 ⟨D, q, q0, rfl, own, hb3, hle⟩
      rw [HEB.out, List.length_replicate] at own
      rw [HEB.out, List.length_replicate]
      have R3 := R2.below hb3
      have O3 := own.base R2.B.size
      clear R2 k1 k2 k3 hb3 own
      have k1 := R3.X.1
      have k2 := R3.X.2.1
      have k3 := R3.X.2.2
      go_wp2_with fail
      refine (first_any A n c W T bs D q (List.replicate n 0) _ V (h.below R3.B) O3.sl).mono ?_; rintro e w4 ⟨f, rfl, hf, hb4⟩
      obtain ⟨gk0, hf0⟩ := hf.g
      have R4 := R3.below hb4
      have O4 := (O3.below hb4).top hb4.size
      clear R3 O3 k1 k2 k3 hb4 hf
      go_wp2_with fail
      go_loopg [1, 6, 7, 8, 9, 10, 11, 12] gk0 (fun gk s1 s6 s7 _ _ _ _ _ wx => ∃ (zs : List Int) (D : Option Addr) (q q0 r : Nat) (f : Int), s1 = .int .i64 r ∧ s6 = .slice D n q ∧ s7 = .int .i64 f ∧ FirstG bs zs n gk f ∧ zs.length = n ∧ laysAll W T bs zs n = true ∧ (tilings W T n bs zs)[r]? = some t ∧ r ≤ 68719476736 ∧ Own wx w.heap.size wx.heap.size 3 D n q0 (zs.map (.int .i64)) ∧ P1 w (.int .i64 W) (.int .i64 T) (.slice A n c) wx)
      case atStart => exact ⟨List.replicate n 0, D, q, q0, k, f, rfl, rfl, rfl, hf0, by simp, lays_zero, HG.out, by omega, O4, R4⟩
      case round =>
        clear O4 R4 hf0
        obtain ⟨zs, D, q, q0, r, f, rfl, rfl, rfl, hf, hlz, hlz2, hr, hrb, O, R⟩ := hrel
        have HLZ := Lib.hid hlz
        have HLZ2 := Lib.hid hlz2
        have HR := Lib.hid hr
        clear hlz hlz2 hr
        have k1 := R.X.1
        have k2 := R.X.2.1
        have k3 := R.X.2.2
        have zr := R.B.size
        rcases hf with ⟨rfl, hdn, rfl⟩ | ⟨j, rfl, hj, hdn, hop, rfl⟩
        · have ET : tilings W T n bs zs = [zs] := Til.tilings_none hdn
          have hr := HR.out
          rw [ET] at hr
          have hr0 : r = 0 := by have := lt_of_get hr; simp at this; omega
          subst hr0
          have hzt : zs = t := by simpa using hr
          subst hzt
          have htl := HLZ.out
          clear hdn ET hr
          go_wp2_with fail
          exact bodyPost_ret (v := .tuple #[.slice D n q, .bool true]) (by simp [results, Try.results41, go_sem]) rfl (by rw [HE1.out, HE2.out]; exact OutLB.mkL (c0 := q0) HLZ.out (by omega) O R.B)
        · have hTF := Til.tilings_first (W := W) (T := T) HVL.out HLZ.out hj hdn hop
          have hr := HR.out
          rw [hTF] at hr
          have hlen := lt_of_get hr
          rw [List.length_append] at hlen
          have HDN := Lib.hid hdn
          have HR2 := Lib.hid hr
          have hjI : I64 (j : Int) := ⟨by omega, by omega⟩
          have p0 : (0 : Int) ≤ (j : Int) := by omega
          have onext : ∀ way : Int, freeK W T bs zs j way = true → Done bs (layL W T zs j way) (j + 1) ∧ laysAll W T bs (layL W T zs j way) n = true := fun way hf => by
            obtain ⟨jj, hs, hjj, w0, w4⟩ := free_step V hj hf
            exact ⟨HDN.out.lay (W := W) (T := T) (way := way) (by rw [HLZ.out, HVL.out]) (by rw [HLZ.out]; exact hj) hs (by rw [HLZ.out]; exact hjj) w0, Til.lays_lay V.w0 HVS.out HVL.out HLZ.out HLZ2.out hf⟩
          have HON := Lib.hid onext
          clear hdn hop hTF hr onext
          obtain ⟨f1, hf1⟩ : ∃ f1, freeK W T bs zs j 1 = f1 := ⟨_, rfl⟩
          have HF1 := Lib.hid hf1
          clear hf1
          go_wp2_with fail
          refine (layK_spec A n c W T bs D q zs j 1 _ V (h.below R.B) O.sl HLZ.out HLZ2.out hj ⟨by omega, by omega⟩).mono ?_; rintro e wa ⟨Da, qa, qa0, rfl, owna, hba⟩
          rw [HF1.out] at owna
          rw [HF1.out]
          have Ra := R.below hba
          have Oa := (O.below hba).top hba.size
          have za := hba.size
          clear R O k1 k2 k3 hba
          have k1 := Ra.X.1
          have k2 := Ra.X.2.1
          have k3 := Ra.X.2.2
          cases f1
          · have h10 : (oneT W T n bs zs j 1).length = 0 := by rw [oneT_false HF1.out]; rfl
            have f2 : freeK W T bs zs j 2 = true := by
              cases hf2 : freeK W T bs zs j 2 with
              | true => rfl
              | false => have : (oneT W T n bs zs j 2).length = 0 := by rw [oneT_false hf2]; rfl
                         omega
            have HF2 := Lib.hid f2
            have hr2 : (tilings W T n bs (layL W T zs j 2))[r]? = some t := by
              have := HR2.out
              rw [oneT_false HF1.out, List.nil_append, oneT_true f2] at this; exact this
            have HRN := Lib.hid hr2
            have hge : decide ((0 : Int) ≤ (r : Int)) = true := decide_eq_true (by omega)
            clear owna f2 hr2 h10 hlen
            go_wp2_with fail
            refine (layK_spec A n c W T bs D q zs j 2 _ V (h.below Ra.B) Oa.sl HLZ.out HLZ2.out hj ⟨by omega, by omega⟩).mono ?_; rintro e wb ⟨Db, qb, qb0, rfl, ownb, hbb⟩
            rw [HF2.out, if_pos rfl] at ownb
            rw [HF2.out]
            have Rb := Ra.below hbb
            have Ob := ownb.base (base' := w.heap.size) (by omega)
            clear Ra Oa k1 k2 k3 hbb ownb
            have k1 := Rb.X.1
            have k2 := Rb.X.2.1
            have k3 := Rb.X.2.2
            go_wp2_with fail
            refine (first_any A n c W T bs Db qb (layL W T zs j 2) _ V (h.below Rb.B) Ob.sl).mono ?_; rintro e w5 ⟨f5, rfl, hf5, hb5⟩
            obtain ⟨gk5, hf5⟩ := hf5.g
            go_wp2_with fail
            go_roundg gk5
            case measure => exact hf5.lt (HON.out 2 HF2.out).1 hj
            case rel => exact ⟨layL W T zs j 2, Db, qb, qb0, r, f5, by go_num, rfl, rfl, hf5, by rw [Til.layL_len, HLZ.out], (HON.out 2 HF2.out).2, HRN.out, hrb, (Ob.below hb5).top hb5.size, Rb.below hb5⟩
          · have h11 : (oneT W T n bs zs j 1).length = (tilings W T n bs (layL W T zs j 1)).length := by rw [oneT_true HF1.out]
            rw [if_pos rfl] at owna
            obtain ⟨mm, hmm⟩ : ∃ mm, (tilings W T n bs (layL W T zs j 1)).length = mm := ⟨_, rfl⟩
            have HMM := Lib.hid hmm
            rw [hmm] at h11
            have hml : mm ≤ 68719476736 := by
              rw [← hmm, Til.tilings_len HVL.out (by rw [Til.layL_len, HLZ.out])]
              exact Nat.le_trans (Til.cntA_le _ _ _ _ _) (Nat.le_trans (Nat.pow_le_pow_right (by omega) n36) (by decide))
            clear hmm
            go_wp2_with fail
            refine (l3With_any A n c W T bs Da qa (layL W T zs j 1) _ V (h.below Ra.B) owna.sl).mono ?_; rintro e wb ⟨rfl, hbb⟩
            rw [HMM.out]
            have Rb := Ra.below hbb
            have Ob := (Oa.below hbb).top hbb.size
            have owb := (owna.below hbb).top hbb.size
            have zb := hbb.size
            clear Ra Oa k1 k2 k3 owna hbb
            have k1 := Rb.X.1
            have k2 := Rb.X.2.1
            have k3 := Rb.X.2.2
            by_cases hlt : r < mm
            · have hr1 : (tilings W T n bs (layL W T zs j 1))[r]? = some t := by
                have := HR2.out
                rw [List.getElem?_append_left (by omega), oneT_true HF1.out] at this; exact this
              have HRN := Lib.hid hr1
              have hge : decide ((mm : Int) ≤ (r : Int)) = false := decide_eq_false (by omega)
              have Oc := owb.base (base' := w.heap.size) (by omega)
              clear hr1 h11 hlen Ob owb
              go_wp2_with fail
              refine (first_any A n c W T bs Da qa (layL W T zs j 1) _ V (h.below Rb.B) Oc.sl).mono ?_; rintro e w5 ⟨f5, rfl, hf5, hb5⟩
              obtain ⟨gk5, hf5⟩ := hf5.g
              go_wp2_with fail
              go_roundg gk5
              case measure => exact hf5.lt (HON.out 1 HF1.out).1 hj
              case rel => exact ⟨layL W T zs j 1, Da, qa, qa0, r, f5, rfl, rfl, rfl, hf5, by rw [Til.layL_len, HLZ.out], (HON.out 1 HF1.out).2, HRN.out, hrb, (Oc.below hb5).top hb5.size, Rb.below hb5⟩
            · have f2 : freeK W T bs zs j 2 = true := by
                cases hf2 : freeK W T bs zs j 2 with
                | true => rfl
                | false => have : (oneT W T n bs zs j 2).length = 0 := by rw [oneT_false hf2]; rfl
                           omega
              have HF2 := Lib.hid f2
              have hr2 : (tilings W T n bs (layL W T zs j 2))[r - mm]? = some t := by
                have := HR2.out
                rw [List.getElem?_append_right (by omega), oneT_true f2, h11] at this; exact this
              have HRN := Lib.hid hr2
              have hge : decide ((mm : Int) ≤ (r : Int)) = true := decide_eq_true (by omega)
              have hsub : ((r : Int) - (mm : Int)) = ((r - mm : Nat) : Int) := by omega
              have HSUB := Lib.hid hsub
              clear f2 hr2 h11 hlen owb hsub
              go_wp2_with fail
              refine (layK_spec A n c W T bs D q zs j 2 _ V (h.below Rb.B) Ob.sl HLZ.out HLZ2.out hj ⟨by omega, by omega⟩).mono ?_; rintro e wc ⟨Dc, qc, qc0, rfl, ownc, hbc⟩
              rw [HF2.out, if_pos rfl] at ownc
              rw [HF2.out]
              have Rc := Rb.below hbc
              have Oc := ownc.base (base' := w.heap.size) (by omega)
              clear Rb Ob k1 k2 k3 hbc ownc
              have k1 := Rc.X.1
              have k2 := Rc.X.2.1
              have k3 := Rc.X.2.2
              go_wp2_with fail
              refine (first_any A n c W T bs Dc qc (layL W T zs j 2) _ V (h.below Rc.B) Oc.sl).mono ?_; rintro e w5 ⟨f5, rfl, hf5, hb5⟩
              obtain ⟨gk5, hf5⟩ := hf5.g
              go_wp2_with fail
              go_roundg gk5
              case measure => exact hf5.lt (HON.out 2 HF2.out).1 hj
              case rel => exact ⟨layL W T zs j 2, Dc, qc, qc0, r - mm, f5, by rw [HSUB.out], rfl, rfl, hf5, by rw [Til.layL_len, HLZ.out], (HON.out 2 HF2.out).2, HRN.out, by omega, (Oc.below hb5).top hb5.size, Rc.below hb5⟩
  · have hv' : validB W T n bs = false := by simpa using hv
    have EL : tilL W T n bs = [] := by rw [tilL, if_neg hv]
    have E1 : tofB W T n bs x = false := by
      rw [tofB, EL]
      cases hi : inB x 0 (([] : List (List Int)).length - 1) with
      | false => rfl
      | true => have := inB_iff.1 hi; simp at this; omega
    have E2 : tofZ W T n bs x = [] := by rw [tofZ, E1]; rfl
    rw [E1, E2]
    have HV := Lib.hid hv'
    clear hl hv hv' EL E1 E2
    go_enter Try.func41, Try.ntmps41
    go_wp2_with fail
    refine (valid_spec A n c W T bs _ (by omega) (h.below R0.B)).mono ?_; rintro e w1 ⟨rfl, hb1⟩
    rw [HV.out]
    have R1 := R0.below hb1
    go_wp2_with fail
    exact bodyPost_ret (v := .tuple #[.slice (some ⟨w1.heap.size, 0, none⟩) 0 0, .bool false]) (by simp [results, Try.results41, go_sem]) rfl (OutLB.mk rfl (by omega) (((own_empty w1).base R1.B.size).top (by simp)) (belowA R1.B))

end Go.Proofs.Ytcnkpcnbobiodaa
