/-
  AcrossMany and AcrossSum of the reference: what they return.
-/
import Derived.Test.YtcnkpcnbobiodaaAcrI
import Derived.Test.YtcnkpcnbobiodaaLess
import Derived.Test.YtcnkpcnbobiodaaSpT
import Derived.Deep.RegionHeld3
import Derived.Deep.LoopGhost
namespace Go.Proofs.Ytcnkpcnbobiodaa
open Go.RowKit
open Til (on pw pe wsL eaL Req)

theorem on_off {l : List Bool} {k i : Nat} : on (l.set k false) i = (on l i && decide (i ≠ k)) := by
  unfold Til.on
  rw [List.getElem?_set]
  by_cases h : k = i
  · subst h
    rw [if_pos rfl]
    simp
    split <;> rfl
  · rw [if_neg h, show decide (i ≠ k) = true from decide_eq_true (show i ≠ k from fun e => h e.symm), Bool.and_true]
theorem Valid.off {W T n : Nat} {l : List Bool} (V : Valid W T n l) (k : Nat) : Valid W T n (l.set k false) := ⟨V.w0, V.w1, V.t0, V.t1, V.size, by rw [List.length_set]; exact V.len, Nat.le_trans (cnt_off l k) V.many⟩
/-- A side, the cells below k done. -/
def Side (p : Nat → Bool) (bs : List Bool) (k : Nat) (l : List Bool) : Prop := ∀ i, on l i = (on bs i && (decide (k ≤ i) || p i))
theorem Side.start (p : Nat → Bool) (bs : List Bool) : Side p bs 0 bs := fun i => by simp
theorem Side.keep {p : Nat → Bool} {bs l : List Bool} {k : Nat} (h : Side p bs k l) (hp : p k = true) : Side p bs (k + 1) l := fun i => by
  rw [h i]
  by_cases e : i = k
  · subst e; rw [hp]; simp
  · congr 2
    by_cases h1 : k ≤ i
    · rw [decide_eq_true h1, decide_eq_true (by omega)]
    · rw [decide_eq_false h1, decide_eq_false (by omega)]
theorem Side.off {p : Nat → Bool} {bs l : List Bool} {k : Nat} (h : Side p bs k l) (hp : p k = false) : Side p bs (k + 1) (l.set k false) := fun i => by
  rw [on_off, h i]
  by_cases e : i = k
  · subst e; rw [hp]; simp
  · rw [show decide (i ≠ k) = true by simp [e], Bool.and_true]
    congr 2
    by_cases h1 : k ≤ i
    · rw [decide_eq_true h1, decide_eq_true (by omega)]
    · rw [decide_eq_false h1, decide_eq_false (by omega)]

structure AcI (w : World) (W T n : Nat) (A : Option Addr) (c bw gw qw dw be ge qe de : Nat) (wl el : List Bool) (wx : World) : Prop where
  R : P1 w (.int .i64 W) (.int .i64 T) (.slice A n c) wx
  XW : Box wx bw (.int .i64 W) (.int .i64 T) (.slice (some ⟨gw, 0, none⟩) n qw)
  XE : Box wx be (.int .i64 W) (.int .i64 T) (.slice (some ⟨ge, 0, none⟩) n qe)
  OW : Own wx (w.heap.size + 1) wx.heap.size 4 (some ⟨gw, 0, none⟩) n dw (wl.map .bool)
  OE : Own wx (w.heap.size + 1) wx.heap.size 4 (some ⟨ge, 0, none⟩) n de (el.map .bool)
theorem AcI.west {w wx : World} {W T n c bw gw qw dw be ge qe de k : Nat} {A : Option Addr} {wl el : List Bool} (h : AcI w W T n A c bw gw qw dw be ge qe de wl el wx) (hk : k < n) (o1 : gw < bw) (o2 : bw < ge) (o3 : ge < be) : AcI w W T n A c bw gw qw dw be ge qe de (wl.set k false) el (wx.setCell ⟨gw, k, none⟩ (.bool false)) := {
  R := h.R.set (h.OW.2 gw 0 rfl).1 _
  XW := h.XW.setFar (by show bw ≠ gw; omega) _
  XE := h.XE.setFar (by show be ≠ gw; omega) _
  OW := by rw [List.map_set]; exact (h.OW.stored k hk (.bool false)).top (by simp)
  OE := (h.OE.setFar (fun b off hA => by injection hA with hA; injection hA with h1 _ _; show b ≠ gw; omega) _).top (by simp) }
theorem AcI.east {w wx : World} {W T n c bw gw qw dw be ge qe de k : Nat} {A : Option Addr} {wl el : List Bool} (h : AcI w W T n A c bw gw qw dw be ge qe de wl el wx) (hk : k < n) (o1 : gw < bw) (o2 : bw < ge) (o3 : ge < be) : AcI w W T n A c bw gw qw dw be ge qe de wl (el.set k false) (wx.setCell ⟨ge, k, none⟩ (.bool false)) := {
  R := h.R.set (h.OE.2 ge 0 rfl).1 _
  XW := h.XW.setFar (by show bw ≠ ge; omega) _
  XE := h.XE.setFar (by show be ≠ ge; omega) _
  OW := (h.OW.setFar (fun b off hA => by injection hA with hA; injection hA with h1 _ _; show b ≠ ge; omega) _).top (by simp)
  OE := by rw [List.map_set]; exact (h.OE.stored k hk (.bool false)).top (by simp) }

set_option maxRecDepth 100000 in
set_option maxHeartbeats 8000000 in
theorem acr_spec (A : Option Addr) (n c : Nat) (W T : Int) (bs : List Bool) (x s : Int) (w : World) (hn : n ≤ 1048576) (h : Sl w A n (bs.map .bool)) (_hx : I64 x) (hs : I64 s) :
    Calls Try.prog 43 #[.agg #[.int .i64 W, .int .i64 T, .slice A n c], .int .i64 x, .int .i64 s] w fun e w' => e = .returned (.int .i64 (acrF W T n bs x s)) ∧ Below w.heap.size w w' := by
  have hl := h.1
  rw [List.length_map] at hl
  by_cases hvv : validB W T n bs = true
  case neg =>
    have hv' : validB W T n bs = false := by simpa using hvv
    have HV := Lib.hid hv'
    have E : Hid (acrF W T n bs x s = -1) := by show _ = _; rw [acrF, acrV, hv']; rfl
    clear hl hvv hv'
    go_enter Try.func43, Try.ntmps43
    go_wp2_with fail
    refine (valid_spec A n c W T bs _ (by omega) (h.alloc _)).mono ?_; rintro e w1 ⟨rfl, hb1⟩
    rw [HV.out]
    have R1 := P1.of hb1
    go_wp2_with fail
    go_ret
    exact ⟨ret_i E.out.symm, R1.B⟩
  obtain ⟨W, T, rfl, rfl, V⟩ := valid_of hvv hl
  have n36 := V.n36
  have v0 := V.w0
  have v1 := V.w1
  have v3 := V.t1
  have HVV := Lib.hid hvv
  cases hic : inB x 1 ((W : Int) - 1)
  · have E : Hid (acrF W T n bs x s = -1) := by show _ = _; rw [acrF, acrV, hvv, hic]; rfl
    have HIC := Lib.hid hic
    clear hl hvv hic
    go_enter Try.func43, Try.ntmps43
    go_wp2_with fail
    refine (valid_spec A n c W T bs _ (by omega) (h.alloc _)).mono ?_; rintro e w1 ⟨rfl, hb1⟩
    rw [HVV.out]
    have R1 := P1.of hb1
    have k1 := R1.X.1
    have k2 := R1.X.2.1
    go_wp2_with fail
    refine (l1In_any _ _ _ _).mono ?_; rintro e w2 ⟨rfl, rfl⟩
    rw [HIC.out]
    go_wp2_with fail
    go_ret
    exact ⟨ret_i E.out.symm, R1.B⟩
  have hv : acrV W T n bs x = true := by rw [acrV, hvv, hic]; rfl
  have bx := inB_iff.1 hic
  obtain ⟨col, rfl⟩ := Int.eq_ofNat_of_zero_le (show 0 ≤ x by omega)
  have hc1 : 1 ≤ col := by omega
  have hc2 : col < W := by omega
  have hp : 2 ^ T ≤ 64 := Nat.le_trans (Nat.pow_le_pow_right (by omega) v3) (by decide)
  have hp0 : 0 < 2 ^ T := Nat.pow_pos (by omega)
  obtain ⟨P, hP⟩ : ∃ P, 2 ^ T = P := ⟨_, rfl⟩
  have hshl : wrap64 ((2 : Int) ^ T) = (P : Int) := by rw [← hP]; exact shl_pow v3
  have EF : acrF W T n bs col s = if inB s 0 ((P : Nat) - 1) then ((acrM W T n bs col s.toNat : Nat) : Int) else -1 := by rw [acrF, hv, Bool.true_and, Int.toNat_natCast, Int.toNat_natCast, Int.toNat_natCast, hP]
  rw [hP] at hp hp0
  have HEF := Lib.hid EF
  have HIC := Lib.hid hic
  have HPP := Lib.hid hP
  clear hl hvv hic hv EF hP bx
  go_enter Try.func43, Try.ntmps43
  go_wp2_with fail
  refine (valid_spec A n c W T bs _ (by omega) (h.alloc _)).mono ?_; rintro e w1 ⟨rfl, hb1⟩
  rw [HVV.out]
  have R1 := P1.of hb1
  clear hb1
  have k1 := R1.X.1
  have k2 := R1.X.2.1
  have k3 := R1.X.2.2
  go_wp2_with fail
  refine (l1In_any _ _ _ _).mono ?_; rintro e w2 ⟨rfl, rfl⟩
  rw [HIC.out]
  go_wp2_with fail
  refine (l1In_any _ _ _ _).mono ?_; rintro e w2 ⟨rfl, rfl⟩
  cases hi : inB s 0 ((P : Int) - 1)
  · have E : Hid (acrF W T n bs col s = -1) := by show _ = _; rw [HEF.out, hi]; rfl
    clear hi
    go_wp2_with fail
    go_ret
    exact ⟨ret_i E.out.symm, R1.B⟩
  have bd := inB_iff.1 hi
  obtain ⟨q, rfl⟩ := Int.eq_ofNat_of_zero_le bd.1
  have E : Hid (acrF W T n bs col q = (acrM W T n bs col q : Nat)) := by show _ = _; rw [HEF.out, hi, if_pos rfl, Int.toNat_natCast]
  have hqP : q < 2 ^ T := by rw [HPP.out]; omega
  have LAW := Lib.hid (acrM_law V hc1 hc2 hqP)
  have LE := Lib.hid (acrM_le V col q)
  have hq64 : q < 64 := by omega
  have hn0 : 0 < n := by have := V.size; have := Nat.mul_pos V.w0 V.t0; omega
  have nz := Nat.ne_of_gt R1.X.lt
  clear hi bd hqP
  go_wp2_with fail
  refine (less_any A n c W T bs (some ⟨w1.heap.size, 0, none⟩) 0 0 [] _ V ((h.below R1.B).alloc _) (Sl.nil _ _) (by simp) (by omega)).mono ?_; rintro e w2 ⟨DW, qw, dw, rfl, ow, hb2, -⟩
  rw [show lessL bs [] = bs from rfl, V.len] at ow
  rw [show lessL bs [] = bs from rfl, V.len]
  obtain ⟨gw, rfl, hgw1, hgw2⟩ := ow.form hn0
  have hz2 := hb2.size
  simp only [World.size_alloc] at hz2 hgw1
  have R2 := (R1.alloc (.cells #[] 3)).below hb2
  have OW2 := ow.base (base' := w.heap.size + 1) (by simp only [World.size_alloc]; have := R1.z; omega)
  clear R1 k1 k2 k3 hb2 ow nz
  have k1 := R2.X.1
  have k2 := R2.X.2.1
  have k3 := R2.X.2.2
  have l2 := R2.X.lt
  have l3 := Nat.ne_of_lt l2
  have z2 := R2.z
  go_wp2_with fail
  refine (less_any A n c W T bs (some ⟨w2.heap.size + 1, 0, none⟩) 0 0 [] _ V (((h.below R2.B).alloc _).alloc _) (Sl.nil _ _) (by simp) (by omega)).mono ?_; rintro e w3 ⟨DE, qe, de, rfl, oe, hb3, -⟩
  rw [show lessL bs [] = bs from rfl, V.len] at oe
  rw [show lessL bs [] = bs from rfl, V.len]
  obtain ⟨ge, rfl, hge1, hge2⟩ := oe.form hn0
  have hz3 := hb3.size
  simp only [World.size_alloc] at hz3 hge1
  have R3 := ((R2.alloc (.cells #[.int .i64 W, .int .i64 T, .slice (some ⟨gw, 0, none⟩) n qw] 27)).alloc (.cells #[] 3)).below hb3
  have XW3 := ((Box.new w2 (.int .i64 W) (.int .i64 T) (.slice (some ⟨gw, 0, none⟩) n qw) 27).alloc (.cells #[] 3)).below hb3
  have OW3 := (((OW2.alloc (.cells #[.int .i64 W, .int .i64 T, .slice (some ⟨gw, 0, none⟩) n qw] 27)).alloc (.cells #[] 3)).below hb3).top (top' := w3.heap.size) (by omega)
  have OE3 := oe.base (base' := w.heap.size + 1) (by simp only [World.size_alloc]; omega)
  have I3 : AcI w W T n A c w2.heap.size gw qw dw w3.heap.size ge qe de bs bs (w3.alloc (.cells #[.int .i64 W, .int .i64 T, .slice (some ⟨ge, 0, none⟩) n qe] 27)) :=
    ⟨R3.alloc _, XW3.alloc _, Box.new w3 (.int .i64 W) (.int .i64 T) (.slice (some ⟨ge, 0, none⟩) n qe) 27, (OW3.alloc _).top (by simp), (OE3.alloc _).top (by simp)⟩
  have o2 : w2.heap.size < ge := by omega
  have nn3 := Nat.ne_of_lt R3.X.lt
  clear R2 OW2 k1 k2 k3 l2 l3 hb3 oe R3 XW3 OW3 OE3
  go_wp2_with fail
  go_loopg [9, 10, 11] n (fun gk s9 _ _ wx => ∃ (k : Nat) (wl el : List Bool), k ≤ n ∧ gk = n - k ∧ s9 = .int .i64 k ∧ AcI w W T n A c w2.heap.size gw qw dw w3.heap.size ge qe de wl el wx ∧ Valid W T n wl ∧ Valid W T n el ∧ Side (pw col q.testBit W) bs k wl ∧ Side (pe col q.testBit W) bs k el ∧ (∀ i, i < k → Til.Rq col q.testBit W i → on bs i = true))
  case atStart => exact ⟨0, bs, bs, Nat.zero_le _, rfl, rfl, I3, V, V, Side.start _ _, Side.start _ _, fun i hi => by omega⟩
  case round =>
    clear I3
    obtain ⟨k, wl, el, hk, rfl, rfl, I, VW, VE, SW, SE, hrq⟩ := hrel
    have HSW := Lib.hid SW
    have HSE := Lib.hid SE
    have HRQ := Lib.hid hrq
    have HVW := Lib.hid VW
    have HVE := Lib.hid VE
    clear SW SE hrq VW VE
    have k1 := I.R.X.1
    have k2 := I.R.X.2.1
    have k3 := I.R.X.2.2
    by_cases hlt : k < n
    · obtain ⟨b, off, cl, rfl, hcl, hcc⟩ := (h.below I.R.B).atB hlt
      have HCL := Lib.hid (show on bs k = cl by unfold Til.on; rw [hcl]; rfl)
      clear hcl
      obtain ⟨xx, hxx⟩ : ∃ xx, k % W = xx := ⟨_, rfl⟩
      obtain ⟨yy, hyy⟩ : ∃ yy, k / W = yy := ⟨_, rfl⟩
      have hxI : (k : Int) % (W : Int) = (xx : Int) := by rw [← hxx]; simp
      have hyI : (k : Int) / (W : Int) = (yy : Int) := by rw [← hyy]; simp
      have hxW : xx < W := by rw [← hxx]; exact Nat.mod_lt k (by omega)
      have hyT : yy < T := by rw [← hyy]; exact Nat.div_lt_of_lt_mul (by rw [← V.size]; exact hlt)
      have hkxy : yy * W + xx = k := by rw [← hxx, ← hyy, Nat.mul_comm]; exact Nat.div_add_mod k W
      obtain ⟨dd, hdd⟩ : ∃ dd, q / 2 ^ yy = dd := ⟨_, rfl⟩
      have hddl : dd ≤ 64 := by rw [← hdd]; exact Nat.le_trans (Nat.div_le_self _ _) (by omega)
      have hsh : (q : Int) / 2 ^ yy = (dd : Int) := by rw [← hdd]; simp
      obtain ⟨f, hf⟩ : ∃ f, q.testBit yy = f := ⟨_, rfl⟩
      have hab : ((dd : Int) % 2 == 1) = f := by
        rw [← hf, Nat.testBit_eq_decide_div_mod_eq, hdd, Bool.eq_iff_iff, beq_iff_eq, decide_eq_true_eq]; omega
      have hz0 : ((W : Int) == 0) = false := beq_eq_false_iff_ne.2 (by omega)
      have p0 : (0 : Int) ≤ (k : Int) := by omega
      have p1 : (k : Int) < (n : Int) := by omega
      have p2 : (0 : Int) ≤ (yy : Int) := by omega
      have PW := Lib.hid (show pw col q.testBit W k = (decide (xx < col) && !(xx == col - 1 && f)) by rw [Til.pw, hxx, hyy, hf])
      have PE := Lib.hid (show pe col q.testBit W k = (decide (col ≤ xx) && !(xx == col && f)) by rw [Til.pe, hxx, hyy, hf])
      have HKXY := Lib.hid hkxy
      have HF := Lib.hid hf
      have HXX := Lib.hid hxx
      have HYY := Lib.hid hyy
      have fW := I.OW.frozen k
      obtain ⟨vW, cW⟩ := I.OW.cellAt hlt
      have fE := I.OE.frozen k
      obtain ⟨vE, cE⟩ := I.OE.cellAt hlt
      have y3 := I.XW.2.2
      have y6 := I.XE.2.2
      clear hdd hxx hyy hkxy hf
      by_cases hA : xx < col ∧ (xx ≠ col - 1 ∨ f = false)
      · have hpw : pw col q.testBit W k = true := by
          rw [PW.out, decide_eq_true hA.1, Bool.true_and]
          rcases hA.2 with h1 | h1
          · rw [show (xx == col - 1) = false by rw [beq_eq_false_iff_ne]; exact h1]; rfl
          · rw [h1, Bool.and_false]; rfl
        have hpe : pe col q.testBit W k = false := (Til.pw_pe hpw).1
        have I2 := I.east hlt hgw2 o2 hge2
        have HR2 := Lib.hid (show ∀ i, i < k + 1 → Til.Rq col q.testBit W i → on bs i = true from fun i hi hr => by
          by_cases e : i = k
          · subst e; exact absurd hr (Til.pw_rq hc1 hpw)
          · exact HRQ.out i (by omega) hr)
        have HP1 := Lib.hid hpw
        have HP2 := Lib.hid hpe
        have a1 : xx < col := by omega
        have d1 : decide ((col : Int) ≤ (xx : Int)) = false := decide_eq_false (by omega)
        have d2 : decide ((xx : Int) < (col : Int)) = true := decide_eq_true (by omega)
        have e1 : ((xx : Int) == (col : Int)) = false := by rw [beq_eq_false_iff_ne]; omega
        clear hpw hpe
        cases f
        · clear hA I
          go_wp2_with fail
          go_roundg (n - (k + 1))
          case measure => omega
          case rel => exact ⟨k + 1, wl, el.set k false, by omega, rfl, by go_num, I2, HVW.out, HVE.out.off k, HSW.out.keep HP1.out, HSE.out.off HP2.out, HR2.out⟩
        · have e2 : ((xx : Int) == (col : Int) - 1) = false := by
            rw [beq_eq_false_iff_ne]
            rcases hA.2 with h1 | h1
            · omega
            · cases h1
          clear hA I
          go_wp2_with fail
          go_roundg (n - (k + 1))
          case measure => omega
          case rel => exact ⟨k + 1, wl, el.set k false, by omega, rfl, by go_num, I2, HVW.out, HVE.out.off k, HSW.out.keep HP1.out, HSE.out.off HP2.out, HR2.out⟩
      · by_cases hB : col ≤ xx ∧ (xx ≠ col ∨ f = false)
        · have hpe : pe col q.testBit W k = true := by
            rw [PE.out, decide_eq_true hB.1, Bool.true_and]
            rcases hB.2 with h1 | h1
            · rw [show (xx == col) = false by rw [beq_eq_false_iff_ne]; exact h1]; rfl
            · rw [h1, Bool.and_false]; rfl
          have hpw : pw col q.testBit W k = false := Til.pe_pw hpe
          have I2 := I.west hlt hgw2 o2 hge2
          have HR2 := Lib.hid (show ∀ i, i < k + 1 → Til.Rq col q.testBit W i → on bs i = true from fun i hi hr => by
            by_cases e : i = k
            · subst e; exact absurd hr (Til.pe_rq hc1 hpe)
            · exact HRQ.out i (by omega) hr)
          have HP1 := Lib.hid hpw
          have HP2 := Lib.hid hpe
          have a1 : ¬ xx < col := by omega
          have a2 : col ≤ xx := by omega
          have d1 : decide ((col : Int) ≤ (xx : Int)) = true := decide_eq_true (by omega)
          have d2 : decide ((xx : Int) < (col : Int)) = false := decide_eq_false (by omega)
          have e2 : ((xx : Int) == (col : Int) - 1) = false := by rw [beq_eq_false_iff_ne]; omega
          clear hpw hpe
          cases f
          · clear hA hB I
            go_wp2_with fail
            go_roundg (n - (k + 1))
            case measure => omega
            case rel => exact ⟨k + 1, wl.set k false, el, by omega, rfl, by go_num, I2, HVW.out.off k, HVE.out, HSW.out.off HP1.out, HSE.out.keep HP2.out, HR2.out⟩
          · have e1 : ((xx : Int) == (col : Int)) = false := by
              rw [beq_eq_false_iff_ne]
              rcases hB.2 with h1 | h1
              · omega
              · cases h1
            clear hA hB I
            go_wp2_with fail
            go_roundg (n - (k + 1))
            case measure => omega
            case rel => exact ⟨k + 1, wl.set k false, el, by omega, rfl, by go_num, I2, HVW.out.off k, HVE.out, HSW.out.off HP1.out, HSE.out.keep HP2.out, HR2.out⟩
        · have hft : f = true := by
            cases f
            · exfalso
              rcases Nat.lt_or_ge xx col with h1 | h1
              · exact hA ⟨h1, .inr rfl⟩
              · exact hB ⟨h1, .inr rfl⟩
            · rfl
          subst hft
          have hxc : xx = col - 1 ∨ xx = col := by
            rcases Nat.lt_or_ge xx col with h1 | h1
            · left
              by_cases h2 : xx = col - 1
              · exact h2
              · exact absurd ⟨h1, .inl h2⟩ hA
            · right
              by_cases h2 : xx = col
              · exact h2
              · exact absurd ⟨h1, .inl h2⟩ hB
          have HP1 := Lib.hid (show pw col q.testBit W k = false by
            rw [PW.out]
            rcases hxc with h1 | h1
            · rw [h1]; simp
            · rw [h1, decide_eq_false (by omega)]; rfl)
          have HP2 := Lib.hid (show pe col q.testBit W k = false by
            rw [PE.out]
            rcases hxc with h1 | h1
            · rw [h1, decide_eq_false (by omega)]; rfl
            · rw [h1]; simp)
          have HRK := Lib.hid (show Til.Rq col q.testBit W k from ⟨by rw [HXX.out]; exact hxc, by rw [HYY.out]; exact HF.out⟩)
          have I1 := I.west hlt hgw2 o2 hge2
          have I2 := I1.east hlt hgw2 o2 hge2
          have g6 := I1.XE.2.2
          have gE := I1.OE.frozen k
          obtain ⟨vE2, cE2⟩ := I1.OE.cellAt hlt
          have n1 : gw ≠ w3.heap.size := by omega
          have n2 : gw ≠ ge := by omega
          have n3 := Nat.ne_of_gt I.R.X.lt
          have n4 : gw ≠ w.heap.size := by have := (I.OW.2 gw 0 rfl).1; omega
          have HIB := Lib.hid I.R.B
          clear hA hB I I1
          cases cl
          · have hz : acrM W T n bs col q = 0 := LAW.out.2 (fun hreq => by
              obtain ⟨r1, r2⟩ := hreq yy hyT (by rw [HF.out]) (Nat.zero_le _)
              have hk := HKXY.out
              rcases hxc with h1 | h1
              · rw [show yy * W + col - 1 = k by omega, HCL.out] at r1; cases r1
              · rw [show yy * W + col = k by omega, HCL.out] at r2; cases r2)
            have HZ := Lib.hid hz
            clear hz
            rcases hxc with h1 | h1
            · have e1 : ((xx : Int) == (col : Int)) = false := by rw [beq_eq_false_iff_ne]; omega
              have e2 : ((xx : Int) == (col : Int) - 1) = true := by rw [beq_iff_eq]; omega
              clear h1
              go_wp2_with fail
              go_ret
              exact ⟨ret_i (by rw [E.out, HZ.out]; rfl), HIB.out⟩
            · have e1 : ((xx : Int) == (col : Int)) = true := by rw [beq_iff_eq]; omega
              clear h1
              go_wp2_with fail
              go_ret
              exact ⟨ret_i (by rw [E.out, HZ.out]; rfl), HIB.out⟩
          · have HR2 := Lib.hid (show ∀ i, i < k + 1 → Til.Rq col q.testBit W i → on bs i = true from fun i hi hr => by
              by_cases e : i = k
              · subst e; exact HCL.out
              · exact HRQ.out i (by omega) hr)
            rcases hxc with h1 | h1
            · have e1 : ((xx : Int) == (col : Int)) = false := by rw [beq_eq_false_iff_ne]; omega
              have e2 : ((xx : Int) == (col : Int) - 1) = true := by rw [beq_iff_eq]; omega
              have a1 : xx < col := by omega
              have d1 : decide ((col : Int) ≤ (xx : Int)) = false := decide_eq_false (by omega)
              have d2 : decide ((xx : Int) < (col : Int)) = true := decide_eq_true (by omega)
              clear h1
              go_wp2_with fail
              go_roundg (n - (k + 1))
              case measure => omega
              case rel => exact ⟨k + 1, wl.set k false, el.set k false, by omega, rfl, by go_num, I2, HVW.out.off k, HVE.out.off k, HSW.out.off HP1.out, HSE.out.off HP2.out, HR2.out⟩
            · have e1 : ((xx : Int) == (col : Int)) = true := by rw [beq_iff_eq]; omega
              have a1 : ¬ xx < col := by omega
              have a2 : col ≤ xx := by omega
              have d1 : decide ((col : Int) ≤ (xx : Int)) = true := decide_eq_true (by omega)
              have d2 : decide ((xx : Int) < (col : Int)) = false := decide_eq_false (by omega)
              clear h1
              go_wp2_with fail
              go_roundg (n - (k + 1))
              case measure => omega
              case rel => exact ⟨k + 1, wl.set k false, el.set k false, by omega, rfl, by go_num, I2, HVW.out.off k, HVE.out.off k, HSW.out.off HP1.out, HSE.out.off HP2.out, HR2.out⟩
    · have e : k = n := by omega
      subst e
      have HREQ := Lib.hid (show Req col q.testBit W T 0 bs from fun y hy hsy _ => by
        obtain ⟨q1, q2⟩ := acr_index hc1 hc2 hy
        obtain ⟨r1, r2⟩ := Til.rq_cell (S := q.testBit) (y := y) hc1 hc2 hsy
        have := V.size
        exact ⟨HRQ.out _ (by omega) r1, HRQ.out _ (by omega) r2⟩)
      have EW : tilF (W : Int) (T : Int) k wl = (Til.cntA W T k 0 (wsL col q.testBit W bs) : Nat) := by
        rw [tilF, if_pos HVW.out.ok, Int.toNat_natCast, Int.toNat_natCast]
        congr 1
        exact Til.cntA_eq fun i _ => by
          rw [HSW.out i, Til.on_wsL]
          by_cases hi : i < k
          · rw [decide_eq_false (by omega), Bool.false_or]; rfl
          · have : on bs i = false := by unfold Til.on; rw [List.getElem?_eq_none (by rw [V.len]; omega)]; rfl
            rw [this]; rfl
      have EE : tilF (W : Int) (T : Int) k el = (Til.cntA W T k 0 (eaL col q.testBit W bs) : Nat) := by
        rw [tilF, if_pos HVE.out.ok, Int.toNat_natCast, Int.toNat_natCast]
        congr 1
        exact Til.cntA_eq fun i _ => by
          rw [HSE.out i, Til.on_eaL]
          by_cases hi : i < k
          · rw [decide_eq_false (by omega), Bool.false_or]; rfl
          · have : on bs i = false := by unfold Til.on; rw [List.getElem?_eq_none (by rw [V.len]; omega)]; rfl
            rw [this]; rfl
      obtain ⟨cw, hcw⟩ : ∃ cw, Til.cntA W T k 0 (wsL col q.testBit W bs) = cw := ⟨_, rfl⟩
      obtain ⟨ce, hce⟩ : ∃ ce, Til.cntA W T k 0 (eaL col q.testBit W bs) = ce := ⟨_, rfl⟩
      rw [hcw] at EW
      rw [hce] at EE
      have EP : acrM W T k bs col q = cw * ce := by rw [LAW.out.1 HREQ.out, hcw, hce]
      have hle := LE.out
      rw [EP] at hle
      have hmul : IntKind.i64.wrap ((cw : Int) * (ce : Int)) = ((cw * ce : Nat) : Int) := by
        have e : (cw : Int) * (ce : Int) = ((cw * ce : Nat) : Int) := by push_cast; rfl
        rw [e, IntWalk.i64_in _ (by omega)]
      have HEW := Lib.hid EW
      have HEE := Lib.hid EE
      have HEP := Lib.hid EP
      have HMUL := Lib.hid hmul
      have xw := I.XW
      have xe := I.XE
      have y1 := xw.1
      have y2 := xw.2.1
      have y3 := xw.2.2
      have y4 := xe.1
      have y5 := xe.2.1
      have y6 := xe.2.2
      clear EW EE EP hle hcw hce hlt
      go_wp2_with fail
      go_region_held3 (fun w' => w'.cell? ⟨w2.heap.size, 0, none⟩ = some (.int .i64 W) ∧ w'.cell? ⟨w2.heap.size, 1, none⟩ = some (.int .i64 T) ∧ w'.cell? ⟨w2.heap.size, 2, none⟩ = some (.slice (some ⟨gw, 0, none⟩) k qw) ∧ w'.cell? ⟨w3.heap.size, 0, none⟩ = some (.int .i64 W) ∧ w'.cell? ⟨w3.heap.size, 1, none⟩ = some (.int .i64 T) ∧ w'.cell? ⟨w3.heap.size, 2, none⟩ = some (.slice (some ⟨ge, 0, none⟩) k qe))
        (first | exact ⟨y1, y2, y3, y4, y5, y6⟩ | exact ⟨(xw.drew.below hb8).1, (xw.drew.below hb8).2.1, (xw.drew.below hb8).2.2, (xe.drew.below hb8).1, (xe.drew.below hb8).2.1, (xe.drew.below hb8).2.2⟩ | exact ⟨((xw.drew.below hb8).below hb9).1, ((xw.drew.below hb8).below hb9).2.1, ((xw.drew.below hb8).below hb9).2.2, ((xe.drew.below hb8).below hb9).1, ((xe.drew.below hb8).below hb9).2.1, ((xe.drew.below hb8).below hb9).2.2⟩)
        (first
          | (go_at_call 15; refine (til_many_spec (some ⟨ge, 0, none⟩) k qe W T el w8 (by omega) (I.OE.sl.drew.below hb8)).mono ?_; rintro e w9 ⟨rfl, hb9⟩; rw [HEE.out])
          | (go_at_call 15; refine (til_many_spec (some ⟨gw, 0, none⟩) k qw W T wl w8 (by omega) (I.OW.sl.drew.below hb8)).mono ?_; rintro e w9 ⟨rfl, hb9⟩; rw [HEW.out])
          | (go_at_call 15; refine (til_many_spec (some ⟨gw, 0, none⟩) k qw W T wl _ (by omega) I.OW.sl.drew).mono ?_; rintro e w8 ⟨rfl, hb8⟩; rw [HEW.out])
          | (go_at_call 15; refine (til_many_spec (some ⟨ge, 0, none⟩) k qe W T el _ (by omega) I.OE.sl.drew).mono ?_; rintro e w8 ⟨rfl, hb8⟩; rw [HEE.out])
          | fail)
      all_goals
        go_wp2_with fail
        go_ret
        exact ⟨ret_i (by rw [E.out, HEP.out]; first | exact HMUL.out | (push_cast; rfl)), belowW (belowW I.R.drew.B hb8) hb9⟩

theorem acrF_zero {W T : Int} {n : Nat} {bs : List Bool} {x : Int} (h : acrV W T n bs x = true) (s : Nat) (hs : s < 2 ^ T.toNat) : acrF W T n bs x s = (acrM W.toNat T.toNat n bs x.toNat s : Nat) := by
  rw [acrF, h, Bool.true_and, if_pos (inB_iff.2 ⟨by omega, by omega⟩), Int.toNat_natCast]
theorem acrF_no {W T : Int} {n : Nat} {bs : List Bool} {x s : Int} (h : acrV W T n bs x = false) : acrF W T n bs x s = -1 := by rw [acrF, h]; rfl

set_option maxRecDepth 100000 in
set_option maxHeartbeats 4000000 in
theorem acrSum_spec (A : Option Addr) (n c : Nat) (W T : Int) (bs : List Bool) (x : Int) (w : World) (hn : n ≤ 1048576) (h : Sl w A n (bs.map .bool)) (hx : I64 x) :
    Calls Try.prog 45 #[.agg #[.int .i64 W, .int .i64 T, .slice A n c], .int .i64 x] w fun e w' => e = .returned (.int .i64 (acrG W T n bs x)) ∧ Below w.heap.size w w' := by
  have hl := h.1
  rw [List.length_map] at hl
  cases hv : acrV W T n bs x
  · have E : Hid (acrG W T n bs x = -1) := by show _ = _; rw [acrG, hv]; rfl
    have HV := Lib.hid (acrF_no (s := 0) hv)
    clear hl hv
    go_enter Try.func45, Try.ntmps45
    go_wp2_with fail
    refine (acr_spec A n c W T bs x 0 _ hn (h.alloc _) hx ⟨by omega, by omega⟩).mono ?_; rintro e w1 ⟨rfl, hb1⟩
    rw [HV.out]
    have R1 := P1.of hb1
    go_wp2_with fail
    go_ret
    exact ⟨ret_i E.out.symm, R1.B⟩
  · have hv0 := hv
    obtain ⟨W, T, col, rfl, rfl, rfl, V, hc1, hc2⟩ := acrV_parts hv hl
    have n36 := V.n36
    have v3 := V.t1
    have hp : 2 ^ T ≤ 64 := Nat.le_trans (Nat.pow_le_pow_right (by omega) v3) (by decide)
    have hp0 : 0 < 2 ^ T := Nat.pow_pos (by omega)
    have HF := Lib.hid (show ∀ s : Nat, s < 2 ^ T → acrF W T n bs col s = (acrM W T n bs col s : Nat) from fun s hs => by
      have := acrF_zero hv0 s (by rw [Int.toNat_natCast]; exact hs)
      rwa [Int.toNat_natCast, Int.toNat_natCast, Int.toNat_natCast] at this)
    have HS := Lib.hid (show ∀ N, acrS W T n bs col N ≤ 68719476736 from fun N => acrS_le V col N)
    have HM := Lib.hid (show ∀ s, acrM W T n bs col s ≤ 68719476736 from fun s => acrM_le V col s)
    obtain ⟨P, hP⟩ : ∃ P, 2 ^ T = P := ⟨_, rfl⟩
    have hshl : wrap64 ((2 : Int) ^ T) = (P : Int) := by rw [← hP]; exact shl_pow v3
    have E : Hid (acrG W T n bs col = (acrS W T n bs col P : Nat)) := by show _ = _; rw [acrG, hv, if_pos rfl, ← hP, acrS_total V]; rfl
    rw [hP] at hp hp0 HF
    have z0 := HF.out 0 hp0
    have HZ := Lib.hid z0
    have hm0 := HM.out 0
    obtain ⟨m0, hm0e⟩ : ∃ m0, acrM W T n bs col 0 = m0 := ⟨_, rfl⟩
    have HM0 := Lib.hid hm0e
    have hneg : decide ((m0 : Int) < 0) = false := decide_eq_false (by omega)
    clear hl hv hv0 z0 hP hm0 hm0e
    go_enter Try.func45, Try.ntmps45
    go_wp2_with fail
    refine (acr_spec A n c W T bs col 0 _ hn (h.alloc _) hx ⟨by omega, by omega⟩).mono ?_; rintro e w1 ⟨rfl, hb1⟩
    rw [show acrF W T n bs col 0 = (m0 : Int) by rw [← HM0.out]; exact HZ.out]
    have R1 := P1.of hb1
    clear hb1
    have k1 := R1.X.1
    have k2 := R1.X.2.1
    have k3 := R1.X.2.2
    go_wp2_with fail
    go_loopg [5, 6] P (fun gk s5 s6 wx => ∃ s : Nat, s ≤ P ∧ gk = P - s ∧ s6 = .int .i64 s ∧ s5 = .int .i64 (acrS W T n bs col s : Nat) ∧ P1 w (.int .i64 W) (.int .i64 T) (.slice A n c) wx)
    case atStart => exact ⟨0, Nat.zero_le _, rfl, rfl, rfl, R1⟩
    case round =>
      clear R1 k1 k2 k3
      obtain ⟨s, hs, rfl, rfl, rfl, R⟩ := hrel
      have k1 := R.X.1
      have k2 := R.X.2.1
      have k3 := R.X.2.2
      have b1 := HS.out s
      have b2 := HM.out s
      by_cases hlt : s < P
      · obtain ⟨sv, hsv⟩ : ∃ sv, acrS W T n bs col s = sv := ⟨_, rfl⟩
        have HSV := Lib.hid hsv
        rw [hsv] at b1
        rw [hsv]
        obtain ⟨mv, hmv⟩ : ∃ mv, acrM W T n bs col s = mv := ⟨_, rfl⟩
        have HMV := Lib.hid hmv
        rw [hmv] at b2
        clear hsv hmv
        go_wp2_with fail
        refine (acr_spec A n c W T bs col s _ hn (h.below R.B) hx ⟨by omega, by omega⟩).mono ?_; rintro e w2 ⟨rfl, hb2⟩
        rw [show acrF W T n bs col s = (mv : Int) by rw [HF.out s hlt, HMV.out]]
        have R2 := R.below hb2
        go_wp2_with fail
        go_roundg (P - (s + 1))
        case measure => omega
        case rel => exact ⟨s + 1, by omega, rfl, by go_num, by rw [acrS, HSV.out, HMV.out]; go_num, R2⟩
      · have e : s = P := by omega
        subst e
        go_wp2_with fail
        go_ret
        exact ⟨ret_i E.out.symm, R.B⟩

end Go.Proofs.Ytcnkpcnbobiodaa
