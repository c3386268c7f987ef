/-
  HolesMany of the reference: what it returns.
-/
import Derived.Test.YtepnhhehfkcgkaaHolI
import Derived.BigQuiet
import Derived.Deep.QuietTactic
namespace Go.Proofs.Ytepnhhehfkcgkaa
open Go.RowKit
open Ho (frH nbH cntR Root LabOK Fix sumL)

def labI (W T : Nat) (bs : List Bool) (k : Nat) : List Int := (List.range k).map fun i => if frH W T bs i then (i : Int) else -1
theorem labI_len (W T : Nat) (bs : List Bool) (k : Nat) : (labI W T bs k).length = k := by simp [labI]
theorem labI_snoc (W T : Nat) (bs : List Bool) (k : Nat) : labI W T bs (k + 1) = labI W T bs k ++ [if frH W T bs k then (k : Int) else -1] := by rw [labI, List.range_succ, List.map_append]; rfl
theorem labI_ok (W T N : Nat) (bs : List Bool) : LabOK (frH W T bs) (nbH W) N (labI W T bs N) := by
  refine ⟨labI_len _ _ _ _, fun i hi => ?_⟩
  have e : ent (labI W T bs N) i = if frH W T bs i then (i : Int) else -1 := by
    unfold ent labI
    rw [List.getElem?_map, List.getElem?_range hi]; rfl
  rw [e]
  refine ⟨fun h => by rw [h]; rfl, fun h => ⟨i, by rw [h]; rfl, Nat.le_refl _, .refl h⟩⟩
def brk (nb : Nat → Nat → Bool) (p : List Int) (k j : Nat) : Prop := nb k j = true ∧ ent p j < ent p k ∧ 0 ≤ ent p j
/-- How far the pass has come. -/
def Pass (nb : Nat → Nat → Bool) (N k j : Nat) (p0 p : List Int) (c : Bool) : Prop := (c = false → p = p0 ∧ ∀ k' j', j' < N → (k' < k ∨ (k' = k ∧ j' < j)) → ¬ brk nb p k' j') ∧ (c = true → sumL p < sumL p0)
theorem Pass.skip {nb : Nat → Nat → Bool} {N k j : Nat} {p0 p : List Int} {c : Bool} (h : Pass nb N k j p0 p c) (hb : ¬ brk nb p k j) : Pass nb N k (j + 1) p0 p c :=
  ⟨fun hc => ⟨(h.1 hc).1, fun k' j' hj' hc' => by
    by_cases e : k' = k ∧ j' = j
    · obtain ⟨rfl, rfl⟩ := e; exact hb
    · exact (h.1 hc).2 k' j' hj' (by omega)⟩, h.2⟩
theorem Pass.upd {nb : Nat → Nat → Bool} {N k j : Nat} {p0 p : List Int} {c : Bool} (h : Pass nb N k j p0 p c) (hk : k < p.length) (hb : brk nb p k j) : Pass nb N k (j + 1) p0 (p.set k (ent p j)) true := by
  refine ⟨fun hc => (by cases hc), fun _ => ?_⟩
  have := Ho.sumL_set p k (ent p j) hk hb.2.1 hb.2.2
  cases c with
  | false => rw [← (h.1 rfl).1]; exact this
  | true => have := h.2 rfl; omega
theorem Pass.row {nb : Nat → Nat → Bool} {N k : Nat} {p0 p : List Int} {c : Bool} (h : Pass nb N k N p0 p c) : Pass nb N (k + 1) 0 p0 p c :=
  ⟨fun hc => ⟨(h.1 hc).1, fun k' j' hj' hc' => (h.1 hc).2 k' j' hj' (by omega)⟩, h.2⟩

theorem l1In_q (z lo hi : Int) (w : World) : Calls Try.prog 53 #[.int .i64 z, .int .i64 lo, .int .i64 hi] w fun e w' => e = .returned (.bool (inB z lo hi)) ∧ ∃ q, w' = w.drewN q :=
  (l1In_any z lo hi w).mono fun _ _ ⟨he, hw⟩ => ⟨he, 0, by subst hw; rfl⟩

set_option maxRecDepth 100000 in
set_option maxHeartbeats 8000000 in
theorem holes_spec (A : Option Addr) (n c : Nat) (W T : Int) (bs : List Bool) (w : World) (hn : n ≤ 1048576) (h : Sl w A n (bs.map .bool)) :
    Calls Try.prog 31 #[.agg #[.int .i64 W, .int .i64 T, .slice A n c]] w fun e w' => e = .returned (.int .i64 (holF W T n bs)) ∧ Below w.heap.size w w' := by
  have hl := h.1
  rw [List.length_map] at hl
  by_cases hv : validB W T n bs = true
  case neg =>
    have E : Hid (holF W T n bs = -1) := by show _ = _; rw [holF, if_neg hv]
    have hv' : validB W T n bs = false := by simpa using hv
    have HV := Lib.hid hv'
    clear hl hv hv'
    go_enter Try.func31, Try.ntmps31
    go_wp2_with fail
    refine (valid_spec A n c W T bs _ (by omega) (h.alloc _)).mono ?_; rintro e w1 ⟨rfl, hb1⟩
    rw [HV.out]
    have R1 := P1.of hb1
    go_wp2_with fail
    go_ret
    exact ⟨ret_i E.out.symm, R1.B⟩
  obtain ⟨W, T, rfl, rfl, V⟩ := valid_of hv hl
  have E : Hid (holF W T n bs = holN W T bs) := by show _ = _; rw [holF, if_pos hv]; rfl
  have HV := Lib.hid hv
  have v0 := V.w0
  have v1 := V.w1
  have v2 := V.t0
  have v3 := V.t1
  obtain ⟨ww, hw⟩ : ∃ ww, ww = W + 2 := ⟨_, rfl⟩
  obtain ⟨tt, ht⟩ : ∃ tt, tt = T + 2 := ⟨_, rfl⟩
  obtain ⟨N, hN⟩ : ∃ N, N = ww * tt := ⟨_, rfl⟩
  have hN64 : N ≤ 64 := by rw [hN]; exact Nat.mul_le_mul (show ww ≤ 8 by omega) (show tt ≤ 8 by omega)
  have hN0 : 0 < N := by rw [hN]; exact Nat.mul_pos (by omega) (by omega)
  have hmulI : (ww : Int) * (tt : Int) = (N : Int) := by rw [hN]; push_cast; rfl
  have hwI : (W : Int) + 2 = (ww : Int) := by omega
  have htI : (T : Int) + 2 = (tt : Int) := by omega
  have ww8 : 3 ≤ ww ∧ ww ≤ 8 := by omega
  have tt8 : 3 ≤ tt ∧ tt ≤ 8 := by omega
  have hz0 : ((ww : Int) == 0) = false := beq_eq_false_iff_ne.2 (by omega)
  have hW0 : ww ≠ 0 := by omega
  have hW1 : (1 : Int) ≤ (ww : Int) := by omega
  have hw3 : ww ≤ 8 := ww8.2
  have HWW := Lib.hid hw
  have HNN := Lib.hid (show N = (W + 2) * (T + 2) by rw [hN, hw, ht])
  have HN1 := Lib.hid hN
  clear hl hv hw ht hN
  go_enter Try.func31, Try.ntmps31
  go_wp2_with fail
  refine (valid_spec A n c W T bs _ (by omega) (h.alloc _)).mono ?_; rintro e w1 ⟨rfl, hb1⟩
  rw [HV.out]
  have R1 := (P1.of hb1).alloc (.cells #[] 3)
  have o1 : Own (w1.alloc (.cells #[] 3)) (w.heap.size + 1) (w1.alloc (.cells #[] 3)).heap.size 3 (some ⟨w1.heap.size, 0, none⟩) 0 0 ((labI W T bs 0).map (.int .i64)) := by
    simpa [labI] using Own.made (w := w1) (base := w.heap.size + 1) (e := 3) (cs := #[]) (n := 0) (P1.of hb1).z (by unfold maxLen; omega) rfl
  have R0 := P1.of hb1
  clear hb1
  have k1 := R0.X.1
  have k2 := R0.X.2.1
  have k3 := R0.X.2.2
  go_wp2_with fail
  clear k1 k2 k3 R0
  go_loopg [4, 5] N (fun gk s4 s5 wx => ∃ (k : Nat) (D : Option Addr) (q : Nat), k ≤ N ∧ gk = N - k ∧ s5 = .int .i64 k ∧ s4 = .slice D k q ∧ Own wx (w.heap.size + 1) wx.heap.size 3 D k q ((labI W T bs k).map (.int .i64)) ∧ P1 w (.int .i64 W) (.int .i64 T) (.slice A n c) wx)
  case atStart => exact ⟨0, _, 0, Nat.zero_le _, rfl, rfl, rfl, o1, R1⟩
  case round =>
    clear o1 R1
    obtain ⟨k, D, q, hk, rfl, rfl, rfl, own, R⟩ := hrel
    have k1 := R.X.1
    have k2 := R.X.2.1
    have k3 := R.X.2.2
    have hz := R.z
    by_cases hlt : k < N
    · obtain ⟨xx, hxx⟩ : ∃ xx, k % ww = xx := ⟨_, rfl⟩
      obtain ⟨yy, hyy⟩ : ∃ yy, k / ww = yy := ⟨_, rfl⟩
      have hxI : (k : Int) % (ww : Int) = (xx : Int) := by rw [← hxx]; simp
      have hyI : (k : Int) / (ww : Int) = (yy : Int) := by rw [← hyy]; simp
      have hxW : xx < ww := by rw [← hxx]; exact Nat.mod_lt k (by omega)
      have hyT : yy < tt := by rw [← hyy]; exact Nat.div_lt_of_lt_mul (by rw [← HN1.out]; exact hlt)
      have hxT : (k : Int).tmod (ww : Int) = (xx : Int) := by rw [Int.tmod_eq_emod_of_nonneg (by omega)]; exact hxI
      have u0 : IntKind.i64.wrap (yy : Int) = (yy : Int) := IntWalk.i64_in _ (by omega)
      have u1 : IntKind.i64.wrap ((xx : Int) - 1) = (xx : Int) - 1 := IntWalk.i64_in _ (by omega)
      have u2 : IntKind.i64.wrap ((yy : Int) - 1) = (yy : Int) - 1 := IntWalk.i64_in _ (by omega)
      have u3 : IntKind.i64.wrap (xx : Int) = (xx : Int) := IntWalk.i64_in _ (by omega)
      obtain ⟨av, hav⟩ : ∃ av, atB W T bs ((xx : Int) - 1) ((yy : Int) - 1) = av := ⟨_, rfl⟩
      have hfr : frH W T bs k = !av := by
        rw [Ho.frH, decide_eq_true (by rw [← HNN.out]; exact hlt), Bool.true_and, ← HWW.out, hxx, hyy, hav]
      have HS := Lib.hid (labI_snoc W T bs k)
      have HAV := Lib.hid hav
      have HFR := Lib.hid hfr
      have p0 : (0 : Int) ≤ (k : Int) := by omega
      have p1 : (k : Int) < ((k + 1 : Nat) : Int) := by omega
      have nz := Nat.ne_of_gt R.X.lt
      clear hxx hyy hav hfr
      go_wp2_with (at_builtin; go_loud (refine wpList_append1 rfl _ _ 39 rfl 3 (.int .i64 0) 8 Try.underlying39 Try.infoInt rfl (own.alloc _) rfl wr.heap.size _ rfl (cell0_new _ _ _) rfl (by omega) (by omega) (by simp; omega) ?_; intro C2 c2 w5 O5 hg5 hn5))
      have R5 := (R.alloc (.cells #[.int .i64 k] 3)).grown hg5 (own.alloc _) (Nat.le_refl _)
      obtain ⟨g5, hC5, hg51, hg52⟩ := O5.form (by omega)
      subst hC5
      have j1 := R5.X.1
      have j2 := R5.X.2.1
      have j3 := R5.X.2.2
      clear R own hg5 hn5 k1 k2 k3 nz
      go_region_held3 (fun w' => w'.cell? ⟨w.heap.size, 0, none⟩ = some (.int .i64 W) ∧ w'.cell? ⟨w.heap.size, 1, none⟩ = some (.int .i64 T) ∧ w'.cell? ⟨w.heap.size, 2, none⟩ = some (.slice A n c))
        (first | exact ⟨j1, j2, j3⟩ | go_keep)
        (first
          | (go_at_call 66; refine (l1At_any A n c W T bs ((xx : Int) - 1) ((yy : Int) - 1) _ V (h.below R5.B).drew ⟨by omega, by omega⟩ ⟨by omega, by omega⟩).mono ?_; rintro e w6 ⟨rfl, hb6⟩; rw [HAV.out]; have R6 := R5.drew.below hb6; have r1 := R6.X.1; have r2 := R6.X.2.1; have r3 := R6.X.2.2)
          | fail)
      all_goals
        have O6 := (O5.drew.below hb6).top (top' := w6.heap.size) hb6.size
        have f6 := O6.frozen k
        obtain ⟨v6, c6⟩ := O6.cellAt (k := k) (by omega)
        cases av
        · go_wp2_with fail
          go_roundg (N - (k + 1))
          case measure => omega
          case rel => exact ⟨k + 1, some ⟨g5, 0, none⟩, c2, by omega, rfl, by go_num, rfl, by rw [HS.out, HFR.out, List.map_append]; exact O6, R6⟩
        · have O7 := (O6.stored k (by omega) (.int .i64 (-1))).top (top' := (w6.setCell ⟨g5, k, none⟩ (.int .i64 (-1))).heap.size) (by simp)
          have R7 := R6.set (p := ⟨g5, k, none⟩) hg51 (.int .i64 (-1))
          have HL := Lib.hid (labI_len W T bs k)
          go_wp2_with fail
          go_roundg (N - (k + 1))
          case measure => omega
          case rel => exact ⟨k + 1, some ⟨g5, 0, none⟩, c2, by omega, rfl, by go_num, rfl, by
            rw [HS.out, HFR.out, List.map_append]
            rw [List.set_append_right _ _ (by rw [List.length_map, HL.out]; exact Nat.le_refl _), List.length_map, HL.out, Nat.sub_self] at O7
            exact O7, R7⟩
    · have e : k = N := by omega
      subst e
      obtain ⟨g, rfl, hg1, hg2⟩ := own.form hN0
      have LAB0 := Lib.hid (labI_ok W T k bs)
      have HSY := Lib.hid (show ∀ k j, nbH W k j = true → nbH W j k = true from fun k j => Ho.nb_symm)
      obtain ⟨top, htop⟩ : ∃ top, top = wr.heap.size := ⟨_, rfl⟩
      have own0 : Own wr (w.heap.size + 1) top 3 (some ⟨g, 0, none⟩) k q ((labI W T bs k).map (.int .i64)) := by rw [htop]; exact own
      obtain ⟨N, rfl⟩ : ∃ N, N = k := ⟨_, rfl⟩
      clear own htop hlt
      go_wp2_with fail
      clear k1 k2 k3
      go_loopg [6, 7, 8, 9] (sumL (labI W T bs N) + 1) (fun gk s6 _ _ _ wx => ∃ (p : List Int) (cf : Bool), s6 = .bool cf ∧ gk = (if cf then sumL p + 1 else 0) ∧ LabOK (frH W T bs) (nbH W) N p ∧ (cf = false → Fix (nbH W) N p) ∧ Own wx (w.heap.size + 1) top 3 (some ⟨g, 0, none⟩) N q (p.map (.int .i64)) ∧ P1 w (.int .i64 W) (.int .i64 T) (.slice A n c) wx)
      case atStart => exact ⟨labI W T bs N, true, rfl, rfl, LAB0.out, fun h => (by cases h), own0, R⟩
      case round =>
        clear own0 R
        obtain ⟨p0, cf, rfl, rfl, hlab, hfix, own, R⟩ := hrel
        have HLAB := Lib.hid hlab
        have HFIX := Lib.hid hfix
        clear hlab hfix
        cases cf
        · go_wp2_with fail
          go_loopg [10, 11] N (fun gk s10 s11 wx => ∃ k : Nat, k ≤ N ∧ gk = N - k ∧ s11 = .int .i64 k ∧ s10 = .int .i64 ((cntR (frH W T bs) (nbH W) k : Nat) - 1) ∧ wx = wr)
          case atStart => exact ⟨0, Nat.zero_le _, rfl, rfl, rfl, rfl⟩
          case round =>
            obtain ⟨k, hk, rfl, rfl, rfl, hwx⟩ := hrel
            subst hwx
            have hcc := Ho.cntR_le (frH W T bs) (nbH W) k
            obtain ⟨cc, hcce⟩ : ∃ cc, cntR (frH W T bs) (nbH W) k = cc := ⟨_, rfl⟩
            rw [hcce] at hcc
            have HCE := Lib.hid hcce
            by_cases hlt : k < N
            · rw [hcce]
              obtain ⟨b, off, z, hA, hz, hc⟩ := own.sl.atI hlt
              injection hA with hA; injection hA with e1 e2 _
              subst e1 e2
              rw [Nat.zero_add] at hc
              have hent : ent p0 k = z := ent_of hz
              have hroot := Ho.lab_root HLAB.out HSY.out (fun i hi => by rw [HNN.out]; exact fr_lt hi) (HFIX.out (by first | exact rfl | trivial)) hlt
              rw [hent] at hroot
              have p1 : (0 : Int) ≤ (k : Int) := by omega
              have p2 : (k : Int) < (N : Int) := by omega
              have HR := Lib.hid hroot
              clear hcce hz hent hroot
              cases hzb : (z == (k : Int))
              · have HN' := Lib.hid (show cntR (frH W T bs) (nbH W) (k + 1) = cc by rw [Ho.cntR_no (fun hr => by have := HR.out.2 hr; rw [hzb] at this; cases this), HCE.out])
                go_wp2_with fail
                go_roundg (N - (k + 1))
                case measure => omega
                case rel => exact ⟨k + 1, by omega, rfl, by go_num, by rw [HN'.out], rfl⟩
              · have HN' := Lib.hid (show cntR (frH W T bs) (nbH W) (k + 1) = cc + 1 by rw [Ho.cntR_yes (HR.out.1 hzb), HCE.out])
                go_wp2_with fail
                go_roundg (N - (k + 1))
                case measure => omega
                case rel => exact ⟨k + 1, by omega, rfl, by go_num, by rw [HN'.out]; go_num, rfl⟩
            · have e : k = N := by omega
              subst e
              have EE : Hid (((cntR (frH W T bs) (nbH W) k : Nat) : Int) - 1 = holN W T bs) := by show _ = _; rw [holN, ← HNN.out]
              clear hcce
              go_wp2_with fail
              go_ret
              exact ⟨ret_i (by rw [E.out, ← EE.out]), R.B⟩
        · go_wp2_with fail
          go_loopg [6, 7, 8, 9] N (fun gk s6 s7 _ _ wx => ∃ (k : Nat) (p : List Int) (cf : Bool), k ≤ N ∧ gk = N - k ∧ s7 = .int .i64 k ∧ s6 = .bool cf ∧ LabOK (frH W T bs) (nbH W) N p ∧ Pass (nbH W) N k 0 p0 p cf ∧ Own wx (w.heap.size + 1) top 3 (some ⟨g, 0, none⟩) N q (p.map (.int .i64)) ∧ P1 w (.int .i64 W) (.int .i64 T) (.slice A n c) wx)
          case atStart => exact ⟨0, p0, false, Nat.zero_le _, rfl, rfl, rfl, HLAB.out, ⟨fun _ => ⟨rfl, fun k' j' _ hc => by omega⟩, fun h => (by cases h)⟩, own, R⟩
          case round =>
            clear own R
            obtain ⟨k, p, cf, hk, rfl, rfl, rfl, hlab, hpass, own, R⟩ := hrel
            have HLAB := Lib.hid hlab
            have HPASS := Lib.hid hpass
            clear hlab hpass
            by_cases hlt : k < N
            · go_wp2_with fail
              go_loopg [6, 8, 9] N (fun gk s6 s8 _ wx => ∃ (j : Nat) (p : List Int) (cf : Bool), j ≤ N ∧ gk = N - j ∧ s8 = .int .i64 j ∧ s6 = .bool cf ∧ LabOK (frH W T bs) (nbH W) N p ∧ Pass (nbH W) N k j p0 p cf ∧ Own wx (w.heap.size + 1) top 3 (some ⟨g, 0, none⟩) N q (p.map (.int .i64)) ∧ P1 w (.int .i64 W) (.int .i64 T) (.slice A n c) wx)
              case atStart => exact ⟨0, p, cf, Nat.zero_le _, rfl, rfl, rfl, HLAB.out, HPASS.out, own, R⟩
              case round =>
                clear own R
                obtain ⟨j, p, cf, hj, rfl, rfl, rfl, hlab, hpass, own, R⟩ := hrel
                have HLAB := Lib.hid hlab
                have HPASS := Lib.hid hpass
                clear hlab hpass
                by_cases hjt : j < N
                · obtain ⟨b0, off0, zk, hA0, hzk, hck⟩ := own.sl.atI hlt
                  injection hA0 with hA0; injection hA0 with e1 e2 _
                  subst e1 e2
                  obtain ⟨b0, off0, zj, hA0, hzj, hcj⟩ := own.sl.atI hjt
                  injection hA0 with hA0; injection hA0 with e1 e2 _
                  subst e1 e2
                  rw [Nat.zero_add] at hck hcj
                  have hek : ent p k = zk := ent_of hzk
                  have hej : ent p j = zj := ent_of hzj
                  have fk := own.frozen k
                  obtain ⟨xk, hxk⟩ : ∃ xk, k % ww = xk := ⟨_, rfl⟩
                  obtain ⟨yk, hyk⟩ : ∃ yk, k / ww = yk := ⟨_, rfl⟩
                  obtain ⟨xj, hxj⟩ : ∃ xj, j % ww = xj := ⟨_, rfl⟩
                  obtain ⟨yj, hyj⟩ : ∃ yj, j / ww = yj := ⟨_, rfl⟩
                  have i1 : (k : Int) % (ww : Int) = (xk : Int) := by rw [← hxk]; simp
                  have i2 : (k : Int) / (ww : Int) = (yk : Int) := by rw [← hyk]; simp
                  have i3 : (j : Int) % (ww : Int) = (xj : Int) := by rw [← hxj]; simp
                  have i4 : (j : Int) / (ww : Int) = (yj : Int) := by rw [← hyj]; simp
                  have w1 : xk < ww := by rw [← hxk]; exact Nat.mod_lt k (by omega)
                  have w2 : yk < tt := by rw [← hyk]; exact Nat.div_lt_of_lt_mul (by rw [← HN1.out]; exact hlt)
                  have w3 : xj < ww := by rw [← hxj]; exact Nat.mod_lt j (by omega)
                  have w4 : yj < tt := by rw [← hyj]; exact Nat.div_lt_of_lt_mul (by rw [← HN1.out]; exact hjt)
                  have t8 : tt ≤ 8 := tt8.2
                  have m1 : (k : Int).tmod (ww : Int) = (xk : Int) := by rw [Int.tmod_eq_emod_of_nonneg (by omega)]; exact i1
                  have m2 : (j : Int).tmod (ww : Int) = (xj : Int) := by rw [Int.tmod_eq_emod_of_nonneg (by omega)]; exact i3
                  have u1 : IntKind.i64.wrap ((xk : Int) - (xj : Int)) = (xk : Int) - (xj : Int) := IntWalk.i64_in _ (by omega)
                  have u2 : IntKind.i64.wrap ((yk : Int) - (yj : Int)) = (yk : Int) - (yj : Int) := IntWalk.i64_in _ (by omega)
                  have u3 : IntKind.i64.wrap (xk : Int) = (xk : Int) := IntWalk.i64_in _ (by omega)
                  have u4 : IntKind.i64.wrap (xj : Int) = (xj : Int) := IntWalk.i64_in _ (by omega)
                  have u5 : IntKind.i64.wrap (yk : Int) = (yk : Int) := IntWalk.i64_in _ (by omega)
                  have u6 : IntKind.i64.wrap (yj : Int) = (yj : Int) := IntWalk.i64_in _ (by omega)
                  obtain ⟨b1, hb1⟩ : ∃ b1, inB ((xk : Int) - (xj : Int)) (-1) 1 = b1 := ⟨_, rfl⟩
                  obtain ⟨b2, hb2⟩ : ∃ b2, inB ((yk : Int) - (yj : Int)) (-1) 1 = b2 := ⟨_, rfl⟩
                  have HNB := Lib.hid (show nbH W k j = (b1 && b2) by rw [Ho.nbH, ← HWW.out, hxk, hyk, hxj, hyj, hb1, hb2])
                  have HB1 := Lib.hid hb1
                  have HB2 := Lib.hid hb2
                  have HEK := Lib.hid hek
                  have HEJ := Lib.hid hej
                  have p1 : (0 : Int) ≤ (k : Int) := by omega
                  have p2 : (k : Int) < (N : Int) := by omega
                  have p3 : (0 : Int) ≤ (j : Int) := by omega
                  have p4 : (j : Int) < (N : Int) := by omega
                  have HNO := Lib.hid (show ((b1 && b2) = true → zj < zk → 0 ≤ zj → False) → Pass (nbH W) N k (j + 1) p0 p cf from fun hno => HPASS.out.skip (fun hb => hno (by rw [← HNB.out]; exact hb.1) (by have := hb.2.1; rw [HEJ.out, HEK.out] at this; exact this) (by have := hb.2.2; rw [HEJ.out] at this; exact this)))
                  have HPL := Lib.hid HLAB.out.1
                  clear hxk hyk hxj hyj hek hej hzk hzj
                  cases b1
                  · go_wp2_with fail
                    refine wp_region_held_drew (S := fun _ => True) (by kernel_rfl) trivial (fun hHeld => ?_)
                    refine wpAnyH_take (i := 0) (oi := { dst := some 58, op := _, type := _, pos := _, after := _, guard := _ }) (v := ?v0a) rfl (by kernel_rfl) (by kernel_rfl) (by kernel_rfl) (fun _ _ _ h => h) (Or.inl ⟨by rfl, ?y0a⟩) (by assumption) ?r0a
                    case y0a =>
                      intro w hSw
                      try dsimp only at hSw
                      go_simp
                      try with_reducible rfl
                    simp only [Act.put, List.setIfInBounds_toArray, List.set_cons_zero, List.set_cons_succ]
                    refine wpAnyH_take (i := 1) (oi := { dst := some 59, op := _, type := _, pos := _, after := _, guard := _ }) (v := ?v1a) rfl (by kernel_rfl) (by kernel_rfl) (by kernel_rfl) (fun _ _ _ h => h) (Or.inl ⟨by rfl, ?y1a⟩) (by assumption) ?r1a
                    case y1a =>
                      intro w hSw
                      try dsimp only at hSw
                      go_simp
                      try with_reducible rfl
                    simp only [Act.put, List.setIfInBounds_toArray, List.set_cons_zero, List.set_cons_succ]
                    refine wpAnyH_take (i := 2) (oi := { dst := some 60, op := _, type := _, pos := _, after := _, guard := _ }) (v := ?v2a) rfl (by kernel_rfl) (by kernel_rfl) (by kernel_rfl) (fun _ _ _ h => h) (Or.inl ⟨by rfl, ?y2a⟩) (by assumption) ?r2a
                    case y2a =>
                      intro w hSw
                      try dsimp only at hSw
                      go_simp
                      try with_reducible rfl
                    simp only [Act.put, List.setIfInBounds_toArray, List.set_cons_zero, List.set_cons_succ]
                    refine wpAnyH_take (i := 3) (oi := { dst := some 61, op := _, type := _, pos := _, after := _, guard := _ }) (v := ?v3a) rfl (by kernel_rfl) (by kernel_rfl) (by kernel_rfl) (fun _ _ _ h => h) (Or.inl ⟨by rfl, ?y3a⟩) (by assumption) ?r3a
                    case y3a =>
                      intro w hSw
                      try dsimp only at hSw
                      go_simp
                      try with_reducible rfl
                    simp only [Act.put, List.setIfInBounds_toArray, List.set_cons_zero, List.set_cons_succ]
                    refine wpAnyH_take (i := 4) (oi := { dst := some 62, op := _, type := _, pos := _, after := _, guard := _ }) (v := ?v4a) rfl (by kernel_rfl) (by kernel_rfl) (by kernel_rfl) (fun _ _ _ h => h) (Or.inl ⟨by rfl, ?y4a⟩) (by assumption) ?r4a
                    case y4a =>
                      intro w hSw
                      try dsimp only at hSw
                      go_simp
                      try with_reducible rfl
                    simp only [Act.put, List.setIfInBounds_toArray, List.set_cons_zero, List.set_cons_succ]
                    refine wpAnyH_take (i := 5) (oi := { dst := some 63, op := _, type := _, pos := _, after := _, guard := _ }) (v := ?v5a) rfl (by kernel_rfl) (by kernel_rfl) (by kernel_rfl) (fun _ _ _ h => h) (Or.inl ⟨by rfl, ?y5a⟩) (by assumption) ?r5a
                    case y5a =>
                      intro w hSw
                      try dsimp only at hSw
                      go_simp
                      try with_reducible rfl
                    simp only [Act.put, List.setIfInBounds_toArray, List.set_cons_zero, List.set_cons_succ]
                    refine wpAnyH_take (i := 6) (oi := { dst := some 64, op := _, type := _, pos := _, after := _, guard := _ }) (v := ?v6a) rfl (by kernel_rfl) (by kernel_rfl) (by kernel_rfl) (fun _ _ _ h => h) (Or.inl ⟨by rfl, ?y6a⟩) (by assumption) ?r6a
                    case y6a =>
                      intro w hSw
                      try dsimp only at hSw
                      go_simp
                      try with_reducible rfl
                    simp only [Act.put, List.setIfInBounds_toArray, List.set_cons_zero, List.set_cons_succ]
                    refine wpAnyH_ready (rs := [7]) (by kernel_rfl) (by simp) ?_
                    refine AllReadyH.cons rfl (fun K hK => ?_) AllReadyH.nil
                    go_simp
                    go_at_call 53
                    refine (l1In_any _ _ _ _).mono ?_
                    rintro e w6 ⟨rfl, rfl⟩
                    rw [HB1.out]
                    dsimp only
                    clear hHeld
                    refine hK.out _ _ trivial (fun hHeld => ?_)
                    clear hK K
                    try simp only [Act.put, List.setIfInBounds_toArray, List.set_cons_zero, List.set_cons_succ]
                    refine wpAnyH_take (i := 8) (oi := { dst := some 66, op := _, type := _, pos := _, after := _, guard := _ }) (v := ?v8a) rfl (by kernel_rfl) (by kernel_rfl) (by kernel_rfl) (fun _ _ _ h => h) (Or.inl ⟨by rfl, ?y8a⟩) (by assumption) ?r8a
                    case y8a =>
                      intro w hSw
                      try dsimp only at hSw
                      go_simp
                      try with_reducible rfl
                    simp only [Act.put, List.setIfInBounds_toArray, List.set_cons_zero, List.set_cons_succ]
                    refine wpAnyH_take (i := 9) (oi := { dst := some 67, op := _, type := _, pos := _, after := _, guard := _ }) (v := undef) rfl (by kernel_rfl) (by kernel_rfl) (by kernel_rfl) (fun _ _ _ h => h) (Or.inr ⟨by rfl, rfl⟩) (by assumption) ?_
                    simp only [Act.put, List.setIfInBounds_toArray, List.set_cons_zero, List.set_cons_succ]
                    refine wpAnyH_take (i := 10) (oi := { dst := some 68, op := _, type := _, pos := _, after := _, guard := _ }) (v := undef) rfl (by kernel_rfl) (by kernel_rfl) (by kernel_rfl) (fun _ _ _ h => h) (Or.inr ⟨by rfl, rfl⟩) (by assumption) ?_
                    simp only [Act.put, List.setIfInBounds_toArray, List.set_cons_zero, List.set_cons_succ]
                    refine wpAnyH_take (i := 11) (oi := { dst := some 69, op := _, type := _, pos := _, after := _, guard := _ }) (v := undef) rfl (by kernel_rfl) (by kernel_rfl) (by kernel_rfl) (fun _ _ _ h => h) (Or.inr ⟨by rfl, rfl⟩) (by assumption) ?_
                    simp only [Act.put, List.setIfInBounds_toArray, List.set_cons_zero, List.set_cons_succ]
                    refine wpAnyH_take (i := 12) (oi := { dst := some 70, op := _, type := _, pos := _, after := _, guard := _ }) (v := undef) rfl (by kernel_rfl) (by kernel_rfl) (by kernel_rfl) (fun _ _ _ h => h) (Or.inr ⟨by rfl, rfl⟩) (by assumption) ?_
                    simp only [Act.put, List.setIfInBounds_toArray, List.set_cons_zero, List.set_cons_succ]
                    refine wpAnyH_take (i := 13) (oi := { dst := some 71, op := _, type := _, pos := _, after := _, guard := _ }) (v := undef) rfl (by kernel_rfl) (by kernel_rfl) (by kernel_rfl) (fun _ _ _ h => h) (Or.inr ⟨by rfl, rfl⟩) (by assumption) ?_
                    simp only [Act.put, List.setIfInBounds_toArray, List.set_cons_zero, List.set_cons_succ]
                    refine wpAnyH_take (i := 14) (oi := { dst := some 72, op := _, type := _, pos := _, after := _, guard := _ }) (v := undef) rfl (by kernel_rfl) (by kernel_rfl) (by kernel_rfl) (fun _ _ _ h => h) (Or.inr ⟨by rfl, rfl⟩) (by assumption) ?_
                    simp only [Act.put, List.setIfInBounds_toArray, List.set_cons_zero, List.set_cons_succ]
                    refine wpAnyH_take (i := 15) (oi := { dst := some 73, op := _, type := _, pos := _, after := _, guard := _ }) (v := undef) rfl (by kernel_rfl) (by kernel_rfl) (by kernel_rfl) (fun _ _ _ h => h) (Or.inr ⟨by rfl, rfl⟩) (by assumption) ?_
                    simp only [Act.put, List.setIfInBounds_toArray, List.set_cons_zero, List.set_cons_succ]
                    refine wpAnyH_take (i := 16) (oi := { dst := some 74, op := _, type := _, pos := _, after := _, guard := _ }) (v := undef) rfl (by kernel_rfl) (by kernel_rfl) (by kernel_rfl) (fun _ _ _ h => h) (Or.inr ⟨by rfl, rfl⟩) (by assumption) ?_
                    simp only [Act.put, List.setIfInBounds_toArray, List.set_cons_zero, List.set_cons_succ]
                    refine wpAnyH_take (i := 17) (oi := { dst := some 75, op := _, type := _, pos := _, after := _, guard := _ }) (v := ?v17a) rfl (by kernel_rfl) (by kernel_rfl) (by kernel_rfl) (fun _ _ _ h => h) (Or.inl ⟨by rfl, ?y17a⟩) (by assumption) ?r17a
                    case y17a =>
                      intro w hSw
                      try dsimp only at hSw
                      go_simp
                      try with_reducible rfl
                    simp only [Act.put, List.setIfInBounds_toArray, List.set_cons_zero, List.set_cons_succ]
                    refine wpAnyH_ready (rs := [18]) (by kernel_rfl) (by simp) ?_
                    refine AllReadyH.cons rfl (fun K hK => ?_) AllReadyH.nil
                    go_simp
                    try dsimp only
                    clear hHeld
                    refine hK.out _ _ trivial (fun hHeld => ?_)
                    clear hK K
                    try simp only [Act.put, List.setIfInBounds_toArray, List.set_cons_zero, List.set_cons_succ]
                    refine wpAnyH_done (by kernel_rfl) ?_ _
                    go_wp2_with fail
                    refine wp_region_held_drew (S := fun w' => w'.cell? ⟨g, k, none⟩ = some (.int .i64 zk) ∧ w'.cell? ⟨g, j, none⟩ = some (.int .i64 zj)) (by kernel_rfl) (by first | exact ⟨hck, hcj⟩ | go_keep) (fun hHeld => ?_)
                    refine wpAnyH_take (i := 0) (oi := { dst := some 76, op := _, type := _, pos := _, after := _, guard := _ }) (v := ?v0az) rfl (by kernel_rfl) (by kernel_rfl) (by kernel_rfl) (fun _ _ _ h => h) (Or.inl ⟨by rfl, ?y0az⟩) (by assumption) ?r0az
                    case y0az =>
                      intro w hSw
                      try dsimp only at hSw
                      go_simp
                      try with_reducible rfl
                    simp only [Act.put, List.setIfInBounds_toArray, List.set_cons_zero, List.set_cons_succ]
                    refine wpAnyH_take (i := 1) (oi := { dst := some 77, op := _, type := _, pos := _, after := _, guard := _ }) (v := ?v1az) rfl (by kernel_rfl) (by kernel_rfl) (by kernel_rfl) (fun _ _ _ h => h) (Or.inl ⟨by rfl, ?y1az⟩) (by assumption) ?r1az
                    case y1az =>
                      intro w hSw
                      try dsimp only at hSw
                      go_simp
                      try with_reducible rfl
                    simp only [Act.put, List.setIfInBounds_toArray, List.set_cons_zero, List.set_cons_succ]
                    refine wpAnyH_take (i := 2) (oi := { dst := some 78, op := _, type := _, pos := _, after := _, guard := _ }) (v := undef) rfl (by kernel_rfl) (by kernel_rfl) (by kernel_rfl) (fun _ _ _ h => h) (Or.inr ⟨by rfl, rfl⟩) (by assumption) ?_
                    simp only [Act.put, List.setIfInBounds_toArray, List.set_cons_zero, List.set_cons_succ]
                    refine wpAnyH_take (i := 3) (oi := { dst := some 79, op := _, type := _, pos := _, after := _, guard := _ }) (v := undef) rfl (by kernel_rfl) (by kernel_rfl) (by kernel_rfl) (fun _ _ _ h => h) (Or.inr ⟨by rfl, rfl⟩) (by assumption) ?_
                    simp only [Act.put, List.setIfInBounds_toArray, List.set_cons_zero, List.set_cons_succ]
                    refine wpAnyH_take (i := 4) (oi := { dst := some 80, op := _, type := _, pos := _, after := _, guard := _ }) (v := undef) rfl (by kernel_rfl) (by kernel_rfl) (by kernel_rfl) (fun _ _ _ h => h) (Or.inr ⟨by rfl, rfl⟩) (by assumption) ?_
                    simp only [Act.put, List.setIfInBounds_toArray, List.set_cons_zero, List.set_cons_succ]
                    refine wpAnyH_take (i := 5) (oi := { dst := some 81, op := _, type := _, pos := _, after := _, guard := _ }) (v := undef) rfl (by kernel_rfl) (by kernel_rfl) (by kernel_rfl) (fun _ _ _ h => h) (Or.inr ⟨by rfl, rfl⟩) (by assumption) ?_
                    simp only [Act.put, List.setIfInBounds_toArray, List.set_cons_zero, List.set_cons_succ]
                    refine wpAnyH_take (i := 6) (oi := { dst := some 82, op := _, type := _, pos := _, after := _, guard := _ }) (v := undef) rfl (by kernel_rfl) (by kernel_rfl) (by kernel_rfl) (fun _ _ _ h => h) (Or.inr ⟨by rfl, rfl⟩) (by assumption) ?_
                    simp only [Act.put, List.setIfInBounds_toArray, List.set_cons_zero, List.set_cons_succ]
                    refine wpAnyH_take (i := 7) (oi := { dst := some 83, op := _, type := _, pos := _, after := _, guard := _ }) (v := undef) rfl (by kernel_rfl) (by kernel_rfl) (by kernel_rfl) (fun _ _ _ h => h) (Or.inr ⟨by rfl, rfl⟩) (by assumption) ?_
                    simp only [Act.put, List.setIfInBounds_toArray, List.set_cons_zero, List.set_cons_succ]
                    refine wpAnyH_take (i := 8) (oi := { dst := some 84, op := _, type := _, pos := _, after := _, guard := _ }) (v := undef) rfl (by kernel_rfl) (by kernel_rfl) (by kernel_rfl) (fun _ _ _ h => h) (Or.inr ⟨by rfl, rfl⟩) (by assumption) ?_
                    simp only [Act.put, List.setIfInBounds_toArray, List.set_cons_zero, List.set_cons_succ]
                    refine wpAnyH_take (i := 9) (oi := { dst := some 85, op := _, type := _, pos := _, after := _, guard := _ }) (v := undef) rfl (by kernel_rfl) (by kernel_rfl) (by kernel_rfl) (fun _ _ _ h => h) (Or.inr ⟨by rfl, rfl⟩) (by assumption) ?_
                    simp only [Act.put, List.setIfInBounds_toArray, List.set_cons_zero, List.set_cons_succ]
                    refine wpAnyH_take (i := 10) (oi := { dst := some 86, op := _, type := _, pos := _, after := _, guard := _ }) (v := undef) rfl (by kernel_rfl) (by kernel_rfl) (by kernel_rfl) (fun _ _ _ h => h) (Or.inr ⟨by rfl, rfl⟩) (by assumption) ?_
                    simp only [Act.put, List.setIfInBounds_toArray, List.set_cons_zero, List.set_cons_succ]
                    refine wpAnyH_take (i := 11) (oi := { dst := some 87, op := _, type := _, pos := _, after := _, guard := _ }) (v := ?v11az) rfl (by kernel_rfl) (by kernel_rfl) (by kernel_rfl) (fun _ _ _ h => h) (Or.inl ⟨by rfl, ?y11az⟩) (by assumption) ?r11az
                    case y11az =>
                      intro w hSw
                      try dsimp only at hSw
                      go_simp
                      try with_reducible rfl
                    simp only [Act.put, List.setIfInBounds_toArray, List.set_cons_zero, List.set_cons_succ]
                    refine wpAnyH_take (i := 12) (oi := { dst := some 88, op := _, type := _, pos := _, after := _, guard := _ }) (v := ?v12az) rfl (by kernel_rfl) (by kernel_rfl) (by kernel_rfl) (fun _ _ _ h => h) (Or.inl ⟨by rfl, ?y12az⟩) (by assumption) ?r12az
                    case y12az =>
                      intro w hSw
                      try dsimp only at hSw
                      go_simp
                      try with_reducible rfl
                    simp only [Act.put, List.setIfInBounds_toArray, List.set_cons_zero, List.set_cons_succ]
                    refine wpAnyH_take (i := 13) (oi := { dst := some 89, op := _, type := _, pos := _, after := _, guard := _ }) (v := undef) rfl (by kernel_rfl) (by kernel_rfl) (by kernel_rfl) (fun _ _ _ h => h) (Or.inr ⟨by rfl, rfl⟩) (by assumption) ?_
                    simp only [Act.put, List.setIfInBounds_toArray, List.set_cons_zero, List.set_cons_succ]
                    refine wpAnyH_take (i := 14) (oi := { dst := some 90, op := _, type := _, pos := _, after := _, guard := _ }) (v := undef) rfl (by kernel_rfl) (by kernel_rfl) (by kernel_rfl) (fun _ _ _ h => h) (Or.inr ⟨by rfl, rfl⟩) (by assumption) ?_
                    simp only [Act.put, List.setIfInBounds_toArray, List.set_cons_zero, List.set_cons_succ]
                    refine wpAnyH_take (i := 15) (oi := { dst := some 91, op := _, type := _, pos := _, after := _, guard := _ }) (v := undef) rfl (by kernel_rfl) (by kernel_rfl) (by kernel_rfl) (fun _ _ _ h => h) (Or.inr ⟨by rfl, rfl⟩) (by assumption) ?_
                    simp only [Act.put, List.setIfInBounds_toArray, List.set_cons_zero, List.set_cons_succ]
                    refine wpAnyH_take (i := 16) (oi := { dst := some 92, op := _, type := _, pos := _, after := _, guard := _ }) (v := undef) rfl (by kernel_rfl) (by kernel_rfl) (by kernel_rfl) (fun _ _ _ h => h) (Or.inr ⟨by rfl, rfl⟩) (by assumption) ?_
                    simp only [Act.put, List.setIfInBounds_toArray, List.set_cons_zero, List.set_cons_succ]
                    refine wpAnyH_take (i := 17) (oi := { dst := some 93, op := _, type := _, pos := _, after := _, guard := _ }) (v := undef) rfl (by kernel_rfl) (by kernel_rfl) (by kernel_rfl) (fun _ _ _ h => h) (Or.inr ⟨by rfl, rfl⟩) (by assumption) ?_
                    simp only [Act.put, List.setIfInBounds_toArray, List.set_cons_zero, List.set_cons_succ]
                    refine wpAnyH_take (i := 18) (oi := { dst := some 94, op := _, type := _, pos := _, after := _, guard := _ }) (v := ?v18az) rfl (by kernel_rfl) (by kernel_rfl) (by kernel_rfl) (fun _ _ _ h => h) (Or.inl ⟨by rfl, ?y18az⟩) (by assumption) ?r18az
                    case y18az =>
                      intro w hSw
                      try dsimp only at hSw
                      go_simp
                      try with_reducible rfl
                    simp only [Act.put, List.setIfInBounds_toArray, List.set_cons_zero, List.set_cons_succ]
                    refine wpAnyH_done (by kernel_rfl) ?_ _
                    go_wp2_with fail
                    go_roundg (N - (j + 1))
                    case measure => omega
                    case rel => exact ⟨j + 1, p, cf, by omega, rfl, by go_num, rfl, HLAB.out, HNO.out (fun h _ _ => by cases h), own, (by first | exact R.drew.drew | exact R.drew)⟩
                  · go_wp2_with fail
                    refine wp_region_held_drew (S := fun _ => True) (by kernel_rfl) trivial (fun hHeld => ?_)
                    refine wpAnyH_take (i := 0) (oi := { dst := some 58, op := _, type := _, pos := _, after := _, guard := _ }) (v := ?v0b) rfl (by kernel_rfl) (by kernel_rfl) (by kernel_rfl) (fun _ _ _ h => h) (Or.inl ⟨by rfl, ?y0b⟩) (by assumption) ?r0b
                    case y0b =>
                      intro w hSw
                      try dsimp only at hSw
                      go_simp
                      try with_reducible rfl
                    simp only [Act.put, List.setIfInBounds_toArray, List.set_cons_zero, List.set_cons_succ]
                    refine wpAnyH_take (i := 1) (oi := { dst := some 59, op := _, type := _, pos := _, after := _, guard := _ }) (v := ?v1b) rfl (by kernel_rfl) (by kernel_rfl) (by kernel_rfl) (fun _ _ _ h => h) (Or.inl ⟨by rfl, ?y1b⟩) (by assumption) ?r1b
                    case y1b =>
                      intro w hSw
                      try dsimp only at hSw
                      go_simp
                      try with_reducible rfl
                    simp only [Act.put, List.setIfInBounds_toArray, List.set_cons_zero, List.set_cons_succ]
                    refine wpAnyH_take (i := 2) (oi := { dst := some 60, op := _, type := _, pos := _, after := _, guard := _ }) (v := ?v2b) rfl (by kernel_rfl) (by kernel_rfl) (by kernel_rfl) (fun _ _ _ h => h) (Or.inl ⟨by rfl, ?y2b⟩) (by assumption) ?r2b
                    case y2b =>
                      intro w hSw
                      try dsimp only at hSw
                      go_simp
                      try with_reducible rfl
                    simp only [Act.put, List.setIfInBounds_toArray, List.set_cons_zero, List.set_cons_succ]
                    refine wpAnyH_take (i := 3) (oi := { dst := some 61, op := _, type := _, pos := _, after := _, guard := _ }) (v := ?v3b) rfl (by kernel_rfl) (by kernel_rfl) (by kernel_rfl) (fun _ _ _ h => h) (Or.inl ⟨by rfl, ?y3b⟩) (by assumption) ?r3b
                    case y3b =>
                      intro w hSw
                      try dsimp only at hSw
                      go_simp
                      try with_reducible rfl
                    simp only [Act.put, List.setIfInBounds_toArray, List.set_cons_zero, List.set_cons_succ]
                    refine wpAnyH_take (i := 4) (oi := { dst := some 62, op := _, type := _, pos := _, after := _, guard := _ }) (v := ?v4b) rfl (by kernel_rfl) (by kernel_rfl) (by kernel_rfl) (fun _ _ _ h => h) (Or.inl ⟨by rfl, ?y4b⟩) (by assumption) ?r4b
                    case y4b =>
                      intro w hSw
                      try dsimp only at hSw
                      go_simp
                      try with_reducible rfl
                    simp only [Act.put, List.setIfInBounds_toArray, List.set_cons_zero, List.set_cons_succ]
                    refine wpAnyH_take (i := 5) (oi := { dst := some 63, op := _, type := _, pos := _, after := _, guard := _ }) (v := ?v5b) rfl (by kernel_rfl) (by kernel_rfl) (by kernel_rfl) (fun _ _ _ h => h) (Or.inl ⟨by rfl, ?y5b⟩) (by assumption) ?r5b
                    case y5b =>
                      intro w hSw
                      try dsimp only at hSw
                      go_simp
                      try with_reducible rfl
                    simp only [Act.put, List.setIfInBounds_toArray, List.set_cons_zero, List.set_cons_succ]
                    refine wpAnyH_take (i := 6) (oi := { dst := some 64, op := _, type := _, pos := _, after := _, guard := _ }) (v := ?v6b) rfl (by kernel_rfl) (by kernel_rfl) (by kernel_rfl) (fun _ _ _ h => h) (Or.inl ⟨by rfl, ?y6b⟩) (by assumption) ?r6b
                    case y6b =>
                      intro w hSw
                      try dsimp only at hSw
                      go_simp
                      try with_reducible rfl
                    simp only [Act.put, List.setIfInBounds_toArray, List.set_cons_zero, List.set_cons_succ]
                    refine wpAnyH_ready (rs := [7]) (by kernel_rfl) (by simp) ?_
                    refine AllReadyH.cons rfl (fun K hK => ?_) AllReadyH.nil
                    go_simp
                    go_at_call 53
                    refine (l1In_any _ _ _ _).mono ?_
                    rintro e w6 ⟨rfl, rfl⟩
                    rw [HB1.out]
                    dsimp only
                    clear hHeld
                    refine hK.out _ _ trivial (fun hHeld => ?_)
                    clear hK K
                    try simp only [Act.put, List.setIfInBounds_toArray, List.set_cons_zero, List.set_cons_succ]
                    refine wpAnyH_take (i := 8) (oi := { dst := some 66, op := _, type := _, pos := _, after := _, guard := _ }) (v := ?v8b) rfl (by kernel_rfl) (by kernel_rfl) (by kernel_rfl) (fun _ _ _ h => h) (Or.inl ⟨by rfl, ?y8b⟩) (by assumption) ?r8b
                    case y8b =>
                      intro w hSw
                      try dsimp only at hSw
                      go_simp
                      try with_reducible rfl
                    simp only [Act.put, List.setIfInBounds_toArray, List.set_cons_zero, List.set_cons_succ]
                    refine wpAnyH_take (i := 9) (oi := { dst := some 67, op := _, type := _, pos := _, after := _, guard := _ }) (v := ?v9b) rfl (by kernel_rfl) (by kernel_rfl) (by kernel_rfl) (fun _ _ _ h => h) (Or.inl ⟨by rfl, ?y9b⟩) (by assumption) ?r9b
                    case y9b =>
                      intro w hSw
                      try dsimp only at hSw
                      go_simp
                      try with_reducible rfl
                    simp only [Act.put, List.setIfInBounds_toArray, List.set_cons_zero, List.set_cons_succ]
                    refine wpAnyH_take (i := 10) (oi := { dst := some 68, op := _, type := _, pos := _, after := _, guard := _ }) (v := ?v10b) rfl (by kernel_rfl) (by kernel_rfl) (by kernel_rfl) (fun _ _ _ h => h) (Or.inl ⟨by rfl, ?y10b⟩) (by assumption) ?r10b
                    case y10b =>
                      intro w hSw
                      try dsimp only at hSw
                      go_simp
                      try with_reducible rfl
                    simp only [Act.put, List.setIfInBounds_toArray, List.set_cons_zero, List.set_cons_succ]
                    refine wpAnyH_take (i := 11) (oi := { dst := some 69, op := _, type := _, pos := _, after := _, guard := _ }) (v := ?v11b) rfl (by kernel_rfl) (by kernel_rfl) (by kernel_rfl) (fun _ _ _ h => h) (Or.inl ⟨by rfl, ?y11b⟩) (by assumption) ?r11b
                    case y11b =>
                      intro w hSw
                      try dsimp only at hSw
                      go_simp
                      try with_reducible rfl
                    simp only [Act.put, List.setIfInBounds_toArray, List.set_cons_zero, List.set_cons_succ]
                    refine wpAnyH_take (i := 12) (oi := { dst := some 70, op := _, type := _, pos := _, after := _, guard := _ }) (v := ?v12b) rfl (by kernel_rfl) (by kernel_rfl) (by kernel_rfl) (fun _ _ _ h => h) (Or.inl ⟨by rfl, ?y12b⟩) (by assumption) ?r12b
                    case y12b =>
                      intro w hSw
                      try dsimp only at hSw
                      go_simp
                      try with_reducible rfl
                    simp only [Act.put, List.setIfInBounds_toArray, List.set_cons_zero, List.set_cons_succ]
                    refine wpAnyH_take (i := 13) (oi := { dst := some 71, op := _, type := _, pos := _, after := _, guard := _ }) (v := ?v13b) rfl (by kernel_rfl) (by kernel_rfl) (by kernel_rfl) (fun _ _ _ h => h) (Or.inl ⟨by rfl, ?y13b⟩) (by assumption) ?r13b
                    case y13b =>
                      intro w hSw
                      try dsimp only at hSw
                      go_simp
                      try with_reducible rfl
                    simp only [Act.put, List.setIfInBounds_toArray, List.set_cons_zero, List.set_cons_succ]
                    refine wpAnyH_take (i := 14) (oi := { dst := some 72, op := _, type := _, pos := _, after := _, guard := _ }) (v := ?v14b) rfl (by kernel_rfl) (by kernel_rfl) (by kernel_rfl) (fun _ _ _ h => h) (Or.inl ⟨by rfl, ?y14b⟩) (by assumption) ?r14b
                    case y14b =>
                      intro w hSw
                      try dsimp only at hSw
                      go_simp
                      try with_reducible rfl
                    simp only [Act.put, List.setIfInBounds_toArray, List.set_cons_zero, List.set_cons_succ]
                    refine wpAnyH_take (i := 15) (oi := { dst := some 73, op := _, type := _, pos := _, after := _, guard := _ }) (v := ?v15b) rfl (by kernel_rfl) (by kernel_rfl) (by kernel_rfl) (fun _ _ _ h => h) (Or.inl ⟨by rfl, ?y15b⟩) (by assumption) ?r15b
                    case y15b =>
                      intro w hSw
                      try dsimp only at hSw
                      go_simp
                      try with_reducible rfl
                    simp only [Act.put, List.setIfInBounds_toArray, List.set_cons_zero, List.set_cons_succ]
                    refine wpAnyH_ready (rs := [16]) (by kernel_rfl) (by simp) ?_
                    refine AllReadyH.cons rfl (fun K hK => ?_) AllReadyH.nil
                    go_simp
                    go_at_call 53
                    refine (l1In_any _ _ _ _).mono ?_
                    rintro e w6 ⟨rfl, rfl⟩
                    rw [HB2.out]
                    dsimp only
                    clear hHeld
                    refine hK.out _ _ trivial (fun hHeld => ?_)
                    clear hK K
                    try simp only [Act.put, List.setIfInBounds_toArray, List.set_cons_zero, List.set_cons_succ]
                    refine wpAnyH_take (i := 17) (oi := { dst := some 75, op := _, type := _, pos := _, after := _, guard := _ }) (v := ?v17b) rfl (by kernel_rfl) (by kernel_rfl) (by kernel_rfl) (fun _ _ _ h => h) (Or.inl ⟨by rfl, ?y17b⟩) (by assumption) ?r17b
                    case y17b =>
                      intro w hSw
                      try dsimp only at hSw
                      go_simp
                      try with_reducible rfl
                    simp only [Act.put, List.setIfInBounds_toArray, List.set_cons_zero, List.set_cons_succ]
                    refine wpAnyH_ready (rs := [18]) (by kernel_rfl) (by simp) ?_
                    refine AllReadyH.cons rfl (fun K hK => ?_) AllReadyH.nil
                    go_simp
                    try dsimp only
                    clear hHeld
                    refine hK.out _ _ trivial (fun hHeld => ?_)
                    clear hK K
                    try simp only [Act.put, List.setIfInBounds_toArray, List.set_cons_zero, List.set_cons_succ]
                    refine wpAnyH_done (by kernel_rfl) ?_ _
                    cases b2
                    · go_wp2_with fail
                      refine wp_region_held_drew (S := fun w' => w'.cell? ⟨g, k, none⟩ = some (.int .i64 zk) ∧ w'.cell? ⟨g, j, none⟩ = some (.int .i64 zj)) (by kernel_rfl) (by first | exact ⟨hck, hcj⟩ | go_keep) (fun hHeld => ?_)
                      refine wpAnyH_take (i := 0) (oi := { dst := some 76, op := _, type := _, pos := _, after := _, guard := _ }) (v := ?v0fz) rfl (by kernel_rfl) (by kernel_rfl) (by kernel_rfl) (fun _ _ _ h => h) (Or.inl ⟨by rfl, ?y0fz⟩) (by assumption) ?r0fz
                      case y0fz =>
                        intro w hSw
                        try dsimp only at hSw
                        go_simp
                        try with_reducible rfl
                      simp only [Act.put, List.setIfInBounds_toArray, List.set_cons_zero, List.set_cons_succ]
                      refine wpAnyH_take (i := 1) (oi := { dst := some 77, op := _, type := _, pos := _, after := _, guard := _ }) (v := ?v1fz) rfl (by kernel_rfl) (by kernel_rfl) (by kernel_rfl) (fun _ _ _ h => h) (Or.inl ⟨by rfl, ?y1fz⟩) (by assumption) ?r1fz
                      case y1fz =>
                        intro w hSw
                        try dsimp only at hSw
                        go_simp
                        try with_reducible rfl
                      simp only [Act.put, List.setIfInBounds_toArray, List.set_cons_zero, List.set_cons_succ]
                      refine wpAnyH_take (i := 2) (oi := { dst := some 78, op := _, type := _, pos := _, after := _, guard := _ }) (v := undef) rfl (by kernel_rfl) (by kernel_rfl) (by kernel_rfl) (fun _ _ _ h => h) (Or.inr ⟨by rfl, rfl⟩) (by assumption) ?_
                      simp only [Act.put, List.setIfInBounds_toArray, List.set_cons_zero, List.set_cons_succ]
                      refine wpAnyH_take (i := 3) (oi := { dst := some 79, op := _, type := _, pos := _, after := _, guard := _ }) (v := undef) rfl (by kernel_rfl) (by kernel_rfl) (by kernel_rfl) (fun _ _ _ h => h) (Or.inr ⟨by rfl, rfl⟩) (by assumption) ?_
                      simp only [Act.put, List.setIfInBounds_toArray, List.set_cons_zero, List.set_cons_succ]
                      refine wpAnyH_take (i := 4) (oi := { dst := some 80, op := _, type := _, pos := _, after := _, guard := _ }) (v := undef) rfl (by kernel_rfl) (by kernel_rfl) (by kernel_rfl) (fun _ _ _ h => h) (Or.inr ⟨by rfl, rfl⟩) (by assumption) ?_
                      simp only [Act.put, List.setIfInBounds_toArray, List.set_cons_zero, List.set_cons_succ]
                      refine wpAnyH_take (i := 5) (oi := { dst := some 81, op := _, type := _, pos := _, after := _, guard := _ }) (v := undef) rfl (by kernel_rfl) (by kernel_rfl) (by kernel_rfl) (fun _ _ _ h => h) (Or.inr ⟨by rfl, rfl⟩) (by assumption) ?_
                      simp only [Act.put, List.setIfInBounds_toArray, List.set_cons_zero, List.set_cons_succ]
                      refine wpAnyH_take (i := 6) (oi := { dst := some 82, op := _, type := _, pos := _, after := _, guard := _ }) (v := undef) rfl (by kernel_rfl) (by kernel_rfl) (by kernel_rfl) (fun _ _ _ h => h) (Or.inr ⟨by rfl, rfl⟩) (by assumption) ?_
                      simp only [Act.put, List.setIfInBounds_toArray, List.set_cons_zero, List.set_cons_succ]
                      refine wpAnyH_take (i := 7) (oi := { dst := some 83, op := _, type := _, pos := _, after := _, guard := _ }) (v := undef) rfl (by kernel_rfl) (by kernel_rfl) (by kernel_rfl) (fun _ _ _ h => h) (Or.inr ⟨by rfl, rfl⟩) (by assumption) ?_
                      simp only [Act.put, List.setIfInBounds_toArray, List.set_cons_zero, List.set_cons_succ]
                      refine wpAnyH_take (i := 8) (oi := { dst := some 84, op := _, type := _, pos := _, after := _, guard := _ }) (v := undef) rfl (by kernel_rfl) (by kernel_rfl) (by kernel_rfl) (fun _ _ _ h => h) (Or.inr ⟨by rfl, rfl⟩) (by assumption) ?_
                      simp only [Act.put, List.setIfInBounds_toArray, List.set_cons_zero, List.set_cons_succ]
                      refine wpAnyH_take (i := 9) (oi := { dst := some 85, op := _, type := _, pos := _, after := _, guard := _ }) (v := undef) rfl (by kernel_rfl) (by kernel_rfl) (by kernel_rfl) (fun _ _ _ h => h) (Or.inr ⟨by rfl, rfl⟩) (by assumption) ?_
                      simp only [Act.put, List.setIfInBounds_toArray, List.set_cons_zero, List.set_cons_succ]
                      refine wpAnyH_take (i := 10) (oi := { dst := some 86, op := _, type := _, pos := _, after := _, guard := _ }) (v := undef) rfl (by kernel_rfl) (by kernel_rfl) (by kernel_rfl) (fun _ _ _ h => h) (Or.inr ⟨by rfl, rfl⟩) (by assumption) ?_
                      simp only [Act.put, List.setIfInBounds_toArray, List.set_cons_zero, List.set_cons_succ]
                      refine wpAnyH_take (i := 11) (oi := { dst := some 87, op := _, type := _, pos := _, after := _, guard := _ }) (v := ?v11fz) rfl (by kernel_rfl) (by kernel_rfl) (by kernel_rfl) (fun _ _ _ h => h) (Or.inl ⟨by rfl, ?y11fz⟩) (by assumption) ?r11fz
                      case y11fz =>
                        intro w hSw
                        try dsimp only at hSw
                        go_simp
                        try with_reducible rfl
                      simp only [Act.put, List.setIfInBounds_toArray, List.set_cons_zero, List.set_cons_succ]
                      refine wpAnyH_take (i := 12) (oi := { dst := some 88, op := _, type := _, pos := _, after := _, guard := _ }) (v := ?v12fz) rfl (by kernel_rfl) (by kernel_rfl) (by kernel_rfl) (fun _ _ _ h => h) (Or.inl ⟨by rfl, ?y12fz⟩) (by assumption) ?r12fz
                      case y12fz =>
                        intro w hSw
                        try dsimp only at hSw
                        go_simp
                        try with_reducible rfl
                      simp only [Act.put, List.setIfInBounds_toArray, List.set_cons_zero, List.set_cons_succ]
                      refine wpAnyH_take (i := 13) (oi := { dst := some 89, op := _, type := _, pos := _, after := _, guard := _ }) (v := undef) rfl (by kernel_rfl) (by kernel_rfl) (by kernel_rfl) (fun _ _ _ h => h) (Or.inr ⟨by rfl, rfl⟩) (by assumption) ?_
                      simp only [Act.put, List.setIfInBounds_toArray, List.set_cons_zero, List.set_cons_succ]
                      refine wpAnyH_take (i := 14) (oi := { dst := some 90, op := _, type := _, pos := _, after := _, guard := _ }) (v := undef) rfl (by kernel_rfl) (by kernel_rfl) (by kernel_rfl) (fun _ _ _ h => h) (Or.inr ⟨by rfl, rfl⟩) (by assumption) ?_
                      simp only [Act.put, List.setIfInBounds_toArray, List.set_cons_zero, List.set_cons_succ]
                      refine wpAnyH_take (i := 15) (oi := { dst := some 91, op := _, type := _, pos := _, after := _, guard := _ }) (v := undef) rfl (by kernel_rfl) (by kernel_rfl) (by kernel_rfl) (fun _ _ _ h => h) (Or.inr ⟨by rfl, rfl⟩) (by assumption) ?_
                      simp only [Act.put, List.setIfInBounds_toArray, List.set_cons_zero, List.set_cons_succ]
                      refine wpAnyH_take (i := 16) (oi := { dst := some 92, op := _, type := _, pos := _, after := _, guard := _ }) (v := undef) rfl (by kernel_rfl) (by kernel_rfl) (by kernel_rfl) (fun _ _ _ h => h) (Or.inr ⟨by rfl, rfl⟩) (by assumption) ?_
                      simp only [Act.put, List.setIfInBounds_toArray, List.set_cons_zero, List.set_cons_succ]
                      refine wpAnyH_take (i := 17) (oi := { dst := some 93, op := _, type := _, pos := _, after := _, guard := _ }) (v := undef) rfl (by kernel_rfl) (by kernel_rfl) (by kernel_rfl) (fun _ _ _ h => h) (Or.inr ⟨by rfl, rfl⟩) (by assumption) ?_
                      simp only [Act.put, List.setIfInBounds_toArray, List.set_cons_zero, List.set_cons_succ]
                      refine wpAnyH_take (i := 18) (oi := { dst := some 94, op := _, type := _, pos := _, after := _, guard := _ }) (v := ?v18fz) rfl (by kernel_rfl) (by kernel_rfl) (by kernel_rfl) (fun _ _ _ h => h) (Or.inl ⟨by rfl, ?y18fz⟩) (by assumption) ?r18fz
                      case y18fz =>
                        intro w hSw
                        try dsimp only at hSw
                        go_simp
                        try with_reducible rfl
                      simp only [Act.put, List.setIfInBounds_toArray, List.set_cons_zero, List.set_cons_succ]
                      refine wpAnyH_done (by kernel_rfl) ?_ _
                      go_wp2_with fail
                      go_roundg (N - (j + 1))
                      case measure => omega
                      case rel => exact ⟨j + 1, p, cf, by omega, rfl, by go_num, rfl, HLAB.out, HNO.out (fun h _ _ => by cases h), own, (by first | exact R.drew.drew | exact R.drew)⟩
                    · by_cases hgt : zj < zk
                      · have d1 : decide (zj < zk) = true := decide_eq_true hgt
                        by_cases hge : 0 ≤ zj
                        · have d2 : decide ((0 : Int) ≤ zj) = true := decide_eq_true hge
                          have hbrk : brk (nbH W) p k j := ⟨by rw [HNB.out]; rfl, by rw [HEJ.out, HEK.out]; exact hgt, by rw [HEJ.out]; exact hge⟩
                          have HL2 := Lib.hid (HLAB.out.upd hlt hjt hbrk.1 hbrk.2.1 hbrk.2.2)
                          have HP2 := Lib.hid (HPASS.out.upd (by rw [HPL.out]; exact hlt) hbrk)
                          clear hbrk
                          go_wp2_with fail
                          refine wp_region_held_drew (S := fun w' => w'.cell? ⟨g, k, none⟩ = some (.int .i64 zk) ∧ w'.cell? ⟨g, j, none⟩ = some (.int .i64 zj)) (by kernel_rfl) (by first | exact ⟨hck, hcj⟩ | go_keep) (fun hHeld => ?_)
                          refine wpAnyH_take (i := 0) (oi := { dst := some 76, op := _, type := _, pos := _, after := _, guard := _ }) (v := ?v0cz) rfl (by kernel_rfl) (by kernel_rfl) (by kernel_rfl) (fun _ _ _ h => h) (Or.inl ⟨by rfl, ?y0cz⟩) (by assumption) ?r0cz
                          case y0cz =>
                            intro w hSw
                            try dsimp only at hSw
                            go_simp
                            try with_reducible rfl
                          simp only [Act.put, List.setIfInBounds_toArray, List.set_cons_zero, List.set_cons_succ]
                          refine wpAnyH_take (i := 1) (oi := { dst := some 77, op := _, type := _, pos := _, after := _, guard := _ }) (v := ?v1cz) rfl (by kernel_rfl) (by kernel_rfl) (by kernel_rfl) (fun _ _ _ h => h) (Or.inl ⟨by rfl, ?y1cz⟩) (by assumption) ?r1cz
                          case y1cz =>
                            intro w hSw
                            try dsimp only at hSw
                            go_simp
                            try with_reducible rfl
                          simp only [Act.put, List.setIfInBounds_toArray, List.set_cons_zero, List.set_cons_succ]
                          refine wpAnyH_take (i := 2) (oi := { dst := some 78, op := _, type := _, pos := _, after := _, guard := _ }) (v := ?v2cz) rfl (by kernel_rfl) (by kernel_rfl) (by kernel_rfl) (fun _ _ _ h => h) (Or.inl ⟨by rfl, ?y2cz⟩) (by assumption) ?r2cz
                          case y2cz =>
                            intro w hSw
                            try dsimp only at hSw
                            go_simp
                            try with_reducible rfl
                          simp only [Act.put, List.setIfInBounds_toArray, List.set_cons_zero, List.set_cons_succ]
                          refine wpAnyH_take (i := 3) (oi := { dst := some 79, op := _, type := _, pos := _, after := _, guard := _ }) (v := ?v3cz) rfl (by kernel_rfl) (by kernel_rfl) (by kernel_rfl) (fun _ _ _ h => h) (Or.inl ⟨by rfl, ?y3cz⟩) (by assumption) ?r3cz
                          case y3cz =>
                            intro w hSw
                            try dsimp only at hSw
                            go_simp
                            try with_reducible rfl
                          simp only [Act.put, List.setIfInBounds_toArray, List.set_cons_zero, List.set_cons_succ]
                          refine wpAnyH_take (i := 4) (oi := { dst := some 80, op := _, type := _, pos := _, after := _, guard := _ }) (v := ?v4cz) rfl (by kernel_rfl) (by kernel_rfl) (by kernel_rfl) (fun _ _ _ h => h) (Or.inl ⟨by rfl, ?y4cz⟩) (by assumption) ?r4cz
                          case y4cz =>
                            intro w hSw
                            try dsimp only at hSw
                            go_simp
                            try with_reducible rfl
                          simp only [Act.put, List.setIfInBounds_toArray, List.set_cons_zero, List.set_cons_succ]
                          refine wpAnyH_take (i := 5) (oi := { dst := some 81, op := _, type := _, pos := _, after := _, guard := _ }) (v := ?v5cz) rfl (by kernel_rfl) (by kernel_rfl) (by kernel_rfl) (fun _ _ _ h => h) (Or.inl ⟨by rfl, ?y5cz⟩) (by assumption) ?r5cz
                          case y5cz =>
                            intro w hSw
                            try dsimp only at hSw
                            go_simp
                            try with_reducible rfl
                          simp only [Act.put, List.setIfInBounds_toArray, List.set_cons_zero, List.set_cons_succ]
                          refine wpAnyH_take (i := 6) (oi := { dst := some 82, op := _, type := _, pos := _, after := _, guard := _ }) (v := ?v6cz) rfl (by kernel_rfl) (by kernel_rfl) (by kernel_rfl) (fun _ _ _ h => h) (Or.inl ⟨by rfl, ?y6cz⟩) (by assumption) ?r6cz
                          case y6cz =>
                            intro w hSw
                            try dsimp only at hSw
                            go_simp
                            try with_reducible rfl
                          simp only [Act.put, List.setIfInBounds_toArray, List.set_cons_zero, List.set_cons_succ]
                          refine wpAnyH_take (i := 7) (oi := { dst := some 83, op := _, type := _, pos := _, after := _, guard := _ }) (v := ?v7cz) rfl (by kernel_rfl) (by kernel_rfl) (by kernel_rfl) (fun _ _ _ h => h) (Or.inl ⟨by rfl, ?y7cz⟩) (by assumption) ?r7cz
                          case y7cz =>
                            intro w hSw
                            try dsimp only at hSw
                            go_simp
                            try with_reducible rfl
                          simp only [Act.put, List.setIfInBounds_toArray, List.set_cons_zero, List.set_cons_succ]
                          refine wpAnyH_take (i := 8) (oi := { dst := some 84, op := _, type := _, pos := _, after := _, guard := _ }) (v := ?v8cz) rfl (by kernel_rfl) (by kernel_rfl) (by kernel_rfl) (fun _ _ _ h => h) (Or.inl ⟨by rfl, ?y8cz⟩) (by assumption) ?r8cz
                          case y8cz =>
                            intro w hSw
                            try dsimp only at hSw
                            go_simp
                            try with_reducible rfl
                          simp only [Act.put, List.setIfInBounds_toArray, List.set_cons_zero, List.set_cons_succ]
                          refine wpAnyH_take (i := 9) (oi := { dst := some 85, op := _, type := _, pos := _, after := _, guard := _ }) (v := ?v9cz) rfl (by kernel_rfl) (by kernel_rfl) (by kernel_rfl) (fun _ _ _ h => h) (Or.inl ⟨by rfl, ?y9cz⟩) (by assumption) ?r9cz
                          case y9cz =>
                            intro w hSw
                            try dsimp only at hSw
                            go_simp
                            try with_reducible rfl
                          simp only [Act.put, List.setIfInBounds_toArray, List.set_cons_zero, List.set_cons_succ]
                          refine wpAnyH_take (i := 10) (oi := { dst := some 86, op := _, type := _, pos := _, after := _, guard := _ }) (v := ?v10cz) rfl (by kernel_rfl) (by kernel_rfl) (by kernel_rfl) (fun _ _ _ h => h) (Or.inl ⟨by rfl, ?y10cz⟩) (by assumption) ?r10cz
                          case y10cz =>
                            intro w hSw
                            try dsimp only at hSw
                            go_simp
                            try with_reducible rfl
                          simp only [Act.put, List.setIfInBounds_toArray, List.set_cons_zero, List.set_cons_succ]
                          refine wpAnyH_take (i := 11) (oi := { dst := some 87, op := _, type := _, pos := _, after := _, guard := _ }) (v := ?v11cz) rfl (by kernel_rfl) (by kernel_rfl) (by kernel_rfl) (fun _ _ _ h => h) (Or.inl ⟨by rfl, ?y11cz⟩) (by assumption) ?r11cz
                          case y11cz =>
                            intro w hSw
                            try dsimp only at hSw
                            go_simp
                            try with_reducible rfl
                          simp only [Act.put, List.setIfInBounds_toArray, List.set_cons_zero, List.set_cons_succ]
                          refine wpAnyH_take (i := 12) (oi := { dst := some 88, op := _, type := _, pos := _, after := _, guard := _ }) (v := ?v12cz) rfl (by kernel_rfl) (by kernel_rfl) (by kernel_rfl) (fun _ _ _ h => h) (Or.inl ⟨by rfl, ?y12cz⟩) (by assumption) ?r12cz
                          case y12cz =>
                            intro w hSw
                            try dsimp only at hSw
                            go_simp
                            try with_reducible rfl
                          simp only [Act.put, List.setIfInBounds_toArray, List.set_cons_zero, List.set_cons_succ]
                          refine wpAnyH_take (i := 13) (oi := { dst := some 89, op := _, type := _, pos := _, after := _, guard := _ }) (v := ?v13cz) rfl (by kernel_rfl) (by kernel_rfl) (by kernel_rfl) (fun _ _ _ h => h) (Or.inl ⟨by rfl, ?y13cz⟩) (by assumption) ?r13cz
                          case y13cz =>
                            intro w hSw
                            try dsimp only at hSw
                            go_simp
                            try with_reducible rfl
                          simp only [Act.put, List.setIfInBounds_toArray, List.set_cons_zero, List.set_cons_succ]
                          refine wpAnyH_take (i := 14) (oi := { dst := some 90, op := _, type := _, pos := _, after := _, guard := _ }) (v := ?v14cz) rfl (by kernel_rfl) (by kernel_rfl) (by kernel_rfl) (fun _ _ _ h => h) (Or.inl ⟨by rfl, ?y14cz⟩) (by assumption) ?r14cz
                          case y14cz =>
                            intro w hSw
                            try dsimp only at hSw
                            go_simp
                            try with_reducible rfl
                          simp only [Act.put, List.setIfInBounds_toArray, List.set_cons_zero, List.set_cons_succ]
                          refine wpAnyH_take (i := 15) (oi := { dst := some 91, op := _, type := _, pos := _, after := _, guard := _ }) (v := ?v15cz) rfl (by kernel_rfl) (by kernel_rfl) (by kernel_rfl) (fun _ _ _ h => h) (Or.inl ⟨by rfl, ?y15cz⟩) (by assumption) ?r15cz
                          case y15cz =>
                            intro w hSw
                            try dsimp only at hSw
                            go_simp
                            try with_reducible rfl
                          simp only [Act.put, List.setIfInBounds_toArray, List.set_cons_zero, List.set_cons_succ]
                          refine wpAnyH_take (i := 16) (oi := { dst := some 92, op := _, type := _, pos := _, after := _, guard := _ }) (v := ?v16cz) rfl (by kernel_rfl) (by kernel_rfl) (by kernel_rfl) (fun _ _ _ h => h) (Or.inl ⟨by rfl, ?y16cz⟩) (by assumption) ?r16cz
                          case y16cz =>
                            intro w hSw
                            try dsimp only at hSw
                            go_simp
                            try with_reducible rfl
                          simp only [Act.put, List.setIfInBounds_toArray, List.set_cons_zero, List.set_cons_succ]
                          refine wpAnyH_take (i := 17) (oi := { dst := some 93, op := _, type := _, pos := _, after := _, guard := _ }) (v := ?v17cz) rfl (by kernel_rfl) (by kernel_rfl) (by kernel_rfl) (fun _ _ _ h => h) (Or.inl ⟨by rfl, ?y17cz⟩) (by assumption) ?r17cz
                          case y17cz =>
                            intro w hSw
                            try dsimp only at hSw
                            go_simp
                            try with_reducible rfl
                          simp only [Act.put, List.setIfInBounds_toArray, List.set_cons_zero, List.set_cons_succ]
                          refine wpAnyH_take (i := 18) (oi := { dst := some 94, op := _, type := _, pos := _, after := _, guard := _ }) (v := ?v18cz) rfl (by kernel_rfl) (by kernel_rfl) (by kernel_rfl) (fun _ _ _ h => h) (Or.inl ⟨by rfl, ?y18cz⟩) (by assumption) ?r18cz
                          case y18cz =>
                            intro w hSw
                            try dsimp only at hSw
                            go_simp
                            try with_reducible rfl
                          simp only [Act.put, List.setIfInBounds_toArray, List.set_cons_zero, List.set_cons_succ]
                          refine wpAnyH_done (by kernel_rfl) ?_ _
                          go_wp2_with fail
                          go_roundg (N - (j + 1))
                          case measure => omega
                          case rel =>
                            refine ⟨j + 1, p.set k (ent p j), true, by omega, rfl, by go_num, rfl, HL2.out, HP2.out, ?_, ?_⟩
                            · rw [HEJ.out, List.map_set]; exact own.stored k hlt (.int .i64 zj)
                            · first
                                | exact (R.drew.drew).set (p := ⟨g, k, none⟩) hg1 (.int .i64 zj)
                                | exact (R.drew).set (p := ⟨g, k, none⟩) hg1 (.int .i64 zj)
                        · have d2 : decide ((0 : Int) ≤ zj) = false := decide_eq_false hge
                          have HG := Lib.hid hge
                          clear hge
                          go_wp2_with fail
                          refine wp_region_held_drew (S := fun w' => w'.cell? ⟨g, k, none⟩ = some (.int .i64 zk) ∧ w'.cell? ⟨g, j, none⟩ = some (.int .i64 zj)) (by kernel_rfl) (by first | exact ⟨hck, hcj⟩ | go_keep) (fun hHeld => ?_)
                          refine wpAnyH_take (i := 0) (oi := { dst := some 76, op := _, type := _, pos := _, after := _, guard := _ }) (v := ?v0dz) rfl (by kernel_rfl) (by kernel_rfl) (by kernel_rfl) (fun _ _ _ h => h) (Or.inl ⟨by rfl, ?y0dz⟩) (by assumption) ?r0dz
                          case y0dz =>
                            intro w hSw
                            try dsimp only at hSw
                            go_simp
                            try with_reducible rfl
                          simp only [Act.put, List.setIfInBounds_toArray, List.set_cons_zero, List.set_cons_succ]
                          refine wpAnyH_take (i := 1) (oi := { dst := some 77, op := _, type := _, pos := _, after := _, guard := _ }) (v := ?v1dz) rfl (by kernel_rfl) (by kernel_rfl) (by kernel_rfl) (fun _ _ _ h => h) (Or.inl ⟨by rfl, ?y1dz⟩) (by assumption) ?r1dz
                          case y1dz =>
                            intro w hSw
                            try dsimp only at hSw
                            go_simp
                            try with_reducible rfl
                          simp only [Act.put, List.setIfInBounds_toArray, List.set_cons_zero, List.set_cons_succ]
                          refine wpAnyH_take (i := 2) (oi := { dst := some 78, op := _, type := _, pos := _, after := _, guard := _ }) (v := ?v2dz) rfl (by kernel_rfl) (by kernel_rfl) (by kernel_rfl) (fun _ _ _ h => h) (Or.inl ⟨by rfl, ?y2dz⟩) (by assumption) ?r2dz
                          case y2dz =>
                            intro w hSw
                            try dsimp only at hSw
                            go_simp
                            try with_reducible rfl
                          simp only [Act.put, List.setIfInBounds_toArray, List.set_cons_zero, List.set_cons_succ]
                          refine wpAnyH_take (i := 3) (oi := { dst := some 79, op := _, type := _, pos := _, after := _, guard := _ }) (v := ?v3dz) rfl (by kernel_rfl) (by kernel_rfl) (by kernel_rfl) (fun _ _ _ h => h) (Or.inl ⟨by rfl, ?y3dz⟩) (by assumption) ?r3dz
                          case y3dz =>
                            intro w hSw
                            try dsimp only at hSw
                            go_simp
                            try with_reducible rfl
                          simp only [Act.put, List.setIfInBounds_toArray, List.set_cons_zero, List.set_cons_succ]
                          refine wpAnyH_take (i := 4) (oi := { dst := some 80, op := _, type := _, pos := _, after := _, guard := _ }) (v := ?v4dz) rfl (by kernel_rfl) (by kernel_rfl) (by kernel_rfl) (fun _ _ _ h => h) (Or.inl ⟨by rfl, ?y4dz⟩) (by assumption) ?r4dz
                          case y4dz =>
                            intro w hSw
                            try dsimp only at hSw
                            go_simp
                            try with_reducible rfl
                          simp only [Act.put, List.setIfInBounds_toArray, List.set_cons_zero, List.set_cons_succ]
                          refine wpAnyH_take (i := 5) (oi := { dst := some 81, op := _, type := _, pos := _, after := _, guard := _ }) (v := ?v5dz) rfl (by kernel_rfl) (by kernel_rfl) (by kernel_rfl) (fun _ _ _ h => h) (Or.inl ⟨by rfl, ?y5dz⟩) (by assumption) ?r5dz
                          case y5dz =>
                            intro w hSw
                            try dsimp only at hSw
                            go_simp
                            try with_reducible rfl
                          simp only [Act.put, List.setIfInBounds_toArray, List.set_cons_zero, List.set_cons_succ]
                          refine wpAnyH_take (i := 6) (oi := { dst := some 82, op := _, type := _, pos := _, after := _, guard := _ }) (v := ?v6dz) rfl (by kernel_rfl) (by kernel_rfl) (by kernel_rfl) (fun _ _ _ h => h) (Or.inl ⟨by rfl, ?y6dz⟩) (by assumption) ?r6dz
                          case y6dz =>
                            intro w hSw
                            try dsimp only at hSw
                            go_simp
                            try with_reducible rfl
                          simp only [Act.put, List.setIfInBounds_toArray, List.set_cons_zero, List.set_cons_succ]
                          refine wpAnyH_take (i := 7) (oi := { dst := some 83, op := _, type := _, pos := _, after := _, guard := _ }) (v := ?v7dz) rfl (by kernel_rfl) (by kernel_rfl) (by kernel_rfl) (fun _ _ _ h => h) (Or.inl ⟨by rfl, ?y7dz⟩) (by assumption) ?r7dz
                          case y7dz =>
                            intro w hSw
                            try dsimp only at hSw
                            go_simp
                            try with_reducible rfl
                          simp only [Act.put, List.setIfInBounds_toArray, List.set_cons_zero, List.set_cons_succ]
                          refine wpAnyH_take (i := 8) (oi := { dst := some 84, op := _, type := _, pos := _, after := _, guard := _ }) (v := ?v8dz) rfl (by kernel_rfl) (by kernel_rfl) (by kernel_rfl) (fun _ _ _ h => h) (Or.inl ⟨by rfl, ?y8dz⟩) (by assumption) ?r8dz
                          case y8dz =>
                            intro w hSw
                            try dsimp only at hSw
                            go_simp
                            try with_reducible rfl
                          simp only [Act.put, List.setIfInBounds_toArray, List.set_cons_zero, List.set_cons_succ]
                          refine wpAnyH_take (i := 9) (oi := { dst := some 85, op := _, type := _, pos := _, after := _, guard := _ }) (v := ?v9dz) rfl (by kernel_rfl) (by kernel_rfl) (by kernel_rfl) (fun _ _ _ h => h) (Or.inl ⟨by rfl, ?y9dz⟩) (by assumption) ?r9dz
                          case y9dz =>
                            intro w hSw
                            try dsimp only at hSw
                            go_simp
                            try with_reducible rfl
                          simp only [Act.put, List.setIfInBounds_toArray, List.set_cons_zero, List.set_cons_succ]
                          refine wpAnyH_take (i := 10) (oi := { dst := some 86, op := _, type := _, pos := _, after := _, guard := _ }) (v := ?v10dz) rfl (by kernel_rfl) (by kernel_rfl) (by kernel_rfl) (fun _ _ _ h => h) (Or.inl ⟨by rfl, ?y10dz⟩) (by assumption) ?r10dz
                          case y10dz =>
                            intro w hSw
                            try dsimp only at hSw
                            go_simp
                            try with_reducible rfl
                          simp only [Act.put, List.setIfInBounds_toArray, List.set_cons_zero, List.set_cons_succ]
                          refine wpAnyH_take (i := 11) (oi := { dst := some 87, op := _, type := _, pos := _, after := _, guard := _ }) (v := ?v11dz) rfl (by kernel_rfl) (by kernel_rfl) (by kernel_rfl) (fun _ _ _ h => h) (Or.inl ⟨by rfl, ?y11dz⟩) (by assumption) ?r11dz
                          case y11dz =>
                            intro w hSw
                            try dsimp only at hSw
                            go_simp
                            try with_reducible rfl
                          simp only [Act.put, List.setIfInBounds_toArray, List.set_cons_zero, List.set_cons_succ]
                          refine wpAnyH_take (i := 12) (oi := { dst := some 88, op := _, type := _, pos := _, after := _, guard := _ }) (v := ?v12dz) rfl (by kernel_rfl) (by kernel_rfl) (by kernel_rfl) (fun _ _ _ h => h) (Or.inl ⟨by rfl, ?y12dz⟩) (by assumption) ?r12dz
                          case y12dz =>
                            intro w hSw
                            try dsimp only at hSw
                            go_simp
                            try with_reducible rfl
                          simp only [Act.put, List.setIfInBounds_toArray, List.set_cons_zero, List.set_cons_succ]
                          refine wpAnyH_take (i := 13) (oi := { dst := some 89, op := _, type := _, pos := _, after := _, guard := _ }) (v := ?v13dz) rfl (by kernel_rfl) (by kernel_rfl) (by kernel_rfl) (fun _ _ _ h => h) (Or.inl ⟨by rfl, ?y13dz⟩) (by assumption) ?r13dz
                          case y13dz =>
                            intro w hSw
                            try dsimp only at hSw
                            go_simp
                            try with_reducible rfl
                          simp only [Act.put, List.setIfInBounds_toArray, List.set_cons_zero, List.set_cons_succ]
                          refine wpAnyH_take (i := 14) (oi := { dst := some 90, op := _, type := _, pos := _, after := _, guard := _ }) (v := ?v14dz) rfl (by kernel_rfl) (by kernel_rfl) (by kernel_rfl) (fun _ _ _ h => h) (Or.inl ⟨by rfl, ?y14dz⟩) (by assumption) ?r14dz
                          case y14dz =>
                            intro w hSw
                            try dsimp only at hSw
                            go_simp
                            try with_reducible rfl
                          simp only [Act.put, List.setIfInBounds_toArray, List.set_cons_zero, List.set_cons_succ]
                          refine wpAnyH_take (i := 15) (oi := { dst := some 91, op := _, type := _, pos := _, after := _, guard := _ }) (v := ?v15dz) rfl (by kernel_rfl) (by kernel_rfl) (by kernel_rfl) (fun _ _ _ h => h) (Or.inl ⟨by rfl, ?y15dz⟩) (by assumption) ?r15dz
                          case y15dz =>
                            intro w hSw
                            try dsimp only at hSw
                            go_simp
                            try with_reducible rfl
                          simp only [Act.put, List.setIfInBounds_toArray, List.set_cons_zero, List.set_cons_succ]
                          refine wpAnyH_take (i := 16) (oi := { dst := some 92, op := _, type := _, pos := _, after := _, guard := _ }) (v := ?v16dz) rfl (by kernel_rfl) (by kernel_rfl) (by kernel_rfl) (fun _ _ _ h => h) (Or.inl ⟨by rfl, ?y16dz⟩) (by assumption) ?r16dz
                          case y16dz =>
                            intro w hSw
                            try dsimp only at hSw
                            go_simp
                            try with_reducible rfl
                          simp only [Act.put, List.setIfInBounds_toArray, List.set_cons_zero, List.set_cons_succ]
                          refine wpAnyH_take (i := 17) (oi := { dst := some 93, op := _, type := _, pos := _, after := _, guard := _ }) (v := ?v17dz) rfl (by kernel_rfl) (by kernel_rfl) (by kernel_rfl) (fun _ _ _ h => h) (Or.inl ⟨by rfl, ?y17dz⟩) (by assumption) ?r17dz
                          case y17dz =>
                            intro w hSw
                            try dsimp only at hSw
                            go_simp
                            try with_reducible rfl
                          simp only [Act.put, List.setIfInBounds_toArray, List.set_cons_zero, List.set_cons_succ]
                          refine wpAnyH_take (i := 18) (oi := { dst := some 94, op := _, type := _, pos := _, after := _, guard := _ }) (v := ?v18dz) rfl (by kernel_rfl) (by kernel_rfl) (by kernel_rfl) (fun _ _ _ h => h) (Or.inl ⟨by rfl, ?y18dz⟩) (by assumption) ?r18dz
                          case y18dz =>
                            intro w hSw
                            try dsimp only at hSw
                            go_simp
                            try with_reducible rfl
                          simp only [Act.put, List.setIfInBounds_toArray, List.set_cons_zero, List.set_cons_succ]
                          refine wpAnyH_done (by kernel_rfl) ?_ _
                          go_wp2_with fail
                          go_roundg (N - (j + 1))
                          case measure => omega
                          case rel => exact ⟨j + 1, p, cf, by omega, rfl, by go_num, rfl, HLAB.out, HNO.out (fun _ _ h => by have := HG.out; omega), own, (by first | exact R.drew.drew | exact R.drew)⟩
                      · have d1 : decide (zj < zk) = false := decide_eq_false hgt
                        have HG := Lib.hid hgt
                        clear hgt
                        go_wp2_with fail
                        refine wp_region_held_drew (S := fun w' => w'.cell? ⟨g, k, none⟩ = some (.int .i64 zk) ∧ w'.cell? ⟨g, j, none⟩ = some (.int .i64 zj)) (by kernel_rfl) (by first | exact ⟨hck, hcj⟩ | go_keep) (fun hHeld => ?_)
                        refine wpAnyH_take (i := 0) (oi := { dst := some 76, op := _, type := _, pos := _, after := _, guard := _ }) (v := ?v0ez) rfl (by kernel_rfl) (by kernel_rfl) (by kernel_rfl) (fun _ _ _ h => h) (Or.inl ⟨by rfl, ?y0ez⟩) (by assumption) ?r0ez
                        case y0ez =>
                          intro w hSw
                          try dsimp only at hSw
                          go_simp
                          try with_reducible rfl
                        simp only [Act.put, List.setIfInBounds_toArray, List.set_cons_zero, List.set_cons_succ]
                        refine wpAnyH_take (i := 1) (oi := { dst := some 77, op := _, type := _, pos := _, after := _, guard := _ }) (v := ?v1ez) rfl (by kernel_rfl) (by kernel_rfl) (by kernel_rfl) (fun _ _ _ h => h) (Or.inl ⟨by rfl, ?y1ez⟩) (by assumption) ?r1ez
                        case y1ez =>
                          intro w hSw
                          try dsimp only at hSw
                          go_simp
                          try with_reducible rfl
                        simp only [Act.put, List.setIfInBounds_toArray, List.set_cons_zero, List.set_cons_succ]
                        refine wpAnyH_take (i := 2) (oi := { dst := some 78, op := _, type := _, pos := _, after := _, guard := _ }) (v := ?v2ez) rfl (by kernel_rfl) (by kernel_rfl) (by kernel_rfl) (fun _ _ _ h => h) (Or.inl ⟨by rfl, ?y2ez⟩) (by assumption) ?r2ez
                        case y2ez =>
                          intro w hSw
                          try dsimp only at hSw
                          go_simp
                          try with_reducible rfl
                        simp only [Act.put, List.setIfInBounds_toArray, List.set_cons_zero, List.set_cons_succ]
                        refine wpAnyH_take (i := 3) (oi := { dst := some 79, op := _, type := _, pos := _, after := _, guard := _ }) (v := ?v3ez) rfl (by kernel_rfl) (by kernel_rfl) (by kernel_rfl) (fun _ _ _ h => h) (Or.inl ⟨by rfl, ?y3ez⟩) (by assumption) ?r3ez
                        case y3ez =>
                          intro w hSw
                          try dsimp only at hSw
                          go_simp
                          try with_reducible rfl
                        simp only [Act.put, List.setIfInBounds_toArray, List.set_cons_zero, List.set_cons_succ]
                        refine wpAnyH_take (i := 4) (oi := { dst := some 80, op := _, type := _, pos := _, after := _, guard := _ }) (v := ?v4ez) rfl (by kernel_rfl) (by kernel_rfl) (by kernel_rfl) (fun _ _ _ h => h) (Or.inl ⟨by rfl, ?y4ez⟩) (by assumption) ?r4ez
                        case y4ez =>
                          intro w hSw
                          try dsimp only at hSw
                          go_simp
                          try with_reducible rfl
                        simp only [Act.put, List.setIfInBounds_toArray, List.set_cons_zero, List.set_cons_succ]
                        refine wpAnyH_take (i := 5) (oi := { dst := some 81, op := _, type := _, pos := _, after := _, guard := _ }) (v := ?v5ez) rfl (by kernel_rfl) (by kernel_rfl) (by kernel_rfl) (fun _ _ _ h => h) (Or.inl ⟨by rfl, ?y5ez⟩) (by assumption) ?r5ez
                        case y5ez =>
                          intro w hSw
                          try dsimp only at hSw
                          go_simp
                          try with_reducible rfl
                        simp only [Act.put, List.setIfInBounds_toArray, List.set_cons_zero, List.set_cons_succ]
                        refine wpAnyH_take (i := 6) (oi := { dst := some 82, op := _, type := _, pos := _, after := _, guard := _ }) (v := ?v6ez) rfl (by kernel_rfl) (by kernel_rfl) (by kernel_rfl) (fun _ _ _ h => h) (Or.inl ⟨by rfl, ?y6ez⟩) (by assumption) ?r6ez
                        case y6ez =>
                          intro w hSw
                          try dsimp only at hSw
                          go_simp
                          try with_reducible rfl
                        simp only [Act.put, List.setIfInBounds_toArray, List.set_cons_zero, List.set_cons_succ]
                        refine wpAnyH_take (i := 7) (oi := { dst := some 83, op := _, type := _, pos := _, after := _, guard := _ }) (v := ?v7ez) rfl (by kernel_rfl) (by kernel_rfl) (by kernel_rfl) (fun _ _ _ h => h) (Or.inl ⟨by rfl, ?y7ez⟩) (by assumption) ?r7ez
                        case y7ez =>
                          intro w hSw
                          try dsimp only at hSw
                          go_simp
                          try with_reducible rfl
                        simp only [Act.put, List.setIfInBounds_toArray, List.set_cons_zero, List.set_cons_succ]
                        refine wpAnyH_take (i := 8) (oi := { dst := some 84, op := _, type := _, pos := _, after := _, guard := _ }) (v := ?v8ez) rfl (by kernel_rfl) (by kernel_rfl) (by kernel_rfl) (fun _ _ _ h => h) (Or.inl ⟨by rfl, ?y8ez⟩) (by assumption) ?r8ez
                        case y8ez =>
                          intro w hSw
                          try dsimp only at hSw
                          go_simp
                          try with_reducible rfl
                        simp only [Act.put, List.setIfInBounds_toArray, List.set_cons_zero, List.set_cons_succ]
                        refine wpAnyH_take (i := 9) (oi := { dst := some 85, op := _, type := _, pos := _, after := _, guard := _ }) (v := ?v9ez) rfl (by kernel_rfl) (by kernel_rfl) (by kernel_rfl) (fun _ _ _ h => h) (Or.inl ⟨by rfl, ?y9ez⟩) (by assumption) ?r9ez
                        case y9ez =>
                          intro w hSw
                          try dsimp only at hSw
                          go_simp
                          try with_reducible rfl
                        simp only [Act.put, List.setIfInBounds_toArray, List.set_cons_zero, List.set_cons_succ]
                        refine wpAnyH_take (i := 10) (oi := { dst := some 86, op := _, type := _, pos := _, after := _, guard := _ }) (v := ?v10ez) rfl (by kernel_rfl) (by kernel_rfl) (by kernel_rfl) (fun _ _ _ h => h) (Or.inl ⟨by rfl, ?y10ez⟩) (by assumption) ?r10ez
                        case y10ez =>
                          intro w hSw
                          try dsimp only at hSw
                          go_simp
                          try with_reducible rfl
                        simp only [Act.put, List.setIfInBounds_toArray, List.set_cons_zero, List.set_cons_succ]
                        refine wpAnyH_take (i := 11) (oi := { dst := some 87, op := _, type := _, pos := _, after := _, guard := _ }) (v := ?v11ez) rfl (by kernel_rfl) (by kernel_rfl) (by kernel_rfl) (fun _ _ _ h => h) (Or.inl ⟨by rfl, ?y11ez⟩) (by assumption) ?r11ez
                        case y11ez =>
                          intro w hSw
                          try dsimp only at hSw
                          go_simp
                          try with_reducible rfl
                        simp only [Act.put, List.setIfInBounds_toArray, List.set_cons_zero, List.set_cons_succ]
                        refine wpAnyH_take (i := 12) (oi := { dst := some 88, op := _, type := _, pos := _, after := _, guard := _ }) (v := ?v12ez) rfl (by kernel_rfl) (by kernel_rfl) (by kernel_rfl) (fun _ _ _ h => h) (Or.inl ⟨by rfl, ?y12ez⟩) (by assumption) ?r12ez
                        case y12ez =>
                          intro w hSw
                          try dsimp only at hSw
                          go_simp
                          try with_reducible rfl
                        simp only [Act.put, List.setIfInBounds_toArray, List.set_cons_zero, List.set_cons_succ]
                        refine wpAnyH_take (i := 13) (oi := { dst := some 89, op := _, type := _, pos := _, after := _, guard := _ }) (v := undef) rfl (by kernel_rfl) (by kernel_rfl) (by kernel_rfl) (fun _ _ _ h => h) (Or.inr ⟨by rfl, rfl⟩) (by assumption) ?_
                        simp only [Act.put, List.setIfInBounds_toArray, List.set_cons_zero, List.set_cons_succ]
                        refine wpAnyH_take (i := 14) (oi := { dst := some 90, op := _, type := _, pos := _, after := _, guard := _ }) (v := undef) rfl (by kernel_rfl) (by kernel_rfl) (by kernel_rfl) (fun _ _ _ h => h) (Or.inr ⟨by rfl, rfl⟩) (by assumption) ?_
                        simp only [Act.put, List.setIfInBounds_toArray, List.set_cons_zero, List.set_cons_succ]
                        refine wpAnyH_take (i := 15) (oi := { dst := some 91, op := _, type := _, pos := _, after := _, guard := _ }) (v := undef) rfl (by kernel_rfl) (by kernel_rfl) (by kernel_rfl) (fun _ _ _ h => h) (Or.inr ⟨by rfl, rfl⟩) (by assumption) ?_
                        simp only [Act.put, List.setIfInBounds_toArray, List.set_cons_zero, List.set_cons_succ]
                        refine wpAnyH_take (i := 16) (oi := { dst := some 92, op := _, type := _, pos := _, after := _, guard := _ }) (v := undef) rfl (by kernel_rfl) (by kernel_rfl) (by kernel_rfl) (fun _ _ _ h => h) (Or.inr ⟨by rfl, rfl⟩) (by assumption) ?_
                        simp only [Act.put, List.setIfInBounds_toArray, List.set_cons_zero, List.set_cons_succ]
                        refine wpAnyH_take (i := 17) (oi := { dst := some 93, op := _, type := _, pos := _, after := _, guard := _ }) (v := undef) rfl (by kernel_rfl) (by kernel_rfl) (by kernel_rfl) (fun _ _ _ h => h) (Or.inr ⟨by rfl, rfl⟩) (by assumption) ?_
                        simp only [Act.put, List.setIfInBounds_toArray, List.set_cons_zero, List.set_cons_succ]
                        refine wpAnyH_take (i := 18) (oi := { dst := some 94, op := _, type := _, pos := _, after := _, guard := _ }) (v := ?v18ez) rfl (by kernel_rfl) (by kernel_rfl) (by kernel_rfl) (fun _ _ _ h => h) (Or.inl ⟨by rfl, ?y18ez⟩) (by assumption) ?r18ez
                        case y18ez =>
                          intro w hSw
                          try dsimp only at hSw
                          go_simp
                          try with_reducible rfl
                        simp only [Act.put, List.setIfInBounds_toArray, List.set_cons_zero, List.set_cons_succ]
                        refine wpAnyH_done (by kernel_rfl) ?_ _
                        go_wp2_with fail
                        go_roundg (N - (j + 1))
                        case measure => omega
                        case rel => exact ⟨j + 1, p, cf, by omega, rfl, by go_num, rfl, HLAB.out, HNO.out (fun _ h _ => by have := HG.out; omega), own, (by first | exact R.drew.drew | exact R.drew)⟩
                · have e : j = N := by omega
                  subst e
                  go_wp2_with fail
                  go_roundg (j - (k + 1))
                  case measure => omega
                  case rel => exact ⟨k + 1, p, cf, by omega, rfl, by go_num, rfl, HLAB.out, HPASS.out.row, own, R⟩
            · have e : k = N := by omega
              subst e
              go_wp2_with fail
              go_roundg (if cf then sumL p + 1 else 0)
              case measure =>
                cases cf
                · simp
                · have := HPASS.out.2 rfl; simp; omega
              case rel => exact ⟨p, cf, rfl, rfl, HLAB.out, fun hc k' j' hk' hj' h1 h2 h3 => (HPASS.out.1 hc).2 k' j' hj' (.inl hk') ⟨h1, h2, h3⟩, own, R⟩

end Go.Proofs.Ytepnhhehfkcgkaa
