/-
  l2All and TilingsAll of the reference: what they return.
-/
import Derived.Test.YtcnkpcnbobiodaaAllI
import Derived.Test.YtcnkpcnbobiodaaFirstA
import Derived.Test.YtcnkpcnbobiodaaBare
import Derived.Test.YtcnkpcnbobiodaaFirst
namespace Go.Proofs.Ytcnkpcnbobiodaa
open Go.RowKit
open Til (on open' tilings Done oneT)

/-- What l2All gives back. -/
def AllS (W T n : Nat) (bs : List Bool) (zs : List Int) (base : Nat) (B : Option Addr) (w : World) (e : Ending) (w' : World) : Prop :=
  ∃ g c gs, e = .returned (.slice (some ⟨g, 0, none⟩) (tilings W T n bs zs).length c) ∧ LL w' base (some ⟨g, 0, none⟩) c gs (tilings W T n bs zs) ∧ Below w.heap.size w w' ∧ w.heap.size ≤ g ∧ ∀ g' ∈ gs, (∃ off, B = some ⟨g', off, none⟩) ∨ w.heap.size ≤ g'

set_option maxRecDepth 100000 in
set_option maxHeartbeats 4000000 in
theorem l2All_any (A : Option Addr) (n c W T : Nat) (bs : List Bool) (V : Valid W T n bs) (base : Nat) : ∀ (rem : Nat) (B : Option Addr) (d d0 : Nat) (zs : List Int) (w : World), rem ≤ n → Done bs zs (n - rem) → zs.length = n → laysAll W T bs zs n = true → Sl w A n (bs.map .bool) → Own w base w.heap.size 3 B n d0 (zs.map (.int .i64)) → base ≤ w.heap.size → (tilings W T n bs zs).length ≤ 1099511627774 →
    Calls Try.prog 72 #[.agg #[.int .i64 W, .int .i64 T, .slice A n c], .slice B n d] w (AllS W T n bs zs base B w) := by
  have n36 := V.n36
  have HVS := Lib.hid V.size
  have HVL := Lib.hid V.len
  have n0 : 0 < n := by have := V.size; have := Nat.mul_pos V.w0 V.t0; omega
  intro rem
  induction rem using Nat.strongRecOn with
  | ind rem ih =>
  intro B d d0 zs w hrem hdone hlz hla hS hO hbase hlen
  have HIH := Lib.hid ih
  have HLZ := Lib.hid hlz
  have HLA := Lib.hid hla
  have HDONE := Lib.hid hdone
  have HLEN := Lib.hid hlen
  clear ih hlz hdone hla hlen
  go_enter Try.func72, Try.ntmps72
  have R0 := (P1.new w (.int .i64 W) (.int .i64 T) (.slice A n c) 27).alloc (.cells #[] 33)
  have L0 := LL.made (w.alloc (.cells #[.int .i64 W, .int .i64 T, .slice A n c] 27)) (base := base) (by simp; omega)
  rw [World.size_alloc] at L0
  go_wp2_with fail
  refine (first_any A n c W T bs B d zs _ V (hS.below R0.B) (hO.sl.below R0.B)).mono ?_; rintro e w1 ⟨f, rfl, hf, hb1⟩
  have R1 := R0.below hb1
  have L1 := L0.below hb1
  clear R0 L0 hb1
  have k1 := R1.X.1
  have k2 := R1.X.2.1
  have k3 := R1.X.2.2
  have z1 := R1.B.size
  have zz1 := R1.z
  rcases hf with ⟨rfl, hdn⟩ | ⟨j, rfl, hlt, hdn, hop⟩
  · have HT := Lib.hid (Til.tilings_none (W := W) (T := T) hdn)
    clear hdn
    obtain ⟨bb, hBB, -, hblt⟩ := hO.form n0
    subst hBB
    obtain ⟨vs, o, hr, hd, hf⟩ := L1
    have hvs : vs = [] := by have := o.len; exact List.eq_nil_of_length_eq_zero this
    subst hvs
    have HR := Lib.hid hr
    clear hr hf hd
    go_wp2_with (at_builtin; go_loud (refine wpList_append1B rfl _ _ 43 rfl 33 (.slice none 0 0) 24 Try.underlying43 infoIS rfl (o.alloc _) rfl w1.heap.size _ rfl (cell0_new _ _ _) rfl (by simp) (by omega) (by simp; omega) ?_; intro C2 c2 w5 O5 hg5 hn5))
    go_ret
    obtain ⟨g2, hC2, -, -⟩ := O5.form (by omega)
    subst hC2
    have o' : Own w1 base w1.heap.size 33 (some ⟨w.heap.size + 1, 0, none⟩) ([] : List (List Int)).length 0 [] := o
    have LL5 : LL w5 base (some ⟨g2, 0, none⟩) c2 ([] ++ [bb]) ([] ++ [zs]) := LL.grow o' (gs := []) (vs := []) trivial (by simp) (by simp) (gs2 := [bb]) (M2 := [zs]) (RowsAt.single ⟨d, d0, by rw [HLZ.out], by rw [HLZ.out]; exact (hO.below R1.B).top (by omega)⟩) (by simp) (by simp) (fun g hg off => by simp at hg; subst hg; intro e; injection e with e; injection e with e _ _; omega) (below1 w1 _) (by simp) O5 hg5 hn5
    have E : tilings W T n bs zs = [zs] := HT.out
    rw [AllS, E]
    exact ⟨g2, c2, [bb], rfl, LL5, (belowA R1.B).grown hg5 (by simp; omega) (fun k hk => by simp at hk; omega), by rcases hn5 with e | e <;> (injection e with e; injection e with e _ _; first | omega | (simp at e; omega)), fun g hg => by simp at hg; subst hg; exact .inl ⟨0, rfl⟩⟩
  · have HTF := Lib.hid (Til.tilings_first (W := W) (T := T) HVL.out HLZ.out hlt hdn hop)
    have hjr : n - rem ≤ j := by
      rcases Nat.lt_or_ge j (n - rem) with h | h
      · have := HDONE.out j h; rw [hop] at this; cases this
      · exact h
    have HDN := Lib.hid hdn
    have hj0 : decide ((j : Int) < 0) = false := decide_eq_false (by omega)
    have HV := Lib.hid (laid_true V HLA.out)
    have HZI := Lib.hid (lays_i64 HLZ.out HLA.out)
    clear hdn hop
    go_wp2_with fail
    go_loopg [5, 7, 8, 9] 2 (fun gk s5 s7 _ _ wx => ∃ y : Nat, y ≤ 2 ∧ gk = 2 - y ∧ s7 = .int .i64 ((y + 1 : Nat) : Int) ∧ ∃ g1 c1 gs1, s5 = .slice (some ⟨g1, 0, none⟩) (oneTo W T n bs zs j y).length c1 ∧ LL wx base (some ⟨g1, 0, none⟩) c1 gs1 (oneTo W T n bs zs j y) ∧ w.heap.size < g1 ∧ (∀ g ∈ gs1, w.heap.size ≤ g) ∧ P1 w (.int .i64 W) (.int .i64 T) (.slice A n c) wx)
    case atStart => exact ⟨0, by omega, rfl, rfl, w.heap.size + 1, 0, [], rfl, L1, by omega, by simp, R1⟩
    case round =>
      clear R1 L1 k1 k2 k3
      obtain ⟨y, hy2, rfl, rfl, g1, c1, gs1, rfl, L, hg1, hgs1, R⟩ := hrel
      have HGS := Lib.hid hgs1
      clear hgs1
      have k1 := R.X.1
      have k2 := R.X.2.1
      have k3 := R.X.2.2
      have hzr := R.B.size
      by_cases hy3 : y < 2
      · have hyi : ((y + 1 : Nat) : Int) = (y : Int) + 1 := by omega
        have HWI := Lib.hid hyi
        obtain ⟨f, hf⟩ : ∃ f, freeK W T bs zs j ((y : Int) + 1) = f := ⟨_, rfl⟩
        have HF := Lib.hid hf
        have hFB : freeB W T n bs zs (j : Int) ((y : Int) + 1) = f := by rw [freeB, inB_iff.2 (by omega), Bool.true_and]; exact hf
        have hok : layOk W T n bs n zs j ((y : Int) + 1) = f := by rw [layOk, Int.toNat_natCast, Int.toNat_natCast, HV.out, hFB]; rfl
        have hZ : layZ W T n bs n zs j ((y : Int) + 1) = if f then layL W T zs j ((y : Int) + 1) else zs := by rw [layZ, HV.out, if_pos rfl, Int.toNat_natCast, Int.toNat_natCast, hFB, Int.toNat_natCast]
        have HOK := Lib.hid hok
        have HZ := Lib.hid hZ
        rw [hyi]
        clear hyi hFB hok hZ
        go_wp2_with fail
        have HLAY := lay_spec A n c W T bs B n d zs (j : Int) ((y : Int) + 1) wr (by omega) (hS.below R.B) (by omega) (hO.sl.below R.B) HZI.out ⟨by omega, by omega⟩ ⟨by omega, by omega⟩
        rw [HOK.out] at HLAY
        refine HLAY.mono ?_; rintro e w4 ⟨D, q, q0, rfl, own, hb4, hle⟩
        have R4 := R.below hb4
        have L4 := L.below hb4
        have lt1 := L.lt
        have ltC := (L.ltC g1 0 rfl).2
        have LT := Lib.hid lt1
        clear R L k1 k2 k3 lt1
        have k1 := R4.X.1
        have k2 := R4.X.2.1
        have k3 := R4.X.2.2
        have z4 := hb4.size
        cases f
        · have HONE := Lib.hid (show oneT W T n bs zs j ((y + 1 : Nat) : Int) = [] by rw [Til.oneT, HWI.out, HF.out]; rfl)
          clear hf own hb4
          go_wp2_with fail
          go_roundg (2 - (y + 1))
          case measure => omega
          case rel => exact ⟨y + 1, by omega, rfl, by go_num, g1, c1, gs1, by rw [oneTo, HONE.out, List.append_nil], by rw [oneTo, HONE.out, List.append_nil]; exact L4, hg1, HGS.out, R4⟩
        · obtain ⟨jj, hs, hjj, w0, w4'⟩ := free_step V hlt hf
          have HONE := Lib.hid (show oneT W T n bs zs j ((y + 1 : Nat) : Int) = tilings W T n bs (layL W T zs j ((y : Int) + 1)) by rw [Til.oneT, HWI.out, HF.out]; rfl)
          have HDL := Lib.hid (HDN.out.lay (W := W) (T := T) (way := ((y : Int) + 1)) (by rw [HLZ.out, HVL.out]) (by rw [HLZ.out]; exact hlt) hs (by rw [HLZ.out]; exact hjj) w0)
          have HLL := Lib.hid (Til.lays_lay V.w0 HVS.out HVL.out HLZ.out HLA.out hf)
          have hln : (oneTo W T n bs zs j y).length + (tilings W T n bs (layL W T zs j ((y : Int) + 1))).length ≤ 1099511627774 := by
            have h1 := HLEN.out
            have h2 : (tilings W T n bs (layL W T zs j ((y : Int) + 1))).length = (oneT W T n bs zs j ((y + 1 : Nat) : Int)).length := by rw [HONE.out]
            rw [HTF.out, List.length_append] at h1
            rw [h2]
            rcases (show y = 0 ∨ y = 1 by omega) with rfl | rfl
            · show 0 + (oneT W T n bs zs j 1).length ≤ _; omega
            · show (oneT W T n bs zs j 1).length + (oneT W T n bs zs j 2).length ≤ _; omega
          have HLN := Lib.hid hln
          rw [HZ.out, if_pos rfl, Til.layL_len, HLZ.out] at own
          rw [HZ.out, if_pos rfl, Til.layL_len, HLZ.out]
          have HC := Lib.hid (HIH.out (n - (j + 1)) (by omega) D q q0 (layL W T zs j ((y : Int) + 1)) w4 (by omega) (by rw [show n - (n - (j + 1)) = j + 1 by omega]; exact HDL.out) (by rw [Til.layL_len, HLZ.out]) HLL.out (hS.below R4.B) (own.base (by omega)) (by have := R4.B.size; omega) (by omega))
          have OD := Lib.hid own.2
          clear hf hs own hln
          go_wp2_with fail
          refine HC.out.mono ?_; rintro e w5 ⟨g2, c2, gs2, rfl, L2, hb5, hg2, hgs2⟩
          have R5 := R4.below hb5
          have L5 := L4.below hb5
          have z5 := hb5.size
          clear R4 L4 k1 k2 k3 hb4 hb5 HC
          have k1 := R5.X.1
          have k2 := R5.X.2.1
          have k3 := R5.X.2.2
          obtain ⟨vs1, o1, hr1, hd1, hf1⟩ := L5
          obtain ⟨vs2, o2, hr2, hd2, hf2⟩ := L2
          have one2 := hr2.one
          have ro2 := (hr2.lt)
          have HR1 := Lib.hid hr1
          have HR2 := Lib.hid hr2
          have HD1 := Lib.hid hd1
          have HD2 := Lib.hid hd2
          have HF1 := Lib.hid hf1
          have new2 : ∀ g ∈ gs2, wr.heap.size ≤ g := fun g hg => (hgs2 g hg).elim (fun ⟨off, e⟩ => (OD.out g off e).1) (fun h => by omega)
          have HN2 := Lib.hid new2
          clear hr1 hr2 hd1 hd2 hf1 hf2 hgs2 new2 ro2
          have HONE2 := Lib.hid one2
          clear one2
          go_wp2_with (at_builtin; go_loud (refine wpList_appendNB rfl _ _ 43 rfl 33 (.slice none 0 0) 24 Try.underlying43 infoIS rfl o1 rfl ⟨g2, 0, none⟩ (tilings W T n bs (layL W T zs j ((y : Int) + 1))).length c2 vs2 rfl o2.sl HONE2.out (by have := HLN.out; omega) (by omega) (by omega) ?_; intro g3 c3 w6 O6 hg6 hn6))
          have L6 := LL.grow o1 HR1.out HD1.out HF1.out HR2.out HD2.out (fun g hg hm => by have := HN2.out g hm; have := (LT.out g hg).2; omega) (fun g hg off e => by injection e with e; injection e with e _ _; have := HN2.out g hg; omega) (Below.refl _ _) (by rw [List.length_append]) O6 hg6 hn6
          have R6 : P1 w (.int .i64 W) (.int .i64 T) (.slice A n c) w6 := ⟨R5.X.grown hg6 (by simp; omega), R5.B.grown hg6 R5.B.size (fun k hk => by simp at hk; omega), Nat.le_trans R5.z hg6.size⟩
          go_roundg (2 - (y + 1))
          case measure => omega
          case rel =>
            refine ⟨y + 1, by omega, rfl, by go_num, g3, c3, gs1 ++ gs2, by rw [oneTo, HONE.out, List.length_append], by rw [oneTo, HONE.out]; exact L6, ?_, fun g hg => ?_, R6⟩
            · rcases hn6 with e | e <;> (injection e with e; injection e with e _ _; omega)
            · rcases List.mem_append.1 hg with hg | hg
              · exact HGS.out g hg
              · have := HN2.out g hg; omega
      · obtain rfl : y = 2 := by omega
        have ET : oneTo W T n bs zs j 2 = tilings W T n bs zs := by rw [HTF.out]; rfl
        rw [ET] at L
        rw [ET]
        go_wp2_with fail
        go_ret
        exact ⟨g1, c1, gs1, rfl, L, R.B, by omega, fun g hg => .inr (HGS.out g hg)⟩

set_option maxRecDepth 100000 in
set_option maxHeartbeats 4000000 in
theorem tilAll_spec (A : Option Addr) (n c : Nat) (W T : Int) (bs : List Bool) (w : World) (hn : n ≤ 1048576) (h : Sl w A n (bs.map .bool)) :
    Calls Try.prog 34 #[.agg #[.int .i64 W, .int .i64 T, .slice A n c]] w fun e w' => OutSS w w' e (tilL W T n bs) := by
  have hl := h.1
  rw [List.length_map] at hl
  by_cases hv : validB W T n bs = true
  · obtain ⟨W, T, rfl, rfl, V⟩ := valid_of hv hl
    have n36 := V.n36
    have E : tilL W T n bs = bare W T n bs := by rw [tilL, if_pos hv]; rfl
    have EB : bareF W T n bs = List.replicate n 0 := by rw [bareF, if_pos hv]
    rw [E]
    have HV := Lib.hid hv
    have HE := Lib.hid EB
    clear hl hv E EB
    go_enter Try.func34, Try.ntmps34
    go_wp2_with fail
    refine (valid_spec A n c W T bs _ (by omega) (h.alloc _)).mono ?_; rintro e w1 ⟨rfl, hb1⟩
    rw [HV.out]
    have R1 := P1.of hb1
    clear hb1
    have k1 := R1.X.1
    have k2 := R1.X.2.1
    have k3 := R1.X.2.2
    go_wp2_with fail
    go_region_held3 (fun w' => w'.cell? ⟨w.heap.size, 0, none⟩ = some (.int .i64 W) ∧ w'.cell? ⟨w.heap.size, 1, none⟩ = some (.int .i64 T) ∧ w'.cell? ⟨w.heap.size, 2, none⟩ = some (.slice A n c))
      (first | exact ⟨k1, k2, k3⟩ | go_keep)
      (first
        | (go_at_call 72; refine (l2All_any A n c W T bs V w.heap.size n D d d0 (List.replicate n 0) _ (Nat.le_refl _) (fun i hi => by omega) (by simp) (Til.laysAll_of n (fun i hi => Til.laysOne_iff.2 (.inl (by rw [ent, List.getElem?_replicate, if_pos hi]; rfl)))) (h.below R3.B) (own.base R1.B.size) R3.B.size (by have := bare_le V; rw [bare] at this; omega)).mono ?_; rintro e w4 ⟨g, c4, gs, rfl, L4, hb4, hg4, hgs4⟩; have R4 := R3.below hb4; have r1 := R4.X.1; have r2 := R4.X.2.1; have r3 := R4.X.2.2)
        | (go_at_call 70; refine (bare_spec A n c W T bs _ hn (h.below R1.B).drew).mono ?_; rintro e w3 ⟨D, d, d0, rfl, own, hb3, hle⟩; rw [HE.out, List.length_replicate] at own; rw [HE.out, List.length_replicate]; have R3 := R1.drew.below hb3; have q1 := R3.X.1; have q2 := R3.X.2.1; have q3 := R3.X.2.2)
        | fail)
    all_goals
      go_wp2_with fail
      go_ret
      exact ⟨some ⟨g, 0, none⟩, c4, c4, gs, rfl, L4, R4.B, Nat.le_trans (bare_le V) (by omega), fun t ht => by rw [bare_mem V t ht]; exact n36⟩
  · have E : tilL W T n bs = [] := by rw [tilL, if_neg hv]
    rw [E]
    have hv' : validB W T n bs = false := by simpa using hv
    have HV := Lib.hid hv'
    clear hl hv hv' E
    go_enter Try.func34, Try.ntmps34
    go_wp2_with fail
    refine (valid_spec A n c W T bs _ (by omega) (h.alloc _)).mono ?_; rintro e w1 ⟨rfl, hb1⟩
    rw [HV.out]
    have R1 := P1.of hb1
    clear hb1
    go_wp2_with fail
    go_ret
    exact ⟨some ⟨w1.heap.size, 0, none⟩, 0, 0, [], rfl, (LL.made w1 R1.B.size), belowA R1.B, by simp, fun t ht => by cases ht⟩

end Go.Proofs.Ytcnkpcnbobiodaa
