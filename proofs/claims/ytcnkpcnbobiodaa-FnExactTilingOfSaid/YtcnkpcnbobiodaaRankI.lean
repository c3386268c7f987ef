/-
  RankOf and TilingOf of the program: what they return.
-/
import Derived.Test.YtcnkpcnbobiodaaRankP
import Derived.Test.YtcnkpcnbobiodaaAllI
import Derived.Test.YtcnkpcnbobiodaaLawM
namespace Go.Proofs.Ytcnkpcnbobiodaa
open Go.RowKit
open Til (tilings pos)

/-- The place of a tiling in the list of all. -/
def rankF (W T : Int) (n : Nat) (bs : List Bool) (m : Nat) (zs : List Int) : Int := if tilB W T n bs m zs then ((pos zs (tilL W T n bs) : Nat) : Int) else -1
def tofB (W T : Int) (n : Nat) (bs : List Bool) (x : Int) : Bool := inB x 0 ((tilL W T n bs).length - 1)
def tofZ (W T : Int) (n : Nat) (bs : List Bool) (x : Int) : List Int := if tofB W T n bs x then ((tilL W T n bs)[x.toNat]?).getD [] else []
theorem lays_zero {W T n : Nat} {bs : List Bool} : laysAll W T bs (List.replicate n 0) n = true :=
  Til.laysAll_of n (fun i hi => Til.laysOne_iff.2 (.inl (by rw [ent, List.getElem?_replicate, if_pos hi]; rfl)))
theorem ext_zero {n : Nat} {t : List Int} (h : t.length = n) : Til.Ext (List.replicate n 0) t :=
  ⟨by simp [h], fun i hi => absurd (by unfold ent; rw [List.getElem?_replicate]; split <;> rfl) hi⟩
theorem til_parts {W T : Int} {n m : Nat} {bs : List Bool} {zs : List Int} (h : tilB W T n bs m zs = true) (hl : bs.length = n) : ∃ W' T' : Nat, W = W' ∧ T = T' ∧ Valid W' T' n bs ∧ m = n ∧ laysAll W' T' bs zs n = true ∧ fullAll bs zs n = true := by
  rw [tilB, Bool.and_eq_true] at h
  obtain ⟨W', T', e1, e2, V, e3, hla⟩ := laid_of h.1 hl
  exact ⟨W', T', e1, e2, V, e3, hla, h.2⟩
theorem bare_in {W T n : Nat} {bs : List Bool} {zs : List Int} (V : Valid W T n bs) (hl : zs.length = n) (hla : laysAll W T bs zs n = true) (hfu : fullAll bs zs n = true) : zs ∈ bare W T n bs :=
  Til.tilings_mem V.w0 V.size V.len hl hla hfu (by simp) lays_zero (ext_zero hl)

set_option maxHeartbeats 1000000 in
theorem equal_q (A B : Option Addr) (n m c d : Nat) (xs ys : List Int) (w : World) (hn : n ≤ 9223372036854775807) (ha : Sl w A n (xs.map (.int .i64))) (hb : Sl w B m (ys.map (.int .i64))) :
    Calls Try.prog 81 #[.slice A n c, .slice B m d] w fun e w' => e = .returned (.bool (eqI xs ys)) ∧ ∃ q, w' = w.drewN q := by
  have la := ha.1
  have lb := hb.1
  rw [List.length_map] at la lb
  by_cases hne : n = m
  · subst hne
    have hnn : ((n : Int) != n) = false := by simp
    have LA := Lib.hid la
    have LB := Lib.hid lb
    clear la lb
    go_enter Try.func81, Try.ntmps81
    go_wp2_with fail
    go_loopw [5, 13] (fun _ i wr => ∃ k q : Nat, k ≤ n ∧ i = .int .i64 k ∧ xs.take k = ys.take k ∧ wr = w.drewN q) (fun _ i _ => n - (intOf i).toNat)
    case atStart => exact ⟨0, 0, Nat.zero_le _, rfl, rfl, rfl⟩
    case round =>
      obtain ⟨k, q, hk, rfl, heq, hw⟩ := hrel
      have HW := Lib.hid hw
      clear hw
      have HE := Lib.hid heq
      clear heq hnn
      by_cases hlt : k < n
      · obtain ⟨b, off, x, rfl, hx, hc⟩ := (ha.ofDrewN HW.out).atI hlt
        obtain ⟨b', off', y, rfl, hy, hc'⟩ := (hb.ofDrewN HW.out).atI hlt
        have HX := Lib.hid hx
        have HY := Lib.hid hy
        clear hx hy
        by_cases hxy : x = y
        · subst hxy
          go_wp2_with fail
          go_quiet (fail)
          go_wp2_with fail
          go_roundw
          case rel => exact ⟨k + 1, _, by omega, by go_num, by rw [take_snoc HX.out, take_snoc HY.out, HE.out], by rw [HW.out, World.drewN_drewN]⟩
          case measure => simp [intOf]; omega
        · have hxb : (x == y) = false := by simpa using hxy
          have hno : eqI xs ys = false := by
            rw [eqI, decide_eq_false_iff_not]; rintro rfl; rw [HX.out] at HY; exact hxy (by simpa using HY.out)
          have HN := Lib.hid hno
          clear hno hxy
          go_wp2_with fail
          go_quiet (fail)
          go_wp2_with fail
          go_ret
          exact ⟨ret_b HN.out.symm, _, by rw [HW.out, World.drewN_drewN]⟩
      · have e : k = n := by omega
        subst e
        go_wp2_with fail
        go_ret
        refine ⟨ret_b ?_, _, HW.out⟩
        have h := HE.out
        rw [List.take_of_length_le (by rw [LA.out]; exact Nat.le_refl _), List.take_of_length_le (by rw [LB.out]; exact Nat.le_refl _)] at h
        simp [eqI, h]
  · have hnn : ((n : Int) != m) = true := by rw [bne_iff_ne]; omega
    have hno : eqI xs ys = false := by rw [eqI, decide_eq_false_iff_not]; rintro rfl; omega
    have HN := Lib.hid hno
    clear hno hne la lb
    go_enter Try.func81, Try.ntmps81
    go_wp2_with fail
    go_ret
    exact ⟨ret_b HN.out.symm, 0, rfl⟩

theorem rank1_any (bp : Nat) (A B : Option Addr) (n m c d : Nat) (xs ys : List Int) (w : World) (hn : n ≤ 9223372036854775807) (ha : Sl w A n (xs.map (.int .i64))) (hp : w.cell? ⟨bp, 0, none⟩ = some (.slice B m d)) (hb : Sl w B m (ys.map (.int .i64))) :
    Calls Try.prog 80 #[.slice A n c, .pointer (some ⟨bp, 0, none⟩)] w fun e w' => e = .returned (.bool (eqI xs ys)) ∧ ∃ q, w' = w.drewN q := by
  go_enter Try.func80, Try.ntmps80
  go_wp2_with fail
  refine (equal_q A B n m c d xs ys _ hn ha hb).mono ?_; rintro e w1 ⟨rfl, q, rfl⟩
  go_wp2_with fail
  go_ret
  exact ⟨rfl, q, rfl⟩

set_option maxHeartbeats 1000000 in
theorem index_any (bp : Nat) (C B : Option Addr) (n c m d : Nat) (M : List (List Int)) (ys : List Int) (w : World) (hn : n ≤ 9223372036854775807) (hM : Mx w C n M) (hp : w.cell? ⟨bp, 0, none⟩ = some (.slice B m d)) (hb : Sl w B m (ys.map (.int .i64))) (hin : ys ∈ M) :
    Calls Try.prog 79 #[.slice C n c, .func (.func 80) #[] #[.pointer (some ⟨bp, 0, none⟩)]] w fun e w' => e = .returned (.int .i64 (pos ys M : Nat)) ∧ ∃ q, w' = w.drewN q := by
  have HN := Lib.hid hM.1
  have HIN := Lib.hid hin
  clear hin
  go_enter Try.func79, Try.ntmps79
  go_wp2_with fail
  go_loopw [5, 8] (fun _ i wr => ∃ k q : Nat, k ≤ n ∧ i = .int .i64 k ∧ (∀ j a, j < k → M[j]? = some a → a ≠ ys) ∧ wr = w.drewN q) (fun _ i _ => n - (intOf i).toNat)
  case atStart => exact ⟨0, 0, Nat.zero_le _, rfl, fun j a h => by omega, rfl⟩
  case round =>
    obtain ⟨k, q, hk, rfl, hno, hw⟩ := hrel
    have HW := Lib.hid hw
    have HNO := Lib.hid hno
    clear hw hno
    by_cases hlt : k < n
    · obtain ⟨row, b, off, r, cc, hrow, rfl, hc, hs, hrl⟩ := (hM.ofDrewN HW.out).at_ hlt
      have HR := Lib.hid hrow
      clear hrow
      have hp' : wr.cell? ⟨bp, 0, none⟩ = some (.slice B m d) := by rw [HW.out]; exact hp
      have hb' := hb.ofDrewN HW.out
      cases he : eqI row ys
      · have HE := Lib.hid he
        go_wp2_with fail
        refine (rank1_any bp r B row.length m cc d row ys _ hrl hs hp' hb').mono ?_; rintro e w1 ⟨rfl, q1, rfl⟩
        rw [HE.out]
        go_wp2_with fail
        go_roundw
        case rel => exact ⟨k + 1, q + q1, by omega, by go_num, fun j a hj ha => by
          by_cases e : j = k
          · subst e; rw [HR.out] at ha; injection ha with ha; subst ha; have := HE.out; rw [eqI, decide_eq_false_iff_not] at this; exact this
          · exact HNO.out j a (by omega) ha, by rw [HW.out, World.drewN_drewN]⟩
        case measure => simp [intOf]; omega
      · have HE := Lib.hid he
        go_wp2_with fail
        refine (rank1_any bp r B row.length m cc d row ys _ hrl hs hp' hb').mono ?_; rintro e w1 ⟨rfl, q1, rfl⟩
        rw [HE.out]
        go_wp2_with fail
        go_ret
        have e := HE.out
        rw [eqI, decide_eq_true_eq] at e
        exact ⟨ret_i (by rw [Til.pos_eq (k := k) (by rw [HR.out, e]) HNO.out]), q + q1, by rw [HW.out, World.drewN_drewN]⟩
    · exfalso
      have e : k = n := by omega
      subst e
      obtain ⟨i, hi⟩ := List.getElem?_of_mem HIN.out
      exact HNO.out i ys (by have := lt_of_get hi; have := HN.out; omega) hi rfl

set_option maxRecDepth 100000 in
set_option maxHeartbeats 4000000 in
theorem rank_impl (A : Option Addr) (n c : Nat) (W T : Int) (bs : List Bool) (B : Option Addr) (m d : Nat) (zs : List Int) (w : World) (hn : n ≤ 1048576) (h : Sl w A n (bs.map .bool)) (hm : m ≤ 1048576) (h' : Sl w B m (zs.map (.int .i64))) (hz : ∀ z ∈ zs, I64 z) :
    Calls Try.prog 40 #[.agg #[.int .i64 W, .int .i64 T, .slice A n c], .slice B m d] w fun e w' => e = .returned (.int .i64 (rankF W T n bs m zs)) ∧ Below w.heap.size w w' := by
  have hl := h.1
  rw [List.length_map] at hl
  have hl' := h'.1
  rw [List.length_map] at hl'
  have HZ0 := Lib.hid hz
  clear hz
  have hmf : ∀ (fn : Fn) (first cap : Array Value) (w : World), (Instr.makeFunc fn first cap).run Try.prog w = .ok (.func fn first cap) w := fun _ _ _ _ => rfl
  have R0 := (P1.new w (.int .i64 W) (.int .i64 T) (.slice A n c) 27).alloc (.cells #[.slice B m d] 33)
  have c0 := cell0_new (w.alloc (.cells #[.int .i64 W, .int .i64 T, .slice A n c] 27)) (.slice B m d) 33
  rw [World.size_alloc] at c0
  have k1 := R0.X.1
  have k2 := R0.X.2.1
  have k3 := R0.X.2.2
  cases hv : tilB W T n bs m zs
  · have E : Hid (rankF W T n bs m zs = -1) := by show _ = _; rw [rankF, hv]; rfl
    have HV := Lib.hid hv
    clear hl hl' hv
    go_enter Try.func40, Try.ntmps40
    go_wp2_with fail
    refine (til_impl A n c W T bs B m d zs _ hn (h.below R0.B) hm (h'.below R0.B) HZ0.out).mono ?_; rintro e w1 ⟨rfl, hb1⟩
    rw [HV.out]
    go_wp2_with fail
    go_ret
    exact ⟨ret_i E.out.symm, belowW R0.B hb1⟩
  · have E : Hid (rankF W T n bs m zs = (pos zs (tilL W T n bs) : Nat)) := by show _ = _; rw [rankF, hv]; rfl
    have HV := Lib.hid hv
    obtain ⟨W, T, rfl, rfl, V, rfl, hla, hfu⟩ := til_parts hv hl
    have n36 := V.n36
    have EL : Hid (tilL (W : Int) (T : Int) m bs = bare W T m bs) := by show _ = _; rw [tilL, if_pos V.ok]; rfl
    have HIN := Lib.hid (bare_in V hl' hla hfu)
    clear hl hl' hv hla hfu
    go_enter Try.func40, Try.ntmps40
    go_wp2_with fail
    refine (til_impl A m c W T bs B m d zs _ hn (h.below R0.B) hm (h'.below R0.B) HZ0.out).mono ?_; rintro e w1 ⟨rfl, hb1⟩
    rw [HV.out]
    have R1 := R0.below hb1
    have c1 := (World.cell?_of_block (w := ((w.alloc (.cells #[.int .i64 W, .int .i64 T, .slice A m c] 27)).alloc (.cells #[.slice B m d] 33))) (hb1.block (w.heap.size + 1) (by simp))).trans c0
    have z1 : w.heap.size + 1 < w1.heap.size := World.block_lt_of_cell? w1 _ c1
    clear R0 c0 k1 k2 k3 hb1
    have k1 := R1.X.1
    have k2 := R1.X.2.1
    have k3 := R1.X.2.2
    go_wp2_with fail
    go_wp2_with (first
        | (go_at_call 79; refine (index_any (w.heap.size + 1) C B _ c2 m d (bare W T m bs) zs _ (by omega) (hL.mx (fun t ht => by have := hmem t ht; omega)) ((hb2.cell (p := ⟨w.heap.size + 1, 0, none⟩) z1).trans c1) (h'.below (R2.B)) HIN.out).mono ?_; rintro e w3 ⟨rfl, qq, rfl⟩; have R3 := R2.drewN qq; have r1 := R3.X.1; have r2 := R3.X.2.1; have r3 := R3.X.2.2)
        | (go_at_call 73; refine (tilings_any A m c W T bs _ V (h.below R1.B)).mono ?_; rintro e w2 ⟨C, c2, c0', gs, rfl, hL, hb2, hm2, hmem⟩; have R2 := R1.below hb2; have q1 := R2.X.1; have q2 := R2.X.2.1; have q3 := R2.X.2.2))
    go_ret
    exact ⟨ret_i (by rw [E.out, EL.out]), R3.B⟩

set_option maxRecDepth 100000 in
set_option maxHeartbeats 4000000 in
theorem tof_impl (A : Option Addr) (n c : Nat) (W T : Int) (bs : List Bool) (x : Int) (w : World) (hn : n ≤ 1048576) (h : Sl w A n (bs.map .bool)) (hx : I64 x) :
    Calls Try.prog 42 #[.agg #[.int .i64 W, .int .i64 T, .slice A n c], .int .i64 x] w fun e w' => OutLB w w' e (tofZ W T n bs x) (tofB W T n bs x) := by
  have hl := h.1
  rw [List.length_map] at hl
  by_cases hv : validB W T n bs = true
  · obtain ⟨W, T, rfl, rfl, V⟩ := valid_of hv hl
    have n36 := V.n36
    have EL : tilL (W : Int) (T : Int) n bs = bare W T n bs := by rw [tilL, if_pos hv]; rfl
    have HV := Lib.hid hv
    have HEL := Lib.hid EL
    clear hl hv EL
    go_enter Try.func42, Try.ntmps42
    go_wp2_with fail
    refine (valid_impl A n c W T bs _ (by omega) (h.alloc _)).mono ?_; rintro e w1 ⟨rfl, hb1⟩
    rw [HV.out]
    have R1 := P1.of hb1
    clear hb1
    have k1 := R1.X.1
    have k2 := R1.X.2.1
    have k3 := R1.X.2.2
    go_wp2_with fail
    refine (tilings_any A n c W T bs _ V (h.below R1.B)).mono ?_; rintro e w2 ⟨C, c2, c0', gs, rfl, hL, hb2, hm2, hmem⟩
    have R2 := R1.below hb2
    go_wp2_with fail
    refine (in_any _ _ _ _).mono ?_; rintro e w3 ⟨rfl, rfl⟩
    have EB : tofB W T n bs x = inB x 0 ((bare W T n bs).length - 1) := by rw [tofB, HEL.out]
    cases hi : inB x 0 ((bare W T n bs).length - 1)
    · have E1 : tofB W T n bs x = false := by rw [EB, hi]
      have E2 : tofZ W T n bs x = [] := by rw [tofZ, E1]; rfl
      have HE1 := Lib.hid E1
      have HE2 := Lib.hid E2
      clear E1 E2 EB
      go_wp2_with fail
      exact bodyPost_ret (v := .tuple #[.slice none 0 0, .bool false]) (by simp [results, Try.results42, go_sem]) rfl (by rw [HE1.out, HE2.out]; exact outLB_nil w R2.B)
    · have bd := inB_iff.1 hi
      obtain ⟨k, rfl⟩ := Int.eq_ofNat_of_zero_le bd.1
      have hk : k < (bare W T n bs).length := by omega
      have hg : (bare W T n bs)[k]? = some ((bare W T n bs)[k]) := List.getElem?_eq_getElem hk
      obtain ⟨t, ht⟩ : ∃ t, (bare W T n bs)[k] = t := ⟨_, rfl⟩
      rw [ht] at hg
      have E1 : tofB W T n bs (k : Int) = true := by rw [EB, hi]
      have E2 : tofZ W T n bs (k : Int) = t := by rw [tofZ, E1, HEL.out, Int.toNat_natCast, hg]; rfl
      have HE1 := Lib.hid E1
      have HE2 := Lib.hid E2
      have htl := hmem t (List.mem_of_getElem? hg)
      obtain ⟨b, g, c', cc, rfl, hc, hO, hbg, -⟩ := hL.row hg
      clear E1 E2 EB ht hg
      go_wp2_with fail
      exact bodyPost_ret (v := .tuple #[.slice (some ⟨g, 0, none⟩) t.length c', .bool true]) (by simp [results, Try.results42, go_sem]) rfl (by rw [HE1.out, HE2.out]; exact OutLB.mkL (c0 := cc) rfl (by omega) (hO.base R1.B.size) R2.B)
  · have hv' : validB W T n bs = false := by simpa using hv
    have EL : tilL W T n bs = [] := by rw [tilL, if_neg hv]
    have E1 : tofB W T n bs x = false := by
      rw [tofB, EL]
      cases hi : inB x 0 (([] : List (List Int)).length - 1) with
      | false => rfl
      | true => have := inB_iff.1 hi; simp at this; omega
    have E2 : tofZ W T n bs x = [] := by rw [tofZ, E1]; rfl
    rw [E1, E2]
    have HV := Lib.hid hv'
    clear hl hv hv' EL E1 E2
    go_enter Try.func42, Try.ntmps42
    go_wp2_with fail
    refine (valid_impl A n c W T bs _ (by omega) (h.alloc _)).mono ?_; rintro e w1 ⟨rfl, hb1⟩
    rw [HV.out]
    have R1 := P1.of hb1
    go_wp2_with fail
    exact bodyPost_ret (v := .tuple #[.slice none 0 0, .bool false]) (by simp [results, Try.results42, go_sem]) rfl (outLB_nil w R1.B)

end Go.Proofs.Ytcnkpcnbobiodaa
