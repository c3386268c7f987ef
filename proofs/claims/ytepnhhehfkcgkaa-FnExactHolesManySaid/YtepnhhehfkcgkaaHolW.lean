/-
  Holes of the program: the closure that fills: what it leaves.
-/
import Derived.Test.YtepnhhehfkcgkaaHolP
import Derived.Test.YtepnhhehfkcgkaaAt
import Derived.Test.YtepnhhehfkcgkaaHolX
import Derived.Test.YtepnhhehfkcgkaaMem2
import Derived.Deep.LoopGhost
namespace Go.Proofs.Ytepnhhehfkcgkaa
open Go.RowKit
open Ho (frH nbH Met Mid Conn)

theorem ret_in_yes {e : Ending} {z lo hi : Int} (he : e = .returned (.bool (inB z lo hi))) (h : lo ≤ z ∧ z ≤ hi) : e = .returned (.bool true) := by rw [he, inB_iff.2 h]
theorem ret_in_no {e : Ending} {z lo hi : Int} (he : e = .returned (.bool (inB z lo hi))) (h : z < lo ∨ hi < z) : e = .returned (.bool false) := by
  have : inB z lo hi = false := by
    cases hb : inB z lo hi with
    | false => rfl
    | true => have := inB_iff.1 hb; omega
  rw [he, this]
theorem cnt_mono {l l' : List Bool} (hl : l.length = l'.length) (h : ∀ i : Nat, Til.on l i = true → Til.on l' i = true) : cnt l ≤ cnt l' := by
  induction l generalizing l' with
  | nil => simp [cnt]
  | cons a l ih =>
    cases l' with
    | nil => simp at hl
    | cons b l' =>
      have h0 := h 0
      have := ih (l' := l') (by simpa using hl) (fun i hi => by have := h (i + 1); unfold Til.on at this hi ⊢; simpa using this (by simpa using hi))
      unfold Til.on at h0
      simp at h0
      cases a <;> cases b <;> simp [cnt] at this h0 ⊢ <;> omega
theorem cnt_put : ∀ (m : List Bool) (k : Nat), m[k]? = some false → cnt (m.set k true) = cnt m + 1
  | [], k, h => by simp at h
  | a :: m, 0, h => by simp at h; subst h; simp [cnt]
  | a :: m, k + 1, h => by
    have := cnt_put m k (by simpa using h)
    cases a <;> simp [cnt] at this ⊢ <;> omega

/-- What lies there while the filling is at work. -/
structure HI (bw bt bm br bk gm q W T ww tt N : Nat) (A : Option Addr) (n c : Nat) (bs : List Bool) (base top : Nat) (m : List Bool) (w : World) : Prop where
  w0 : w.cell? ⟨bw, 0, none⟩ = some (.int .i64 ww)
  t0 : w.cell? ⟨bt, 0, none⟩ = some (.int .i64 tt)
  m0 : w.cell? ⟨bm, 0, none⟩ = some (.slice (some ⟨gm, 0, none⟩) N N)
  X : Box w br (.int .i64 W) (.int .i64 T) (.slice A n c)
  K : w.cell? ⟨bk, 0, none⟩ = some (.func (.func 87) #[] #[.pointer (some ⟨bw, 0, none⟩), .pointer (some ⟨bt, 0, none⟩), .pointer (some ⟨bm, 0, none⟩), .pointer (some ⟨br, 0, none⟩), .pointer (some ⟨bk, 0, none⟩)])
  M : Own w base top 4 (some ⟨gm, 0, none⟩) N q (m.map .bool)
  S : Sl w A n (bs.map .bool)
  n1 : bw ≠ gm ∧ bt ≠ gm ∧ bm ≠ gm ∧ br ≠ gm ∧ bk ≠ gm
  n2 : ∀ b off, A = some ⟨b, off, none⟩ → b ≠ gm
theorem HI.keep {bw bt bm br bk gm q W T ww tt N n c base top : Nat} {A : Option Addr} {bs m : List Bool} {w w' : World} (h : HI bw bt bm br bk gm q W T ww tt N A n c bs base top m w) (hb : Below w.heap.size w w') : HI bw bt bm br bk gm q W T ww tt N A n c bs base top m w' :=
  ⟨(hb.cell (World.block_lt_of_cell? w _ h.w0)).trans h.w0, (hb.cell (World.block_lt_of_cell? w _ h.t0)).trans h.t0, (hb.cell (World.block_lt_of_cell? w _ h.m0)).trans h.m0, h.X.below hb, (hb.cell (World.block_lt_of_cell? w _ h.K)).trans h.K, h.M.below hb, h.S.below hb, h.n1, h.n2⟩
theorem HI.put {bw bt bm br bk gm q W T ww tt N n c base top k : Nat} {A : Option Addr} {bs m : List Bool} {w : World} (h : HI bw bt bm br bk gm q W T ww tt N A n c bs base top m w) (hk : k < N) : HI bw bt bm br bk gm q W T ww tt N A n c bs base top (m.set k true) (w.setCell ⟨gm, k, none⟩ (.bool true)) := {
  w0 := (World.cell?_setCell_other _ _ _ _ (fun e => by injection e with e1 _ _; exact h.n1.1 e1.symm)).trans h.w0
  t0 := (World.cell?_setCell_other _ _ _ _ (fun e => by injection e with e1 _ _; exact h.n1.2.1 e1.symm)).trans h.t0
  m0 := (World.cell?_setCell_other _ _ _ _ (fun e => by injection e with e1 _ _; exact h.n1.2.2.1 e1.symm)).trans h.m0
  X := h.X.setFar h.n1.2.2.2.1 _
  K := (World.cell?_setCell_other _ _ _ _ (fun e => by injection e with e1 _ _; exact h.n1.2.2.2.2 e1.symm)).trans h.K
  M := by rw [List.map_set]; exact h.M.stored k hk (.bool true)
  S := h.S.setFar h.n2 _
  n1 := h.n1
  n2 := h.n2 }

/-- What a walk from (x, y) has done. -/
def HP (W T N : Nat) (bs : List Bool) (x y : Int) (m m' : List Bool) : Prop :=
  m'.length = m.length ∧ (∀ k : Nat, k < N → ((k % (W + 2) : Nat) : Int) = x → ((k / (W + 2) : Nat) : Int) = y → frH W T bs k = true → Met (frH W T bs) (nbH W) k m m' ∧ Til.on m' k = true) ∧ ((∀ k : Nat, k < N → ((k % (W + 2) : Nat) : Int) = x → ((k / (W + 2) : Nat) : Int) = y → frH W T bs k = false) → m' = m)

theorem cell_eq {W a b : Nat} (h1 : a % W = b % W) (h2 : a / W = b / W) : a = b := by
  have e1 := Nat.div_add_mod a W
  have e2 := Nat.div_add_mod b W
  rw [h1, h2] at e1
  omega
theorem HP.none {W T N : Nat} {bs : List Bool} {x y : Int} (m : List Bool) (h : ∀ k : Nat, k < N → ((k % (W + 2) : Nat) : Int) = x → ((k / (W + 2) : Nat) : Int) = y → frH W T bs k = false) : HP W T N bs x y m m :=
  ⟨rfl, fun k hk e1 e2 hf => (by rw [h k hk e1 e2] at hf; cases hf), fun _ => rfl⟩
theorem HP.at_ {W T N k : Nat} {bs : List Bool} {m m' : List Bool} (hk : k < N) (hf : frH W T bs k = true) (h1 : Met (frH W T bs) (nbH W) k m m') (h2 : Til.on m' k = true) : HP W T N bs ((k % (W + 2) : Nat) : Int) ((k / (W + 2) : Nat) : Int) m m' := by
  refine ⟨h1.len, fun j hj e1 e2 _ => ?_, fun h => (by rw [h k hk rfl rfl] at hf; cases hf)⟩
  have : j = k := cell_eq (W := W + 2) (by exact_mod_cast e1) (by exact_mod_cast e2)
  subst this
  exact ⟨h1, h2⟩
/-- What of the neighbours of k has been walked. -/
def Dn (W T : Nat) (bs : List Bool) (k : Nat) (dx dy : Int) (m : List Bool) : Prop := ∀ j, nbH W k j = true → frH W T bs j = true → (((j % (W + 2) : Nat) : Int) - ((k % (W + 2) : Nat) : Int) < dx ∨ (((j % (W + 2) : Nat) : Int) - ((k % (W + 2) : Nat) : Int) = dx ∧ ((j / (W + 2) : Nat) : Int) - ((k / (W + 2) : Nat) : Int) < dy)) → Til.on m j = true
theorem fr_lt {W T k : Nat} {bs : List Bool} (h : frH W T bs k = true) : k < (W + 2) * (T + 2) := by rw [Ho.frH, Bool.and_eq_true, decide_eq_true_eq] at h; exact h.1
theorem Dn.next {W T N k : Nat} {bs : List Bool} {dx dy : Int} {m1 m m' : List Bool} (hN : N = (W + 2) * (T + 2)) (hfk : frH W T bs k = true) (h : Dn W T bs k dx dy m) (hm : Mid (frH W T bs) (nbH W) k m1 m) (hd : -1 ≤ dx ∧ dx ≤ 1 ∧ -1 ≤ dy ∧ dy ≤ 1) (hp : HP W T N bs (((k % (W + 2) : Nat) : Int) + dx) (((k / (W + 2) : Nat) : Int) + dy) m m') :
    Mid (frH W T bs) (nbH W) k m1 m' ∧ Dn W T bs k dx (dy + 1) m' := by
  by_cases hex : ∃ j : Nat, j < N ∧ ((j % (W + 2) : Nat) : Int) = ((k % (W + 2) : Nat) : Int) + dx ∧ ((j / (W + 2) : Nat) : Int) = ((k / (W + 2) : Nat) : Int) + dy ∧ frH W T bs j = true
  · obtain ⟨j, hj, e1, e2, hf⟩ := hex
    obtain ⟨h1, h2⟩ := hp.2.1 j hj e1 e2 hf
    have hnb : nbH W k j = true := by rw [Ho.nbH, Bool.and_eq_true, inB_iff, inB_iff]; omega
    refine ⟨hm.next hnb hfk hf h1, fun i hi hfi hc => ?_⟩
    by_cases hij : ((i % (W + 2) : Nat) : Int) - ((k % (W + 2) : Nat) : Int) = dx ∧ ((i / (W + 2) : Nat) : Int) - ((k / (W + 2) : Nat) : Int) = dy
    · have : i = j := cell_eq (W := W + 2) (by omega) (by omega)
      subst this; exact h2
    · exact h1.up _ (h i hi hfi (by omega))
  · have e := hp.2.2 (fun j hj e1 e2 => by
      cases hf : frH W T bs j with
      | false => rfl
      | true => exact absurd ⟨j, hj, e1, e2, hf⟩ hex)
    subst e
    refine ⟨hm, fun i hi hfi hc => ?_⟩
    by_cases hij : ((i % (W + 2) : Nat) : Int) - ((k % (W + 2) : Nat) : Int) = dx ∧ ((i / (W + 2) : Nat) : Int) - ((k / (W + 2) : Nat) : Int) = dy
    · exact absurd ⟨i, by rw [hN]; exact fr_lt hfi, by omega, by omega, hfi⟩ hex
    · exact h i hi hfi (by omega)

set_option maxRecDepth 100000 in
set_option maxHeartbeats 4000000 in
theorem hol_walk (bw bt bm br bk gm q W T ww tt N : Nat) (A : Option Addr) (n c : Nat) (bs : List Bool) (V : Valid W T n bs) (hw : ww = W + 2) (ht : tt = T + 2) (hN : N = ww * tt) (base top : Nat) : ∀ (rem : Nat) (m : List Bool) (x y : Int) (w : World), N - cnt m = rem → m.length = N → (-1 ≤ x ∧ x ≤ ww) → (-1 ≤ y ∧ y ≤ tt) → HI bw bt bm br bk gm q W T ww tt N A n c bs base top m w →
    Calls Try.prog 87 #[.int .i64 x, .int .i64 y, .pointer (some ⟨bw, 0, none⟩), .pointer (some ⟨bt, 0, none⟩), .pointer (some ⟨bm, 0, none⟩), .pointer (some ⟨br, 0, none⟩), .pointer (some ⟨bk, 0, none⟩)] w fun e w' => ∃ m', e = .returned (.tuple #[]) ∧ HP W T N bs x y m m' ∧ HI bw bt bm br bk gm q W T ww tt N A n c bs base top m' w' ∧ w.grownBy w' (some gm) := by
  have v0 := V.w0
  have v1 := V.w1
  have v2 := V.t0
  have v3 := V.t1
  have hN64 : N ≤ 64 := by rw [hN]; exact Nat.mul_le_mul (show ww ≤ 8 by omega) (show tt ≤ 8 by omega)
  have HW := Lib.hid hw
  have HT := Lib.hid ht
  have HN := Lib.hid hN
  have HN2 := Lib.hid (show N = (W + 2) * (T + 2) by rw [hN, hw, ht])
  have w8 : ww ≤ 8 := by omega
  have t8 : tt ≤ 8 := by omega
  have w1' : 1 ≤ ww := by omega
  clear hw ht hN
  intro rem
  induction rem using Nat.strongRecOn with
  | ind rem ih =>
  intro m x y w hf hml hx hy I
  have HIH := Lib.hid ih
  have HF := Lib.hid hf
  have HML := Lib.hid hml
  clear ih hf hml
  have k1 := I.w0
  have k2 := I.t0
  have k3 := I.m0
  have k4 := I.X.1
  have k5 := I.X.2.1
  have k6 := I.X.2.2
  by_cases hx0 : x < 0 ∨ (ww : Int) - 1 < x
  · have HX0 := Lib.hid hx0
    clear hx0
    go_enter Try.func87, Try.ntmps87
    go_wp2_with (go_at_call 52; refine (in_any _ _ _ _).mono ?_; rintro e w' ⟨he, rfl⟩; obtain rfl := ret_in_no he (by have := HX0.out; omega))
    refine bodyPost_ret (results_none rfl _ _ _) rfl ⟨m, rfl, HP.none m (fun k hk e1 _ => ?_), I, grown_refl _ _⟩
    exfalso
    have := Nat.mod_lt k (show W + 2 > 0 by omega)
    have := HX0.out
    have := HW.out
    omega
  by_cases hy0 : y < 0 ∨ (tt : Int) - 1 < y
  · have HY0 := Lib.hid hy0
    have hx1 : 0 ≤ x ∧ x ≤ (ww : Int) - 1 := by omega
    clear hx0 hy0
    go_enter Try.func87, Try.ntmps87
    go_wp2_with (first
      | (go_at_call 52; have _ := FIRST; refine (in_any y _ _ _).mono ?_; rintro e w' ⟨he, rfl⟩; obtain rfl := ret_in_no he (by have := HY0.out; omega))
      | (go_at_call 52; refine (in_any x _ _ _).mono ?_; rintro e w' ⟨he, rfl⟩; obtain rfl := ret_in_yes he (by omega); have FIRST : True := trivial))
    refine bodyPost_ret (results_none rfl _ _ _) rfl ⟨m, rfl, HP.none m (fun k hk _ e2 => ?_), I, grown_refl _ _⟩
    exfalso
    have h1 : k / (W + 2) < T + 2 := Nat.div_lt_of_lt_mul (by rw [← HN2.out]; exact hk)
    obtain ⟨dd, hdd⟩ : ∃ dd, k / (W + 2) = dd := ⟨_, rfl⟩
    rw [hdd] at e2 h1
    have := HY0.out
    have := HT.out
    omega
  obtain ⟨xn, rfl⟩ := Int.eq_ofNat_of_zero_le (show 0 ≤ x by omega)
  obtain ⟨yn, rfl⟩ := Int.eq_ofNat_of_zero_le (show 0 ≤ y by omega)
  have hxn : xn < ww := by omega
  have hyn : yn < tt := by omega
  obtain ⟨k, hk⟩ : ∃ k, yn * ww + xn = k := ⟨_, rfl⟩
  have hxy := Til.cell_xy (W := ww) (x := xn) (y := yn) hxn
  rw [hk] at hxy
  have hkN : k < N := by
    rw [← hk, HN.out]; exact at_index hxn hyn
  have ex : ((k % (W + 2) : Nat) : Int) = (xn : Int) := by rw [← HW.out, hxy.1]
  have ey : ((k / (W + 2) : Nat) : Int) = (yn : Int) := by rw [← HW.out, hxy.2]
  obtain ⟨p, hp⟩ : ∃ p, yn * ww = p := ⟨_, rfl⟩
  have hmulI : (yn : Int) * (ww : Int) = (p : Int) := by rw [← hp]; push_cast; rfl
  have hkI : (p : Int) + (xn : Int) = (k : Int) := by rw [← hk, ← hp]; push_cast; rfl
  have hpb : p ≤ 64 := by omega
  have c1 : (0 : Int) ≤ (k : Int) := by omega
  have c2 : (k : Int) < (N : Int) := by omega
  have hg : m[k]? = some (m[k]'(by rw [HML.out]; exact hkN)) := List.getElem?_eq_getElem _
  obtain ⟨b, hb⟩ : ∃ b, m[k]'(by rw [HML.out]; exact hkN) = b := ⟨_, rfl⟩
  rw [hb] at hg
  have cm := I.M.cellB hg
  have fm := I.M.frozen k
  have HG := Lib.hid hg
  have HEX := Lib.hid ex
  have HEY := Lib.hid ey
  have HC := Lib.hid cnt_put
  clear hxy hk hg hb hx0 hy0 ex ey hp
  have honk : Hid (Til.on m k = b) := by show _ = _; unfold Til.on; rw [HG.out]; rfl
  cases b
  case true =>
    go_enter Try.func87, Try.ntmps87
    go_wp2_with (first
      | (go_at_call 52; have _ := FIRST; refine (in_any (yn : Int) _ _ _).mono ?_; rintro e w' ⟨he, rfl⟩; obtain rfl := ret_in_yes he (by omega))
      | (go_at_call 52; refine (in_any (xn : Int) _ _ _).mono ?_; rintro e w' ⟨he, rfl⟩; obtain rfl := ret_in_yes he (by omega); have FIRST : True := trivial))
    refine bodyPost_ret (results_none rfl _ _ _) rfl ?_
    refine ⟨m, rfl, ⟨rfl, fun j hj e1 e2 _ => ?_, fun _ => rfl⟩, I, grown_refl _ _⟩
    have : j = k := cell_eq (W := W + 2) (by have := HEX.out; omega) (by have := HEY.out; omega)
    subst this
    exact ⟨Met.same _ _, honk.out⟩
  case false =>
  obtain ⟨av, hav⟩ : ∃ av, atB W T bs ((xn : Int) - 1) ((yn : Int) - 1) = av := ⟨_, rfl⟩
  have hfr : frH W T bs k = !av := by rw [Ho.frH, decide_eq_true (by rw [← HN2.out]; exact hkN), Bool.true_and, HEX.out, HEY.out, hav]
  have HAV := Lib.hid hav
  have HFR := Lib.hid hfr
  clear hav hfr
  cases av
  case true =>
    go_enter Try.func87, Try.ntmps87
    go_wp2_with (first
      | (go_at_call 88; refine (at_any A n c W T bs ((xn : Int) - 1) ((yn : Int) - 1) _ V I.S ⟨by omega, by omega⟩ ⟨by omega, by omega⟩).mono ?_; rintro e w1 ⟨rfl, hb1⟩; rw [HAV.out])
      | (go_at_call 52; have _ := FIRST; refine (in_any (yn : Int) _ _ _).mono ?_; rintro e w' ⟨he, rfl⟩; obtain rfl := ret_in_yes he (by omega))
      | (go_at_call 52; refine (in_any (xn : Int) _ _ _).mono ?_; rintro e w' ⟨he, rfl⟩; obtain rfl := ret_in_yes he (by omega); have FIRST : True := trivial))
    refine bodyPost_ret (results_none rfl _ _ _) rfl ?_
    refine ⟨m, rfl, HP.none m (fun j hj e1 e2 => ?_), I.keep hb1, grown_below hb1 _⟩
    have : j = k := cell_eq (W := W + 2) (by have := HEX.out; omega) (by have := HEY.out; omega)
    subst this
    exact HFR.out
  case false =>
  go_enter Try.func87, Try.ntmps87
  go_wp2_with (first
    | (go_at_call 88; refine (at_any A n c W T bs ((xn : Int) - 1) ((yn : Int) - 1) _ V I.S ⟨by omega, by omega⟩ ⟨by omega, by omega⟩).mono ?_; rintro e w1 ⟨rfl, hb1⟩; rw [HAV.out]; have I1 := I.keep hb1; have j1 := I1.w0; have j2 := I1.t0; have j3 := I1.m0; have jf := I1.M.frozen k; have jc := I1.M.cellB HG.out)
    | (go_at_call 52; have _ := FIRST; refine (in_any (yn : Int) _ _ _).mono ?_; rintro e w' ⟨he, rfl⟩; obtain rfl := ret_in_yes he (by omega))
    | (go_at_call 52; refine (in_any (xn : Int) _ _ _).mono ?_; rintro e w' ⟨he, rfl⟩; obtain rfl := ret_in_yes he (by omega); have FIRST : True := trivial))
  have I2 := I1.put hkN
  have G2 : w.grownBy (w1.setCell ⟨gm, k, none⟩ (.bool true)) (some gm) := grown_trans (grown_below hb1 _) ⟨rfl, rfl, rfl, by simp [World.setCell], fun i _ hne => Below.heap_setCell _ _ _ _ (by rintro rfl; exact hne rfl)⟩
  have HCM := Lib.hid (show cnt (m.set k true) = cnt m + 1 from cnt_put m k HG.out)
  have HCN := Lib.hid (show cnt m + 1 ≤ N by rw [← HCM.out]; have := cnt_le (m.set k true); rw [List.length_set, HML.out] at this; exact this)
  obtain ⟨m1, hm1⟩ : ∃ m1, m.set k true = m1 := ⟨_, rfl⟩
  rw [hm1] at I2 HCM
  have HM1 := Lib.hid hm1
  have HM1L := Lib.hid (show m1.length = N by rw [← hm1, List.length_set]; exact HML.out)
  clear hm1 I I1 j1 j2 j3 jf jc cm fm k1 k2 k3 k4 k5 k6 hb1
  go_loopg [9, 10] 3 (fun gk s9 _ wx => ∃ (dx : Int) (m' : List Bool), -1 ≤ dx ∧ dx ≤ 2 ∧ gk = (2 - dx).toNat ∧ s9 = .int .i64 dx ∧ Mid (frH W T bs) (nbH W) k m1 m' ∧ Dn W T bs k dx (-1) m' ∧ HI bw bt bm br bk gm q W T ww tt N A n c bs base top m' wx ∧ w.grownBy wx (some gm))
  case atStart => exact ⟨-1, m1, by omega, by omega, rfl, rfl, Mid.start _ _, fun j hj _ hc => by rw [Ho.nbH, Bool.and_eq_true, inB_iff, inB_iff] at hj; omega, I2, G2⟩
  case round =>
    clear I2 G2
    obtain ⟨dx, m', hd1, hd2, rfl, rfl, hmid, hdn, I, G⟩ := hrel
    have HMID := Lib.hid hmid
    have HDN := Lib.hid hdn
    clear hmid hdn
    by_cases hdx : dx ≤ 1
    · go_wp2_with fail
      go_loopg [10] 3 (fun gk s10 wx => ∃ (dy : Int) (m' : List Bool), -1 ≤ dy ∧ dy ≤ 2 ∧ gk = (2 - dy).toNat ∧ s10 = .int .i64 dy ∧ Mid (frH W T bs) (nbH W) k m1 m' ∧ Dn W T bs k dx dy m' ∧ HI bw bt bm br bk gm q W T ww tt N A n c bs base top m' wx ∧ w.grownBy wx (some gm))
      case atStart => exact ⟨-1, m', by omega, by omega, rfl, rfl, HMID.out, HDN.out, I, G⟩
      case round =>
        clear I G
        obtain ⟨dy, m', hd3, hd4, rfl, rfl, hmid, hdn, I, G⟩ := hrel
        have HMID := Lib.hid hmid
        have HDN := Lib.hid hdn
        clear hmid hdn
        by_cases hdy : dy ≤ 1
        · have k7 := I.K
          have HCM' := Lib.hid (show N - cnt m' < rem by
            have h1 := cnt_mono (l := m1) (l' := m') HMID.out.len.symm HMID.out.up
            have := HCM.out
            have := HCN.out
            have := HF.out
            omega)
          go_wp2_with fail
          refine (HIH.out (N - cnt m') HCM'.out m' ((xn : Int) + dx) ((yn : Int) + dy) _ rfl (by rw [HMID.out.len, HM1L.out]) ⟨by omega, by omega⟩ ⟨by omega, by omega⟩ I).mono ?_; rintro e w3 ⟨m'', rfl, hp, I3, G3⟩
          have hnx := HDN.out.next HN2.out (by rw [HFR.out]; rfl) HMID.out ⟨hd1, hdx, hd3, hdy⟩ (by rw [HEX.out, HEY.out]; exact hp)
          have HNX := Lib.hid hnx
          clear hnx hp
          go_wp2_with fail
          go_roundg (2 - (dy + 1)).toNat
          case measure => omega
          case rel => exact ⟨dy + 1, m'', by omega, by omega, rfl, rfl, HNX.out.1, HNX.out.2, I3, grown_trans G G3⟩
        · have e2 : dy = 2 := by omega
          subst e2
          go_wp2_with fail
          go_roundg (2 - (dx + 1)).toNat
          case measure => omega
          case rel => exact ⟨dx + 1, m', by omega, by omega, rfl, rfl, HMID.out, fun j hj hf hc => HDN.out j hj hf (by rw [Ho.nbH, Bool.and_eq_true, inB_iff, inB_iff] at hj; omega), I, G⟩
    · have e2 : dx = 2 := by omega
      subst e2
      go_wp2_with fail
      have hmid := HMID.out
      rw [← HM1.out] at hmid
      obtain ⟨h1, h2⟩ := hmid.done (by rw [HFR.out]; rfl) (by rw [HML.out]; exact hkN) (fun c' hn hf => HDN.out c' hn hf (by rw [Ho.nbH, Bool.and_eq_true, inB_iff, inB_iff] at hn; omega))
      have hp := HP.at_ (N := N) (T := T) (bs := bs) hkN (by rw [HFR.out]; rfl) h1 h2
      rw [HEX.out, HEY.out] at hp
      first
        | (refine bodyPost_ret (results_none rfl _ _ _) rfl ?_; first | exact ⟨m', rfl, hp, I, G⟩ | exact ⟨rfl, m', hp, I, G⟩)
        | (go_end0; first | exact ⟨m', rfl, hp, I, G⟩ | exact ⟨rfl, m', hp, I, G⟩)

end Go.Proofs.Ytepnhhehfkcgkaa
