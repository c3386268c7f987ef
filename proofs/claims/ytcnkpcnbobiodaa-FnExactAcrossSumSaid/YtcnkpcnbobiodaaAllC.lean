/-
  each with the function that keeps all tilings: what it leaves.
-/
import Derived.Test.YtcnkpcnbobiodaaTilA
import Derived.Test.YtcnkpcnbobiodaaLay
import Derived.Test.YtcnkpcnbobiodaaTot
import Derived.Test.YtcnkpcnbobiodaaLL
import Derived.Deep.RegionHeld3
import Derived.Deep.LoopGhost
namespace Go.Proofs.Ytcnkpcnbobiodaa
open Go.RowKit
open Til (on open' tilings Done oneT)

/-- What lies there while each is at work. -/
structure AI (w : World) (bo : Nat) (W T : Nat) (A : Option Addr) (n c : Nat) (bs : List Bool) (B : Option Addr) (d0 : Nat) (zs : List Int) (base : Nat) (C : Option Addr) (gs : List Nat) (C1 : Option Addr) (c1 : Nat) (gs1 : List Nat) (M1 : List (List Int)) (wx : World) : Prop where
  X : Box wx w.heap.size (.int .i64 W) (.int .i64 T) (.slice A n c)
  K : Kp w wx bo C
  N : NearX C C1 (w.heap.size + 1)
  S : Sl wx A n (bs.map .bool)
  O : Own wx base wx.heap.size 3 B n d0 (zs.map (.int .i64))
  V : wx.cell? ⟨bo, 0, none⟩ = some (.slice C1 M1.length c1)
  Z : Thaw wx bo
  L : LL wx base C1 c1 gs1 M1
  G : ∃ gs', gs1 = gs ++ gs' ∧ ∀ g ∈ gs', w.heap.size < g
  z : w.heap.size + 1 ≤ wx.heap.size
  b0 : bo < w.heap.size
  b1 : bo < base
  b2 : ∀ b off, A = some ⟨b, off, none⟩ → b ≠ bo ∧ b < base
  b3 : ∀ b off, B = some ⟨b, off, none⟩ → b < w.heap.size ∧ b ∉ gs1 ∧ ∀ off', C1 ≠ some ⟨b, off', none⟩
  bx : ∀ off, C1 ≠ some ⟨w.heap.size, off, none⟩
theorem AI.below {w wx w' : World} {bo W T n c d0 base c1 : Nat} {A B C C1 : Option Addr} {bs : List Bool} {zs : List Int} {gs gs1 : List Nat} {M1 : List (List Int)} (h : AI w bo W T A n c bs B d0 zs base C gs C1 c1 gs1 M1 wx) (hb : Below wx.heap.size wx w') : AI w bo W T A n c bs B d0 zs base C gs C1 c1 gs1 M1 w' :=
  ⟨h.X.below hb, h.K.then hb, h.N, h.S.below hb, (h.O.below hb).top hb.size, (World.cell?_of_block (w := wx) (hb.block bo h.Z.1)).trans h.V, h.Z.below hb, h.L.below hb, h.G, Nat.le_trans h.z hb.size, h.b0, h.b1, h.b2, h.b3, h.bx⟩
theorem AI.drew {w wx : World} {bo W T n c d0 base c1 : Nat} {A B C C1 : Option Addr} {bs : List Bool} {zs : List Int} {gs gs1 : List Nat} {M1 : List (List Int)} (h : AI w bo W T A n c bs B d0 zs base C gs C1 c1 gs1 M1 wx) : AI w bo W T A n c bs B d0 zs base C gs C1 c1 gs1 M1 wx.drew := h.below (Below.refl _ _).drew
theorem AI.farA {w wx : World} {bo W T n c d0 base c1 : Nat} {A B C C1 : Option Addr} {bs : List Bool} {zs : List Int} {gs gs1 : List Nat} {M1 : List (List Int)} (h : AI w bo W T A n c bs B d0 zs base C gs C1 c1 gs1 M1 wx) : ∀ b off, A = some ⟨b, off, none⟩ → ∀ off', C1 ≠ some ⟨b, off', none⟩ := by
  intro b off hA off' e
  have h1 := (h.b2 b off hA).2
  have h2 := (h.L.ltC b off' e).1
  omega
theorem AI.call {w wx w' : World} {bo W T n c d0 base c1 c2 : Nat} {A B C C1 C2 : Option Addr} {bs : List Bool} {zs : List Int} {gs gs1 gs2 : List Nat} {M1 M2 : List (List Int)} (h : AI w bo W T A n c bs B d0 zs base C gs C1 c1 gs1 M1 wx)
    (hK : Kp wx w' bo C1) (hN : NearX C1 C2 wx.heap.size) (hV : w'.cell? ⟨bo, 0, none⟩ = some (.slice C2 M2.length c2)) (hZ : Thaw w' bo) (hL : LL w' base C2 c2 (gs1 ++ gs2) M2) (hG : ∀ g ∈ gs2, w.heap.size < g) :
    AI w bo W T A n c bs B d0 zs base C gs C2 c2 (gs1 ++ gs2) M2 w' := {
  X := h.X.keep (hK.block _ (by have := h.z; omega) (by have := h.b0; omega) h.bx)
  K := h.K.trans (h.N.mono (by omega)) hK
  N := h.N.trans hN h.z
  S := h.S.keep (fun b off hA hlt => hK.block b hlt (h.b2 b off hA).1 (h.farA b off hA))
  O := (h.O.keep (fun b off hA hlt => hK.block b hlt (by have := (h.O.2 b off hA).1; have := h.b1; omega) (h.b3 b off hA).2.2)).top hK.size
  V := hV
  Z := hZ
  L := hL
  G := by
    obtain ⟨g1, e, hg⟩ := h.G
    exact ⟨g1 ++ gs2, by rw [e, List.append_assoc], fun g hm => (List.mem_append.1 hm).elim (hg g) (hG g)⟩
  z := Nat.le_trans h.z hK.size
  b0 := h.b0
  b1 := h.b1
  b2 := h.b2
  b3 := fun b off hA => by
    obtain ⟨x1, x2, x3⟩ := h.b3 b off hA
    refine ⟨x1, fun hm => ?_, hN.far (by have := h.z; omega) x3⟩
    rcases List.mem_append.1 hm with hm | hm
    · exact x2 hm
    · have := hG b hm; omega
  bx := hN.far (by have := h.z; omega) h.bx }

/-- What each with the keeping function leaves. -/
def EachA (bo : Nat) (W T n : Nat) (bs : List Bool) (zs : List Int) (base : Nat) (B C : Option Addr) (gs : List Nat) (M : List (List Int)) (w : World) (e : Ending) (w' : World) : Prop :=
  e = .returned (.bool true) ∧ ∃ C' c' gs', Kp w w' bo C ∧ NearX C C' w.heap.size ∧ w'.cell? ⟨bo, 0, none⟩ = some (.slice C' (M ++ tilings W T n bs zs).length c') ∧ Thaw w' bo ∧ LL w' base C' c' (gs ++ gs') (M ++ tilings W T n bs zs) ∧ ∀ g ∈ gs', (∃ off, B = some ⟨g, off, none⟩) ∨ w.heap.size ≤ g

theorem tils1_any (bo base : Nat) (C : Option Addr) (c0 : Nat) (gs : List Nat) (M : List (List Int)) (b n d d0 : Nat) (zs : List Int) (w : World) (hC : w.cell? ⟨bo, 0, none⟩ = some (.slice C M.length c0)) (hZ : Thaw w bo) (hL : LL w base C c0 gs M) (hO : Own w base w.heap.size 3 (some ⟨b, 0, none⟩) n d0 (zs.map (.int .i64))) (hlz : zs.length = n) (hbo : bo < base) (hgs : b ∉ gs) (hfar : ∀ off, C ≠ some ⟨b, off, none⟩) (hM : M.length ≤ 1099511627774) :
    Calls Try.prog 98 #[.slice (some ⟨b, 0, none⟩) n d, .pointer (some ⟨bo, 0, none⟩)] w fun e w' => e = .returned (.bool true) ∧ ∃ C' c', Kp w w' bo C ∧ NearX C C' w.heap.size ∧ w'.cell? ⟨bo, 0, none⟩ = some (.slice C' (M ++ [zs]).length c') ∧ Thaw w' bo ∧ LL w' base C' c' (gs ++ [b]) (M ++ [zs]) := by
  have f := hZ.2 0
  have hb := hO.2 b 0 rfl
  obtain ⟨vs, o, hr, hd, hf⟩ := hL
  have HR := Lib.hid hr
  have HF := Lib.hid hf
  have HFAR := Lib.hid hfar
  have HGS := Lib.hid hgs
  have HD := Lib.hid hd
  clear hr hf hfar hgs hd
  go_enter Try.func98, Try.ntmps98
  go_wp2_with (at_builtin; go_loud (refine wpList_append1B rfl _ _ 43 rfl 33 (.slice none 0 0) 24 Try.underlying43 infoIS rfl (o.alloc _) rfl w.heap.size _ rfl (cell0_new _ _ _) rfl (by omega) (by omega) (by simp; omega) ?_; intro C2 c2 w5 O5 hg5 hn5; have Z5 : Thaw w5 bo := (hZ.alloc _).grown hg5 (own_far o (fun off e => by have := (o.2 bo off e).1; omega)); have f5 := Z5.2 0; have c5 := (World.cell?_of_block (w := (w.alloc (.cells #[.slice (some ⟨b, 0, none⟩) n d] 33))) (hg5.block bo (hZ.alloc _).1 (own_far o (fun off e => by have := (o.2 bo off e).1; omega)))).trans ((World.cell?_of_block (w := w) ((below1 w _).block bo hZ.1)).trans hC)))
  have KK : Kp w w5 bo C := (Kp.below (below1 w _)).trans (NearX.refl _ _) (Kp.grown hg5 (fun i hi => own_far o hi))
  have LL5 : LL w5 base C2 c2 (gs ++ [b]) (M ++ [zs]) := LL.grow o HR.out HD.out HF.out (gs2 := [b]) (M2 := [zs]) (RowsAt.single ⟨d, d0, by rw [hlz], by rw [hlz]; exact hO⟩) (by simp) (fun g hg hm => by simp at hm; subst hm; exact HGS.out hg) (fun g hg off => by simp at hg; subst hg; exact HFAR.out off) (below1 w _) (by simp) O5 hg5 hn5
  go_ret
  refine ⟨rfl, C2, c2, KK.set _, NearX.of hn5 (by simp), ?_, Z5.setCell _ _, ?_⟩
  · rw [World.cell?_setCell_same _ _ _ c5]; simp
  · refine LL5.setFar (fun b' off hA e => ?_) (fun hm => ?_) _
    · have := (LL5.ltC b' off hA).1; simp at e; omega
    · have := (LL5.lt _ hm).1; simp at this; omega

/-- The tilings of the first open cell's first ways. -/
def oneTo (W T n : Nat) (bs : List Bool) (zs : List Int) (j : Nat) : Nat → List (List Int)
  | 0 => []
  | y + 1 => oneTo W T n bs zs j y ++ oneT W T n bs zs j ((y + 1 : Nat) : Int)

set_option maxRecDepth 100000 in
set_option maxHeartbeats 4000000 in
theorem eachAll_any (bo : Nat) (A : Option Addr) (n c W T : Nat) (bs : List Bool) (V : Valid W T n bs) (base : Nat) (hbo : bo < base) (hA : ∀ b off, A = some ⟨b, off, none⟩ → b ≠ bo ∧ b < base) : ∀ (rem : Nat) (B : Option Addr) (d d0 : Nat) (zs : List Int) (w : World) (C : Option Addr) (c0 : Nat) (gs : List Nat) (M : List (List Int)), rem ≤ n → Done bs zs (n - rem) → zs.length = n → Sl w A n (bs.map .bool) → Own w base w.heap.size 3 B n d0 (zs.map (.int .i64)) →
    w.cell? ⟨bo, 0, none⟩ = some (.slice C M.length c0) → Thaw w bo → LL w base C c0 gs M → (∀ b off, B = some ⟨b, off, none⟩ → b ∉ gs ∧ ∀ off', C ≠ some ⟨b, off', none⟩) → M.length + (tilings W T n bs zs).length ≤ 1099511627774 →
    Calls Try.prog 67 #[.agg #[.int .i64 W, .int .i64 T, .slice A n c], .slice B n d, .func (.func 98) #[] #[.pointer (some ⟨bo, 0, none⟩)]] w (EachA bo W T n bs zs base B C gs M w) := by
  have n36 := V.n36
  have HVS := Lib.hid V.size
  have HVL := Lib.hid V.len
  have n0 : 0 < n := by have := V.size; have := Nat.mul_pos V.w0 V.t0; omega
  intro rem
  induction rem using Nat.strongRecOn with
  | ind rem ih =>
  intro B d d0 zs w C c0 gs M hrem hdone hlz hS hO hC hZ hL hB hlen
  have HIH := Lib.hid ih
  have HLZ := Lib.hid hlz
  have HLEN := Lib.hid hlen
  obtain ⟨bb, hBB, -, -⟩ := hO.form n0
  subst hBB
  have I0 : AI w bo W T A n c bs (some ⟨bb, 0, none⟩) d0 zs base C gs C c0 gs M (w.alloc (.cells #[.int .i64 W, .int .i64 T, .slice A n c] 27)) :=
    ⟨Box.new _ _ _ _ _, Kp.below (below1 w _), NearX.refl _ _, hS.alloc _, (hO.alloc _).top (by simp), (World.cell?_of_block (w := w) ((below1 w _).block bo hZ.1)).trans hC, hZ.alloc _, hL.below (below1 w _), ⟨[], by simp, fun g h => by cases h⟩, by simp, hZ.1, hbo, hA, fun b off e => ⟨(hO.2 b off e).2, hB b off e⟩, fun off e => by have := (hL.ltC _ _ e).2; omega⟩
  have HDONE := Lib.hid hdone
  have ltC := hL.ltC
  have LTC := Lib.hid (show ∀ b off, C = some ⟨b, off, none⟩ → b < w.heap.size from fun b off e => (ltC b off e).2)
  clear ih hlz hdone hS hO hC hZ hA hB hL hlen ltC
  go_enter Try.func67, Try.ntmps67
  go_wp2_with fail
  go_loopg [7] n (fun gk i wx => ∃ j : Nat, j ≤ n ∧ gk = n - j ∧ i = .int .i64 j ∧ Done bs zs j ∧ AI w bo W T A n c bs (some ⟨bb, 0, none⟩) d0 zs base C gs C c0 gs M wx)
  case atStart => exact ⟨0, Nat.zero_le _, rfl, rfl, fun i hi => by omega, I0⟩
  case round =>
    clear I0
    obtain ⟨j, hj, rfl, rfl, hdn, I⟩ := hrel
    obtain ⟨wo, hwo⟩ : ∃ wo, wo = wr := ⟨_, rfl⟩
    subst hwo
    have HDN := Lib.hid hdn
    clear hdn
    have k1 := I.X.1
    have k2 := I.X.2.1
    have k3 := I.X.2.2
    by_cases hlt : j < n
    · obtain ⟨b, off, x, rfl, hx, hc1⟩ := I.S.atB hlt
      obtain ⟨b2, off2, y, hbb, hy, hc2⟩ := I.O.sl.atI hlt
      injection hbb with hbb
      injection hbb with hbb1 hbb2 _
      subst hbb1 hbb2
      rw [Nat.zero_add] at hc2
      have HX := Lib.hid (show on bs j = x by unfold Til.on; rw [hx]; rfl)
      have HY := Lib.hid (ent_of hy)
      clear hx hy
      have dsucc : open' bs zs j = false → Done bs zs (j + 1) := fun h i hi => by
        by_cases e : i = j
        · subst e; exact h
        · exact HDN.out i (by omega)
      have HDS := Lib.hid dsucc
      clear dsucc
      cases x
      · have hop : open' bs zs j = false := by rw [Til.open', HX.out]; rfl
        have HOP := Lib.hid hop
        clear hop
        go_wp2_with fail
        go_roundg (n - (j + 1))
        case measure => omega
        case rel => exact ⟨j + 1, by omega, rfl, by go_num, HDS.out HOP.out, I⟩
      · by_cases hy0 : y = 0
        · subst hy0
          have hop : open' bs zs j = true := by rw [Til.open', HX.out, HY.out]; rfl
          have hTF := Til.tilings_first (W := W) (T := T) HVL.out HLZ.out hlt HDN.out hop
          have HTF := Lib.hid hTF
          have hjr : n - rem ≤ j := by
            rcases Nat.lt_or_ge j (n - rem) with h | h
            · have := HDONE.out j h; rw [hop] at this; cases this
            · exact h
          have HFB := Lib.hid (show ∀ way : Int, freeB W T n bs zs (j : Int) way = freeK W T bs zs j way from fun way => by rw [freeB, inB_iff.2 (by omega), Bool.true_and]; rfl)
          have hjI : I64 (j : Int) := ⟨by omega, by omega⟩
          have hjn : ((j : Int) == (n : Int)) = false := by rw [beq_eq_false_iff_ne]; omega
          have HJI := Lib.hid hjI
          clear hTF hop hjI
          go_wp2_with fail
          have I1 := I.below (below1 wo (.cells #[.int .i64 1, .int .i64 2] 3))
          have Z1 : Sl (wo.alloc (.cells #[.int .i64 1, .int .i64 2] 3)) (some ⟨wo.heap.size, 0, none⟩) 2 ([(1 : Int), 2].map (.int .i64)) := (Own.made (w := wo) (base := wo.heap.size) (e := 3) (cs := #[.int .i64 1, .int .i64 2]) (n := 2) (Nat.le_refl _) (by unfold maxLen; omega) rfl).sl
          have nbo := I.Z.1
          have zwo := I.z
          clear I k1 k2 k3 hc1 hc2
          go_loopg [6, 9, 40] 2 (fun gk _ _ s40 wx => ∃ y : Nat, y ≤ 2 ∧ gk = 2 - y ∧ s40 = .int .i64 y ∧ ∃ C1 c1 gs1, AI w bo W T (some ⟨b, off, none⟩) n c bs (some ⟨bb, 0, none⟩) d0 zs base C gs C1 c1 gs1 (M ++ oneTo W T n bs zs j y) wx ∧ (∀ off', C1 ≠ some ⟨wo.heap.size, off', none⟩) ∧ Sl wx (some ⟨wo.heap.size, 0, none⟩) 2 ([(1 : Int), 2].map (.int .i64)))
          case atStart => exact ⟨0, by omega, rfl, rfl, C, c0, gs, by rw [oneTo, List.append_nil]; exact I1, fun off e => by have := LTC.out _ _ e; omega, Z1⟩
          case round =>
            clear I1 Z1
            obtain ⟨y, hy2, rfl, rfl, C1, c1, gs1, I, hq, Z5⟩ := hrel
            have HQ := Lib.hid hq
            clear hq
            have k1 := I.X.1
            have k2 := I.X.2.1
            have k3 := I.X.2.2
            by_cases hy3 : y < 2
            · obtain ⟨b4, off4, way, hA4, hway, hc4⟩ := Z5.atI hy3
              injection hA4 with hA4
              injection hA4 with hA41 hA42 _
              subst hA41 hA42
              have hwi : way = ((y + 1 : Nat) : Int) := by
                rcases (show y = 0 ∨ y = 1 by omega) with rfl | rfl
                · simpa using hway.symm
                · simpa using hway.symm
              have hw1 : 1 ≤ way := by omega
              have HWI := Lib.hid hwi
              have hc4' : wr.cell? ⟨wo.heap.size, y, none⟩ = some (.int .i64 way) := by simpa using hc4
              obtain ⟨wq, hwq⟩ : ∃ wq, wq = wr := ⟨_, rfl⟩
              subst hwq
              clear hc4 hway hwi
              obtain ⟨f, hf⟩ : ∃ f, freeK W T bs zs j way = f := ⟨_, rfl⟩
              have HF := Lib.hid hf
              cases f
              · have HONE := Lib.hid (show oneT W T n bs zs j ((y + 1 : Nat) : Int) = [] by rw [Til.oneT, ← HWI.out, HF.out]; rfl)
                clear hf
                go_wp2_with fail
                refine wp_region_held_drew (S := fun w' => w'.cell? ⟨w.heap.size, 0, none⟩ = some (.int .i64 W) ∧ w'.cell? ⟨w.heap.size, 1, none⟩ = some (.int .i64 T) ∧ w'.cell? ⟨w.heap.size, 2, none⟩ = some (.slice (some ⟨b, off, none⟩) n c)) (by kernel_rfl) ⟨k1, k2, k3⟩ (fun hHeld => ?_)
                refine wpAnyH_take (i := 0) (oi := { dst := some 44, op := _, type := _, pos := _, after := _, guard := _ }) (v := ?v0) rfl (by kernel_rfl) (by kernel_rfl) (by kernel_rfl) (fun _ _ _ h => h) (Or.inl ⟨by rfl, ?y0⟩) (by assumption) ?r0
                case y0 =>
                  intro w hSw
                  try dsimp only at hSw
                  go_simp
                  try with_reducible rfl
                simp only [Act.put, List.setIfInBounds_toArray, List.set_cons_zero, List.set_cons_succ]
                refine wpAnyH_take (i := 1) (oi := { dst := some 45, op := _, type := _, pos := _, after := _, guard := _ }) (v := ?v1) rfl (by kernel_rfl) (by kernel_rfl) (by kernel_rfl) (fun _ _ _ h => h) (Or.inl ⟨by rfl, ?y1⟩) (by assumption) ?r1
                case y1 =>
                  intro w hSw
                  try dsimp only at hSw
                  go_simp
                  try with_reducible rfl
                simp only [Act.put, List.setIfInBounds_toArray, List.set_cons_zero, List.set_cons_succ]
                refine wpAnyH_take (i := 2) (oi := { dst := some 46, op := _, type := _, pos := _, after := _, guard := _ }) (v := ?v2) rfl (by kernel_rfl) (by kernel_rfl) (by kernel_rfl) (fun _ _ _ h => h) (Or.inl ⟨by rfl, ?y2⟩) (by assumption) ?r2
                case y2 =>
                  intro w hSw
                  try dsimp only at hSw
                  go_simp
                  try with_reducible rfl
                simp only [Act.put, List.setIfInBounds_toArray, List.set_cons_zero, List.set_cons_succ]
                refine wpAnyH_take (i := 3) (oi := { dst := some 47, op := _, type := _, pos := _, after := _, guard := _ }) (v := ?v3) rfl (by kernel_rfl) (by kernel_rfl) (by kernel_rfl) (fun _ _ _ h => h) (Or.inl ⟨by rfl, ?y3⟩) (by assumption) ?r3
                case y3 =>
                  intro w hSw
                  try dsimp only at hSw
                  go_simp
                  try with_reducible rfl
                simp only [Act.put, List.setIfInBounds_toArray, List.set_cons_zero, List.set_cons_succ]
                refine wpAnyH_ready (rs := [4]) (by kernel_rfl) (by simp) ?_
                refine AllReadyH.cons rfl (fun K hK => ?_) AllReadyH.nil
                go_simp
                go_at_call 56
                refine (free_any (some ⟨b, off, none⟩) n c W T bs (some ⟨bb, 0, none⟩) d zs j way _ V I.S.drew I.O.sl.drew HJI.out).mono ?_
                rintro e w6 ⟨rfl, hb6⟩
                rw [HFB.out, HF.out]
                have I6 := I.drew.below hb6
                have Z6 := Z5.drew.below hb6
                have q1 := I6.X.1
                have q2 := I6.X.2.1
                have q3 := I6.X.2.2
                dsimp only
                clear hHeld
                refine hK.out _ _ ⟨q1, q2, q3⟩ (fun hHeld => ?_)
                clear hK K
                refine wpAnyH_take (i := 5) (oi := { dst := some 49, op := _, type := _, pos := _, after := _, guard := _ }) (v := ?v5) rfl (by kernel_rfl) (by kernel_rfl) (by kernel_rfl) (fun _ _ _ h => h) (Or.inl ⟨by rfl, ?y5⟩) (by assumption) ?r5
                case y5 =>
                  intro w hSw
                  try dsimp only at hSw
                  go_simp
                  try with_reducible rfl
                simp only [Act.put, List.setIfInBounds_toArray, List.set_cons_zero, List.set_cons_succ]
                refine wpAnyH_take (i := 6) (oi := { dst := some 50, op := _, type := _, pos := _, after := _, guard := _ }) (v := undef) rfl (by kernel_rfl) (by kernel_rfl) (by kernel_rfl) (fun _ _ _ h => h) (Or.inr ⟨by rfl, rfl⟩) (by assumption) ?_
                simp only [Act.put, List.setIfInBounds_toArray, List.set_cons_zero, List.set_cons_succ]
                refine wpAnyH_take (i := 7) (oi := { dst := some 51, op := _, type := _, pos := _, after := _, guard := _ }) (v := undef) rfl (by kernel_rfl) (by kernel_rfl) (by kernel_rfl) (fun _ _ _ h => h) (Or.inr ⟨by rfl, rfl⟩) (by assumption) ?_
                simp only [Act.put, List.setIfInBounds_toArray, List.set_cons_zero, List.set_cons_succ]
                refine wpAnyH_take (i := 8) (oi := { dst := some 52, op := _, type := _, pos := _, after := _, guard := _ }) (v := undef) rfl (by kernel_rfl) (by kernel_rfl) (by kernel_rfl) (fun _ _ _ h => h) (Or.inr ⟨by rfl, rfl⟩) (by assumption) ?_
                simp only [Act.put, List.setIfInBounds_toArray, List.set_cons_zero, List.set_cons_succ]
                refine wpAnyH_take (i := 9) (oi := { dst := some 53, op := _, type := _, pos := _, after := _, guard := _ }) (v := undef) rfl (by kernel_rfl) (by kernel_rfl) (by kernel_rfl) (fun _ _ _ h => h) (Or.inr ⟨by rfl, rfl⟩) (by assumption) ?_
                simp only [Act.put, List.setIfInBounds_toArray, List.set_cons_zero, List.set_cons_succ]
                refine wpAnyH_take (i := 10) (oi := { dst := some 54, op := _, type := _, pos := _, after := _, guard := _ }) (v := undef) rfl (by kernel_rfl) (by kernel_rfl) (by kernel_rfl) (fun _ _ _ h => h) (Or.inr ⟨by rfl, rfl⟩) (by assumption) ?_
                simp only [Act.put, List.setIfInBounds_toArray, List.set_cons_zero, List.set_cons_succ]
                refine wpAnyH_take (i := 12) (oi := { dst := some 56, op := _, type := _, pos := _, after := _, guard := _ }) (v := undef) rfl (by kernel_rfl) (by kernel_rfl) (by kernel_rfl) (fun _ _ _ h => h) (Or.inr ⟨by rfl, rfl⟩) (by assumption) ?_
                simp only [Act.put, List.setIfInBounds_toArray, List.set_cons_zero, List.set_cons_succ]
                refine wpAnyH_take (i := 11) (oi := { dst := some 55, op := _, type := _, pos := _, after := _, guard := _ }) (v := undef) rfl (by kernel_rfl) (by kernel_rfl) (by kernel_rfl) (fun _ _ _ h => h) (Or.inr ⟨by rfl, rfl⟩) (by assumption) ?_
                simp only [Act.put, List.setIfInBounds_toArray, List.set_cons_zero, List.set_cons_succ]
                refine wpAnyH_take (i := 13) (oi := { dst := some 57, op := _, type := _, pos := _, after := _, guard := _ }) (v := undef) rfl (by kernel_rfl) (by kernel_rfl) (by kernel_rfl) (fun _ _ _ h => h) (Or.inr ⟨by rfl, rfl⟩) (by assumption) ?_
                simp only [Act.put, List.setIfInBounds_toArray, List.set_cons_zero, List.set_cons_succ]
                refine wpAnyH_take (i := 14) (oi := { dst := some 58, op := _, type := _, pos := _, after := _, guard := _ }) (v := undef) rfl (by kernel_rfl) (by kernel_rfl) (by kernel_rfl) (fun _ _ _ h => h) (Or.inr ⟨by rfl, rfl⟩) (by assumption) ?_
                simp only [Act.put, List.setIfInBounds_toArray, List.set_cons_zero, List.set_cons_succ]
                refine wpAnyH_take (i := 15) (oi := { dst := some 59, op := _, type := _, pos := _, after := _, guard := _ }) (v := ?v15) rfl (by kernel_rfl) (by kernel_rfl) (by kernel_rfl) (fun _ _ _ h => h) (Or.inl ⟨by rfl, ?y15⟩) (by assumption) ?r15
                case y15 =>
                  intro w hSw
                  try dsimp only at hSw
                  go_simp
                  try with_reducible rfl
                simp only [Act.put, List.setIfInBounds_toArray, List.set_cons_zero, List.set_cons_succ]
                refine wpAnyH_done (by kernel_rfl) ?_ _
                all_goals
                  go_wp2_with fail
                  go_roundg (2 - (y + 1))
                  case measure => omega
                  case rel => exact ⟨y + 1, by omega, rfl, by go_num, C1, c1, gs1, by rw [oneTo, HONE.out, List.append_nil]; exact I6, HQ.out, Z6⟩
              · obtain ⟨jj, hs, hjj, w0, w4⟩ := free_step V hlt hf
                have HS := Lib.hid hs
                have hONE : oneT W T n bs zs j ((y + 1 : Nat) : Int) = tilings W T n bs (layL W T zs j way) := by rw [Til.oneT, ← HWI.out, HF.out]; rfl
                have HONE := Lib.hid hONE
                have hdl := HDN.out.lay (W := W) (T := T) (way := way) (by rw [HLZ.out, HVL.out]) (by rw [HLZ.out]; exact hlt) hs (by rw [HLZ.out]; exact hjj) w0
                have HDL := Lib.hid hdl
                have hln : (M ++ oneTo W T n bs zs j y).length + (tilings W T n bs (layL W T zs j way)).length ≤ 1099511627774 := by
                  have h1 := HLEN.out
                  have h2 : (tilings W T n bs (layL W T zs j way)).length = (oneT W T n bs zs j ((y + 1 : Nat) : Int)).length := by rw [HONE.out]
                  rw [HTF.out, List.length_append] at h1
                  rw [List.length_append, h2]
                  rcases (show y = 0 ∨ y = 1 by omega) with rfl | rfl
                  · show M.length + 0 + (oneT W T n bs zs j 1).length ≤ _; omega
                  · show M.length + (oneT W T n bs zs j 1).length + (oneT W T n bs zs j 2).length ≤ _; omega
                have HLN := Lib.hid hln
                have hcall : ∀ (D : Option Addr) (q9 q0 : Nat) (w6 w7 : World), AI w bo W T (some ⟨b, off, none⟩) n c bs (some ⟨bb, 0, none⟩) d0 zs base C gs C1 c1 gs1 (M ++ oneTo W T n bs zs j y) w7 → Own w7 base w7.heap.size 3 D n q0 ((layL W T zs j way).map (.int .i64)) → (∀ b off, D = some ⟨b, off, none⟩ → w6.heap.size ≤ b) → (∀ g ∈ gs1, base ≤ g ∧ g < w6.heap.size) → (∀ b off, C1 = some ⟨b, off, none⟩ → base ≤ b ∧ b < w6.heap.size) →
                    Calls Try.prog 67 #[.agg #[.int .i64 W, .int .i64 T, .slice (some ⟨b, off, none⟩) n c], .slice D n q9, .func (.func 98) #[] #[.pointer (some ⟨bo, 0, none⟩)]] w7 (EachA bo W T n bs (layL W T zs j way) base D C1 gs1 (M ++ oneTo W T n bs zs j y) w7) := fun D q9 q0 w6 w7 I7 own hD hL hC =>
                  HIH.out (n - (j + 1)) (by omega) D q9 q0 (layL W T zs j way) w7 C1 c1 gs1 (M ++ oneTo W T n bs zs j y) (by omega) (by rw [show n - (n - (j + 1)) = j + 1 by omega]; exact HDL.out) (by rw [Til.layL_len, HLZ.out]) I7.S own I7.V I7.Z I7.L (fun b off hA => ⟨fun hm => by have := (hL b hm).2; have := hD b off hA; omega, fun off' e => by have := (hC b off' e).2; have := hD b off hA; omega⟩) HLN.out
                have HCALL := Lib.hid hcall
                clear hf hs hONE hdl hln hcall
                go_wp2_with fail
                go_region_held3 (fun w' => w'.cell? ⟨w.heap.size, 0, none⟩ = some (.int .i64 W) ∧ w'.cell? ⟨w.heap.size, 1, none⟩ = some (.int .i64 T) ∧ w'.cell? ⟨w.heap.size, 2, none⟩ = some (.slice (some ⟨b, off, none⟩) n c))
                  (first | exact ⟨k1, k2, k3⟩ | go_keep)
                  (first
                    | (go_at_call 67; refine (HCALL.out D q9 q0 _ _ I7 (own.base (by have := I6.O.2 bb 0 rfl; omega)) (fun b off hA => (own.2 b off hA).1) I6.L.lt I6.L.ltC).mono ?_; rintro e w8 ⟨rfl, C2, c2, gs2, hK8, hN8, hV8, hZ8, hL8, hG8⟩; have I8 := I7.call hK8 hN8 hV8 hZ8 hL8 (fun g hg => (hG8 g hg).elim (fun ⟨off', e⟩ => by have := (own.2 g off' e).1; have := I6.z; omega) (fun e => by have := hb7.size; have := I6.z; omega)); have s1 := I8.X.1; have s2 := I8.X.2.1; have s3 := I8.X.2.2; have Z8 := (Z6.below hb7).keep (fun b' off' hA hlt => by injection hA with hA; injection hA with hA _ _; subst hA; exact hK8.block _ hlt (by omega) HQ.out); have HQ8 := Lib.hid (hN8.far (by obtain ⟨b', off', e, hlt'⟩ := Z6.block (by omega); injection e with e; injection e with e _ _; have := hb7.size; omega) HQ.out))
                    | (go_at_call 58; refine (lay_any (some ⟨b, off, none⟩) n c W T bs (some ⟨bb, 0, none⟩) d zs j jj way _ V I6.O.sl hlt HS.out hjj w0 w4).mono ?_; rintro e w7 ⟨D, q9, q0, rfl, own, hb7, hle⟩; rw [Til.layL_len, HLZ.out] at own; rw [Til.layL_len, HLZ.out]; have I7 := I6.below hb7; have r1 := I7.X.1; have r2 := I7.X.2.1; have r3 := I7.X.2.2)
                    | (go_at_call 56; refine (free_any (some ⟨b, off, none⟩) n c W T bs (some ⟨bb, 0, none⟩) d zs j way _ V I.S.drew I.O.sl.drew HJI.out).mono ?_; rintro e w6 ⟨rfl, hb6⟩; rw [HFB.out, HF.out]; have I6 := I.drew.below hb6; have Z6 := Z5.drew.below hb6; have q1 := I6.X.1; have q2 := I6.X.2.1; have q3 := I6.X.2.2)
                    | fail)
                all_goals
                  go_wp2_with fail
                  go_roundg (2 - (y + 1))
                  case measure => omega
                  case rel => exact ⟨y + 1, by omega, rfl, by go_num, C2, c2, gs1 ++ gs2, by rw [oneTo, HONE.out, ← List.append_assoc]; exact I8, HQ8.out, Z8⟩
            · obtain rfl : y = 2 := by omega
              go_wp2_with fail
              go_ret
              have ET : oneTo W T n bs zs j 2 = tilings W T n bs zs := by rw [HTF.out]; rfl
              have I' := I
              rw [ET] at I'
              obtain ⟨gs', e, hg⟩ := I'.G
              exact ⟨rfl, C1, c1, gs', I'.K, I'.N.mono (by omega), I'.V, I'.Z, by rw [← e]; exact I'.L, fun g hm => .inr (by have := hg g hm; omega)⟩
        · have hop : open' bs zs j = false := by rw [Til.open', HX.out, HY.out, show (y == 0) = false by rw [beq_eq_false_iff_ne]; exact hy0]; rfl
          have hyb : (y != 0) = true := by rw [bne_iff_ne]; exact hy0
          have HOP := Lib.hid hop
          clear hop hy0
          go_wp2_with fail
          go_roundg (n - (j + 1))
          case measure => omega
          case rel => exact ⟨j + 1, by omega, rfl, by go_num, HDS.out HOP.out, I⟩
    · have e : j = n := by omega
      subst e
      have c5 := I.V
      obtain ⟨x1, x2, x3⟩ := I.b3 bb 0 rfl
      go_wp2_with fail
      refine (tils1_any bo base C c0 gs M bb j d d0 zs _ I.V I.Z I.L I.O HLZ.out I.b1 x2 x3 (by have := HLEN.out; omega)).mono ?_; rintro e w6 ⟨rfl, C2, c2, hK, hN, hV, hZ, hL⟩
      go_wp2_with fail
      go_ret
      have ET : tilings W T j bs zs = [zs] := Til.tilings_none HDN.out
      rw [EachA, ET]
      exact ⟨rfl, C2, c2, [bb], I.K.trans (NearX.refl _ _) hK, hN.mono (by have := I.z; omega), hV, hZ, hL, fun g hg => by simp at hg; subst hg; exact .inl ⟨0, rfl⟩⟩

end Go.Proofs.Ytcnkpcnbobiodaa
