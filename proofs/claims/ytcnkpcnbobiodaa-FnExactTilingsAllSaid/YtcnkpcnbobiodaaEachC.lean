/-
  each with the function that keeps one tiling and stops: what it leaves.
-/
import Derived.Test.YtcnkpcnbobiodaaTilA
import Derived.Test.YtcnkpcnbobiodaaLay
import Derived.Test.YtcnkpcnbobiodaaTot
import Derived.Deep.RegionHeld3
import Derived.Deep.LoopGhost
namespace Go.Proofs.Ytcnkpcnbobiodaa
open Go.RowKit
open Til (on open' tilings Done oneT)

/-- What lies there while each is at work: the parameter's box, the list, the variable at bo. -/
structure EI (w : World) (bo : Nat) (v : Value) (W T : Nat) (A : Option Addr) (n c : Nat) (bs : List Bool) (B : Option Addr) (d0 : Nat) (zs : List Int) (base : Nat) (wx : World) : Prop where
  X : Box wx w.heap.size (.int .i64 W) (.int .i64 T) (.slice A n c)
  G : w.grownBy wx (some bo)
  S : Sl wx A n (bs.map .bool)
  O : Own wx base wx.heap.size 3 B n d0 (zs.map (.int .i64))
  C : wx.cell? ⟨bo, 0, none⟩ = some v
  Z : Thaw wx bo
  z : w.heap.size + 1 ≤ wx.heap.size
  b1 : bo < w.heap.size
  b2 : ∀ b off, A = some ⟨b, off, none⟩ → b ≠ bo
  b3 : ∀ b off, B = some ⟨b, off, none⟩ → b ≠ bo
theorem EI.grown {w wx w' : World} {bo W T n c d0 base : Nat} {v : Value} {A B : Option Addr} {bs : List Bool} {zs : List Int} (h : EI w bo v W T A n c bs B d0 zs base wx) (hg : wx.grownBy w' (some bo)) (hC : w'.cell? ⟨bo, 0, none⟩ = some v) (hZ : Thaw w' bo) : EI w bo v W T A n c bs B d0 zs base w' :=
  ⟨h.X.grown hg (by have := h.b1; simp; omega), grown_trans h.G hg, h.S.grown hg (fun b off hA => by simpa using h.b2 b off hA), (h.O.grown hg (fun b off hA => by simpa using h.b3 b off hA)).top hg.size, hC, hZ, Nat.le_trans h.z hg.size, h.b1, h.b2, h.b3⟩
theorem EI.below {w wx w' : World} {bo W T n c d0 base : Nat} {v : Value} {A B : Option Addr} {bs : List Bool} {zs : List Int} (h : EI w bo v W T A n c bs B d0 zs base wx) (hb : Below wx.heap.size wx w') : EI w bo v W T A n c bs B d0 zs base w' :=
  h.grown (grown_below hb _) ((World.cell?_of_block (w := wx) (hb.block bo h.Z.1)).trans h.C) (h.Z.below hb)
theorem EI.drew {w wx : World} {bo W T n c d0 base : Nat} {v : Value} {A B : Option Addr} {bs : List Bool} {zs : List Int} (h : EI w bo v W T A n c bs B d0 zs base wx) : EI w bo v W T A n c bs B d0 zs base wx.drew := h.below (Below.refl _ _).drew

/-- What each with the stopping function leaves. -/
def EachR (bo : Nat) (v : Value) (W T n : Nat) (bs : List Bool) (zs : List Int) (base : Nat) (w' : World) : Bool → Prop
  | true => tilings W T n bs zs = [] ∧ w'.cell? ⟨bo, 0, none⟩ = some v
  | false => ∃ t rest C q q0, tilings W T n bs zs = t :: rest ∧ w'.cell? ⟨bo, 0, none⟩ = some (.slice C n q) ∧ Own w' base w'.heap.size 3 C n q0 (t.map (.int .i64))
def EachC (bo : Nat) (v : Value) (W T n : Nat) (bs : List Bool) (zs : List Int) (base : Nat) (w : World) (e : Ending) (w' : World) : Prop :=
  w.grownBy w' (some bo) ∧ Thaw w' bo ∧ ∃ r : Bool, e = .returned (.bool r) ∧ EachR bo v W T n bs zs base w' r

theorem compl1_any (bo : Nat) (v : Value) (B : Option Addr) (n d : Nat) (w : World) (hC : w.cell? ⟨bo, 0, none⟩ = some v) (hZ : Thaw w bo) :
    Calls Try.prog 69 #[.slice B n d, .pointer (some ⟨bo, 0, none⟩)] w fun e w' => e = .returned (.bool false) ∧ w' = w.setCell ⟨bo, 0, none⟩ (.slice B n d) := by
  have f := hZ.2 0
  go_enter Try.func69, Try.ntmps69
  go_wp2_with fail
  go_ret
  exact ⟨rfl, rfl⟩

set_option maxRecDepth 100000 in
set_option maxHeartbeats 4000000 in
theorem eachC_any (bo : Nat) (v : Value) (A : Option Addr) (n c W T : Nat) (bs : List Bool) (V : Valid W T n bs) (base : Nat) : ∀ (rem : Nat) (B : Option Addr) (d d0 : Nat) (zs : List Int) (w : World), rem ≤ n → Done bs zs (n - rem) → zs.length = n → Sl w A n (bs.map .bool) → Own w base w.heap.size 3 B n d0 (zs.map (.int .i64)) → base ≤ w.heap.size →
    w.cell? ⟨bo, 0, none⟩ = some v → Thaw w bo → (∀ b off, A = some ⟨b, off, none⟩ → b ≠ bo) → (∀ b off, B = some ⟨b, off, none⟩ → b ≠ bo) →
    Calls Try.prog 67 #[.agg #[.int .i64 W, .int .i64 T, .slice A n c], .slice B n d, .func (.func 69) #[] #[.pointer (some ⟨bo, 0, none⟩)]] w (EachC bo v W T n bs zs base w) := by
  have n36 := V.n36
  have HVS := Lib.hid V.size
  have HVL := Lib.hid V.len
  intro rem
  induction rem using Nat.strongRecOn with
  | ind rem ih =>
  intro B d d0 zs w hrem hdone hlz hS hO hbase hC hZ hA hB
  have HIH := Lib.hid ih
  have HLZ := Lib.hid hlz
  have I0 : EI w bo v W T A n c bs B d0 zs base (w.alloc (.cells #[.int .i64 W, .int .i64 T, .slice A n c] 27)) :=
    ⟨Box.new _ _ _ _ _, grown_below (below1 w _) _, hS.alloc _, (hO.alloc _).top (by simp), (World.cell?_of_block (w := w) ((below1 w _).block bo hZ.1)).trans hC, hZ.alloc _, by simp, hZ.1, hA, hB⟩
  have HDONE := Lib.hid hdone
  clear ih hlz hdone hS hO hC hZ hA hB
  go_enter Try.func67, Try.ntmps67
  go_wp2_with fail
  go_loopg [7] n (fun gk i wx => ∃ j : Nat, j ≤ n ∧ gk = n - j ∧ i = .int .i64 j ∧ Done bs zs j ∧ EI w bo v W T A n c bs B d0 zs base wx)
  case atStart => exact ⟨0, Nat.zero_le _, rfl, rfl, fun i hi => by omega, I0⟩
  case round =>
    clear I0
    obtain ⟨j, hj, rfl, rfl, hdn, I⟩ := hrel
    obtain ⟨wo, hwo⟩ : ∃ wo, wo = wr := ⟨_, rfl⟩
    subst hwo
    have HDN := Lib.hid hdn
    clear hdn
    have k1 := I.X.1
    have k2 := I.X.2.1
    have k3 := I.X.2.2
    by_cases hlt : j < n
    · obtain ⟨b, off, x, rfl, hx, hc1⟩ := I.S.atB hlt
      obtain ⟨b2, off2, y, rfl, hy, hc2⟩ := I.O.sl.atI hlt
      have HX := Lib.hid (show on bs j = x by unfold Til.on; rw [hx]; rfl)
      have HY := Lib.hid (ent_of hy)
      clear hx hy
      have dsucc : open' bs zs j = false → Done bs zs (j + 1) := fun h i hi => by
        by_cases e : i = j
        · subst e; exact h
        · exact HDN.out i (by omega)
      have HDS := Lib.hid dsucc
      clear dsucc
      cases x
      · have hop : open' bs zs j = false := by rw [Til.open', HX.out]; rfl
        have HOP := Lib.hid hop
        clear hop
        go_wp2_with fail
        go_roundg (n - (j + 1))
        case measure => omega
        case rel => exact ⟨j + 1, by omega, rfl, by go_num, HDS.out HOP.out, I⟩
      · by_cases hy0 : y = 0
        · subst hy0
          have hop : open' bs zs j = true := by rw [Til.open', HX.out, HY.out]; rfl
          have hTF := Til.tilings_first (W := W) (T := T) HVL.out HLZ.out hlt HDN.out hop
          have HTF := Lib.hid hTF
          have hjr : n - rem ≤ j := by
            rcases Nat.lt_or_ge j (n - rem) with h | h
            · have := HDONE.out j h; rw [hop] at this; cases this
            · exact h
          have HFB := Lib.hid (show ∀ way : Int, freeB W T n bs zs (j : Int) way = freeK W T bs zs j way from fun way => by rw [freeB, inB_iff.2 (by omega), Bool.true_and]; rfl)
          have hjI : I64 (j : Int) := ⟨by omega, by omega⟩
          have hjn : ((j : Int) == (n : Int)) = false := by rw [beq_eq_false_iff_ne]; omega
          have HJI := Lib.hid hjI
          clear hTF hop hjI
          go_wp2_with fail
          have I1 := I.below (below1 wo (.cells #[.int .i64 1, .int .i64 2] 3))
          have Z1 : Sl (wo.alloc (.cells #[.int .i64 1, .int .i64 2] 3)) (some ⟨wo.heap.size, 0, none⟩) 2 ([(1 : Int), 2].map (.int .i64)) := (Own.made (w := wo) (base := wo.heap.size) (e := 3) (cs := #[.int .i64 1, .int .i64 2]) (n := 2) (Nat.le_refl _) (by unfold maxLen; omega) rfl).sl
          have nbo := I.Z.1
          have zwo := I.z
          clear I k1 k2 k3 hc1 hc2
          go_loopg [6, 9, 40] 2 (fun gk _ _ s40 wx => ∃ y : Nat, y ≤ 2 ∧ gk = 2 - y ∧ s40 = .int .i64 y ∧ (∀ q : Nat, q < y → oneT W T n bs zs j ((q + 1 : Nat) : Int) = []) ∧ EI w bo v W T (some ⟨b, off, none⟩) n c bs (some ⟨b2, off2, none⟩) d0 zs base wx ∧ Sl wx (some ⟨wo.heap.size, 0, none⟩) 2 ([(1 : Int), 2].map (.int .i64)))
          case atStart => exact ⟨0, by omega, rfl, rfl, fun q hq => by omega, I1, Z1⟩
          case round =>
            clear I1 Z1
            obtain ⟨y, hy2, rfl, rfl, hno, I, Z5⟩ := hrel
            have HNO := Lib.hid hno
            clear hno
            have k1 := I.X.1
            have k2 := I.X.2.1
            have k3 := I.X.2.2
            by_cases hy3 : y < 2
            · obtain ⟨b4, off4, way, hA4, hway, hc4⟩ := Z5.atI hy3
              injection hA4 with hA4
              injection hA4 with hA41 hA42 _
              subst hA41 hA42
              have hwi : way = ((y + 1 : Nat) : Int) := by
                rcases (show y = 0 ∨ y = 1 by omega) with rfl | rfl
                · simpa using hway.symm
                · simpa using hway.symm
              have hw1 : 1 ≤ way := by omega
              have HWI := Lib.hid hwi
              have hc4' : wr.cell? ⟨wo.heap.size, y, none⟩ = some (.int .i64 way) := by simpa using hc4
              obtain ⟨wq, hwq⟩ : ∃ wq, wq = wr := ⟨_, rfl⟩
              subst hwq
              clear hc4 hway hwi
              obtain ⟨f, hf⟩ : ∃ f, freeK W T bs zs j way = f := ⟨_, rfl⟩
              have HF := Lib.hid hf
              cases f
              · have HONE := Lib.hid (show oneT W T n bs zs j ((y + 1 : Nat) : Int) = [] by rw [Til.oneT, ← HWI.out, HF.out]; rfl)
                clear hf
                go_wp2_with fail
                refine wp_region_held_drew (S := fun w' => w'.cell? ⟨w.heap.size, 0, none⟩ = some (.int .i64 W) ∧ w'.cell? ⟨w.heap.size, 1, none⟩ = some (.int .i64 T) ∧ w'.cell? ⟨w.heap.size, 2, none⟩ = some (.slice (some ⟨b, off, none⟩) n c)) (by kernel_rfl) ⟨k1, k2, k3⟩ (fun hHeld => ?_)
                refine wpAnyH_take (i := 0) (oi := { dst := some 44, op := _, type := _, pos := _, after := _, guard := _ }) (v := ?v0) rfl (by kernel_rfl) (by kernel_rfl) (by kernel_rfl) (fun _ _ _ h => h) (Or.inl ⟨by rfl, ?y0⟩) (by assumption) ?r0
                case y0 =>
                  intro w hSw
                  try dsimp only at hSw
                  go_simp
                  try with_reducible rfl
                simp only [Act.put, List.setIfInBounds_toArray, List.set_cons_zero, List.set_cons_succ]
                refine wpAnyH_take (i := 1) (oi := { dst := some 45, op := _, type := _, pos := _, after := _, guard := _ }) (v := ?v1) rfl (by kernel_rfl) (by kernel_rfl) (by kernel_rfl) (fun _ _ _ h => h) (Or.inl ⟨by rfl, ?y1⟩) (by assumption) ?r1
                case y1 =>
                  intro w hSw
                  try dsimp only at hSw
                  go_simp
                  try with_reducible rfl
                simp only [Act.put, List.setIfInBounds_toArray, List.set_cons_zero, List.set_cons_succ]
                refine wpAnyH_take (i := 2) (oi := { dst := some 46, op := _, type := _, pos := _, after := _, guard := _ }) (v := ?v2) rfl (by kernel_rfl) (by kernel_rfl) (by kernel_rfl) (fun _ _ _ h => h) (Or.inl ⟨by rfl, ?y2⟩) (by assumption) ?r2
                case y2 =>
                  intro w hSw
                  try dsimp only at hSw
                  go_simp
                  try with_reducible rfl
                simp only [Act.put, List.setIfInBounds_toArray, List.set_cons_zero, List.set_cons_succ]
                refine wpAnyH_take (i := 3) (oi := { dst := some 47, op := _, type := _, pos := _, after := _, guard := _ }) (v := ?v3) rfl (by kernel_rfl) (by kernel_rfl) (by kernel_rfl) (fun _ _ _ h => h) (Or.inl ⟨by rfl, ?y3⟩) (by assumption) ?r3
                case y3 =>
                  intro w hSw
                  try dsimp only at hSw
                  go_simp
                  try with_reducible rfl
                simp only [Act.put, List.setIfInBounds_toArray, List.set_cons_zero, List.set_cons_succ]
                refine wpAnyH_ready (rs := [4]) (by kernel_rfl) (by simp) ?_
                refine AllReadyH.cons rfl (fun K hK => ?_) AllReadyH.nil
                go_simp
                go_at_call 56
                refine (free_any (some ⟨b, off, none⟩) n c W T bs (some ⟨b2, off2, none⟩) d zs j way _ V I.S.drew I.O.sl.drew HJI.out).mono ?_
                rintro e w6 ⟨rfl, hb6⟩
                rw [HFB.out, HF.out]
                have I6 := I.drew.below hb6
                have Z6 := Z5.drew.below hb6
                have q1 := I6.X.1
                have q2 := I6.X.2.1
                have q3 := I6.X.2.2
                dsimp only
                clear hHeld
                refine hK.out _ _ ⟨q1, q2, q3⟩ (fun hHeld => ?_)
                clear hK K
                refine wpAnyH_take (i := 5) (oi := { dst := some 49, op := _, type := _, pos := _, after := _, guard := _ }) (v := ?v5) rfl (by kernel_rfl) (by kernel_rfl) (by kernel_rfl) (fun _ _ _ h => h) (Or.inl ⟨by rfl, ?y5⟩) (by assumption) ?r5
                case y5 =>
                  intro w hSw
                  try dsimp only at hSw
                  go_simp
                  try with_reducible rfl
                simp only [Act.put, List.setIfInBounds_toArray, List.set_cons_zero, List.set_cons_succ]
                refine wpAnyH_take (i := 6) (oi := { dst := some 50, op := _, type := _, pos := _, after := _, guard := _ }) (v := undef) rfl (by kernel_rfl) (by kernel_rfl) (by kernel_rfl) (fun _ _ _ h => h) (Or.inr ⟨by rfl, rfl⟩) (by assumption) ?_
                simp only [Act.put, List.setIfInBounds_toArray, List.set_cons_zero, List.set_cons_succ]
                refine wpAnyH_take (i := 7) (oi := { dst := some 51, op := _, type := _, pos := _, after := _, guard := _ }) (v := undef) rfl (by kernel_rfl) (by kernel_rfl) (by kernel_rfl) (fun _ _ _ h => h) (Or.inr ⟨by rfl, rfl⟩) (by assumption) ?_
                simp only [Act.put, List.setIfInBounds_toArray, List.set_cons_zero, List.set_cons_succ]
                refine wpAnyH_take (i := 8) (oi := { dst := some 52, op := _, type := _, pos := _, after := _, guard := _ }) (v := undef) rfl (by kernel_rfl) (by kernel_rfl) (by kernel_rfl) (fun _ _ _ h => h) (Or.inr ⟨by rfl, rfl⟩) (by assumption) ?_
                simp only [Act.put, List.setIfInBounds_toArray, List.set_cons_zero, List.set_cons_succ]
                refine wpAnyH_take (i := 9) (oi := { dst := some 53, op := _, type := _, pos := _, after := _, guard := _ }) (v := undef) rfl (by kernel_rfl) (by kernel_rfl) (by kernel_rfl) (fun _ _ _ h => h) (Or.inr ⟨by rfl, rfl⟩) (by assumption) ?_
                simp only [Act.put, List.setIfInBounds_toArray, List.set_cons_zero, List.set_cons_succ]
                refine wpAnyH_take (i := 10) (oi := { dst := some 54, op := _, type := _, pos := _, after := _, guard := _ }) (v := undef) rfl (by kernel_rfl) (by kernel_rfl) (by kernel_rfl) (fun _ _ _ h => h) (Or.inr ⟨by rfl, rfl⟩) (by assumption) ?_
                simp only [Act.put, List.setIfInBounds_toArray, List.set_cons_zero, List.set_cons_succ]
                refine wpAnyH_take (i := 12) (oi := { dst := some 56, op := _, type := _, pos := _, after := _, guard := _ }) (v := undef) rfl (by kernel_rfl) (by kernel_rfl) (by kernel_rfl) (fun _ _ _ h => h) (Or.inr ⟨by rfl, rfl⟩) (by assumption) ?_
                simp only [Act.put, List.setIfInBounds_toArray, List.set_cons_zero, List.set_cons_succ]
                refine wpAnyH_take (i := 11) (oi := { dst := some 55, op := _, type := _, pos := _, after := _, guard := _ }) (v := undef) rfl (by kernel_rfl) (by kernel_rfl) (by kernel_rfl) (fun _ _ _ h => h) (Or.inr ⟨by rfl, rfl⟩) (by assumption) ?_
                simp only [Act.put, List.setIfInBounds_toArray, List.set_cons_zero, List.set_cons_succ]
                refine wpAnyH_take (i := 13) (oi := { dst := some 57, op := _, type := _, pos := _, after := _, guard := _ }) (v := undef) rfl (by kernel_rfl) (by kernel_rfl) (by kernel_rfl) (fun _ _ _ h => h) (Or.inr ⟨by rfl, rfl⟩) (by assumption) ?_
                simp only [Act.put, List.setIfInBounds_toArray, List.set_cons_zero, List.set_cons_succ]
                refine wpAnyH_take (i := 14) (oi := { dst := some 58, op := _, type := _, pos := _, after := _, guard := _ }) (v := undef) rfl (by kernel_rfl) (by kernel_rfl) (by kernel_rfl) (fun _ _ _ h => h) (Or.inr ⟨by rfl, rfl⟩) (by assumption) ?_
                simp only [Act.put, List.setIfInBounds_toArray, List.set_cons_zero, List.set_cons_succ]
                refine wpAnyH_take (i := 15) (oi := { dst := some 59, op := _, type := _, pos := _, after := _, guard := _ }) (v := ?v15) rfl (by kernel_rfl) (by kernel_rfl) (by kernel_rfl) (fun _ _ _ h => h) (Or.inl ⟨by rfl, ?y15⟩) (by assumption) ?r15
                case y15 =>
                  intro w hSw
                  try dsimp only at hSw
                  go_simp
                  try with_reducible rfl
                simp only [Act.put, List.setIfInBounds_toArray, List.set_cons_zero, List.set_cons_succ]
                refine wpAnyH_done (by kernel_rfl) ?_ _
                all_goals
                  go_wp2_with fail
                  go_roundg (2 - (y + 1))
                  case measure => omega
                  case rel => exact ⟨y + 1, by omega, rfl, by go_num, fun q hq => by
                    by_cases e : q = y
                    · subst e; exact HONE.out
                    · exact HNO.out q (by omega), I6, Z6⟩
              · obtain ⟨jj, hs, hjj, w0, w4⟩ := free_step V hlt hf
                have HS := Lib.hid hs
                have hONE : oneT W T n bs zs j ((y + 1 : Nat) : Int) = tilings W T n bs (layL W T zs j way) := by rw [Til.oneT, ← HWI.out, HF.out]; rfl
                have HONE := Lib.hid hONE
                have hdl := HDN.out.lay (W := W) (T := T) (way := way) (by rw [HLZ.out, HVL.out]) (by rw [HLZ.out]; exact hlt) hs (by rw [HLZ.out]; exact hjj) w0
                have HDL := Lib.hid hdl
                clear hf hs hONE hdl
                go_wp2_with fail
                go_region_held3 (fun w' => w'.cell? ⟨w.heap.size, 0, none⟩ = some (.int .i64 W) ∧ w'.cell? ⟨w.heap.size, 1, none⟩ = some (.int .i64 T) ∧ w'.cell? ⟨w.heap.size, 2, none⟩ = some (.slice (some ⟨b, off, none⟩) n c))
                  (first | exact ⟨k1, k2, k3⟩ | go_keep)
                  (first
                    | (go_at_call 67; refine (HIH.out (n - (j + 1)) (by omega) D q q0 (layL W T zs j way) _ (by omega) (by rw [show n - (n - (j + 1)) = j + 1 by omega]; exact HDL.out) (by rw [Til.layL_len, HLZ.out]) I7.S (own.base (by have := I6.z; omega)) (by have := hb7.size; have := I6.z; omega) I7.C I7.Z I7.b2 (fun b off hA => by have := (own.2 b off hA).1; have := I6.Z.1; omega)).mono ?_; rintro e w8 ⟨hg8, hZ8, r8, rfl, hr8⟩; have X8 := I7.X.grown hg8 (by have := I7.b1; simp; omega); have s1 := X8.1; have s2 := X8.2.1; have s3 := X8.2.2; have Z8 := (Z6.below hb7).grown hg8 (fun b off hA => by injection hA with hA; injection hA with hA _ _; simp; omega))
                    | (go_at_call 58; refine (lay_any (some ⟨b, off, none⟩) n c W T bs (some ⟨b2, off2, none⟩) d zs j jj way _ V I6.O.sl hlt HS.out hjj w0 w4).mono ?_; rintro e w7 ⟨D, q, q0, rfl, own, hb7, hle⟩; rw [Til.layL_len, HLZ.out] at own; rw [Til.layL_len, HLZ.out]; have I7 := I6.below hb7; have r1 := I7.X.1; have r2 := I7.X.2.1; have r3 := I7.X.2.2)
                    | (go_at_call 56; refine (free_any (some ⟨b, off, none⟩) n c W T bs (some ⟨b2, off2, none⟩) d zs j way _ V I.S.drew I.O.sl.drew HJI.out).mono ?_; rintro e w6 ⟨rfl, hb6⟩; rw [HFB.out, HF.out]; have I6 := I.drew.below hb6; have Z6 := Z5.drew.below hb6; have q1 := I6.X.1; have q2 := I6.X.2.1; have q3 := I6.X.2.2)
                    | fail)
                all_goals
                  cases r8
                  · obtain ⟨t, rest, C, q9, q90, ht, hC9, own9⟩ := hr8
                    go_wp2_with fail
                    go_ret
                    refine ⟨grown_trans I7.G hg8, hZ8, false, rfl, ?_⟩
                    rcases (show y = 0 ∨ y = 1 by omega) with rfl | rfl
                    · exact ⟨t, rest ++ oneT W T n bs zs j 2, C, q9, q90, by rw [HTF.out, show oneT W T n bs zs j 1 = t :: rest from HONE.out.trans ht]; rfl, hC9, own9⟩
                    · exact ⟨t, rest, C, q9, q90, by rw [HTF.out, show oneT W T n bs zs j 1 = [] from HNO.out 0 (by omega), show oneT W T n bs zs j 2 = t :: rest from HONE.out.trans ht]; rfl, hC9, own9⟩
                  · obtain ⟨ht, hC9⟩ := hr8
                    have I8 := I7.grown hg8 hC9 hZ8
                    have HO2 := Lib.hid (HONE.out.trans ht)
                    clear ht hC9
                    go_wp2_with fail
                    go_roundg (2 - (y + 1))
                    case measure => omega
                    case rel => exact ⟨y + 1, by omega, rfl, by go_num, fun q hq => by
                      by_cases e : q = y
                      · subst e; exact HO2.out
                      · exact HNO.out q (by omega), I8, Z8⟩
            · obtain rfl : y = 2 := by omega
              go_wp2_with fail
              go_ret
              refine ⟨I.G, I.Z, true, rfl, ?_, I.C⟩
              rw [HTF.out, show oneT W T n bs zs j 1 = [] from HNO.out 0 (by omega), show oneT W T n bs zs j 2 = [] from HNO.out 1 (by omega)]; rfl
        · have hop : open' bs zs j = false := by rw [Til.open', HX.out, HY.out, show (y == 0) = false by rw [beq_eq_false_iff_ne]; exact hy0]; rfl
          have hyb : (y != 0) = true := by rw [bne_iff_ne]; exact hy0
          have HOP := Lib.hid hop
          clear hop hy0
          go_wp2_with fail
          go_roundg (n - (j + 1))
          case measure => omega
          case rel => exact ⟨j + 1, by omega, rfl, by go_num, HDS.out HOP.out, I⟩
    · have e : j = n := by omega
      subst e
      have c5 := I.C
      go_wp2_with fail
      refine (compl1_any bo v B j d _ I.C I.Z).mono ?_; rintro e w6 ⟨rfl, rfl⟩
      go_wp2_with fail
      go_ret
      refine ⟨grown_trans I.G ⟨rfl, rfl, rfl, by simp [World.setCell], fun i _ hne => Below.heap_setCell _ _ _ _ (by rintro rfl; exact hne rfl)⟩, I.Z.setCell _ _, false, rfl, zs, [], B, d, d0, Til.tilings_none HDN.out, World.cell?_setCell_same _ _ _ I.C, ?_⟩
      rw [World.size_setCell]
      exact I.O.setFar (fun b off hA => I.b3 b off hA) _

end Go.Proofs.Ytcnkpcnbobiodaa
