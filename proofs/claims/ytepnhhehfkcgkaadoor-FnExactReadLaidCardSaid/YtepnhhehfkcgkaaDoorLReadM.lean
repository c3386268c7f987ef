/-
  Reading texts of tilings: what a reader gives back; what lies in memory while the reference reads; the signs' numbers.
-/
import Derived.Test.YtepnhhehfkcgkaaDoorReadM
import Derived.Test.YtepnhhehfkcgkaaDoorLayS
namespace Go.Proofs.YtepnhhehfkcgkaaDoor
open Go.RowKit

/-- What a call that gives back a region, a list and a bool leaves. -/
def OutRLB (w w' : World) (e : Ending) (W T : Int) (cs : List Bool) (zs : List Int) (ok : Bool) : Prop :=
  ∃ A c c0 B d d0, e = .returned (.tuple #[.agg #[.int .i64 W, .int .i64 T, .slice A cs.length c], .slice B zs.length d, .bool ok]) ∧ Own w' w.heap.size w'.heap.size 4 A cs.length c0 (cs.map .bool) ∧ Own w' w.heap.size w'.heap.size 3 B zs.length d0 (zs.map (.int .i64)) ∧
    (∀ b off, A = some ⟨b, off, none⟩ → some b ≠ B.map (·.block)) ∧ (∀ b off, B = some ⟨b, off, none⟩ → some b ≠ A.map (·.block)) ∧ Below w.heap.size w w' ∧ cs.length ≤ 4194304 ∧ zs.length ≤ 4194304
theorem OutRLB.mk {w w' : World} {W T : Int} {cs : List Bool} {zs : List Int} {ok : Bool} {A B : Option Addr} {n c m d : Nat} (hl : cs.length = n) (hl' : zs.length = m) (hn : n ≤ 4194304) (hm : m ≤ 4194304) (ho : Own w' w.heap.size w'.heap.size 4 A n c (cs.map .bool)) (ho' : Own w' w.heap.size w'.heap.size 3 B m d (zs.map (.int .i64)))
    (fa : ∀ b off, A = some ⟨b, off, none⟩ → some b ≠ B.map (·.block)) (fb : ∀ b off, B = some ⟨b, off, none⟩ → some b ≠ A.map (·.block)) (hb : Below w.heap.size w w') :
    OutRLB w w' (.returned (.tuple #[.agg #[.int .i64 W, .int .i64 T, .slice A n c], .slice B m d, .bool ok])) W T cs zs ok := by subst hl hl'; exact ⟨A, c, c, B, d, d, rfl, ho, ho', fa, fb, hb, hn, hm⟩
/-- Nothing read, nil. -/
theorem outRLB_nil (w : World) {w' : World} (hb : Below w.heap.size w w') : OutRLB w w' (.returned (.tuple #[.agg #[.int .i64 0, .int .i64 0, .slice none 0 0], .slice none 0 0, .bool false])) 0 0 [] [] false :=
  OutRLB.mk rfl rfl (by omega) (by omega) (own_nil _ _ _ _) (own_nil _ _ _ _) (fun _ _ h => by cases h) (fun _ _ h => by cases h) hb
/-- Nothing read, an empty list. -/
theorem outRLB_empty (w : World) {w' : World} {b : Nat} (ho : Own w' w.heap.size w'.heap.size 3 (some ⟨b, 0, none⟩) 0 0 []) (hb : Below w.heap.size w w') : OutRLB w w' (.returned (.tuple #[.agg #[.int .i64 0, .int .i64 0, .slice none 0 0], .slice (some ⟨b, 0, none⟩) 0 0, .bool false])) 0 0 [] [] false :=
  OutRLB.mk rfl rfl (by omega) (by omega) (own_nil _ _ _ _) ho (fun _ _ h => by cases h) (fun _ _ _ h => by cases h) hb

def ldB (S : ByteArray) : Bool := laidOkL (cutL S.data.toList)
def ldW (S : ByteArray) : Int := if ldB S then rowW (cutL S.data.toList) else 0
def ldT (S : ByteArray) : Int := if ldB S then (cutL S.data.toList).length else 0
def ldC (S : ByteArray) : List Bool := if ldB S then (signsL (cutL S.data.toList)).map onS else []
def ldZ (S : ByteArray) : List Int := if ldB S then (signsL (cutL S.data.toList)).map wayS else []
theorem ld_yes {S : ByteArray} (h : ldB S = true) : ldW S = rowW (cutL S.data.toList) ∧ ldT S = (cutL S.data.toList).length ∧ ldC S = (signsL (cutL S.data.toList)).map onS ∧ ldZ S = (signsL (cutL S.data.toList)).map wayS := by
  rw [ldW, ldT, ldC, ldZ, if_pos h, if_pos h, if_pos h, if_pos h]; exact ⟨rfl, rfl, rfl, rfl⟩
theorem ld_no {S : ByteArray} (h : ldB S = false) : ldW S = 0 ∧ ldT S = 0 ∧ ldC S = [] ∧ ldZ S = [] := by
  rw [ldW, ldT, ldC, ldZ, h]; exact ⟨rfl, rfl, rfl, rfl⟩

theorem wayS_in (c : UInt8) : I64 (wayS c) := by
  rw [wayS]; split
  · exact ⟨by omega, by omega⟩
  split
  · exact ⟨by omega, by omega⟩
  split
  · exact ⟨by omega, by omega⟩
  split <;> exact ⟨by omega, by omega⟩
theorem ways_in (l : List UInt8) : ∀ z ∈ l.map wayS, I64 z := by
  intro z hz
  obtain ⟨c, _, rfl⟩ := List.mem_map.1 hz
  exact wayS_in c

/-- Which sign it is. -/
def idxS (c : UInt8) : Int := if c = 35 then 0 else if c = 101 then 1 else if c = 110 then 2 else if c = 119 then 3 else if c = 115 then 4 else -1
theorem idxS_six (c : UInt8) : (c = 35 ∨ c = 101 ∨ c = 110 ∨ c = 119 ∨ c = 115) ∨ (c ≠ 35 ∧ c ≠ 101 ∧ c ≠ 110 ∧ c ≠ 119 ∧ c ≠ 115) := by
  by_cases h1 : c = 35
  · exact .inl (.inl h1)
  by_cases h2 : c = 101
  · exact .inl (.inr (.inl h2))
  by_cases h3 : c = 110
  · exact .inl (.inr (.inr (.inl h3)))
  by_cases h4 : c = 119
  · exact .inl (.inr (.inr (.inr (.inl h4))))
  by_cases h5 : c = 115
  · exact .inl (.inr (.inr (.inr (.inr h5))))
  exact .inr ⟨h1, h2, h3, h4, h5⟩
theorem idxS_byte (c : UInt8) : Lib.indexByte [35, 101, 110, 119, 115] c = idxS c := by
  rcases idxS_six c with (rfl | rfl | rfl | rfl | rfl) | ⟨h1, h2, h3, h4, h5⟩
  · rfl
  · rfl
  · rfl
  · rfl
  · rfl
  · simp [Lib.indexByte, idxS, h1, h2, h3, h4, h5, Ne.symm h1, Ne.symm h2, Ne.symm h3, Ne.symm h4, Ne.symm h5]
theorem idxS_way (c : UInt8) : wayS c = if 0 ≤ idxS c then idxS c else 0 := by
  rcases idxS_six c with (rfl | rfl | rfl | rfl | rfl) | ⟨h1, h2, h3, h4, h5⟩
  · rfl
  · rfl
  · rfl
  · rfl
  · rfl
  · simp [wayS, idxS, h1, h2, h3, h4, h5]
theorem idxS_sign (c : UInt8) : signL2 c = (c == 46 || decide (0 ≤ idxS c)) := by
  rcases idxS_six c with (rfl | rfl | rfl | rfl | rfl) | ⟨h1, h2, h3, h4, h5⟩
  · rfl
  · rfl
  · rfl
  · rfl
  · rfl
  · simp [signL2, idxS, h1, h2, h3, h4, h5]
theorem idxS_le (c : UInt8) : -1 ≤ idxS c ∧ idxS c ≤ 4 := by
  rcases idxS_six c with (rfl | rfl | rfl | rfl | rfl) | ⟨h1, h2, h3, h4, h5⟩
  · decide
  · decide
  · decide
  · decide
  · decide
  · simp [idxS, h1, h2, h3, h4, h5]

theorem Rd.grown {w wx wy : World} {b g T n q m d : Nat} {vs bs us : List Value} {W : Int} {D B : Option Addr} (R : Rd w b g T vs W D n q bs wx) (L : Own wx (b + 1) wx.heap.size 3 B m d us) (fa : ∀ b' off, D = some ⟨b', off, none⟩ → some b' ≠ B.map (·.block)) (hg : wx.grownBy wy (B.map (·.block))) : Rd w b g T vs W D n q bs wy := by
  have z := R.z
  have gb := R.gb
  refine ⟨R.rows.grown hg (fun b' off hA => ?_), gb, R.Z.grown hg (L.offBox (.inl (by omega))), R.TZ.grown hg (L.offBox (.inl (by omega))), R.X.grown hg (L.offBox (.inl (by omega))), R.TX.grown hg (L.offBox (.inl (by omega))), (R.own.grown hg fa).top hg.size, belowG R.B hg L (by omega), z⟩
  injection hA with hA; injection hA with h1 _ _
  subst h1
  exact L.offBox (.inl (by omega))

structure Rl (w : World) (b g T : Nat) (vs : List Value) (W : Int) (D : Option Addr) (n q : Nat) (bs : List Value) (B : Option Addr) (m d : Nat) (us : List Value) (wx : World) : Prop where
  R : Rd w b g T vs W D n q bs wx
  L : Own wx (b + 1) wx.heap.size 3 B m d us
  fa : ∀ b' off, D = some ⟨b', off, none⟩ → some b' ≠ B.map (·.block)
  fb : ∀ b' off, B = some ⟨b', off, none⟩ → some b' ≠ D.map (·.block)
section
variable {w wx wy : World} {b g T n q m d : Nat} {vs bs us : List Value} {W : Int} {D B : Option Addr}
theorem Rl.below (h : Rl w b g T vs W D n q bs B m d us wx) (hb : Below wx.heap.size wx wy) : Rl w b g T vs W D n q bs B m d us wy := ⟨h.R.below hb, (h.L.below hb).top hb.size, h.fa, h.fb⟩
theorem Own.blk {w : World} {base top : Nat} {e : TypeId} {A : Option Addr} {n c : Nat} {xs : List Value} (h : Own w base top e A n c xs) : A = none ∨ ∃ g, A = some ⟨g, 0, none⟩ ∧ base ≤ g ∧ g < top := by
  rcases h.1.2 with ⟨hv, _⟩ | ⟨g, cap, cur, hv, hg, _⟩
  · injection hv with hA _ _; exact .inl hA
  · injection hv with hA _ _; exact .inr ⟨g, hA, hg, (h.2 g 0 hA).2⟩
/-- A slice that grew, and one that lies aside, stay apart. -/
theorem far_near {w : World} {base top s : Nat} {e : TypeId} {D D' B : Option Addr} {m c : Nat} {xs : List Value} (hB : Own w base top e B m c xs) (ht : top ≤ s) (fa : ∀ b' off, D = some ⟨b', off, none⟩ → some b' ≠ B.map (·.block)) (fb : ∀ b' off, B = some ⟨b', off, none⟩ → some b' ≠ D.map (·.block)) (hn : Near D D' s) :
    (∀ b' off, D' = some ⟨b', off, none⟩ → some b' ≠ B.map (·.block)) ∧ (∀ b' off, B = some ⟨b', off, none⟩ → some b' ≠ D'.map (·.block)) := by
  rcases hn with rfl | rfl
  · exact ⟨fa, fb⟩
  · refine ⟨fun b' off hA => ?_, fun b' off hA => ?_⟩
    · injection hA with hA; injection hA with h1 _ _
      subst h1
      exact hB.offBox (.inr ht)
    · have := (hB.2 b' off hA).2
      simp only [Option.map_some, ne_eq, Option.some.injEq]
      omega
/-- One cell more. -/
theorem Rl.stepC {w4 : World} {D' : Option Addr} {q' : Nat} {v : Bool} (h : Rl w b g T vs W D n q bs B m d us wx) (o4 : Own w4 (b + 1) w4.heap.size 4 D' (n + 1) q' (bs ++ [.bool v]))
    (hg : (wx.alloc (.cells #[.bool v] 4)).drew.grownBy w4 (D.map (·.block))) (hn : Near D D' (wx.alloc (.cells #[.bool v] 4)).drew.heap.size) :
    Rl w b g T vs W D' (n + 1) q' (bs ++ [.bool v]) B m d us (w4.setCell ⟨b, 2, none⟩ (.slice D' (n + 1) q')) := by
  have L1 := (h.L.alloc (.cells #[.bool v] 4)).drew.grown hg h.fb
  have hs : wx.heap.size ≤ w4.heap.size := Nat.le_trans (by show wx.heap.size ≤ (wx.alloc _).heap.size; simp) hg.size
  obtain ⟨f1, f2⟩ := far_near h.L (by show wx.heap.size ≤ (wx.alloc _).heap.size; simp) h.fa h.fb hn
  exact ⟨h.R.step o4 hg, (L1.setBelow (show b < b + 1 by omega) _).top (by simp; omega), f1, f2⟩
/-- One entry more. -/
theorem Rl.stepL {w4 : World} {B' : Option Addr} {d' : Nat} {z : Int} (h : Rl w b g T vs W D n q bs B m d us wx) (o4 : Own w4 (b + 1) w4.heap.size 3 B' (m + 1) d' (us ++ [.int .i64 z]))
    (hg : (wx.alloc (.cells #[.int .i64 z] 3)).grownBy w4 (B.map (·.block))) (hn : Near B B' (wx.alloc (.cells #[.int .i64 z] 3)).heap.size) :
    Rl w b g T vs W D n q bs B' (m + 1) d' (us ++ [.int .i64 z]) w4 := by
  have R1 := h.R.below (below1 wx (.cells #[.int .i64 z] 3))
  have L1 := (h.L.alloc (.cells #[.int .i64 z] 3)).top (show wx.heap.size ≤ (wx.alloc (.cells #[.int .i64 z] 3)).heap.size by simp)
  obtain ⟨f1, f2⟩ := far_near h.R.own (by simp) h.fb h.fa hn
  exact ⟨R1.grown L1 h.fa hg, o4, f2, f1⟩
end

theorem empty_out {w wx : World} (B : Below w.heap.size w wx) (hl : w.heap.size < wx.heap.size) {v0 v1 v2 : Value} :
    Own ((((wx.alloc (.cells #[] 3)).setCell ⟨w.heap.size, 0, none⟩ v0).setCell ⟨w.heap.size, 1, none⟩ v1).setCell ⟨w.heap.size, 2, none⟩ v2) w.heap.size ((((wx.alloc (.cells #[] 3)).setCell ⟨w.heap.size, 0, none⟩ v0).setCell ⟨w.heap.size, 1, none⟩ v1).setCell ⟨w.heap.size, 2, none⟩ v2).heap.size 3 (some ⟨wx.heap.size, 0, none⟩) 0 0 [] := by
  refine (((((own_empty wx).setBelow ?_ _).setBelow ?_ _).setBelow ?_ _).base B.size).top (by simp) <;> show w.heap.size < wx.heap.size <;> omega
theorem Rl.outL {w wx : World} {b g T n q m d : Nat} {vs bs us : List Value} {W : Int} {D B : Option Addr} (h : Rl w b g T vs W D n q bs B m d us wx) {v0 v1 v2 : Value} :
    Own (((wx.setCell ⟨w.heap.size, 0, none⟩ v0).setCell ⟨w.heap.size, 1, none⟩ v1).setCell ⟨w.heap.size, 2, none⟩ v2) w.heap.size (((wx.setCell ⟨w.heap.size, 0, none⟩ v0).setCell ⟨w.heap.size, 1, none⟩ v1).setCell ⟨w.heap.size, 2, none⟩ v2).heap.size 3 B m d us := by
  have z := h.R.z
  refine ((((h.L.setBelow ?_ _).setBelow ?_ _).setBelow ?_ _).base (by omega)).top (by simp) <;> show w.heap.size < b + 1 <;> omega
/-- Memory while the program fills the list. -/
structure Lq (w : World) (b gc gs n : Nat) (W T : Int) (cs : List Bool) (sg : List UInt8) (us : List Value) (wx : World) : Prop where
  gz : w.heap.size + 1 ≤ b
  sb : gs < b
  Z : Box wx w.heap.size (.int .i64 0) (.int .i64 0) (.slice none 0 0)
  TZ : Thaw wx w.heap.size
  X : Box wx b (.int .i64 W) (.int .i64 T) (.slice (some ⟨gc, 0, none⟩) n n)
  cells : Own wx (w.heap.size + 1) b 4 (some ⟨gc, 0, none⟩) n n (cs.map .bool)
  signs : Sl wx (some ⟨gs, 0, none⟩) n (sg.map fun c => .int .u8 (c.toNat : Int))
  laid : Own wx (b + 1) (b + 2) 3 (some ⟨b + 1, 0, none⟩) n n us
  B : Below w.heap.size w wx
  sz : b + 2 ≤ wx.heap.size
section
variable {w wx wy : World} {b gc gs n : Nat} {W T : Int} {cs : List Bool} {sg : List UInt8} {us : List Value}
theorem Lq.below (R : Lq w b gc gs n W T cs sg us wx) (hb : Below wx.heap.size wx wy) : Lq w b gc gs n W T cs sg us wy :=
  ⟨R.gz, R.sb, R.Z.below hb, R.TZ.below hb, R.X.below hb, R.cells.below hb, R.signs.below hb, R.laid.below hb, belowW R.B hb, Nat.le_trans R.sz hb.size⟩
theorem Lq.set (R : Lq w b gc gs n W T cs sg us wx) {k : Nat} (hk : k < n) (z : Int) : Lq w b gc gs n W T cs sg (us.set k (.int .i64 z)) (wx.setCell ⟨b + 1, k, none⟩ (.int .i64 z)) := by
  have h1 := R.gz
  have h2 := R.sb
  refine ⟨h1, h2, R.Z.setFar ?_ _, R.TZ.setCell _ _, R.X.setFar ?_ _, R.cells.setFar (fun b' off hA => ?_) _, R.signs.setFar (fun b' off hA => ?_) _, R.laid.stored k hk _, R.B.setCell ?_ _, by rw [World.size_setCell]; exact R.sz⟩
  · show w.heap.size ≠ b + 1; omega
  · show b ≠ b + 1; omega
  · have := (R.cells.2 b' off hA).2; show b' ≠ b + 1; omega
  · injection hA with hA; injection hA with h4 _ _; show b' ≠ b + 1; omega
  · show w.heap.size ≤ b + 1; omega
theorem Lq.sign (R : Lq w b gc gs n W T cs sg us wx) {k : Nat} {c : UInt8} (h : sg[k]? = some c) : wx.cell? ⟨gs, k, none⟩ = some (.int .u8 (c.toNat : Int)) := by
  have hk : k < n := by have := lt_of_get h; have := R.signs.1; rw [List.length_map] at this; omega
  obtain ⟨b', off', hA, hc⟩ := R.signs.2 (by omega)
  injection hA with hA
  injection hA with h1 h2 _
  subst h1 h2
  have := hc k _ (by rw [List.getElem?_map, h]; rfl)
  rwa [Nat.zero_add] at this
theorem Lq.fin (R : Lq w b gc gs n W T cs sg us wx) {v0 v1 v2 : Value} : Below w.heap.size w (((wx.setCell ⟨w.heap.size, 0, none⟩ v0).setCell ⟨w.heap.size, 1, none⟩ v1).setCell ⟨w.heap.size, 2, none⟩ v2) :=
  ((R.B.setCell (Nat.le_refl _) _).setCell (Nat.le_refl _) _).setCell (Nat.le_refl _) _
theorem Lq.outC (R : Lq w b gc gs n W T cs sg us wx) {v0 v1 v2 : Value} :
    Own (((wx.setCell ⟨w.heap.size, 0, none⟩ v0).setCell ⟨w.heap.size, 1, none⟩ v1).setCell ⟨w.heap.size, 2, none⟩ v2) w.heap.size (((wx.setCell ⟨w.heap.size, 0, none⟩ v0).setCell ⟨w.heap.size, 1, none⟩ v1).setCell ⟨w.heap.size, 2, none⟩ v2).heap.size 4 (some ⟨gc, 0, none⟩) n n (cs.map .bool) := by
  have z := R.sz
  refine ((((R.cells.setBelow ?_ _).setBelow ?_ _).setBelow ?_ _).base (by omega)).top (by simp; omega) <;> show w.heap.size < w.heap.size + 1 <;> omega
theorem Lq.outL (R : Lq w b gc gs n W T cs sg us wx) {v0 v1 v2 : Value} :
    Own (((wx.setCell ⟨w.heap.size, 0, none⟩ v0).setCell ⟨w.heap.size, 1, none⟩ v1).setCell ⟨w.heap.size, 2, none⟩ v2) w.heap.size (((wx.setCell ⟨w.heap.size, 0, none⟩ v0).setCell ⟨w.heap.size, 1, none⟩ v1).setCell ⟨w.heap.size, 2, none⟩ v2).heap.size 3 (some ⟨b + 1, 0, none⟩) n n us := by
  have z := R.sz
  have h1 := R.gz
  refine ((((R.laid.setBelow ?_ _).setBelow ?_ _).setBelow ?_ _).base (by omega)).top (by simp; omega) <;> show w.heap.size < b + 1 <;> omega
end
/-- The list when k signs are read. -/
def wayA (n k : Nat) (sg : List UInt8) : List Value := (sg.take k).map (fun c => .int .i64 (wayS c)) ++ List.replicate (n - k) (.int .i64 0)
theorem wayA_zero (n : Nat) (sg : List UInt8) : wayA n 0 sg = List.replicate n (.int .i64 0) := by simp [wayA]
theorem wayA_full {n : Nat} {sg : List UInt8} (h : n = sg.length) : wayA n n sg = (sg.map wayS).map (.int .i64) := by rw [wayA, Nat.sub_self, h, List.take_length]; simp
theorem wayA_set {n k : Nat} {sg : List UInt8} {c : UInt8} (hk : k < n) (hc : sg[k]? = some c) : (wayA n k sg).set k (.int .i64 (wayS c)) = wayA n (k + 1) sg := by
  have hl : k ≤ sg.length := by have := lt_of_get hc; omega
  rw [wayA, List.set_append_right _ _ (by simp; omega), List.length_map, List.length_take, show k - min k sg.length = 0 by omega, show n - k = (n - (k + 1)) + 1 by omega, List.replicate_succ, List.set_cons_zero, wayA, take_snoc hc, List.map_append, List.append_assoc]; rfl

end Go.Proofs.YtepnhhehfkcgkaaDoor
