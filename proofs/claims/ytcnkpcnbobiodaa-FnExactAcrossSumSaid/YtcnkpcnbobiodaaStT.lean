/-
  Words for the reference's count: the lists of sets and of ways, this cell's and the next one's, in memory.
-/
import Derived.Test.YtcnkpcnbobiodaaTilP
import Derived.Test.YtcnkpcnbobiodaaP1
import Derived.Test.YtcnkpcnbobiodaaApp
import Derived.IntWalk
namespace Go.Proofs.Ytcnkpcnbobiodaa
open Go.RowKit

def ints (ks : List Int) : List Value := ks.map (.int .i64)
theorem ints_len (ks : List Int) : (ints ks).length = ks.length := by simp [ints]
theorem ints_snoc (ks : List Int) (o : Int) : ints ks ++ [.int .i64 o] = ints (ks ++ [o]) := by simp [ints]
def keysI (l : List (Nat × Nat)) : List Int := l.map fun p => (p.1 : Int)
def valsI (l : List (Nat × Nat)) : List Int := l.map fun p => (p.2 : Int)

theorem near_ne {A A' : Option Addr} {s b : Nat} (hn : Near A A' s) (hb : b < s) (h : some b ≠ A.map (·.block)) : some b ≠ A'.map (·.block) := by
  rcases hn with rfl | rfl
  · exact h
  · simp; omega
theorem grown_alloc {a c : World} {o : Obj} {row : Option Nat} (h : (a.alloc o).grownBy c row) : a.grownBy c row := grown_trans (grown_below (below1 a o) row) h

/-- The parameter's box; this cell's sets and ways (read only); the next one's (written). -/
structure St (w : World) (W T n c : Nat) (A : Option Addr) (b0 : Nat) (SA WA : Option Addr) (l : List (Nat × Nat)) (NA MA : Option Addr) (nq mq : Nat) (ks vs : List Int) (wr : World) : Prop where
  R : P1 w (.int .i64 W) (.int .i64 T) (.slice A n c) wr
  S : Sl wr SA l.length (ints (keysI l))
  Y : Sl wr WA l.length (ints (valsI l))
  s1 : ∀ b off, SA = some ⟨b, off, none⟩ → b < b0
  s2 : ∀ b off, WA = some ⟨b, off, none⟩ → b < b0
  N : Own wr b0 wr.heap.size 3 NA ks.length nq (ints ks)
  M : Own wr b0 wr.heap.size 3 MA vs.length mq (ints vs)
  ap : ∀ b off, NA = some ⟨b, off, none⟩ → some b ≠ MA.map (·.block)
  z : w.heap.size + 1 ≤ b0
  zb : b0 ≤ wr.heap.size

theorem St.below {w : World} {W T n c : Nat} {A : Option Addr} {b0 : Nat} {SA WA : Option Addr} {l : List (Nat × Nat)} {NA MA : Option Addr} {nq mq : Nat} {ks vs : List Int} {wr w' : World} (h : St w W T n c A b0 SA WA l NA MA nq mq ks vs wr) (hb : Below wr.heap.size wr w') : St w W T n c A b0 SA WA l NA MA nq mq ks vs w' :=
  ⟨h.R.below hb, h.S.below hb, h.Y.below hb, h.s1, h.s2, (h.N.below hb).top hb.size, (h.M.below hb).top hb.size, h.ap, h.z, Nat.le_trans h.zb hb.size⟩
theorem St.alloc {w : World} {W T n c : Nat} {A : Option Addr} {b0 : Nat} {SA WA : Option Addr} {l : List (Nat × Nat)} {NA MA : Option Addr} {nq mq : Nat} {ks vs : List Int} {wr : World} (h : St w W T n c A b0 SA WA l NA MA nq mq ks vs wr) (o : Obj) : St w W T n c A b0 SA WA l NA MA nq mq ks vs (wr.alloc o) := h.below (below1 wr o)
theorem St.drewN {w : World} {W T n c : Nat} {A : Option Addr} {b0 : Nat} {SA WA : Option Addr} {l : List (Nat × Nat)} {NA MA : Option Addr} {nq mq : Nat} {ks vs : List Int} {wr : World} (h : St w W T n c A b0 SA WA l NA MA nq mq ks vs wr) (k : Nat) : St w W T n c A b0 SA WA l NA MA nq mq ks vs (wr.drewN k) := h.below (below_drewN (Below.refl _ _) k)
theorem St.drew {w : World} {W T n c : Nat} {A : Option Addr} {b0 : Nat} {SA WA : Option Addr} {l : List (Nat × Nat)} {NA MA : Option Addr} {nq mq : Nat} {ks vs : List Int} {wr : World} (h : St w W T n c A b0 SA WA l NA MA nq mq ks vs wr) : St w W T n c A b0 SA WA l NA MA nq mq ks vs wr.drew := h.below (Below.refl _ _).drew

/-- What is done to blocks from bp on. -/
theorem St.off {w : World} {W T n c : Nat} {A : Option Addr} {b0 : Nat} {SA WA : Option Addr} {l : List (Nat × Nat)} {NA MA : Option Addr} {nq mq : Nat} {ks vs : List Int} {wr w' : World} (h : St w W T n c A b0 SA WA l NA MA nq mq ks vs wr) {row : Option Nat} {bp : Nat} (hg : wr.grownBy w' row) (hr : ∀ b, some b = row → bp ≤ b) (hb : ∀ b, some b = NA.map (·.block) ∨ some b = MA.map (·.block) → b < bp) (h0 : b0 ≤ bp) :
    St w W T n c A b0 SA WA l NA MA nq mq ks vs w' := by
  have far : ∀ b, b < bp → some b ≠ row := fun b hlt hx => by have := hr b hx; omega
  have z := h.z
  refine ⟨⟨h.R.X.grown hg (far _ (by omega)), h.R.B.grown hg h.R.B.size (fun b hx => by have := hr b hx.symm; omega), Nat.le_trans h.R.z hg.size⟩, h.S.grown hg (fun b off hA => far b (by have := h.s1 b off hA; omega)), h.Y.grown hg (fun b off hA => far b (by have := h.s2 b off hA; omega)), h.s1, h.s2, (h.N.grown hg (fun b off hA => far b (hb b (.inl (by rw [hA]; rfl))))).top hg.size, (h.M.grown hg (fun b off hA => far b (hb b (.inr (by rw [hA]; rfl))))).top hg.size, h.ap, z, Nat.le_trans h.zb hg.size⟩

/-- An append to the next sets. -/
theorem St.pushN {w : World} {W T n c : Nat} {A : Option Addr} {b0 : Nat} {SA WA : Option Addr} {l : List (Nat × Nat)} {NA MA NA' : Option Addr} {nq mq q' : Nat} {ks vs : List Int} {wr w' : World} {o : Int} (h : St w W T n c A b0 SA WA l NA MA nq mq ks vs wr) (hg : wr.grownBy w' (NA.map (·.block))) (hown : Own w' b0 w'.heap.size 3 NA' (ks.length + 1) q' (ints ks ++ [.int .i64 o])) {s : Nat} (hn : Near NA NA' s) (hs : wr.heap.size ≤ s) :
    St w W T n c A b0 SA WA l NA' MA q' mq (ks ++ [o]) vs w' := by
  have far : ∀ b, b < b0 → some b ≠ NA.map (·.block) := fun b hb => h.N.offBox (.inl hb)
  refine ⟨h.R.grown hg h.N h.z, h.S.grown hg (fun b off hA => far b (h.s1 b off hA)), h.Y.grown hg (fun b off hA => far b (h.s2 b off hA)), h.s1, h.s2, ?_, (h.M.grown hg (fun b off hA hx => ?_)).top hg.size, ?_, h.z, Nat.le_trans h.zb hg.size⟩
  · rw [List.length_append, ← ints_snoc]; exact hown
  · cases NA with
    | none => cases hx
    | some ad =>
      obtain ⟨b2, o2, sp⟩ := ad
      simp only [Option.map_some, Option.some.injEq] at hx
      subst hx
      have hsp : sp = none := by
        rcases h.N.1.2 with ⟨hv, _⟩ | ⟨g, cap, cur, hv, _⟩
        · injection hv with hv; cases hv
        · injection hv with hv; injection hv with hv; injection hv
      subst hsp
      exact h.ap b o2 rfl (by rw [hA]; rfl)
  · intro b off hA hx
    rcases hn with rfl | rfl
    · exact h.ap b off hA hx
    · injection hA with hA; injection hA with h1 _ _
      subst h1
      exact h.M.offBox (.inr hs) hx
/-- An append to the next ways. -/
theorem St.pushM {w : World} {W T n c : Nat} {A : Option Addr} {b0 : Nat} {SA WA : Option Addr} {l : List (Nat × Nat)} {NA MA MA' : Option Addr} {nq mq q' : Nat} {ks vs : List Int} {wr w' : World} {o : Int} (h : St w W T n c A b0 SA WA l NA MA nq mq ks vs wr) (hg : wr.grownBy w' (MA.map (·.block))) (hown : Own w' b0 w'.heap.size 3 MA' (vs.length + 1) q' (ints vs ++ [.int .i64 o])) {s : Nat} (hn : Near MA MA' s) (hs : wr.heap.size ≤ s) :
    St w W T n c A b0 SA WA l NA MA' nq q' ks (vs ++ [o]) w' := by
  have far : ∀ b, b < b0 → some b ≠ MA.map (·.block) := fun b hb => h.M.offBox (.inl hb)
  refine ⟨h.R.grown hg h.M h.z, h.S.grown hg (fun b off hA => far b (h.s1 b off hA)), h.Y.grown hg (fun b off hA => far b (h.s2 b off hA)), h.s1, h.s2, (h.N.grown hg (fun b off hA => h.ap b off hA)).top hg.size, ?_, ?_, h.z, Nat.le_trans h.zb hg.size⟩
  · rw [List.length_append, ← ints_snoc]; exact hown
  · intro b off hA
    exact near_ne hn (Nat.lt_of_lt_of_le (h.N.2 b off hA).2 hs) (h.ap b off hA)
/-- A store into the next ways. -/
theorem St.setM {w : World} {W T n c : Nat} {A : Option Addr} {b0 : Nat} {SA WA : Option Addr} {l : List (Nat × Nat)} {NA : Option Addr} {g nq mq : Nat} {ks vs : List Int} {wr : World} (h : St w W T n c A b0 SA WA l NA (some ⟨g, 0, none⟩) nq mq ks vs wr) (i : Nat) (hi : i < vs.length) (v : Int) :
    St w W T n c A b0 SA WA l NA (some ⟨g, 0, none⟩) nq mq ks (vs.set i v) (wr.setCell ⟨g, i, none⟩ (.int .i64 v)) := by
  have hg := h.M.2 g 0 rfl
  refine ⟨h.R.set (show w.heap.size + 1 ≤ g by have := h.z; omega) _, h.S.setFar (fun b off hA => by have := h.s1 b off hA; show b ≠ g; omega) _, h.Y.setFar (fun b off hA => by have := h.s2 b off hA; show b ≠ g; omega) _, h.s1, h.s2, ?_, ?_, h.ap, h.z, by rw [World.size_setCell]; exact h.zb⟩
  · rw [World.size_setCell]
    exact h.N.setFar (fun b off hA e => h.ap b off hA (by rw [show b = g from e]; rfl)) _
  · have := h.M.stored i hi (.int .i64 v)
    rw [World.size_setCell, List.length_set]
    rw [show ints (vs.set i v) = (ints vs).set i (.int .i64 v) by simp [ints, List.map_set]]
    exact this

theorem own_lt {w : World} {base top B : Nat} {e : TypeId} {A : Option Addr} {n c : Nat} {vs : List Value} (h : Own w base top e A n c vs) {P : Nat → Prop} (hb : ∀ b off, A = some ⟨b, off, none⟩ → P b ∧ b < B) {b : Nat} (hle : B ≤ b) : some b ≠ A.map (·.block) := by
  intro hx
  rcases h.1.2 with ⟨hv, _⟩ | ⟨g, cap, cur, hv, _⟩
  · injection hv with hv; subst hv; cases hx
  · injection hv with hv; subst hv
    have := (hb g 0 rfl).2
    simp only [Option.map_some, Option.some.injEq] at hx
    omega

/-! the plain side -/
open Til in
theorem valP_snoc (f : Nat → Nat) (l : List (Nat × Nat)) (s v : Nat) : valP f (l ++ [(s, v)]) = valP f l + v * f s := by
  induction l with
  | nil => simp [valP]
  | cons a l ih => obtain ⟨x, y⟩ := a; simp only [List.cons_append, valP]; omega
open Til in
theorem sumZ_le : ∀ l : List (Nat × Nat), valP (fun s => if s = 0 then 1 else 0) l ≤ waysP l
  | [] => Nat.le_refl _
  | (x, y) :: l => by
    have := sumZ_le l
    simp only [waysP, valP] at *
    split <;> omega
/-- The options, as numbers. -/
def optI (W T : Nat) (bs : List Bool) (k s : Nat) : List Int := (Til.options W T bs k s).map fun (o : Nat) => (o : Int)
open Til
theorem keys_len' (l : List (Nat × Nat)) : (keysI l).length = l.length := by simp [keysI]
theorem vals_len' (l : List (Nat × Nat)) : (valsI l).length = l.length := by simp [valsI]
/-- where a set stands -/
def isAt (o : Nat) (l : List (Nat × Nat)) (i : Nat) : Prop := i ≤ l.length ∧ (∀ k, k < i → ∀ p, l[k]? = some p → p.1 ≠ o) ∧ (i < l.length → ∃ b, l[i]? = some (o, b))
theorem ins_hit {o w : Nat} : ∀ {l : List (Nat × Nat)} {i b : Nat}, (∀ k, k < i → ∀ p, l[k]? = some p → p.1 ≠ o) → l[i]? = some (o, b) → insP o w l = l.set i (o, b + w)
  | [], i, b, _, h => by simp at h
  | (x, y) :: l, 0, b, _, h => by
    simp only [List.getElem?_cons_zero, Option.some.injEq, Prod.mk.injEq] at h
    obtain ⟨rfl, rfl⟩ := h
    rw [insP, if_pos rfl]; rfl
  | (x, y) :: l, i + 1, b, hk, h => by
    rw [insP, if_neg (hk 0 (by omega) (x, y) rfl), List.set_cons_succ, ins_hit (fun k hk' p hp => hk (k + 1) (by omega) p hp) h]
theorem ins_miss {o w : Nat} : ∀ {l : List (Nat × Nat)}, (∀ k, k < l.length → ∀ p, l[k]? = some p → p.1 ≠ o) → insP o w l = l ++ [(o, w)]
  | [], _ => rfl
  | (x, y) :: l, hk => by
    rw [insP, if_neg (hk 0 (by simp) (x, y) rfl), ins_miss (fun k hk' p hp => hk (k + 1) (by simpa using hk') p hp)]; rfl
theorem keys_hit {o w : Nat} {l : List (Nat × Nat)} {i b : Nat} (hk : ∀ k, k < i → ∀ p, l[k]? = some p → p.1 ≠ o) (h : l[i]? = some (o, b)) : keysI (insP o w l) = keysI l ∧ valsI (insP o w l) = (valsI l).set i ((b : Int) + w) := by
  rw [ins_hit hk h]
  constructor
  · rw [keysI, List.map_set]
    apply List.ext_getElem?
    intro k
    rw [List.getElem?_set]
    by_cases e : i = k
    · subst e
      have hlt := lt_of_get h
      rw [if_pos rfl, if_pos (by simpa using hlt)]
      simp [keysI, List.getElem?_map, h]
    · rw [if_neg e]; rfl
  · rw [valsI, List.map_set]; simp [valsI]
theorem keys_miss {o w : Nat} {l : List (Nat × Nat)} (hk : ∀ k, k < l.length → ∀ p, l[k]? = some p → p.1 ≠ o) : keysI (insP o w l) = keysI l ++ [(o : Int)] ∧ valsI (insP o w l) = valsI l ++ [(w : Int)] := by
  rw [ins_miss hk]; simp [keysI, valsI]

/-- The sets of a part of this cell's list, and of some options of the next one in it. -/
def accP (W T : Nat) (bs : List Bool) (k : Nat) (l : List (Nat × Nat)) (p : Nat) : List (Nat × Nat) := stepP W T bs k (l.take p)
def accJ (W T : Nat) (bs : List Bool) (k : Nat) (l : List (Nat × Nat)) (p : Nat) (s v : Nat) (j : Nat) : List (Nat × Nat) := insAll v (accP W T bs k l p) ((options W T bs k s).take j)
theorem accJ_zero (W T : Nat) (bs : List Bool) (k : Nat) (l : List (Nat × Nat)) (p s v : Nat) : accJ W T bs k l p s v 0 = accP W T bs k l p := rfl
theorem accJ_succ {W T : Nat} {bs : List Bool} {k : Nat} {l : List (Nat × Nat)} {p s v j o : Nat} (h : (options W T bs k s)[j]? = some o) : accJ W T bs k l p s v (j + 1) = insP o v (accJ W T bs k l p s v j) := by
  rw [accJ, take_snoc h, insAll, List.foldl_append]; rfl
theorem accP_succ {W T : Nat} {bs : List Bool} {k : Nat} {l : List (Nat × Nat)} {p s v : Nat} (h : l[p]? = some (s, v)) : accP W T bs k l (p + 1) = accJ W T bs k l p s v (options W T bs k s).length := by
  rw [accP, take_snoc h, stepP, List.foldl_append, accJ, List.take_length]; rfl
theorem accP_all {W T : Nat} {bs : List Bool} {k : Nat} {l : List (Nat × Nat)} : accP W T bs k l l.length = stepP W T bs k l := by rw [accP, List.take_length]
theorem options_len (W T : Nat) (bs : List Bool) (k s : Nat) : (options W T bs k s).length ≤ 2 := by
  unfold options
  split
  · simp
  · split <;> split <;> simp
theorem accP_keys {W T : Nat} {bs : List Bool} {k : Nat} {l : List (Nat × Nat)} (hW : 1 ≤ W) (h : ∀ p ∈ l, p.1 < 2 ^ W) (p : Nat) : keysOk (2 ^ W) (accP W T bs k l p) := keys_step hW (fun q hq => h q (List.mem_of_mem_take hq))
theorem accJ_keys {W T : Nat} {bs : List Bool} {k : Nat} {l : List (Nat × Nat)} {p s v : Nat} (hW : 1 ≤ W) (h : ∀ p ∈ l, p.1 < 2 ^ W) (hs : s < 2 ^ W) (j : Nat) : keysOk (2 ^ W) (accJ W T bs k l p s v j) :=
  keys_insAll (accP_keys hW h p) (fun o ho => options_lt hW hs o (List.mem_of_mem_take ho))
theorem waysP_take (l : List (Nat × Nat)) (p : Nat) : waysP (l.take p) ≤ waysP l := by
  induction l generalizing p with
  | nil => simp [waysP, valP]
  | cons a l ih =>
    obtain ⟨x, y⟩ := a
    cases p with
    | zero => simp [waysP, valP]
    | succ p => have := ih p; simp only [waysP, List.take_succ_cons, valP] at *; omega
theorem waysP_snoc (l : List (Nat × Nat)) (s v : Nat) : waysP (l ++ [(s, v)]) = waysP l + v := by
  induction l with
  | nil => simp [waysP, valP]
  | cons a l ih => obtain ⟨x, y⟩ := a; simp only [waysP, List.cons_append, valP] at *; omega
theorem sum_ones {α : Type} : ∀ l : List α, (l.map fun _ => 1).sum = l.length
  | [] => rfl
  | _ :: l => by rw [List.map_cons, List.sum_cons, sum_ones l, List.length_cons]; omega
theorem accJ_ways {W T : Nat} {bs : List Bool} {k : Nat} {l : List (Nat × Nat)} {p s v j : Nat} (h : l[p]? = some (s, v)) : waysP (accJ W T bs k l p s v j) ≤ 2 * waysP l := by
  have h1 : waysP (accJ W T bs k l p s v j) = waysP (accP W T bs k l p) + v * (((options W T bs k s).take j).map fun _ => 1).sum := by
    unfold waysP accJ; rw [val_insAll]
  have h2 : (((options W T bs k s).take j).map fun _ => 1).sum ≤ 2 := by
    rw [sum_ones]
    have := options_len W T bs k s
    have := List.length_take_le j (options W T bs k s)
    have : ((options W T bs k s).take j).length ≤ (options W T bs k s).length := by rw [List.length_take]; omega
    omega
  have h3 : waysP (accP W T bs k l p) ≤ 2 * waysP (l.take p) := ways_step _
  have h4 : waysP (l.take p) + v ≤ waysP l := by
    have := waysP_take l (p + 1)
    rw [take_snoc h, waysP_snoc] at this
    exact this
  have := Nat.mul_le_mul_left v h2
  omega
theorem waysP_get {l : List (Nat × Nat)} {i s v : Nat} (h : l[i]? = some (s, v)) : v ≤ waysP l := by
  have := waysP_take l (i + 1)
  rw [take_snoc h, waysP_snoc] at this
  omega

/-- The arithmetic of the second option. -/
theorem sh_facts {W s : Nat} (hW : 1 ≤ W) (hW6 : W ≤ 6) (hs : s < 64) : ∃ dd PP : Nat, s / 2 ^ W = dd ∧ 2 ^ (W - 1) = PP ∧ dd ≤ 64 ∧ PP ≤ 64 ∧ (s : Int) / 2 ^ W = (dd : Int) ∧ ((W : Int) - 1).toNat = W - 1 ∧ wrap64 ((2 : Int) ^ (W - 1)) = (PP : Int) ∧ wrap64 ((s : Int) / 2 + (PP : Int)) = (s : Int) / 2 + (PP : Int) := by
  have hP : 2 ^ (W - 1) ≤ 2 ^ 5 := Nat.pow_le_pow_right (by omega) (by omega)
  have hd := Nat.div_le_self s (2 ^ W)
  have e : ((2 : Int) ^ (W - 1)) = ((2 ^ (W - 1) : Nat) : Int) := by push_cast; rfl
  have e2 : (s : Int) / 2 ^ W = ((s / 2 ^ W : Nat) : Int) := by simp
  obtain ⟨PP, hPP⟩ : ∃ PP, 2 ^ (W - 1) = PP := ⟨_, rfl⟩
  rw [hPP] at hP e
  obtain ⟨dd, hdd⟩ : ∃ dd, s / 2 ^ W = dd := ⟨_, rfl⟩
  rw [hdd] at hd e2
  refine ⟨dd, PP, hdd, hPP, by omega, by omega, e2, by omega, ?_, ?_⟩
  · rw [e, IntWalk.wrap64_in _ ⟨by omega, by omega⟩]
  · exact IntWalk.wrap64_in _ ⟨by omega, by omega⟩
/-- Behind the laying of an option. -/
theorem St.opt {w : World} {W T n c : Nat} {A : Option Addr} {b0 : Nat} {SA WA : Option Addr} {l : List (Nat × Nat)} {NA MA : Option Addr} {nq mq : Nat} {ks vs : List Int} {wr w4 : World} {bp oq m : Nat} {OA : Option Addr} {obj : Obj} {xs : List Value}
    (h : St w W T n c A b0 SA WA l NA MA nq mq ks vs wr) (hO : Own wr bp wr.heap.size 3 OA m oq xs) (hN : ∀ b off, NA = some ⟨b, off, none⟩ → b0 ≤ b ∧ b < bp) (hM : ∀ b off, MA = some ⟨b, off, none⟩ → b0 ≤ b ∧ b < bp) (h0 : b0 ≤ bp) (hg : (wr.alloc obj).grownBy w4 (OA.map (·.block))) : St w W T n c A b0 SA WA l NA MA nq mq ks vs w4 :=
  h.off (grown_alloc hg) (fun b hx => by
      rcases hO.1.2 with ⟨hv, _⟩ | ⟨g, cap, cur, hv, _⟩
      · injection hv with hv; subst hv; cases hx
      · injection hv with hv; subst hv
        have := (hO.2 g 0 rfl).1
        simp only [Option.map_some, Option.some.injEq] at hx
        omega) (fun b hx => Nat.lt_of_not_le fun hle => by
      rcases hx with hx | hx
      · exact own_lt h.N hN hle hx
      · exact own_lt h.M hM hle hx) h0
/-- The end of a way on which no further option was laid. -/
theorem opt_fin0 {w : World} {W T n c : Nat} {A : Option Addr} {b0 : Nat} {SA WA : Option Addr} {l : List (Nat × Nat)} {NA MA : Option Addr} {nq mq : Nat} {ks vs : List Int} {wr : World} {bs : List Bool} {k s bp oq m : Nat} {OA : Option Addr} {os : List Nat} {L : List Int} (hopt : options W T bs k s = os) (hL : os.map (fun (o : Nat) => (o : Int)) = L) (hm : os.length = m)
    (h : St w W T n c A b0 SA WA l NA MA nq mq ks vs wr) (hO : Own wr bp wr.heap.size 3 OA m oq (ints L)) :
    ∃ (OA' : Option Addr) (oq' : Nat), (.slice OA m oq : Value) = .slice OA' (options W T bs k s).length oq' ∧ Own wr bp wr.heap.size 3 OA' (options W T bs k s).length oq' (ints (optI W T bs k s)) ∧ St w W T n c A b0 SA WA l NA MA nq mq ks vs wr := by
  subst hL hm
  exact ⟨OA, oq, by rw [hopt], by rw [optI, hopt]; exact hO, h⟩
/-- .. on which one more was laid. -/
theorem opt_fin1 {w : World} {W T n c : Nat} {A : Option Addr} {b0 : Nat} {SA WA : Option Addr} {l : List (Nat × Nat)} {NA MA : Option Addr} {nq mq : Nat} {ks vs : List Int} {wr w4 : World} {bs : List Bool} {k s bp oq q4 m : Nat} {v : Int} {OA A4 : Option Addr} {obj : Obj} {os : List Nat} {L : List Int} (hopt : options W T bs k s = os) (hL : os.map (fun (o : Nat) => (o : Int)) = L ++ [v]) (hm : os.length = m + 1)
    (h : St w W T n c A b0 SA WA l NA MA nq mq ks vs wr) (hO : Own wr bp wr.heap.size 3 OA m oq (ints L)) (hN : ∀ b off, NA = some ⟨b, off, none⟩ → b0 ≤ b ∧ b < bp) (hM : ∀ b off, MA = some ⟨b, off, none⟩ → b0 ≤ b ∧ b < bp) (h0 : b0 ≤ bp) (hg : (wr.alloc obj).grownBy w4 (OA.map (·.block)))
    (hown : Own w4 bp w4.heap.size 3 A4 (m + 1) q4 (ints L ++ [.int .i64 v])) :
    ∃ (OA' : Option Addr) (oq' : Nat), (.slice A4 (m + 1) q4 : Value) = .slice OA' (options W T bs k s).length oq' ∧ Own w4 bp w4.heap.size 3 OA' (options W T bs k s).length oq' (ints (optI W T bs k s)) ∧ St w W T n c A b0 SA WA l NA MA nq mq ks vs w4 := by
  refine ⟨A4, q4, by rw [hopt, hm], ?_, ?_⟩
  · rw [optI, hopt, hL, hm, ← ints_snoc]; exact hown
  · exact h.off (grown_alloc hg) (fun b hx => by
      rcases hO.1.2 with ⟨hv, _⟩ | ⟨g, cap, cur, hv, _⟩
      · injection hv with hv; subst hv; cases hx
      · injection hv with hv; subst hv
        have := (hO.2 g 0 rfl).1
        simp only [Option.map_some, Option.some.injEq] at hx
        omega) (fun b hx => Nat.lt_of_not_le fun hle => by
      rcases hx with hx | hx
      · exact own_lt h.N hN hle hx
      · exact own_lt h.M hM hle hx) h0
/-- The end of a way on which one option was laid. -/
theorem opt_end {w : World} {W T n c : Nat} {A : Option Addr} {b0 : Nat} {SA WA : Option Addr} {l : List (Nat × Nat)} {NA MA : Option Addr} {nq mq : Nat} {ks vs : List Int} {wr w4 : World} {bs : List Bool} {k s o bp oq q4 : Nat} {v : Int} {OA A4 : Option Addr} {obj : Obj} {os : List Nat} (hopt : options W T bs k s = os) (hos : os = [o])
    (h : St w W T n c A b0 SA WA l NA MA nq mq ks vs wr) (hO : Own wr bp wr.heap.size 3 OA 0 oq []) (hN : ∀ b off, NA = some ⟨b, off, none⟩ → b0 ≤ b ∧ b < bp) (hM : ∀ b off, MA = some ⟨b, off, none⟩ → b0 ≤ b ∧ b < bp) (h0 : b0 ≤ bp) (hg : (wr.alloc obj).grownBy w4 (OA.map (·.block)))
    (hown : Own w4 bp w4.heap.size 3 A4 (0 + 1) q4 ([] ++ [.int .i64 v])) (hv : v = (o : Int)) :
    ∃ (OA : Option Addr) (oq : Nat), (.slice A4 1 q4 : Value) = .slice OA (options W T bs k s).length oq ∧ Own w4 bp w4.heap.size 3 OA (options W T bs k s).length oq (ints (optI W T bs k s)) ∧ St w W T n c A b0 SA WA l NA MA nq mq ks vs w4 := by
  subst hos hv
  refine ⟨A4, q4, by rw [hopt]; rfl, ?_, ?_⟩
  · rw [optI, hopt]; exact hown
  · exact h.off (grown_alloc hg) (fun b hx => by
      rcases hO.1.2 with ⟨hv, _⟩ | ⟨g, cap, cur, hv, _⟩
      · injection hv with hv; subst hv; cases hx
      · injection hv with hv; subst hv
        have := (hO.2 g 0 rfl).1
        simp only [Option.map_some, Option.some.injEq] at hx
        omega) (fun b hx => Nat.lt_of_not_le fun hle => by
      rcases hx with hx | hx
      · exact own_lt h.N hN hle hx
      · exact own_lt h.M hM hle hx) h0

end Go.Proofs.Ytcnkpcnbobiodaa
