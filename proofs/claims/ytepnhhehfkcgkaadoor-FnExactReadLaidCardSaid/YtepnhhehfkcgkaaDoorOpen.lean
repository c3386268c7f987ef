/-
  From the form's own reading of the arguments to the words of Mem; and the row's last step: a law that writes nothing old.
-/
import Derived.Test.YtepnhhehfkcgkaaDoorMem
import Derived.ProofKit
import Derived.Lib.SmallJoins
import Derived.Deep.Grids
namespace Go.Proofs.YtepnhhehfkcgkaaDoor
open Go.ChangeShapes Go.WideShapes Go.ChangeAt Go.RowKit Go.Deep Go.Joins

theorem Tryd.own : ownKnob Tryd.prog.godebug = none := by kernel_rfl
theorem Tryd.laidOut : laidOutB Tryd.prog = true := by kernel_rfl

section
variable {H : Type} {enc : TypeId × Value → H}

theorem trodAll_stays {P : Program} (hl : laidOutB P = true) {W W' : World} {sp : Nat → Bool} :
    ∀ {ts : List TypeId} {vs : List Value} {ds : List (DataW H)} {ps : List MemPlace}, (∀ t ∈ ts, P.readableRec t = true ∧ t < P.types.size) →
      DataW.TrodAll enc P W 0 (fun _ => true) true ts vs ds ps → (∀ x ∈ ps, W.sameAt W' x) → (∀ x ∈ ps, sp x.block = true) → DataW.TrodAll enc P W' 0 sp true ts vs ds ps
  | [], _, _, _, _, h, _, _ => by
    obtain ⟨rfl, rfl, rfl⟩ := trodAll_nil h
    exact h
  | _ :: _, _, _, _, hr, h, hs, hsp => by
    obtain ⟨v, vs1, d, ds1, a, b, rfl, rfl, rfl, h1, h2⟩ := trodAll_cons h
    have ht := hr _ (List.mem_cons_self ..)
    exact ⟨a, b, WideElems.Trod_stays hl ht.1 ht.2 h1 (fun x hx => hs x (List.mem_append_left _ hx)) (fun x hx => hsp x (List.mem_append_left _ hx)),
      trodAll_stays hl (fun t h => hr t (List.mem_cons_of_mem _ h)) h2 (fun x hx => hs x (List.mem_append_right _ hx)) (fun x hx => hsp x (List.mem_append_right _ hx)), rfl⟩

theorem law_post {P : Program} {f : Func} {s : ChangeSpec} {fresh handsOn again : Bool} {W W' : World} {args : Array Value} {ds : List (DataW H)} {ps : List MemPlace} {tb : TypeId}
    (hl : laidOutB P = true) (hvars : s.vars = []) (hW : DataW.Whole enc P f.params.toList s.vars false W args.toList ds [] ps)
    (hA : DataW.TrodAll enc P W 0 (fun _ => true) true f.params.toList args.toList ds ps)
    (hrd : ∀ t ∈ f.params.toList, P.readableRec t = true ∧ t < P.types.size)
    (hres : f.resultTypes = #[tb]) (htb : P.underlying tb = some .bool) (hfn1 : (s.fn H (ds ++ [])).results = [.lit (.bool true)]) (hfn2 : (s.fn H (ds ++ [])).args = ds) (hfn3 : (s.fn H (ds ++ [])).vars = [])
    (hb : Below W.heap.size W W') : s.post enc P f false fresh handsOn again W args (.bool true) W' := by
  have hlt : ∀ p ∈ ps, p.block < W.heap.size := fun p hp => hW.lt p hp
  have hv0 : ∀ sp : Nat → Bool, DataW.TrodVars enc P W' sp s.vars ((s.fn H (ds ++ [])).vars) [] := fun sp => by rw [hfn3, hvars]; rfl
  have hr0 : ∀ (b : Nat) (sp : Nat → Bool) (hd : Bool), DataW.TrodAll enc P W' b sp hd f.resultTypes.toList ((Value.bool true).resultList f.resultTypes.size) (s.fn H (ds ++ [])).results [] := fun b sp hd => by
    rw [hres, hfn1]; exact trodAll_mk1 (shut_bool htb true)
  have ha0 : ∀ sp : Nat → Bool, (∀ p ∈ ps, sp p.block = true) → DataW.TrodAll enc P W' 0 sp true f.params.toList args.toList (s.fn H (ds ++ [])).args ps := fun sp hsp => by
    rw [hfn2]; exact trodAll_stays hl hrd hA (fun x hx => hb.same (hlt x hx)) hsp
  refine ⟨ds, [], ps, [], ps, [], hW, hr0 _ _ _, ha0 _ (fun p hp => by simpa using hlt p hp), hv0 _, World.keptBut_mono (fun p hp => ⟨hp, .inr (.inl hp)⟩) (hb.frame (· ∈ ps)), fun _ => ?_⟩
  obtain ⟨_, _, _, _, _, hz, hn⟩ := hW
  refine ⟨?_, _, _, ([] ++ ps) ++ [], ⟨[] ++ ps, [], trodAll_append (ha0 _ (fun _ _ => rfl)) (hr0 _ _ _), hv0 _, rfl, ?_, ?_⟩, ?_⟩
  · exact ok_one hres rfl (okWide_bool_mk htb true)
  · intro b off hp
    have hin : MemPlace.cell b off ∈ ps := by simpa using hp
    rw [hb.frozen (hlt _ hin)]
    exact hz b off hin
  · intro ha; cases ha
  · intro p hp _; simpa using hp

theorem spot_none {w : World} {a : Addr} {v : Value} (h : w.cell? a = some v) : a = ⟨a.block, a.off, none⟩ := by
  obtain ⟨b, o, sp⟩ := a
  cases sp with
  | none => rfl
  | some q =>
    unfold World.cell? at h
    simp at h
    split at h <;> simp at h

theorem i64_of_wf {x : Int} (h : (Lit.int .i64 x).wf = true) : I64 x := by
  simp [Lit.wf, IntKind.min, IntKind.max, IntKind.signed, IntKind.bits] at h
  exact ⟨by omega, by omega⟩

/-- cells by an index function: a reading as a list. -/
theorem sl_of_cells {w : World} {a : Addr} {n : Nat} (f : Nat → Value) (hc : ∀ i, i < n → w.cell? (a.add i) = some (f i)) : Sl w (some a) n ((List.range n).map f) := by
  refine ⟨by simp, fun hn => ?_⟩
  have h0 := hc 0 hn
  rw [show a.add 0 = a from rfl] at h0
  refine ⟨a.block, a.off, by rw [← spot_none h0], fun k v hv => ?_⟩
  have hk : k < n := by have := (List.getElem?_eq_some_iff.1 hv).1; simpa using this
  rw [List.getElem?_map, List.getElem?_range hk] at hv
  injection hv with hv
  rw [← hv, ← hc k hk]
  congr 1
  unfold Addr.add
  split
  · rename_i h; rw [h, Nat.add_zero]; exact (spot_none h0).symm
  · rfl

theorem boolsAt {P : Program} {W : World} {t e : TypeId} {m : Nat} {v : Value} {y : DataW H × List MemPlace} (ht : P.underlying t = some (.slice e)) (he : P.underlying e = some .bool) (hc : P.cellsOf e = 1)
    (h : DataW.trod enc P W 0 (fun _ => true) true m t [v] = some y) : ∃ A n c, ∃ bs : List Bool, v = .slice A n c ∧ n ≤ 9223372036854775807 ∧ Sl W A n (bs.map .bool) := by
  rcases open_bools ht he hc h with ⟨hcs, _⟩ | ⟨a, len, cap, B, hcs, _, hl, hm, _, hcell⟩
  · simp at hcs; subst hcs
    exact ⟨none, 0, 0, [], rfl, by omega, Sl.nil _ _⟩
  · simp at hcs; subst hcs
    refine ⟨some a, len, cap, (List.range len).map B, rfl, by unfold maxLen at hm; omega, ?_⟩
    rw [List.map_map]
    exact sl_of_cells _ (fun i hi => hcell i (by omega))
theorem intsAt {P : Program} {W : World} {t e : TypeId} {m : Nat} {v : Value} {y : DataW H × List MemPlace} (ht : P.underlying t = some (.slice e)) (he : P.underlying e = some (.int .i64)) (hc : P.cellsOf e = 1)
    (h : DataW.trod enc P W 0 (fun _ => true) true m t [v] = some y) : ∃ A n c, ∃ zs : List Int, v = .slice A n c ∧ n ≤ 9223372036854775807 ∧ Sl W A n (zs.map (.int .i64)) ∧ ∀ z ∈ zs, I64 z := by
  rcases open_ints ht he hc h with ⟨hcs, _⟩ | ⟨a, len, cap, zs, hcs, _, hl, hm, hz, _, hcell, hwf⟩
  · simp at hcs; subst hcs
    exact ⟨none, 0, 0, [], rfl, by omega, Sl.nil _ _, by simp⟩
  · simp at hcs; subst hcs
    have hzl : len ≤ zs.length := by simp at hz; omega
    refine ⟨some a, len, cap, zs.take len, rfl, by unfold maxLen at hm; omega, ?_, fun z h => i64_of_wf (hwf z (List.mem_of_mem_take h))⟩
    have e : (zs.take len).map (Value.int .i64) = (List.range len).map (fun i => Value.int .i64 (zs.getD i 0)) := by
      apply List.ext_getElem (by simp; omega)
      intro i h1 h2
      have : i < zs.length := by simp at h1; omega
      simp [List.getD, this]
    rw [e]
    exact sl_of_cells _ (fun i hi => hcell i (by omega))

end

end Go.Proofs.YtepnhhehfkcgkaaDoor
