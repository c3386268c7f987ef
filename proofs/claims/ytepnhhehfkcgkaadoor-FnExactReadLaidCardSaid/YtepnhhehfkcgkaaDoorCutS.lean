/-
  l1Cut of the reference: what it returns: the pieces of a text between its slashes.
-/
import Derived.PlainAid
import Derived.Test.YtepnhhehfkcgkaaDoorCutP
import Derived.Test.YtepnhhehfkcgkaaDoorMem2
import Derived.Test.YtepnhhehfkcgkaaDoorApp
import Derived.Deep.LoopGhost
namespace Go.Proofs.YtepnhhehfkcgkaaDoor
open Go.RowKit Go.PlainAid

theorem infoS : (Tryd.prog.info? 9).map (fun i => (i.zero, i.size, i.bytes)) = some (some (.string ⟨#[]⟩), 1, 16) := by kernel_rfl

/-- Byte k of a string, as the walk and as the lists say it. -/
theorem bt_byte {S : ByteArray} {k : Nat} (h : k < S.size) : ∃ c : UInt8, S.data.toList[k]? = some c ∧ bt S k = (c.toNat : Int) := by
  refine ⟨S[k]'h, ?_, by rw [bt, dif_pos h]⟩
  rw [Array.getElem?_toList]
  exact Array.getElem?_eq_getElem h
theorem u8_of {c : UInt8} {n : Nat} (h : (c.toNat : Int) = n) (hn : n < 256) : c = n.toUInt8 := by
  apply UInt8.toNat_inj.1
  simp [Nat.toUInt8, UInt8.toNat_ofNat']
  omega

/-- Where the cutting stands: before byte k; the piece under way began at f; done: the pieces that lie behind. -/
structure CutI (S : ByteArray) (k f : Nat) (done : List ByteArray) : Prop where
  rest : done ++ (cutL (S.data.toList.drop f)).map (fun l => (⟨l.toArray⟩ : ByteArray)) = rowsB S
  fk : f ≤ k
  kn : k ≤ S.size
  no : ∀ j c, f ≤ j → j < k → S.data.toList[j]? = some c → c ≠ 47
  len : done.length ≤ k
theorem CutI.start (S : ByteArray) : CutI S 0 0 [] := ⟨by simp [rowsB], Nat.le_refl _, Nat.zero_le _, fun j c _ h => absurd h (Nat.not_lt_zero _), Nat.zero_le _⟩
theorem CutI.miss {S : ByteArray} {k f : Nat} {done : List ByteArray} (h : CutI S k f done) {c : UInt8} (hc : S.data.toList[k]? = some c) (hne : c ≠ 47) : CutI S (k + 1) f done := by
  have hk := (List.getElem?_eq_some_iff.1 hc).1
  refine ⟨h.rest, by have := h.fk; omega, by rw [Lib.size_eq]; omega, fun j d h1 h2 h3 => ?_, by have := h.len; omega⟩
  by_cases e : j = k
  · subst e; rw [hc] at h3; injection h3 with h3; rw [← h3]; exact hne
  · exact h.no j d h1 (by omega) h3
theorem CutI.piece {S : ByteArray} {k f : Nat} {done : List ByteArray} (h : CutI S k f done) : ∀ c ∈ (S.data.toList.drop f).take (k - f), c ≠ 47 := by
  intro c hc
  obtain ⟨i, hi, e⟩ := List.getElem_of_mem hc
  have hi' := hi
  rw [List.length_take, List.length_drop] at hi'
  rw [List.getElem_take, List.getElem_drop] at e
  exact h.no (f + i) c (by omega) (by omega) (List.getElem?_eq_some_iff.2 ⟨by omega, e⟩)
theorem CutI.hit {S : ByteArray} {k f : Nat} {done : List ByteArray} (h : CutI S k f done) (hc : S.data.toList[k]? = some 47) : CutI S (k + 1) (k + 1) (done ++ [S.extract f k]) := by
  have hk := (List.getElem?_eq_some_iff.1 hc).1
  have e : S.data.toList.drop f = (S.data.toList.drop f).take (k - f) ++ 47 :: S.data.toList.drop (k + 1) := by
    have h1 := List.take_append_drop (k - f) (S.data.toList.drop f)
    rw [List.drop_drop, show f + (k - f) = k by have := h.fk; omega] at h1
    rw [List.drop_eq_getElem_cons hk] at h1
    rw [(List.getElem?_eq_some_iff.1 hc).2] at h1
    exact h1.symm
  refine ⟨?_, Nat.le_refl _, by rw [Lib.size_eq]; omega, fun j c h1 h2 => by omega, by have := h.len; simp; omega⟩
  have hr := h.rest
  rw [e, cutL_at h.piece] at hr
  rw [← hr, Lib.extract_eq]
  simp
theorem CutI.fin {S : ByteArray} {f : Nat} {done : List ByteArray} (h : CutI S S.size f done) : done ++ [S.extract f S.size] = rowsB S := by
  have hr := h.rest
  have hp := h.piece
  rw [List.take_of_length_le (by rw [List.length_drop, ← Lib.size_eq]; exact Nat.le_refl _)] at hp
  rw [cutL_no hp] at hr
  rw [← hr, Lib.extract_eq, List.take_of_length_le (by rw [List.length_drop, ← Lib.size_eq]; exact Nat.le_refl _)]
  simp

theorem own_none (w : World) : Own (w.alloc (.cells #[] 9)) w.heap.size (w.heap.size + 1) 9 (some ⟨w.heap.size, 0, none⟩) 0 0 [] := by
  simpa using Own.made (w := w) (base := w.heap.size) (e := 9) (cs := #[]) (n := 0) (Nat.le_refl _) (by unfold maxLen; omega) rfl

set_option maxHeartbeats 1000000 in
theorem cut_spec (S : ByteArray) (w : World) (hs : S.size ≤ 1048576) :
    Calls Tryd.prog 15 #[.string S, .int .u8 47] w fun e w' => ∃ A c, e = .returned (.slice A (rowsB S).length c) ∧ Own w' w.heap.size w'.heap.size 9 A (rowsB S).length c ((rowsB S).map .string) ∧ Below w.heap.size w w' := by
  have hb := get_bt S
  go_enter Tryd.func15, Tryd.ntmps15
  go_wp2_with fail
  go_loopg [5, 6, 7] (S.size + 1) (fun gk s5 s6 s7 wx => ∃ (k f : Nat) (D : Option Addr) (q : Nat) (done : List ByteArray), gk = S.size - k + 1 ∧ s5 = .slice D done.length q ∧ s6 = .int .i64 f ∧ s7 = .int .i64 k ∧ CutI S k f done ∧ Own wx w.heap.size wx.heap.size 9 D done.length q (done.map .string) ∧ Below w.heap.size w wx)
  case atStart => exact ⟨0, 0, _, _, [], by omega, rfl, rfl, rfl, CutI.start S, (own_none w).top (by simp), below1 _ _⟩
  case round =>
    obtain ⟨k, f, D, q, done, rfl, rfl, rfl, rfl, I, own, B⟩ := hrel
    have hfk := I.fk
    have hkn := I.kn
    have hlen := I.len
    by_cases hlt : k < S.size
    · obtain ⟨c, hc, hbc⟩ := bt_byte hlt
      by_cases h47 : c = 47
      · subst h47
        have I2 := I.hit hc
        have hq : bt S k = 47 := hbc
        have HC := Lib.hid hc
        have HI := Lib.hid I2
        clear hbc hc I I2
        obtain ⟨X, hX⟩ : ∃ X, S.extract f k = X := ⟨_, rfl⟩
        go_wp2_with (at_builtin; go_loud (refine wpList_append1 rfl _ _ 35 rfl 9 (.string ⟨#[]⟩) 16 Tryd.underlying35 infoS rfl (own.alloc _) rfl wr.heap.size (.string X) rfl (cell0_new _ _ _) rfl (by omega) (by omega) (by have := B.size; simp; omega) ?_; intro D2 q2 w4 O4 hg4 hn4))
        have B4 := belowG (belowA B) hg4 (own.alloc _) (Nat.le_refl _)
        go_roundg (S.size - (k + 1) + 1)
        case measure => omega
        case rel =>
          have HI2 := HI.out
          rw [hX] at HI2
          refine ⟨k + 1, k + 1, D2, q2, done ++ [X], rfl, by rw [List.length_append]; rfl, by go_num, by go_num, HI2, ?_, B4⟩
          rw [List.map_append, List.length_append]
          exact O4
      · have I2 := I.miss hc h47
        have hq : (bt S k == 47) = false := by
          rw [hbc]
          cases hx : ((c.toNat : Int) == 47) with
          | false => rfl
          | true =>
            have : (c.toNat : Int) = 47 := by simpa using hx
            exact absurd (u8_of (n := 47) this (by decide)) h47
        have HI := Lib.hid I2
        clear hbc hc I I2 h47
        go_wp2_with fail
        go_roundg (S.size - (k + 1) + 1)
        case measure => omega
        case rel => exact ⟨k + 1, f, D, q, done, rfl, rfl, rfl, by go_num, HI.out, own, B⟩
    · have e : k = S.size := by omega
      subst e
      have E := Lib.hid I.fin
      clear I
      obtain ⟨X, hX⟩ : ∃ X, S.extract f S.size = X := ⟨_, rfl⟩
      go_wp2_with (at_builtin; go_loud (refine wpList_append1 rfl _ _ 35 rfl 9 (.string ⟨#[]⟩) 16 Tryd.underlying35 infoS rfl (own.alloc _) rfl wr.heap.size (.string X) rfl (cell0_new _ _ _) rfl (by omega) (by omega) (by have := B.size; simp; omega) ?_; intro D2 q2 w4 O4 hg4 hn4))
      have B4 := belowG (belowA B) hg4 (own.alloc _) (Nat.le_refl _)
      go_ret
      have E2 := E.out
      rw [hX] at E2
      rw [← E2]
      refine ⟨D2, q2, by rw [List.length_append]; rfl, ?_, B4⟩
      rw [List.map_append, List.length_append]
      exact O4

end Go.Proofs.YtepnhhehfkcgkaaDoor
