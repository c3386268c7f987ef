/-
  A text cut at its slashes. (plain)
-/
import Derived.Lib.SplitLaws
import Derived.Lib.Split
import Derived.Lib.IndexBytes
import Derived.Lib.Join
import Derived.Test.YtepnhhehfkcgkaaDoorTextP
namespace Go.Proofs.YtepnhhehfkcgkaaDoor
open Go.RowKit

def cutL : List UInt8 → List (List UInt8)
  | [] => [[]]
  | c :: r => if c = 47 then [] :: cutL r else match cutL r with
    | [] => [[c]]
    | x :: xs => (c :: x) :: xs
theorem cutL_ne : ∀ l, cutL l ≠ []
  | [] => by simp [cutL]
  | c :: r => by
    rw [cutL]; split
    · simp
    · split <;> simp
theorem cutL_cons {c : UInt8} {r x : List UInt8} {xs : List (List UInt8)} (hc : c ≠ 47) (h : cutL r = x :: xs) : cutL (c :: r) = (c :: x) :: xs := by rw [cutL, if_neg hc, h]
theorem cutL_no : ∀ {a : List UInt8}, (∀ c ∈ a, c ≠ 47) → cutL a = [a]
  | [], _ => rfl
  | c :: r, h => cutL_cons (h c (by simp)) (cutL_no (fun c hc => h c (by simp [hc])))
theorem cutL_at : ∀ {a b : List UInt8}, (∀ c ∈ a, c ≠ 47) → cutL (a ++ 47 :: b) = a :: cutL b
  | [], b, _ => by simp [cutL]
  | c :: r, b, h => cutL_cons (h c (by simp)) (cutL_at (fun c hc => h c (by simp [hc])))

theorem cutL_split : ∀ l : List UInt8, Lib.splitK [47] 0 (Lib.count l [47]) l = cutL l
  | [] => rfl
  | c :: r => by
    have ih := cutL_split r
    by_cases hc : c = 47
    · subst hc
      rw [Lib.count_cons_eq, Nat.add_comm, Lib.splitK, Lib.index_one, cutL, if_pos rfl, ← ih]
      have e : Lib.indexByte (47 :: r) 47 = 0 := by rw [Lib.indexByte]; simp
      rw [e]; rfl
    · rw [Lib.count_cons_ne _ _ _ hc]
      cases hk : Lib.count r [47] with
      | zero =>
        rw [hk] at ih
        rw [cutL_cons hc ih.symm]; rfl
      | succ k =>
        rw [hk] at ih
        have hi : Lib.index r [47] ≠ -1 := fun e => by rw [Lib.count_miss e] at hk; cases hk
        have hge := Lib.index_ge r [47]
        obtain ⟨i, hi'⟩ : ∃ i : Nat, Lib.index r [47] = i := ⟨(Lib.index r [47]).toNat, by omega⟩
        have e1 : Lib.index (c :: r) [47] = ((i + 1 : Nat) : Int) := by
          rw [Lib.index_one] at hi' ⊢
          rw [Lib.indexByte, if_neg (by simpa using hc), hi', if_neg (by simp)]; push_cast; rfl
        rw [Lib.splitK, hi', if_neg (by simp)] at ih
        rw [Lib.splitK, e1, if_neg (by simp; omega), cutL_cons hc ih.symm]
        simp

theorem join_cutL : ∀ l : List UInt8, Lib.join (cutL l) [47] = l
  | [] => rfl
  | c :: r => by
    have ih := join_cutL r
    cases hr : cutL r with
    | nil => exact absurd hr (cutL_ne r)
    | cons x xs =>
      rw [hr, Lib.join_cons] at ih
      by_cases hc : c = 47
      · subst hc
        rw [cutL, if_pos rfl, hr, Lib.join_cons, ← ih]; simp [Lib.joinTail]
      · rw [cutL_cons hc hr, Lib.join_cons, List.cons_append, ih]

theorem cutL_join : ∀ (r : List (List UInt8)), r ≠ [] → (∀ x ∈ r, ∀ c ∈ x, c ≠ 47) → cutL (Lib.join r [47]) = r
  | [], h, _ => absurd rfl h
  | [x], _, h => by rw [Lib.join_one]; exact cutL_no (h x (by simp))
  | x :: y :: r, _, h => by
    have e : Lib.join (x :: y :: r) [47] = x ++ 47 :: Lib.join (y :: r) [47] := by rw [Lib.join_cons, Lib.join_cons]; simp [Lib.joinTail]
    rw [e, cutL_at (h x (by simp)), cutL_join (y :: r) (by simp) (fun z hz => h z (by simp [hz]))]

theorem cutL_len : ∀ l : List UInt8, (cutL l).length ≤ l.length + 1
  | [] => by simp [cutL]
  | c :: r => by
    have ih := cutL_len r
    rw [cutL]; split
    · simp; omega
    · split
      · simp
      · rename_i h; rw [h] at ih; simp at ih ⊢; omega
theorem cutL_sum : ∀ l : List UInt8, (cutL l).flatten.length ≤ l.length
  | [] => by simp [cutL]
  | c :: r => by
    have ih := cutL_sum r
    rw [cutL]; split
    · simp at ih ⊢; omega
    · split
      · simp
      · rename_i h; rw [h] at ih; simp at ih ⊢; omega
theorem mem_sum {r : List (List UInt8)} {x : List UInt8} (h : x ∈ r) : x.length ≤ r.flatten.length := by
  induction r with
  | nil => cases h
  | cons y r ih =>
    rw [List.flatten_cons, List.length_append]
    rcases List.mem_cons.1 h with rfl | h
    · omega
    · have := ih h; omega
theorem cutL_mem {l x : List UInt8} (h : x ∈ cutL l) : x.length ≤ l.length := by
  have := mem_sum h; have := cutL_sum l; omega

/-- The pieces as Go's strings. -/
def rowsB (S : ByteArray) : List ByteArray := (cutL S.data.toList).map fun l => ⟨l.toArray⟩
theorem rowsB_split (S : ByteArray) : Lib.splitB ⟨#[47]⟩ 0 (Lib.countB S ⟨#[47]⟩) S = rowsB S := by
  have h := Lib.splitB_data ⟨#[47]⟩ 0 (Lib.countB S ⟨#[47]⟩) S
  have h2 : Lib.splitK [47] 0 (Lib.countB S ⟨#[47]⟩) S.data.toList = cutL S.data.toList := cutL_split _
  rw [show (⟨#[47]⟩ : ByteArray).data.toList = [47] from rfl, h2] at h
  rw [rowsB, ← h, List.map_map]
  refine (List.map_id _).symm.trans (List.map_congr_left fun x _ => ?_)
  simp
theorem rowsB_len (S : ByteArray) : (rowsB S).length = (cutL S.data.toList).length := by simp [rowsB]
theorem rowsB_pos (S : ByteArray) : 0 < (rowsB S).length := by rw [rowsB_len]; exact List.length_pos_iff.2 (cutL_ne _)
theorem rowsB_count (S : ByteArray) : Lib.countB S ⟨#[47]⟩ + 1 = (rowsB S).length := by
  have := Lib.splitB_all ⟨#[47]⟩ (by decide) 0 _ S rfl
  rw [rowsB_split] at this; exact this.symm
theorem rowsB_le (S : ByteArray) : (rowsB S).length ≤ S.size + 1 := by rw [rowsB_len]; exact cutL_len _
theorem rowsB_mem {S x : ByteArray} (h : x ∈ rowsB S) : x.size ≤ S.size := by
  obtain ⟨l, hl, rfl⟩ := List.mem_map.1 h
  have := cutL_mem hl
  rw [Lib.size_eq, Lib.size_eq]
  exact this
theorem rowsB_sum (S : ByteArray) : ((rowsB S).map (·.data.toList)).flatten.length ≤ S.size := by
  have := cutL_sum S.data.toList
  rw [rowsB, List.map_map, show ((fun x : ByteArray => x.data.toList) ∘ fun l : List UInt8 => (⟨l.toArray⟩ : ByteArray)) = id by funext l; simp, List.map_id, Lib.size_eq]
  exact this

end Go.Proofs.YtepnhhehfkcgkaaDoor
