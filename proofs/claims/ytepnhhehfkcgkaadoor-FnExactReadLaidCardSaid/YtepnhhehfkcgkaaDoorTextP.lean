/-
  Texts of rows: what the two sides write. (plain)
-/
import Derived.Lib.Join
import Derived.Test.YtepnhhehfkcgkaaDoorLaid
namespace Go.Proofs.YtepnhhehfkcgkaaDoor
open Go.RowKit

/-- The first k signs of a row. -/
def rowL (f : Nat → UInt8) (W y : Nat) (k : Nat) : List UInt8 := (List.range k).map fun x => f (y * W + x)
theorem rowL_len (f : Nat → UInt8) (W y k : Nat) : (rowL f W y k).length = k := by simp [rowL]
theorem rowL_succ (f : Nat → UInt8) (W y k : Nat) : rowL f W y (k + 1) = rowL f W y k ++ [f (y * W + k)] := by simp [rowL, List.range_succ]
/-- The first k rows from the north. -/
def rowsL (f : Nat → UInt8) (W T : Nat) (k : Nat) : List ByteArray := (List.range k).map fun i => ⟨(rowL f W (T - 1 - i) W).toArray⟩
theorem rowsL_len (f : Nat → UInt8) (W T k : Nat) : (rowsL f W T k).length = k := by simp [rowsL]
theorem rowsL_succ (f : Nat → UInt8) (W T k : Nat) : rowsL f W T (k + 1) = rowsL f W T k ++ [⟨(rowL f W (T - 1 - k) W).toArray⟩] := by simp [rowsL, List.range_succ]
/-- The text that grows row by row; a slash behind each row but the last. -/
def textA (f : Nat → UInt8) (W T : Nat) : Nat → List UInt8
  | 0 => []
  | k + 1 => textA f W T k ++ rowL f W (T - 1 - k) W ++ (if k + 1 < T then [47] else [])
def textL (f : Nat → UInt8) (W T : Nat) : List UInt8 := textA f W T T
theorem textA_len (f : Nat → UInt8) (W T : Nat) : ∀ k, (textA f W T k).length ≤ k * (W + 1)
  | 0 => by simp [textA]
  | k + 1 => by
    have := textA_len f W T k
    rw [textA, List.length_append, List.length_append, rowL_len, Nat.succ_mul]
    split <;> simp <;> omega

theorem joinTail_snoc (sep : List UInt8) (r : List (List UInt8)) (x : List UInt8) : Lib.joinTail sep (r ++ [x]) = Lib.joinTail sep r ++ sep ++ x := by
  simp [Lib.joinTail]
theorem join_snoc (sep : List UInt8) (r : List (List UInt8)) (x : List UInt8) (h : r ≠ []) : Lib.join (r ++ [x]) sep = Lib.join r sep ++ sep ++ x := by
  match r, h with
  | a :: r, _ => rw [List.cons_append, Lib.join_cons, Lib.join_cons, joinTail_snoc]; simp
theorem textA_join (f : Nat → UInt8) (W T : Nat) : ∀ k, k < T → textA f W T k = Lib.join ((rowsL f W T k).map (·.data.toList)) [47] ++ (if k = 0 then [] else [47])
  | 0, _ => by simp [textA, rowsL, Lib.join_nil]
  | k + 1, h => by
    have ih := textA_join f W T k (by omega)
    rw [textA, ih, rowsL_succ, List.map_append, if_pos h]
    by_cases h0 : k = 0
    · subst h0; simp [rowsL, Lib.join_nil, Lib.join_one]
    · rw [if_neg h0, if_neg (by omega), List.map_cons, List.map_nil, join_snoc _ _ _ (by intro e; have := congrArg List.length e; rw [List.length_map, rowsL_len] at this; simp at this; omega)]
theorem textL_join (f : Nat → UInt8) (W T : Nat) : Lib.join ((rowsL f W T T).map (·.data.toList)) [47] = textL f W T := by
  match T with
  | 0 => simp [textL, textA, rowsL, Lib.join_nil]
  | T + 1 =>
    rw [textL, textA, textA_join f W (T + 1) T (Nat.lt_succ_self _), if_neg (Nat.lt_irrefl _), rowsL_succ, List.map_append, List.map_cons, List.map_nil, List.append_nil]
    by_cases h0 : T = 0
    · subst h0; simp [rowsL, Lib.join_nil, Lib.join_one]
    · rw [if_neg h0, join_snoc _ _ _ (by intro e; have := congrArg List.length e; rw [List.length_map, rowsL_len] at this; simp at this; omega)]

/-- The sign of a cell of a region. -/
def signR (bs : List Bool) (k : Nat) : UInt8 := if onR bs k then 35 else 46
def rtextF (W T : Int) (n : Nat) (bs : List Bool) : List UInt8 := if validB W T n bs then textL (signR bs) W.toNat T.toNat else []
end Go.Proofs.YtepnhhehfkcgkaaDoor
