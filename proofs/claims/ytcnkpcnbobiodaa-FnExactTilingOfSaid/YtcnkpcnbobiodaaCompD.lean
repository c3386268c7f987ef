/-
  What Complete gives back, as a function of its data.
-/
import Derived.Test.YtcnkpcnbobiodaaTilA
namespace Go.Proofs.Ytcnkpcnbobiodaa
open Go.RowKit
open Til (tilings)

def compL (W T n : Nat) (bs : List Bool) (zs : List Int) : List Int := (tilings W T n bs zs).headD []
def compZ (W T : Int) (n : Nat) (bs : List Bool) (m : Nat) (zs : List Int) : List Int := if laidB W T n bs m zs then compL W.toNat T.toNat n bs zs else []
def compB (W T : Int) (n : Nat) (bs : List Bool) (m : Nat) (zs : List Int) : Bool := laidB W T n bs m zs && !(tilings W.toNat T.toNat n bs zs).isEmpty
theorem comp_len {W T n : Nat} {bs : List Bool} {zs t : List Int} {rest : List (List Int)} (hn : bs.length = n) (hl : zs.length = n) (h : tilings W T n bs zs = t :: rest) : t.length = n := by
  have := Til.tilings_mem_len (W := W) (T := T) (n := n) (bs := bs) (zs := zs) (by omega) (t := t) (by rw [h]; exact List.mem_cons_self ..)
  omega

end Go.Proofs.Ytcnkpcnbobiodaa
