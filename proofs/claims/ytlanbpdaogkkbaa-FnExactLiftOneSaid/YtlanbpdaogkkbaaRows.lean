/-
  No cell of these rows narrows 'for every input' (looked for: loops, veiled, ifaces, maps, wideKeys, modest, calm, conditions, laid).
  DERIVED. THE GIVEN ROWS OF THIS SEAT. 8 by the template 'for every input the law returns true; each argument reads behind the call as it read before'; 0 by the template 'total and deterministic' (their statements: YtlanbpdaogkkbaaTotals.lean).
  GIVEN WITH THE SEED: the statements are not yours to turn. If you find one false, say at which input.
  Laid BY PROGRAM, IN A SANDBOX (cutbox-rows.mjs): the forced cells as the released guide's own fill.sh prints them over the translation d88337a63a34515d… (all of the seat's roots in one cut). By AI agents, Wed Nov 11 2026. No macro, syntax, notation, axiom, sorry.
-/
import Derived.Test.YtlanbpdaogkkbaaChecked
import GoSem.Claim
import GoSem.ClaimJoined
import GoSem.ClaimMapViews
import Derived.JoinedTies
import Derived.KernelRfl
namespace Go.Proofs.Ytlanbpdaogkkbaa
/- THE CELL 'sum', in the pinned program and in every row, IS THE sha256 OF THE DUMP (.gsa) THAT YtlanbpdaogkkbaaProg.lean LOADS. Nothing in Lean hashes anything: it is a label: what it is worth is what the hold of that sum in a sandbox is worth. -/
noncomputable def Try.pinned : Pinned := { name := "ytlanbpdaogkkbaa", sum := "d88337a63a34515dc19675d53facc41747f77e056413b461a89df88e29b6942a", checked := Try.checked }
namespace Rows
def none {H : Type} : Left H := { results := [], args := [] }

/-- 'laws.FnExactTilingTurn': WHATEVER THE INPUT: true; the input reads as it did. -/
def fnExactTilingTurnSpec : ChangeSpec := { name := "fnExactTilingTurn", fn := fun _ => fun
  | [d1, d2] => { results := [.lit (.bool true)], args := [d1, d2] }
  | _ => none }
def fnExactTilingTurnRow : OpenClaim := { program := "ytlanbpdaogkkbaa", sum := "d88337a63a34515dc19675d53facc41747f77e056413b461a89df88e29b6942a", func := "loop.example/dominotilings/laws.FnExactTilingTurn", spec := "fnExactTilingTurn", unfollowed := true, recurses := true, apart := false }
def FnExactTilingTurnSaid : Prop := fnExactTilingTurnRow.holds Try.pinned (OpenSpec.ofChange fnExactTilingTurnSpec)

/-- ITS FALSE NEIGHBOUR: 'it returns false'. Refute it at one input. -/
def fnExactTilingTurnWrong : ChangeSpec := { name := "fnExactTilingTurn", fn := fun _ => fun
  | [d1, d2] => { results := [.lit (.bool false)], args := [d1, d2] }
  | _ => none }
def FnExactTilingTurnWrongFalsely : Prop := fnExactTilingTurnRow.holds Try.pinned (OpenSpec.ofChange fnExactTilingTurnWrong)

/-- 'laws.FnExactTilingFlip': WHATEVER THE INPUT: true; the input reads as it did. -/
def fnExactTilingFlipSpec : ChangeSpec := { name := "fnExactTilingFlip", fn := fun _ => fun
  | [d1, d2] => { results := [.lit (.bool true)], args := [d1, d2] }
  | _ => none }
def fnExactTilingFlipRow : OpenClaim := { program := "ytlanbpdaogkkbaa", sum := "d88337a63a34515dc19675d53facc41747f77e056413b461a89df88e29b6942a", func := "loop.example/dominotilings/laws.FnExactTilingFlip", spec := "fnExactTilingFlip", unfollowed := true, recurses := true, apart := false }
def FnExactTilingFlipSaid : Prop := fnExactTilingFlipRow.holds Try.pinned (OpenSpec.ofChange fnExactTilingFlipSpec)

/-- ITS FALSE NEIGHBOUR: 'it returns false'. Refute it at one input. -/
def fnExactTilingFlipWrong : ChangeSpec := { name := "fnExactTilingFlip", fn := fun _ => fun
  | [d1, d2] => { results := [.lit (.bool false)], args := [d1, d2] }
  | _ => none }
def FnExactTilingFlipWrongFalsely : Prop := fnExactTilingFlipRow.holds Try.pinned (OpenSpec.ofChange fnExactTilingFlipWrong)

/-- 'laws.FnExactLiftOne': WHATEVER THE INPUT: true; the input reads as it did. -/
def fnExactLiftOneSpec : ChangeSpec := { name := "fnExactLiftOne", fn := fun _ => fun
  | [d1, d2, d3] => { results := [.lit (.bool true)], args := [d1, d2, d3] }
  | _ => none }
def fnExactLiftOneRow : OpenClaim := { program := "ytlanbpdaogkkbaa", sum := "d88337a63a34515dc19675d53facc41747f77e056413b461a89df88e29b6942a", func := "loop.example/dominotilings/laws.FnExactLiftOne", spec := "fnExactLiftOne", apart := false }
def FnExactLiftOneSaid : Prop := fnExactLiftOneRow.holds Try.pinned (OpenSpec.ofChange fnExactLiftOneSpec)

/-- ITS FALSE NEIGHBOUR: 'it returns false'. Refute it at one input. -/
def fnExactLiftOneWrong : ChangeSpec := { name := "fnExactLiftOne", fn := fun _ => fun
  | [d1, d2, d3] => { results := [.lit (.bool false)], args := [d1, d2, d3] }
  | _ => none }
def FnExactLiftOneWrongFalsely : Prop := fnExactLiftOneRow.holds Try.pinned (OpenSpec.ofChange fnExactLiftOneWrong)

/-- 'laws.FnExactLayOne': WHATEVER THE INPUT: true; the input reads as it did. -/
def fnExactLayOneSpec : ChangeSpec := { name := "fnExactLayOne", fn := fun _ => fun
  | [d1, d2, d3, d4] => { results := [.lit (.bool true)], args := [d1, d2, d3, d4] }
  | _ => none }
def fnExactLayOneRow : OpenClaim := { program := "ytlanbpdaogkkbaa", sum := "d88337a63a34515dc19675d53facc41747f77e056413b461a89df88e29b6942a", func := "loop.example/dominotilings/laws.FnExactLayOne", spec := "fnExactLayOne", apart := false }
def FnExactLayOneSaid : Prop := fnExactLayOneRow.holds Try.pinned (OpenSpec.ofChange fnExactLayOneSpec)

/-- ITS FALSE NEIGHBOUR: 'it returns false'. Refute it at one input. -/
def fnExactLayOneWrong : ChangeSpec := { name := "fnExactLayOne", fn := fun _ => fun
  | [d1, d2, d3, d4] => { results := [.lit (.bool false)], args := [d1, d2, d3, d4] }
  | _ => none }
def FnExactLayOneWrongFalsely : Prop := fnExactLayOneRow.holds Try.pinned (OpenSpec.ofChange fnExactLayOneWrong)

/-- 'laws.FnExactTilingsMany': WHATEVER THE INPUT: true; the input reads as it did. -/
def fnExactTilingsManySpec : ChangeSpec := { name := "fnExactTilingsMany", fn := fun _ => fun
  | [d] => { results := [.lit (.bool true)], args := [d] }
  | _ => none }
def fnExactTilingsManyRow : OpenClaim := { program := "ytlanbpdaogkkbaa", sum := "d88337a63a34515dc19675d53facc41747f77e056413b461a89df88e29b6942a", func := "loop.example/dominotilings/laws.FnExactTilingsMany", spec := "fnExactTilingsMany", unfollowed := true, recurses := true, apart := false }
def FnExactTilingsManySaid : Prop := fnExactTilingsManyRow.holds Try.pinned (OpenSpec.ofChange fnExactTilingsManySpec)

/-- ITS FALSE NEIGHBOUR: 'it returns false'. Refute it at one input. -/
def fnExactTilingsManyWrong : ChangeSpec := { name := "fnExactTilingsMany", fn := fun _ => fun
  | [d] => { results := [.lit (.bool false)], args := [d] }
  | _ => none }
def FnExactTilingsManyWrongFalsely : Prop := fnExactTilingsManyRow.holds Try.pinned (OpenSpec.ofChange fnExactTilingsManyWrong)

/-- 'laws.FnExactTilingsWith': WHATEVER THE INPUT: true; the input reads as it did. -/
def fnExactTilingsWithSpec : ChangeSpec := { name := "fnExactTilingsWith", fn := fun _ => fun
  | [d1, d2, d3] => { results := [.lit (.bool true)], args := [d1, d2, d3] }
  | _ => none }
def fnExactTilingsWithRow : OpenClaim := { program := "ytlanbpdaogkkbaa", sum := "d88337a63a34515dc19675d53facc41747f77e056413b461a89df88e29b6942a", func := "loop.example/dominotilings/laws.FnExactTilingsWith", spec := "fnExactTilingsWith", unfollowed := true, recurses := true, apart := false }
def FnExactTilingsWithSaid : Prop := fnExactTilingsWithRow.holds Try.pinned (OpenSpec.ofChange fnExactTilingsWithSpec)

/-- ITS FALSE NEIGHBOUR: 'it returns false'. Refute it at one input. -/
def fnExactTilingsWithWrong : ChangeSpec := { name := "fnExactTilingsWith", fn := fun _ => fun
  | [d1, d2, d3] => { results := [.lit (.bool false)], args := [d1, d2, d3] }
  | _ => none }
def FnExactTilingsWithWrongFalsely : Prop := fnExactTilingsWithRow.holds Try.pinned (OpenSpec.ofChange fnExactTilingsWithWrong)

/-- 'laws.FnExactPartsProduct': WHATEVER THE INPUT: true; the input reads as it did. -/
def fnExactPartsProductSpec : ChangeSpec := { name := "fnExactPartsProduct", fn := fun _ => fun
  | [d] => { results := [.lit (.bool true)], args := [d] }
  | _ => none }
def fnExactPartsProductRow : OpenClaim := { program := "ytlanbpdaogkkbaa", sum := "d88337a63a34515dc19675d53facc41747f77e056413b461a89df88e29b6942a", func := "loop.example/dominotilings/laws.FnExactPartsProduct", spec := "fnExactPartsProduct", unfollowed := true, recurses := true, apart := false }
def FnExactPartsProductSaid : Prop := fnExactPartsProductRow.holds Try.pinned (OpenSpec.ofChange fnExactPartsProductSpec)

/-- ITS FALSE NEIGHBOUR: 'it returns false'. Refute it at one input. -/
def fnExactPartsProductWrong : ChangeSpec := { name := "fnExactPartsProduct", fn := fun _ => fun
  | [d] => { results := [.lit (.bool false)], args := [d] }
  | _ => none }
def FnExactPartsProductWrongFalsely : Prop := fnExactPartsProductRow.holds Try.pinned (OpenSpec.ofChange fnExactPartsProductWrong)

/-- 'laws.FnExactForcedOf': WHATEVER THE INPUT: true; the input reads as it did. -/
def fnExactForcedOfSpec : ChangeSpec := { name := "fnExactForcedOf", fn := fun _ => fun
  | [d] => { results := [.lit (.bool true)], args := [d] }
  | _ => none }
def fnExactForcedOfRow : OpenClaim := { program := "ytlanbpdaogkkbaa", sum := "d88337a63a34515dc19675d53facc41747f77e056413b461a89df88e29b6942a", func := "loop.example/dominotilings/laws.FnExactForcedOf", spec := "fnExactForcedOf", unfollowed := true, recurses := true, apart := false }
def FnExactForcedOfSaid : Prop := fnExactForcedOfRow.holds Try.pinned (OpenSpec.ofChange fnExactForcedOfSpec)

/-- ITS FALSE NEIGHBOUR: 'it returns false'. Refute it at one input. -/
def fnExactForcedOfWrong : ChangeSpec := { name := "fnExactForcedOf", fn := fun _ => fun
  | [d] => { results := [.lit (.bool false)], args := [d] }
  | _ => none }
def FnExactForcedOfWrongFalsely : Prop := fnExactForcedOfRow.holds Try.pinned (OpenSpec.ofChange fnExactForcedOfWrong)

/- THE SECOND FORM. 'bulk': how many values and letters a reading holds, each counted each time it is reached (what is shared counts as often as it is met; a slice's spare places count too). A statement '..UptoSaid' is the law's where the arguments, and the package variables that the reading takes, are together of bulk at most 1048576: NARROWER than '..Said'. Prove '..Said' where nothing that the law and all that it calls make is longer than what came in: it says more and counts as full. Else prove '..UptoSaid'. A law counts once. -/
mutual
def uptoBulk {H : Type} : DataW H → Nat
  | .lit (.string bytes) => bytes.length + 1
  | .lit _ => 1
  | .nil => 1
  | .ptr d => uptoBulk d + 1
  | .slice elems spare => uptoBulkAll elems + uptoBulkAll spare + 1
  | .agg parts => uptoBulkAll parts + 1
  | .iface _ d => uptoBulk d + 1
  | .map entries => uptoBulkEntries entries + 1
  | .held _ => 1
def uptoBulkAll {H : Type} : List (DataW H) → Nat
  | [] => 0
  | d :: r => uptoBulk d + uptoBulkAll r
def uptoBulkEntries {H : Type} : List (Lit × DataW H) → Nat
  | [] => 0
  | x :: r => uptoBulkEntry x + uptoBulkEntries r
def uptoBulkEntry {H : Type} : Lit × DataW H → Nat
  | (.string bytes, d) => bytes.length + uptoBulk d + 1
  | (_, d) => uptoBulk d + 1
 end
def uptoSmall : (H : Type) → List (DataW H) → Bool := fun _ ds => decide (uptoBulkAll ds ≤ 1048576)
def OpenSpec.upto (s : _root_.Go.ChangeSpec) : _root_.Go.OpenSpec := { _root_.Go.OpenSpec.ofChange s with cond := some uptoSmall }

/-- 'laws.FnExactTilingTurn', WHERE WHAT IT READS IS OF BULK AT MOST 1048576: true; the input reads as it did. -/
def fnExactTilingTurnUptoRow : OpenClaim := { program := "ytlanbpdaogkkbaa", sum := "d88337a63a34515dc19675d53facc41747f77e056413b461a89df88e29b6942a", func := "loop.example/dominotilings/laws.FnExactTilingTurn", spec := "fnExactTilingTurn", unfollowed := true, recurses := true, apart := false, narrowed := true }
def FnExactTilingTurnUptoSaid : Prop := fnExactTilingTurnUptoRow.holds Try.pinned (OpenSpec.upto fnExactTilingTurnSpec)

/-- 'laws.FnExactTilingFlip', WHERE WHAT IT READS IS OF BULK AT MOST 1048576: true; the input reads as it did. -/
def fnExactTilingFlipUptoRow : OpenClaim := { program := "ytlanbpdaogkkbaa", sum := "d88337a63a34515dc19675d53facc41747f77e056413b461a89df88e29b6942a", func := "loop.example/dominotilings/laws.FnExactTilingFlip", spec := "fnExactTilingFlip", unfollowed := true, recurses := true, apart := false, narrowed := true }
def FnExactTilingFlipUptoSaid : Prop := fnExactTilingFlipUptoRow.holds Try.pinned (OpenSpec.upto fnExactTilingFlipSpec)

/-- 'laws.FnExactLiftOne', WHERE WHAT IT READS IS OF BULK AT MOST 1048576: true; the input reads as it did. -/
def fnExactLiftOneUptoRow : OpenClaim := { program := "ytlanbpdaogkkbaa", sum := "d88337a63a34515dc19675d53facc41747f77e056413b461a89df88e29b6942a", func := "loop.example/dominotilings/laws.FnExactLiftOne", spec := "fnExactLiftOne", apart := false, narrowed := true }
def FnExactLiftOneUptoSaid : Prop := fnExactLiftOneUptoRow.holds Try.pinned (OpenSpec.upto fnExactLiftOneSpec)

/-- 'laws.FnExactLayOne', WHERE WHAT IT READS IS OF BULK AT MOST 1048576: true; the input reads as it did. -/
def fnExactLayOneUptoRow : OpenClaim := { program := "ytlanbpdaogkkbaa", sum := "d88337a63a34515dc19675d53facc41747f77e056413b461a89df88e29b6942a", func := "loop.example/dominotilings/laws.FnExactLayOne", spec := "fnExactLayOne", apart := false, narrowed := true }
def FnExactLayOneUptoSaid : Prop := fnExactLayOneUptoRow.holds Try.pinned (OpenSpec.upto fnExactLayOneSpec)

/-- 'laws.FnExactTilingsMany', WHERE WHAT IT READS IS OF BULK AT MOST 1048576: true; the input reads as it did. -/
def fnExactTilingsManyUptoRow : OpenClaim := { program := "ytlanbpdaogkkbaa", sum := "d88337a63a34515dc19675d53facc41747f77e056413b461a89df88e29b6942a", func := "loop.example/dominotilings/laws.FnExactTilingsMany", spec := "fnExactTilingsMany", unfollowed := true, recurses := true, apart := false, narrowed := true }
def FnExactTilingsManyUptoSaid : Prop := fnExactTilingsManyUptoRow.holds Try.pinned (OpenSpec.upto fnExactTilingsManySpec)

/-- 'laws.FnExactTilingsWith', WHERE WHAT IT READS IS OF BULK AT MOST 1048576: true; the input reads as it did. -/
def fnExactTilingsWithUptoRow : OpenClaim := { program := "ytlanbpdaogkkbaa", sum := "d88337a63a34515dc19675d53facc41747f77e056413b461a89df88e29b6942a", func := "loop.example/dominotilings/laws.FnExactTilingsWith", spec := "fnExactTilingsWith", unfollowed := true, recurses := true, apart := false, narrowed := true }
def FnExactTilingsWithUptoSaid : Prop := fnExactTilingsWithUptoRow.holds Try.pinned (OpenSpec.upto fnExactTilingsWithSpec)

/-- 'laws.FnExactPartsProduct', WHERE WHAT IT READS IS OF BULK AT MOST 1048576: true; the input reads as it did. -/
def fnExactPartsProductUptoRow : OpenClaim := { program := "ytlanbpdaogkkbaa", sum := "d88337a63a34515dc19675d53facc41747f77e056413b461a89df88e29b6942a", func := "loop.example/dominotilings/laws.FnExactPartsProduct", spec := "fnExactPartsProduct", unfollowed := true, recurses := true, apart := false, narrowed := true }
def FnExactPartsProductUptoSaid : Prop := fnExactPartsProductUptoRow.holds Try.pinned (OpenSpec.upto fnExactPartsProductSpec)

/-- 'laws.FnExactForcedOf', WHERE WHAT IT READS IS OF BULK AT MOST 1048576: true; the input reads as it did. -/
def fnExactForcedOfUptoRow : OpenClaim := { program := "ytlanbpdaogkkbaa", sum := "d88337a63a34515dc19675d53facc41747f77e056413b461a89df88e29b6942a", func := "loop.example/dominotilings/laws.FnExactForcedOf", spec := "fnExactForcedOf", unfollowed := true, recurses := true, apart := false, narrowed := true }
def FnExactForcedOfUptoSaid : Prop := fnExactForcedOfUptoRow.holds Try.pinned (OpenSpec.upto fnExactForcedOfSpec)

end Rows
end Go.Proofs.Ytlanbpdaogkkbaa
