/-
  No cell of these rows narrows 'for every input' (looked for: loops, veiled, ifaces, maps, wideKeys, modest, calm, conditions, laid).
  DERIVED. THE GIVEN ROWS OF THIS SEAT. 12 by the template 'for every input the law returns true; each argument reads behind the call as it read before'; 0 by the template 'total and deterministic' (their statements: YtkaikpffdgamfaaTotals.lean).
  GIVEN WITH THE SEED: the statements are not yours to turn. If you find one false, say at which input.
  Laid BY PROGRAM, IN A SANDBOX (cutbox-rows.mjs): the forced cells as the released guide's own fill.sh prints them over the translation aeae8879ed9262cd… (all of the seat's roots in one cut). By AI agents, Wed Nov 11 2026. No macro, syntax, notation, axiom, sorry.
-/
import Derived.Test.YtkaikpffdgamfaaChecked
import GoSem.Claim
import GoSem.ClaimJoined
import GoSem.ClaimMapViews
import Derived.JoinedTies
import Derived.KernelRfl
namespace Go.Proofs.Ytkaikpffdgamfaa
/- THE CELL 'sum', in the pinned program and in every row, IS THE sha256 OF THE DUMP (.gsa) THAT YtkaikpffdgamfaaProg.lean LOADS. Nothing in Lean hashes anything: it is a label: what it is worth is what the hold of that sum in a sandbox is worth. -/
noncomputable def Try.pinned : Pinned := { name := "ytkaikpffdgamfaa", sum := "aeae8879ed9262cddf7c6a6e23e199cb75f42b8294deb24f6914a6779603745a", checked := Try.checked }
namespace Rows
def none {H : Type} : Left H := { results := [], args := [] }

/-- 'laws.FnExactConstants': WHATEVER THE INPUT: true; the input reads as it did. -/
def fnExactConstantsSpec : ChangeSpec := { name := "fnExactConstants", fn := fun _ => fun
  | [] => { results := [.lit (.bool true)], args := [] }
  | _ => none }
def fnExactConstantsRow : OpenClaim := { program := "ytkaikpffdgamfaa", sum := "aeae8879ed9262cddf7c6a6e23e199cb75f42b8294deb24f6914a6779603745a", func := "loop.example/dominotilings/laws.FnExactConstants", spec := "fnExactConstants", apart := false }
def FnExactConstantsSaid : Prop := fnExactConstantsRow.holds Try.pinned (OpenSpec.ofChange fnExactConstantsSpec)

/-- ITS FALSE NEIGHBOUR: 'it returns false'. Refute it at one input. -/
def fnExactConstantsWrong : ChangeSpec := { name := "fnExactConstants", fn := fun _ => fun
  | [] => { results := [.lit (.bool false)], args := [] }
  | _ => none }
def FnExactConstantsWrongFalsely : Prop := fnExactConstantsRow.holds Try.pinned (OpenSpec.ofChange fnExactConstantsWrong)

/-- 'laws.FnExactTwoRows': WHATEVER THE INPUT: true; the input reads as it did. -/
def fnExactTwoRowsSpec : ChangeSpec := { name := "fnExactTwoRows", fn := fun _ => fun
  | [d] => { results := [.lit (.bool true)], args := [d] }
  | _ => none }
def fnExactTwoRowsRow : OpenClaim := { program := "ytkaikpffdgamfaa", sum := "aeae8879ed9262cddf7c6a6e23e199cb75f42b8294deb24f6914a6779603745a", func := "loop.example/dominotilings/laws.FnExactTwoRows", spec := "fnExactTwoRows", apart := false }
def FnExactTwoRowsSaid : Prop := fnExactTwoRowsRow.holds Try.pinned (OpenSpec.ofChange fnExactTwoRowsSpec)

/-- ITS FALSE NEIGHBOUR: 'it returns false'. Refute it at one input. -/
def fnExactTwoRowsWrong : ChangeSpec := { name := "fnExactTwoRows", fn := fun _ => fun
  | [d] => { results := [.lit (.bool false)], args := [d] }
  | _ => none }
def FnExactTwoRowsWrongFalsely : Prop := fnExactTwoRowsRow.holds Try.pinned (OpenSpec.ofChange fnExactTwoRowsWrong)

/-- 'laws.FnExactThreeRows': WHATEVER THE INPUT: true; the input reads as it did. -/
def fnExactThreeRowsSpec : ChangeSpec := { name := "fnExactThreeRows", fn := fun _ => fun
  | [d] => { results := [.lit (.bool true)], args := [d] }
  | _ => none }
def fnExactThreeRowsRow : OpenClaim := { program := "ytkaikpffdgamfaa", sum := "aeae8879ed9262cddf7c6a6e23e199cb75f42b8294deb24f6914a6779603745a", func := "loop.example/dominotilings/laws.FnExactThreeRows", spec := "fnExactThreeRows", apart := false }
def FnExactThreeRowsSaid : Prop := fnExactThreeRowsRow.holds Try.pinned (OpenSpec.ofChange fnExactThreeRowsSpec)

/-- ITS FALSE NEIGHBOUR: 'it returns false'. Refute it at one input. -/
def fnExactThreeRowsWrong : ChangeSpec := { name := "fnExactThreeRows", fn := fun _ => fun
  | [d] => { results := [.lit (.bool false)], args := [d] }
  | _ => none }
def FnExactThreeRowsWrongFalsely : Prop := fnExactThreeRowsRow.holds Try.pinned (OpenSpec.ofChange fnExactThreeRowsWrong)

/-- 'laws.FnExactRegionBox': WHATEVER THE INPUT: true; the input reads as it did. -/
def fnExactRegionBoxSpec : ChangeSpec := { name := "fnExactRegionBox", fn := fun _ => fun
  | [d1, d2] => { results := [.lit (.bool true)], args := [d1, d2] }
  | _ => none }
def fnExactRegionBoxRow : OpenClaim := { program := "ytkaikpffdgamfaa", sum := "aeae8879ed9262cddf7c6a6e23e199cb75f42b8294deb24f6914a6779603745a", func := "loop.example/dominotilings/laws.FnExactRegionBox", spec := "fnExactRegionBox", apart := false }
def FnExactRegionBoxSaid : Prop := fnExactRegionBoxRow.holds Try.pinned (OpenSpec.ofChange fnExactRegionBoxSpec)

/-- ITS FALSE NEIGHBOUR: 'it returns false'. Refute it at one input. -/
def fnExactRegionBoxWrong : ChangeSpec := { name := "fnExactRegionBox", fn := fun _ => fun
  | [d1, d2] => { results := [.lit (.bool false)], args := [d1, d2] }
  | _ => none }
def FnExactRegionBoxWrongFalsely : Prop := fnExactRegionBoxRow.holds Try.pinned (OpenSpec.ofChange fnExactRegionBoxWrong)

/-- 'laws.FnExactRegionValid': WHATEVER THE INPUT: true; the input reads as it did. -/
def fnExactRegionValidSpec : ChangeSpec := { name := "fnExactRegionValid", fn := fun _ => fun
  | [d] => { results := [.lit (.bool true)], args := [d] }
  | _ => none }
def fnExactRegionValidRow : OpenClaim := { program := "ytkaikpffdgamfaa", sum := "aeae8879ed9262cddf7c6a6e23e199cb75f42b8294deb24f6914a6779603745a", func := "loop.example/dominotilings/laws.FnExactRegionValid", spec := "fnExactRegionValid", apart := false }
def FnExactRegionValidSaid : Prop := fnExactRegionValidRow.holds Try.pinned (OpenSpec.ofChange fnExactRegionValidSpec)

/-- ITS FALSE NEIGHBOUR: 'it returns false'. Refute it at one input. -/
def fnExactRegionValidWrong : ChangeSpec := { name := "fnExactRegionValid", fn := fun _ => fun
  | [d] => { results := [.lit (.bool false)], args := [d] }
  | _ => none }
def FnExactRegionValidWrongFalsely : Prop := fnExactRegionValidRow.holds Try.pinned (OpenSpec.ofChange fnExactRegionValidWrong)

/-- 'laws.FnExactRegionAt': WHATEVER THE INPUT: true; the input reads as it did. -/
def fnExactRegionAtSpec : ChangeSpec := { name := "fnExactRegionAt", fn := fun _ => fun
  | [d1, d2, d3] => { results := [.lit (.bool true)], args := [d1, d2, d3] }
  | _ => none }
def fnExactRegionAtRow : OpenClaim := { program := "ytkaikpffdgamfaa", sum := "aeae8879ed9262cddf7c6a6e23e199cb75f42b8294deb24f6914a6779603745a", func := "loop.example/dominotilings/laws.FnExactRegionAt", spec := "fnExactRegionAt", apart := false }
def FnExactRegionAtSaid : Prop := fnExactRegionAtRow.holds Try.pinned (OpenSpec.ofChange fnExactRegionAtSpec)

/-- ITS FALSE NEIGHBOUR: 'it returns false'. Refute it at one input. -/
def fnExactRegionAtWrong : ChangeSpec := { name := "fnExactRegionAt", fn := fun _ => fun
  | [d1, d2, d3] => { results := [.lit (.bool false)], args := [d1, d2, d3] }
  | _ => none }
def FnExactRegionAtWrongFalsely : Prop := fnExactRegionAtRow.holds Try.pinned (OpenSpec.ofChange fnExactRegionAtWrong)

/-- 'laws.FnExactCellsMany': WHATEVER THE INPUT: true; the input reads as it did. -/
def fnExactCellsManySpec : ChangeSpec := { name := "fnExactCellsMany", fn := fun _ => fun
  | [d] => { results := [.lit (.bool true)], args := [d] }
  | _ => none }
def fnExactCellsManyRow : OpenClaim := { program := "ytkaikpffdgamfaa", sum := "aeae8879ed9262cddf7c6a6e23e199cb75f42b8294deb24f6914a6779603745a", func := "loop.example/dominotilings/laws.FnExactCellsMany", spec := "fnExactCellsMany", apart := false }
def FnExactCellsManySaid : Prop := fnExactCellsManyRow.holds Try.pinned (OpenSpec.ofChange fnExactCellsManySpec)

/-- ITS FALSE NEIGHBOUR: 'it returns false'. Refute it at one input. -/
def fnExactCellsManyWrong : ChangeSpec := { name := "fnExactCellsMany", fn := fun _ => fun
  | [d] => { results := [.lit (.bool false)], args := [d] }
  | _ => none }
def FnExactCellsManyWrongFalsely : Prop := fnExactCellsManyRow.holds Try.pinned (OpenSpec.ofChange fnExactCellsManyWrong)

/-- 'laws.FnExactMatrixValid': WHATEVER THE INPUT: true; the input reads as it did. -/
def fnExactMatrixValidSpec : ChangeSpec := { name := "fnExactMatrixValid", fn := fun _ => fun
  | [d] => { results := [.lit (.bool true)], args := [d] }
  | _ => none }
def fnExactMatrixValidRow : OpenClaim := { program := "ytkaikpffdgamfaa", sum := "aeae8879ed9262cddf7c6a6e23e199cb75f42b8294deb24f6914a6779603745a", func := "loop.example/dominotilings/laws.FnExactMatrixValid", spec := "fnExactMatrixValid", unfollowed := true, recurses := true, apart := false }
def FnExactMatrixValidSaid : Prop := fnExactMatrixValidRow.holds Try.pinned (OpenSpec.ofChange fnExactMatrixValidSpec)

/-- ITS FALSE NEIGHBOUR: 'it returns false'. Refute it at one input. -/
def fnExactMatrixValidWrong : ChangeSpec := { name := "fnExactMatrixValid", fn := fun _ => fun
  | [d] => { results := [.lit (.bool false)], args := [d] }
  | _ => none }
def FnExactMatrixValidWrongFalsely : Prop := fnExactMatrixValidRow.holds Try.pinned (OpenSpec.ofChange fnExactMatrixValidWrong)

/-- 'laws.FnExactCornerMany': WHATEVER THE INPUT: true; the input reads as it did. -/
def fnExactCornerManySpec : ChangeSpec := { name := "fnExactCornerMany", fn := fun _ => fun
  | [d] => { results := [.lit (.bool true)], args := [d] }
  | _ => none }
def fnExactCornerManyRow : OpenClaim := { program := "ytkaikpffdgamfaa", sum := "aeae8879ed9262cddf7c6a6e23e199cb75f42b8294deb24f6914a6779603745a", func := "loop.example/dominotilings/laws.FnExactCornerMany", spec := "fnExactCornerMany", apart := false }
def FnExactCornerManySaid : Prop := fnExactCornerManyRow.holds Try.pinned (OpenSpec.ofChange fnExactCornerManySpec)

/-- ITS FALSE NEIGHBOUR: 'it returns false'. Refute it at one input. -/
def fnExactCornerManyWrong : ChangeSpec := { name := "fnExactCornerMany", fn := fun _ => fun
  | [d] => { results := [.lit (.bool false)], args := [d] }
  | _ => none }
def FnExactCornerManyWrongFalsely : Prop := fnExactCornerManyRow.holds Try.pinned (OpenSpec.ofChange fnExactCornerManyWrong)

/-- 'laws.FnRegionValid': WHATEVER THE INPUT: true; the input reads as it did. -/
def fnRegionValidSpec : ChangeSpec := { name := "fnRegionValid", fn := fun _ => fun
  | [d] => { results := [.lit (.bool true)], args := [d] }
  | _ => none }
def fnRegionValidRow : OpenClaim := { program := "ytkaikpffdgamfaa", sum := "aeae8879ed9262cddf7c6a6e23e199cb75f42b8294deb24f6914a6779603745a", func := "loop.example/dominotilings/laws.FnRegionValid", spec := "fnRegionValid", apart := false }
def FnRegionValidSaid : Prop := fnRegionValidRow.holds Try.pinned (OpenSpec.ofChange fnRegionValidSpec)

/-- ITS FALSE NEIGHBOUR: 'it returns false'. Refute it at one input. -/
def fnRegionValidWrong : ChangeSpec := { name := "fnRegionValid", fn := fun _ => fun
  | [d] => { results := [.lit (.bool false)], args := [d] }
  | _ => none }
def FnRegionValidWrongFalsely : Prop := fnRegionValidRow.holds Try.pinned (OpenSpec.ofChange fnRegionValidWrong)

/-- 'laws.FnRegionAt': WHATEVER THE INPUT: true; the input reads as it did. -/
def fnRegionAtSpec : ChangeSpec := { name := "fnRegionAt", fn := fun _ => fun
  | [d] => { results := [.lit (.bool true)], args := [d] }
  | _ => none }
def fnRegionAtRow : OpenClaim := { program := "ytkaikpffdgamfaa", sum := "aeae8879ed9262cddf7c6a6e23e199cb75f42b8294deb24f6914a6779603745a", func := "loop.example/dominotilings/laws.FnRegionAt", spec := "fnRegionAt", apart := false }
def FnRegionAtSaid : Prop := fnRegionAtRow.holds Try.pinned (OpenSpec.ofChange fnRegionAtSpec)

/-- ITS FALSE NEIGHBOUR: 'it returns false'. Refute it at one input. -/
def fnRegionAtWrong : ChangeSpec := { name := "fnRegionAt", fn := fun _ => fun
  | [d] => { results := [.lit (.bool false)], args := [d] }
  | _ => none }
def FnRegionAtWrongFalsely : Prop := fnRegionAtRow.holds Try.pinned (OpenSpec.ofChange fnRegionAtWrong)

/-- 'laws.FnExactDarkMany': WHATEVER THE INPUT: true; the input reads as it did. -/
def fnExactDarkManySpec : ChangeSpec := { name := "fnExactDarkMany", fn := fun _ => fun
  | [d] => { results := [.lit (.bool true)], args := [d] }
  | _ => none }
def fnExactDarkManyRow : OpenClaim := { program := "ytkaikpffdgamfaa", sum := "aeae8879ed9262cddf7c6a6e23e199cb75f42b8294deb24f6914a6779603745a", func := "loop.example/dominotilings/laws.FnExactDarkMany", spec := "fnExactDarkMany", apart := false }
def FnExactDarkManySaid : Prop := fnExactDarkManyRow.holds Try.pinned (OpenSpec.ofChange fnExactDarkManySpec)

/-- ITS FALSE NEIGHBOUR: 'it returns false'. Refute it at one input. -/
def fnExactDarkManyWrong : ChangeSpec := { name := "fnExactDarkMany", fn := fun _ => fun
  | [d] => { results := [.lit (.bool false)], args := [d] }
  | _ => none }
def FnExactDarkManyWrongFalsely : Prop := fnExactDarkManyRow.holds Try.pinned (OpenSpec.ofChange fnExactDarkManyWrong)

/- THE SECOND FORM. 'bulk': how many values and letters a reading holds, each counted each time it is reached (what is shared counts as often as it is met; a slice's spare places count too). A statement '..UptoSaid' is the law's where the arguments, and the package variables that the reading takes, are together of bulk at most 1048576: NARROWER than '..Said'. Prove '..Said' where nothing that the law and all that it calls make is longer than what came in: it says more and counts as full. Else prove '..UptoSaid'. A law counts once. -/
mutual
def uptoBulk {H : Type} : DataW H → Nat
  | .lit (.string bytes) => bytes.length + 1
  | .lit _ => 1
  | .nil => 1
  | .ptr d => uptoBulk d + 1
  | .slice elems spare => uptoBulkAll elems + uptoBulkAll spare + 1
  | .agg parts => uptoBulkAll parts + 1
  | .iface _ d => uptoBulk d + 1
  | .map entries => uptoBulkEntries entries + 1
  | .held _ => 1
def uptoBulkAll {H : Type} : List (DataW H) → Nat
  | [] => 0
  | d :: r => uptoBulk d + uptoBulkAll r
def uptoBulkEntries {H : Type} : List (Lit × DataW H) → Nat
  | [] => 0
  | x :: r => uptoBulkEntry x + uptoBulkEntries r
def uptoBulkEntry {H : Type} : Lit × DataW H → Nat
  | (.string bytes, d) => bytes.length + uptoBulk d + 1
  | (_, d) => uptoBulk d + 1
 end
def uptoSmall : (H : Type) → List (DataW H) → Bool := fun _ ds => decide (uptoBulkAll ds ≤ 1048576)
def OpenSpec.upto (s : _root_.Go.ChangeSpec) : _root_.Go.OpenSpec := { _root_.Go.OpenSpec.ofChange s with cond := some uptoSmall }

/-- 'laws.FnExactConstants', WHERE WHAT IT READS IS OF BULK AT MOST 1048576: true; the input reads as it did. -/
def fnExactConstantsUptoRow : OpenClaim := { program := "ytkaikpffdgamfaa", sum := "aeae8879ed9262cddf7c6a6e23e199cb75f42b8294deb24f6914a6779603745a", func := "loop.example/dominotilings/laws.FnExactConstants", spec := "fnExactConstants", apart := false, narrowed := true }
def FnExactConstantsUptoSaid : Prop := fnExactConstantsUptoRow.holds Try.pinned (OpenSpec.upto fnExactConstantsSpec)

/-- 'laws.FnExactTwoRows', WHERE WHAT IT READS IS OF BULK AT MOST 1048576: true; the input reads as it did. -/
def fnExactTwoRowsUptoRow : OpenClaim := { program := "ytkaikpffdgamfaa", sum := "aeae8879ed9262cddf7c6a6e23e199cb75f42b8294deb24f6914a6779603745a", func := "loop.example/dominotilings/laws.FnExactTwoRows", spec := "fnExactTwoRows", apart := false, narrowed := true }
def FnExactTwoRowsUptoSaid : Prop := fnExactTwoRowsUptoRow.holds Try.pinned (OpenSpec.upto fnExactTwoRowsSpec)

/-- 'laws.FnExactThreeRows', WHERE WHAT IT READS IS OF BULK AT MOST 1048576: true; the input reads as it did. -/
def fnExactThreeRowsUptoRow : OpenClaim := { program := "ytkaikpffdgamfaa", sum := "aeae8879ed9262cddf7c6a6e23e199cb75f42b8294deb24f6914a6779603745a", func := "loop.example/dominotilings/laws.FnExactThreeRows", spec := "fnExactThreeRows", apart := false, narrowed := true }
def FnExactThreeRowsUptoSaid : Prop := fnExactThreeRowsUptoRow.holds Try.pinned (OpenSpec.upto fnExactThreeRowsSpec)

/-- 'laws.FnExactRegionBox', WHERE WHAT IT READS IS OF BULK AT MOST 1048576: true; the input reads as it did. -/
def fnExactRegionBoxUptoRow : OpenClaim := { program := "ytkaikpffdgamfaa", sum := "aeae8879ed9262cddf7c6a6e23e199cb75f42b8294deb24f6914a6779603745a", func := "loop.example/dominotilings/laws.FnExactRegionBox", spec := "fnExactRegionBox", apart := false, narrowed := true }
def FnExactRegionBoxUptoSaid : Prop := fnExactRegionBoxUptoRow.holds Try.pinned (OpenSpec.upto fnExactRegionBoxSpec)

/-- 'laws.FnExactRegionValid', WHERE WHAT IT READS IS OF BULK AT MOST 1048576: true; the input reads as it did. -/
def fnExactRegionValidUptoRow : OpenClaim := { program := "ytkaikpffdgamfaa", sum := "aeae8879ed9262cddf7c6a6e23e199cb75f42b8294deb24f6914a6779603745a", func := "loop.example/dominotilings/laws.FnExactRegionValid", spec := "fnExactRegionValid", apart := false, narrowed := true }
def FnExactRegionValidUptoSaid : Prop := fnExactRegionValidUptoRow.holds Try.pinned (OpenSpec.upto fnExactRegionValidSpec)

/-- 'laws.FnExactRegionAt', WHERE WHAT IT READS IS OF BULK AT MOST 1048576: true; the input reads as it did. -/
def fnExactRegionAtUptoRow : OpenClaim := { program := "ytkaikpffdgamfaa", sum := "aeae8879ed9262cddf7c6a6e23e199cb75f42b8294deb24f6914a6779603745a", func := "loop.example/dominotilings/laws.FnExactRegionAt", spec := "fnExactRegionAt", apart := false, narrowed := true }
def FnExactRegionAtUptoSaid : Prop := fnExactRegionAtUptoRow.holds Try.pinned (OpenSpec.upto fnExactRegionAtSpec)

/-- 'laws.FnExactCellsMany', WHERE WHAT IT READS IS OF BULK AT MOST 1048576: true; the input reads as it did. -/
def fnExactCellsManyUptoRow : OpenClaim := { program := "ytkaikpffdgamfaa", sum := "aeae8879ed9262cddf7c6a6e23e199cb75f42b8294deb24f6914a6779603745a", func := "loop.example/dominotilings/laws.FnExactCellsMany", spec := "fnExactCellsMany", apart := false, narrowed := true }
def FnExactCellsManyUptoSaid : Prop := fnExactCellsManyUptoRow.holds Try.pinned (OpenSpec.upto fnExactCellsManySpec)

/-- 'laws.FnExactMatrixValid', WHERE WHAT IT READS IS OF BULK AT MOST 1048576: true; the input reads as it did. -/
def fnExactMatrixValidUptoRow : OpenClaim := { program := "ytkaikpffdgamfaa", sum := "aeae8879ed9262cddf7c6a6e23e199cb75f42b8294deb24f6914a6779603745a", func := "loop.example/dominotilings/laws.FnExactMatrixValid", spec := "fnExactMatrixValid", unfollowed := true, recurses := true, apart := false, narrowed := true }
def FnExactMatrixValidUptoSaid : Prop := fnExactMatrixValidUptoRow.holds Try.pinned (OpenSpec.upto fnExactMatrixValidSpec)

/-- 'laws.FnExactCornerMany', WHERE WHAT IT READS IS OF BULK AT MOST 1048576: true; the input reads as it did. -/
def fnExactCornerManyUptoRow : OpenClaim := { program := "ytkaikpffdgamfaa", sum := "aeae8879ed9262cddf7c6a6e23e199cb75f42b8294deb24f6914a6779603745a", func := "loop.example/dominotilings/laws.FnExactCornerMany", spec := "fnExactCornerMany", apart := false, narrowed := true }
def FnExactCornerManyUptoSaid : Prop := fnExactCornerManyUptoRow.holds Try.pinned (OpenSpec.upto fnExactCornerManySpec)

/-- 'laws.FnRegionValid', WHERE WHAT IT READS IS OF BULK AT MOST 1048576: true; the input reads as it did. -/
def fnRegionValidUptoRow : OpenClaim := { program := "ytkaikpffdgamfaa", sum := "aeae8879ed9262cddf7c6a6e23e199cb75f42b8294deb24f6914a6779603745a", func := "loop.example/dominotilings/laws.FnRegionValid", spec := "fnRegionValid", apart := false, narrowed := true }
def FnRegionValidUptoSaid : Prop := fnRegionValidUptoRow.holds Try.pinned (OpenSpec.upto fnRegionValidSpec)

/-- 'laws.FnRegionAt', WHERE WHAT IT READS IS OF BULK AT MOST 1048576: true; the input reads as it did. -/
def fnRegionAtUptoRow : OpenClaim := { program := "ytkaikpffdgamfaa", sum := "aeae8879ed9262cddf7c6a6e23e199cb75f42b8294deb24f6914a6779603745a", func := "loop.example/dominotilings/laws.FnRegionAt", spec := "fnRegionAt", apart := false, narrowed := true }
def FnRegionAtUptoSaid : Prop := fnRegionAtUptoRow.holds Try.pinned (OpenSpec.upto fnRegionAtSpec)

/-- 'laws.FnExactDarkMany', WHERE WHAT IT READS IS OF BULK AT MOST 1048576: true; the input reads as it did. -/
def fnExactDarkManyUptoRow : OpenClaim := { program := "ytkaikpffdgamfaa", sum := "aeae8879ed9262cddf7c6a6e23e199cb75f42b8294deb24f6914a6779603745a", func := "loop.example/dominotilings/laws.FnExactDarkMany", spec := "fnExactDarkMany", apart := false, narrowed := true }
def FnExactDarkManyUptoSaid : Prop := fnExactDarkManyUptoRow.holds Try.pinned (OpenSpec.upto fnExactDarkManySpec)

end Rows
end Go.Proofs.Ytkaikpffdgamfaa
