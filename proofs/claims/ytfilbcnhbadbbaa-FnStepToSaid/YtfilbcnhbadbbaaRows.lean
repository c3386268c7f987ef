/-
  No cell of these rows narrows 'for every input' (looked for: loops, veiled, ifaces, maps, wideKeys, modest, calm, conditions, laid).
  DERIVED. THE GIVEN ROWS OF THIS SEAT. 12 by the template 'for every input the law returns true; each argument reads behind the call as it read before'; 0 by the template 'total and deterministic' (their statements: YtfilbcnhbadbbaaTotals.lean).
  GIVEN WITH THE SEED: the statements are not yours to turn. If you find one false, say at which input.
  Laid BY PROGRAM, IN A SANDBOX (cutbox-rows.mjs): the forced cells as the released guide's own fill.sh prints them over the translation 475916dcfde26dd9… (all of the seat's roots in one cut). By AI agents, Wed Nov 11 2026. No macro, syntax, notation, axiom, sorry.
-/
import Derived.Test.YtfilbcnhbadbbaaChecked
import GoSem.Claim
import GoSem.ClaimJoined
import GoSem.ClaimMapViews
import Derived.JoinedTies
import Derived.KernelRfl
namespace Go.Proofs.Ytfilbcnhbadbbaa
/- THE CELL 'sum', in the pinned program and in every row, IS THE sha256 OF THE DUMP (.gsa) THAT YtfilbcnhbadbbaaProg.lean LOADS. Nothing in Lean hashes anything: it is a label: what it is worth is what the hold of that sum in a sandbox is worth. -/
noncomputable def Try.pinned : Pinned := { name := "ytfilbcnhbadbbaa", sum := "475916dcfde26dd9dff3d0b4b5406d26c09c276ab75215da85479a4ced040fd9", checked := Try.checked }
namespace Rows
def none {H : Type} : Left H := { results := [], args := [] }

/-- 'laws.FnStepTo': WHATEVER THE INPUT: true; the input reads as it did. -/
def fnStepToSpec : ChangeSpec := { name := "fnStepTo", fn := fun _ => fun
  | [d] => { results := [.lit (.bool true)], args := [d] }
  | _ => none }
def fnStepToRow : OpenClaim := { program := "ytfilbcnhbadbbaa", sum := "475916dcfde26dd9dff3d0b4b5406d26c09c276ab75215da85479a4ced040fd9", func := "loop.example/dominotilings/laws.FnStepTo", spec := "fnStepTo", apart := false }
def FnStepToSaid : Prop := fnStepToRow.holds Try.pinned (OpenSpec.ofChange fnStepToSpec)

/-- ITS FALSE NEIGHBOUR: 'it returns false'. Refute it at one input. -/
def fnStepToWrong : ChangeSpec := { name := "fnStepTo", fn := fun _ => fun
  | [d] => { results := [.lit (.bool false)], args := [d] }
  | _ => none }
def FnStepToWrongFalsely : Prop := fnStepToRow.holds Try.pinned (OpenSpec.ofChange fnStepToWrong)

/-- 'laws.FnDarkMany': WHATEVER THE INPUT: true; the input reads as it did. -/
def fnDarkManySpec : ChangeSpec := { name := "fnDarkMany", fn := fun _ => fun
  | [d] => { results := [.lit (.bool true)], args := [d] }
  | _ => none }
def fnDarkManyRow : OpenClaim := { program := "ytfilbcnhbadbbaa", sum := "475916dcfde26dd9dff3d0b4b5406d26c09c276ab75215da85479a4ced040fd9", func := "loop.example/dominotilings/laws.FnDarkMany", spec := "fnDarkMany", unfollowed := true, recurses := true, apart := false }
def FnDarkManySaid : Prop := fnDarkManyRow.holds Try.pinned (OpenSpec.ofChange fnDarkManySpec)

/-- ITS FALSE NEIGHBOUR: 'it returns false'. Refute it at one input. -/
def fnDarkManyWrong : ChangeSpec := { name := "fnDarkMany", fn := fun _ => fun
  | [d] => { results := [.lit (.bool false)], args := [d] }
  | _ => none }
def FnDarkManyWrongFalsely : Prop := fnDarkManyRow.holds Try.pinned (OpenSpec.ofChange fnDarkManyWrong)

/-- 'laws.FnCellsMany': WHATEVER THE INPUT: true; the input reads as it did. -/
def fnCellsManySpec : ChangeSpec := { name := "fnCellsMany", fn := fun _ => fun
  | [d] => { results := [.lit (.bool true)], args := [d] }
  | _ => none }
def fnCellsManyRow : OpenClaim := { program := "ytfilbcnhbadbbaa", sum := "475916dcfde26dd9dff3d0b4b5406d26c09c276ab75215da85479a4ced040fd9", func := "loop.example/dominotilings/laws.FnCellsMany", spec := "fnCellsMany", apart := false }
def FnCellsManySaid : Prop := fnCellsManyRow.holds Try.pinned (OpenSpec.ofChange fnCellsManySpec)

/-- ITS FALSE NEIGHBOUR: 'it returns false'. Refute it at one input. -/
def fnCellsManyWrong : ChangeSpec := { name := "fnCellsMany", fn := fun _ => fun
  | [d] => { results := [.lit (.bool false)], args := [d] }
  | _ => none }
def FnCellsManyWrongFalsely : Prop := fnCellsManyRow.holds Try.pinned (OpenSpec.ofChange fnCellsManyWrong)

/-- 'laws.FnExactHolesMany': WHATEVER THE INPUT: true; the input reads as it did. -/
def fnExactHolesManySpec : ChangeSpec := { name := "fnExactHolesMany", fn := fun _ => fun
  | [d] => { results := [.lit (.bool true)], args := [d] }
  | _ => none }
def fnExactHolesManyRow : OpenClaim := { program := "ytfilbcnhbadbbaa", sum := "475916dcfde26dd9dff3d0b4b5406d26c09c276ab75215da85479a4ced040fd9", func := "loop.example/dominotilings/laws.FnExactHolesMany", spec := "fnExactHolesMany", unfollowed := true, recurses := true, apart := false }
def FnExactHolesManySaid : Prop := fnExactHolesManyRow.holds Try.pinned (OpenSpec.ofChange fnExactHolesManySpec)

/-- ITS FALSE NEIGHBOUR: 'it returns false'. Refute it at one input. -/
def fnExactHolesManyWrong : ChangeSpec := { name := "fnExactHolesMany", fn := fun _ => fun
  | [d] => { results := [.lit (.bool false)], args := [d] }
  | _ => none }
def FnExactHolesManyWrongFalsely : Prop := fnExactHolesManyRow.holds Try.pinned (OpenSpec.ofChange fnExactHolesManyWrong)

/-- 'laws.FnExactLaidOk': WHATEVER THE INPUT: true; the input reads as it did. -/
def fnExactLaidOkSpec : ChangeSpec := { name := "fnExactLaidOk", fn := fun _ => fun
  | [d1, d2] => { results := [.lit (.bool true)], args := [d1, d2] }
  | _ => none }
def fnExactLaidOkRow : OpenClaim := { program := "ytfilbcnhbadbbaa", sum := "475916dcfde26dd9dff3d0b4b5406d26c09c276ab75215da85479a4ced040fd9", func := "loop.example/dominotilings/laws.FnExactLaidOk", spec := "fnExactLaidOk", apart := false }
def FnExactLaidOkSaid : Prop := fnExactLaidOkRow.holds Try.pinned (OpenSpec.ofChange fnExactLaidOkSpec)

/-- ITS FALSE NEIGHBOUR: 'it returns false'. Refute it at one input. -/
def fnExactLaidOkWrong : ChangeSpec := { name := "fnExactLaidOk", fn := fun _ => fun
  | [d1, d2] => { results := [.lit (.bool false)], args := [d1, d2] }
  | _ => none }
def FnExactLaidOkWrongFalsely : Prop := fnExactLaidOkRow.holds Try.pinned (OpenSpec.ofChange fnExactLaidOkWrong)

/-- 'laws.FnExactTilingOk': WHATEVER THE INPUT: true; the input reads as it did. -/
def fnExactTilingOkSpec : ChangeSpec := { name := "fnExactTilingOk", fn := fun _ => fun
  | [d1, d2] => { results := [.lit (.bool true)], args := [d1, d2] }
  | _ => none }
def fnExactTilingOkRow : OpenClaim := { program := "ytfilbcnhbadbbaa", sum := "475916dcfde26dd9dff3d0b4b5406d26c09c276ab75215da85479a4ced040fd9", func := "loop.example/dominotilings/laws.FnExactTilingOk", spec := "fnExactTilingOk", apart := false }
def FnExactTilingOkSaid : Prop := fnExactTilingOkRow.holds Try.pinned (OpenSpec.ofChange fnExactTilingOkSpec)

/-- ITS FALSE NEIGHBOUR: 'it returns false'. Refute it at one input. -/
def fnExactTilingOkWrong : ChangeSpec := { name := "fnExactTilingOk", fn := fun _ => fun
  | [d1, d2] => { results := [.lit (.bool false)], args := [d1, d2] }
  | _ => none }
def FnExactTilingOkWrongFalsely : Prop := fnExactTilingOkRow.holds Try.pinned (OpenSpec.ofChange fnExactTilingOkWrong)

/-- 'laws.FnExactPartsMany': WHATEVER THE INPUT: true; the input reads as it did. -/
def fnExactPartsManySpec : ChangeSpec := { name := "fnExactPartsMany", fn := fun _ => fun
  | [d] => { results := [.lit (.bool true)], args := [d] }
  | _ => none }
def fnExactPartsManyRow : OpenClaim := { program := "ytfilbcnhbadbbaa", sum := "475916dcfde26dd9dff3d0b4b5406d26c09c276ab75215da85479a4ced040fd9", func := "loop.example/dominotilings/laws.FnExactPartsMany", spec := "fnExactPartsMany", apart := false }
def FnExactPartsManySaid : Prop := fnExactPartsManyRow.holds Try.pinned (OpenSpec.ofChange fnExactPartsManySpec)

/-- ITS FALSE NEIGHBOUR: 'it returns false'. Refute it at one input. -/
def fnExactPartsManyWrong : ChangeSpec := { name := "fnExactPartsMany", fn := fun _ => fun
  | [d] => { results := [.lit (.bool false)], args := [d] }
  | _ => none }
def FnExactPartsManyWrongFalsely : Prop := fnExactPartsManyRow.holds Try.pinned (OpenSpec.ofChange fnExactPartsManyWrong)

/-- 'laws.FnExactPartsOf': WHATEVER THE INPUT: true; the input reads as it did. -/
def fnExactPartsOfSpec : ChangeSpec := { name := "fnExactPartsOf", fn := fun _ => fun
  | [d] => { results := [.lit (.bool true)], args := [d] }
  | _ => none }
def fnExactPartsOfRow : OpenClaim := { program := "ytfilbcnhbadbbaa", sum := "475916dcfde26dd9dff3d0b4b5406d26c09c276ab75215da85479a4ced040fd9", func := "loop.example/dominotilings/laws.FnExactPartsOf", spec := "fnExactPartsOf", apart := false }
def FnExactPartsOfSaid : Prop := fnExactPartsOfRow.holds Try.pinned (OpenSpec.ofChange fnExactPartsOfSpec)

/-- ITS FALSE NEIGHBOUR: 'it returns false'. Refute it at one input. -/
def fnExactPartsOfWrong : ChangeSpec := { name := "fnExactPartsOf", fn := fun _ => fun
  | [d] => { results := [.lit (.bool false)], args := [d] }
  | _ => none }
def FnExactPartsOfWrongFalsely : Prop := fnExactPartsOfRow.holds Try.pinned (OpenSpec.ofChange fnExactPartsOfWrong)

/-- 'laws.FnExactPartRegion': WHATEVER THE INPUT: true; the input reads as it did. -/
def fnExactPartRegionSpec : ChangeSpec := { name := "fnExactPartRegion", fn := fun _ => fun
  | [d1, d2] => { results := [.lit (.bool true)], args := [d1, d2] }
  | _ => none }
def fnExactPartRegionRow : OpenClaim := { program := "ytfilbcnhbadbbaa", sum := "475916dcfde26dd9dff3d0b4b5406d26c09c276ab75215da85479a4ced040fd9", func := "loop.example/dominotilings/laws.FnExactPartRegion", spec := "fnExactPartRegion", apart := false }
def FnExactPartRegionSaid : Prop := fnExactPartRegionRow.holds Try.pinned (OpenSpec.ofChange fnExactPartRegionSpec)

/-- ITS FALSE NEIGHBOUR: 'it returns false'. Refute it at one input. -/
def fnExactPartRegionWrong : ChangeSpec := { name := "fnExactPartRegion", fn := fun _ => fun
  | [d1, d2] => { results := [.lit (.bool false)], args := [d1, d2] }
  | _ => none }
def FnExactPartRegionWrongFalsely : Prop := fnExactPartRegionRow.holds Try.pinned (OpenSpec.ofChange fnExactPartRegionWrong)

/-- 'laws.FnExactFlatMany': WHATEVER THE INPUT: true; the input reads as it did. -/
def fnExactFlatManySpec : ChangeSpec := { name := "fnExactFlatMany", fn := fun _ => fun
  | [d1, d2] => { results := [.lit (.bool true)], args := [d1, d2] }
  | _ => none }
def fnExactFlatManyRow : OpenClaim := { program := "ytfilbcnhbadbbaa", sum := "475916dcfde26dd9dff3d0b4b5406d26c09c276ab75215da85479a4ced040fd9", func := "loop.example/dominotilings/laws.FnExactFlatMany", spec := "fnExactFlatMany", apart := false }
def FnExactFlatManySaid : Prop := fnExactFlatManyRow.holds Try.pinned (OpenSpec.ofChange fnExactFlatManySpec)

/-- ITS FALSE NEIGHBOUR: 'it returns false'. Refute it at one input. -/
def fnExactFlatManyWrong : ChangeSpec := { name := "fnExactFlatMany", fn := fun _ => fun
  | [d1, d2] => { results := [.lit (.bool false)], args := [d1, d2] }
  | _ => none }
def FnExactFlatManyWrongFalsely : Prop := fnExactFlatManyRow.holds Try.pinned (OpenSpec.ofChange fnExactFlatManyWrong)

/-- 'laws.FnExactLaidMany': WHATEVER THE INPUT: true; the input reads as it did. -/
def fnExactLaidManySpec : ChangeSpec := { name := "fnExactLaidMany", fn := fun _ => fun
  | [d1, d2] => { results := [.lit (.bool true)], args := [d1, d2] }
  | _ => none }
def fnExactLaidManyRow : OpenClaim := { program := "ytfilbcnhbadbbaa", sum := "475916dcfde26dd9dff3d0b4b5406d26c09c276ab75215da85479a4ced040fd9", func := "loop.example/dominotilings/laws.FnExactLaidMany", spec := "fnExactLaidMany", apart := false }
def FnExactLaidManySaid : Prop := fnExactLaidManyRow.holds Try.pinned (OpenSpec.ofChange fnExactLaidManySpec)

/-- ITS FALSE NEIGHBOUR: 'it returns false'. Refute it at one input. -/
def fnExactLaidManyWrong : ChangeSpec := { name := "fnExactLaidMany", fn := fun _ => fun
  | [d1, d2] => { results := [.lit (.bool false)], args := [d1, d2] }
  | _ => none }
def FnExactLaidManyWrongFalsely : Prop := fnExactLaidManyRow.holds Try.pinned (OpenSpec.ofChange fnExactLaidManyWrong)

/-- 'laws.FnExactFaultsOf': WHATEVER THE INPUT: true; the input reads as it did. -/
def fnExactFaultsOfSpec : ChangeSpec := { name := "fnExactFaultsOf", fn := fun _ => fun
  | [d1, d2] => { results := [.lit (.bool true)], args := [d1, d2] }
  | _ => none }
def fnExactFaultsOfRow : OpenClaim := { program := "ytfilbcnhbadbbaa", sum := "475916dcfde26dd9dff3d0b4b5406d26c09c276ab75215da85479a4ced040fd9", func := "loop.example/dominotilings/laws.FnExactFaultsOf", spec := "fnExactFaultsOf", apart := false }
def FnExactFaultsOfSaid : Prop := fnExactFaultsOfRow.holds Try.pinned (OpenSpec.ofChange fnExactFaultsOfSpec)

/-- ITS FALSE NEIGHBOUR: 'it returns false'. Refute it at one input. -/
def fnExactFaultsOfWrong : ChangeSpec := { name := "fnExactFaultsOf", fn := fun _ => fun
  | [d1, d2] => { results := [.lit (.bool false)], args := [d1, d2] }
  | _ => none }
def FnExactFaultsOfWrongFalsely : Prop := fnExactFaultsOfRow.holds Try.pinned (OpenSpec.ofChange fnExactFaultsOfWrong)

/- THE SECOND FORM. 'bulk': how many values and letters a reading holds, each counted each time it is reached (what is shared counts as often as it is met; a slice's spare places count too). A statement '..UptoSaid' is the law's where the arguments, and the package variables that the reading takes, are together of bulk at most 1048576: NARROWER than '..Said'. Prove '..Said' where nothing that the law and all that it calls make is longer than what came in: it says more and counts as full. Else prove '..UptoSaid'. A law counts once. -/
mutual
def uptoBulk {H : Type} : DataW H → Nat
  | .lit (.string bytes) => bytes.length + 1
  | .lit _ => 1
  | .nil => 1
  | .ptr d => uptoBulk d + 1
  | .slice elems spare => uptoBulkAll elems + uptoBulkAll spare + 1
  | .agg parts => uptoBulkAll parts + 1
  | .iface _ d => uptoBulk d + 1
  | .map entries => uptoBulkEntries entries + 1
  | .held _ => 1
def uptoBulkAll {H : Type} : List (DataW H) → Nat
  | [] => 0
  | d :: r => uptoBulk d + uptoBulkAll r
def uptoBulkEntries {H : Type} : List (Lit × DataW H) → Nat
  | [] => 0
  | x :: r => uptoBulkEntry x + uptoBulkEntries r
def uptoBulkEntry {H : Type} : Lit × DataW H → Nat
  | (.string bytes, d) => bytes.length + uptoBulk d + 1
  | (_, d) => uptoBulk d + 1
 end
def uptoSmall : (H : Type) → List (DataW H) → Bool := fun _ ds => decide (uptoBulkAll ds ≤ 1048576)
def OpenSpec.upto (s : _root_.Go.ChangeSpec) : _root_.Go.OpenSpec := { _root_.Go.OpenSpec.ofChange s with cond := some uptoSmall }

/-- 'laws.FnStepTo', WHERE WHAT IT READS IS OF BULK AT MOST 1048576: true; the input reads as it did. -/
def fnStepToUptoRow : OpenClaim := { program := "ytfilbcnhbadbbaa", sum := "475916dcfde26dd9dff3d0b4b5406d26c09c276ab75215da85479a4ced040fd9", func := "loop.example/dominotilings/laws.FnStepTo", spec := "fnStepTo", apart := false, narrowed := true }
def FnStepToUptoSaid : Prop := fnStepToUptoRow.holds Try.pinned (OpenSpec.upto fnStepToSpec)

/-- 'laws.FnDarkMany', WHERE WHAT IT READS IS OF BULK AT MOST 1048576: true; the input reads as it did. -/
def fnDarkManyUptoRow : OpenClaim := { program := "ytfilbcnhbadbbaa", sum := "475916dcfde26dd9dff3d0b4b5406d26c09c276ab75215da85479a4ced040fd9", func := "loop.example/dominotilings/laws.FnDarkMany", spec := "fnDarkMany", unfollowed := true, recurses := true, apart := false, narrowed := true }
def FnDarkManyUptoSaid : Prop := fnDarkManyUptoRow.holds Try.pinned (OpenSpec.upto fnDarkManySpec)

/-- 'laws.FnCellsMany', WHERE WHAT IT READS IS OF BULK AT MOST 1048576: true; the input reads as it did. -/
def fnCellsManyUptoRow : OpenClaim := { program := "ytfilbcnhbadbbaa", sum := "475916dcfde26dd9dff3d0b4b5406d26c09c276ab75215da85479a4ced040fd9", func := "loop.example/dominotilings/laws.FnCellsMany", spec := "fnCellsMany", apart := false, narrowed := true }
def FnCellsManyUptoSaid : Prop := fnCellsManyUptoRow.holds Try.pinned (OpenSpec.upto fnCellsManySpec)

/-- 'laws.FnExactHolesMany', WHERE WHAT IT READS IS OF BULK AT MOST 1048576: true; the input reads as it did. -/
def fnExactHolesManyUptoRow : OpenClaim := { program := "ytfilbcnhbadbbaa", sum := "475916dcfde26dd9dff3d0b4b5406d26c09c276ab75215da85479a4ced040fd9", func := "loop.example/dominotilings/laws.FnExactHolesMany", spec := "fnExactHolesMany", unfollowed := true, recurses := true, apart := false, narrowed := true }
def FnExactHolesManyUptoSaid : Prop := fnExactHolesManyUptoRow.holds Try.pinned (OpenSpec.upto fnExactHolesManySpec)

/-- 'laws.FnExactLaidOk', WHERE WHAT IT READS IS OF BULK AT MOST 1048576: true; the input reads as it did. -/
def fnExactLaidOkUptoRow : OpenClaim := { program := "ytfilbcnhbadbbaa", sum := "475916dcfde26dd9dff3d0b4b5406d26c09c276ab75215da85479a4ced040fd9", func := "loop.example/dominotilings/laws.FnExactLaidOk", spec := "fnExactLaidOk", apart := false, narrowed := true }
def FnExactLaidOkUptoSaid : Prop := fnExactLaidOkUptoRow.holds Try.pinned (OpenSpec.upto fnExactLaidOkSpec)

/-- 'laws.FnExactTilingOk', WHERE WHAT IT READS IS OF BULK AT MOST 1048576: true; the input reads as it did. -/
def fnExactTilingOkUptoRow : OpenClaim := { program := "ytfilbcnhbadbbaa", sum := "475916dcfde26dd9dff3d0b4b5406d26c09c276ab75215da85479a4ced040fd9", func := "loop.example/dominotilings/laws.FnExactTilingOk", spec := "fnExactTilingOk", apart := false, narrowed := true }
def FnExactTilingOkUptoSaid : Prop := fnExactTilingOkUptoRow.holds Try.pinned (OpenSpec.upto fnExactTilingOkSpec)

/-- 'laws.FnExactPartsMany', WHERE WHAT IT READS IS OF BULK AT MOST 1048576: true; the input reads as it did. -/
def fnExactPartsManyUptoRow : OpenClaim := { program := "ytfilbcnhbadbbaa", sum := "475916dcfde26dd9dff3d0b4b5406d26c09c276ab75215da85479a4ced040fd9", func := "loop.example/dominotilings/laws.FnExactPartsMany", spec := "fnExactPartsMany", apart := false, narrowed := true }
def FnExactPartsManyUptoSaid : Prop := fnExactPartsManyUptoRow.holds Try.pinned (OpenSpec.upto fnExactPartsManySpec)

/-- 'laws.FnExactPartsOf', WHERE WHAT IT READS IS OF BULK AT MOST 1048576: true; the input reads as it did. -/
def fnExactPartsOfUptoRow : OpenClaim := { program := "ytfilbcnhbadbbaa", sum := "475916dcfde26dd9dff3d0b4b5406d26c09c276ab75215da85479a4ced040fd9", func := "loop.example/dominotilings/laws.FnExactPartsOf", spec := "fnExactPartsOf", apart := false, narrowed := true }
def FnExactPartsOfUptoSaid : Prop := fnExactPartsOfUptoRow.holds Try.pinned (OpenSpec.upto fnExactPartsOfSpec)

/-- 'laws.FnExactPartRegion', WHERE WHAT IT READS IS OF BULK AT MOST 1048576: true; the input reads as it did. -/
def fnExactPartRegionUptoRow : OpenClaim := { program := "ytfilbcnhbadbbaa", sum := "475916dcfde26dd9dff3d0b4b5406d26c09c276ab75215da85479a4ced040fd9", func := "loop.example/dominotilings/laws.FnExactPartRegion", spec := "fnExactPartRegion", apart := false, narrowed := true }
def FnExactPartRegionUptoSaid : Prop := fnExactPartRegionUptoRow.holds Try.pinned (OpenSpec.upto fnExactPartRegionSpec)

/-- 'laws.FnExactFlatMany', WHERE WHAT IT READS IS OF BULK AT MOST 1048576: true; the input reads as it did. -/
def fnExactFlatManyUptoRow : OpenClaim := { program := "ytfilbcnhbadbbaa", sum := "475916dcfde26dd9dff3d0b4b5406d26c09c276ab75215da85479a4ced040fd9", func := "loop.example/dominotilings/laws.FnExactFlatMany", spec := "fnExactFlatMany", apart := false, narrowed := true }
def FnExactFlatManyUptoSaid : Prop := fnExactFlatManyUptoRow.holds Try.pinned (OpenSpec.upto fnExactFlatManySpec)

/-- 'laws.FnExactLaidMany', WHERE WHAT IT READS IS OF BULK AT MOST 1048576: true; the input reads as it did. -/
def fnExactLaidManyUptoRow : OpenClaim := { program := "ytfilbcnhbadbbaa", sum := "475916dcfde26dd9dff3d0b4b5406d26c09c276ab75215da85479a4ced040fd9", func := "loop.example/dominotilings/laws.FnExactLaidMany", spec := "fnExactLaidMany", apart := false, narrowed := true }
def FnExactLaidManyUptoSaid : Prop := fnExactLaidManyUptoRow.holds Try.pinned (OpenSpec.upto fnExactLaidManySpec)

/-- 'laws.FnExactFaultsOf', WHERE WHAT IT READS IS OF BULK AT MOST 1048576: true; the input reads as it did. -/
def fnExactFaultsOfUptoRow : OpenClaim := { program := "ytfilbcnhbadbbaa", sum := "475916dcfde26dd9dff3d0b4b5406d26c09c276ab75215da85479a4ced040fd9", func := "loop.example/dominotilings/laws.FnExactFaultsOf", spec := "fnExactFaultsOf", apart := false, narrowed := true }
def FnExactFaultsOfUptoSaid : Prop := fnExactFaultsOfUptoRow.holds Try.pinned (OpenSpec.upto fnExactFaultsOfSpec)

end Rows
end Go.Proofs.Ytfilbcnhbadbbaa
