/-
  No cell of these rows narrows 'for every input' (looked for: loops, veiled, ifaces, maps, wideKeys, modest, calm, conditions, laid).
  DERIVED. THE GIVEN ROWS OF THIS SEAT. 9 by the template 'for every input the law returns true; each argument reads behind the call as it read before'; 0 by the template 'total and deterministic' (their statements: YtepnhhehfkcgkaaTotals.lean).
  GIVEN WITH THE SEED: the statements are not yours to turn. If you find one false, say at which input.
  Laid BY PROGRAM, IN A SANDBOX (cutbox-rows.mjs): the forced cells as the released guide's own fill.sh prints them over the translation f1784a757d6172b6… (all of the seat's roots in one cut). By AI agents, Wed Nov 11 2026. No macro, syntax, notation, axiom, sorry.
-/
import Derived.Test.YtepnhhehfkcgkaaChecked
import GoSem.Claim
import GoSem.ClaimJoined
import GoSem.ClaimMapViews
import Derived.JoinedTies
import Derived.KernelRfl
namespace Go.Proofs.Ytepnhhehfkcgkaa
/- THE CELL 'sum', in the pinned program and in every row, IS THE sha256 OF THE DUMP (.gsa) THAT YtepnhhehfkcgkaaProg.lean LOADS. Nothing in Lean hashes anything: it is a label: what it is worth is what the hold of that sum in a sandbox is worth. -/
noncomputable def Try.pinned : Pinned := { name := "ytepnhhehfkcgkaa", sum := "f1784a757d6172b670a7b1ae7aed3db6b032ec8f8bb27a5d672baeff93198d71", checked := Try.checked }
namespace Rows
def none {H : Type} : Left H := { results := [], args := [] }

/-- 'laws.FnMatrixValid': WHATEVER THE INPUT: true; the input reads as it did. -/
def fnMatrixValidSpec : ChangeSpec := { name := "fnMatrixValid", fn := fun _ => fun
  | [d] => { results := [.lit (.bool true)], args := [d] }
  | _ => none }
def fnMatrixValidRow : OpenClaim := { program := "ytepnhhehfkcgkaa", sum := "f1784a757d6172b670a7b1ae7aed3db6b032ec8f8bb27a5d672baeff93198d71", func := "loop.example/dominotilings/laws.FnMatrixValid", spec := "fnMatrixValid", unfollowed := true, recurses := true, apart := false }
def FnMatrixValidSaid : Prop := fnMatrixValidRow.holds Try.pinned (OpenSpec.ofChange fnMatrixValidSpec)

/-- ITS FALSE NEIGHBOUR: 'it returns false'. Refute it at one input. -/
def fnMatrixValidWrong : ChangeSpec := { name := "fnMatrixValid", fn := fun _ => fun
  | [d] => { results := [.lit (.bool false)], args := [d] }
  | _ => none }
def FnMatrixValidWrongFalsely : Prop := fnMatrixValidRow.holds Try.pinned (OpenSpec.ofChange fnMatrixValidWrong)

/-- 'laws.FnExactDet': WHATEVER THE INPUT: true; the input reads as it did. -/
def fnExactDetSpec : ChangeSpec := { name := "fnExactDet", fn := fun _ => fun
  | [d] => { results := [.lit (.bool true)], args := [d] }
  | _ => none }
def fnExactDetRow : OpenClaim := { program := "ytepnhhehfkcgkaa", sum := "f1784a757d6172b670a7b1ae7aed3db6b032ec8f8bb27a5d672baeff93198d71", func := "loop.example/dominotilings/laws.FnExactDet", spec := "fnExactDet", unfollowed := true, recurses := true, apart := false }
def FnExactDetSaid : Prop := fnExactDetRow.holds Try.pinned (OpenSpec.ofChange fnExactDetSpec)

/-- ITS FALSE NEIGHBOUR: 'it returns false'. Refute it at one input. -/
def fnExactDetWrong : ChangeSpec := { name := "fnExactDet", fn := fun _ => fun
  | [d] => { results := [.lit (.bool false)], args := [d] }
  | _ => none }
def FnExactDetWrongFalsely : Prop := fnExactDetRow.holds Try.pinned (OpenSpec.ofChange fnExactDetWrong)

/-- 'laws.FnDarkMany': WHATEVER THE INPUT: true; the input reads as it did. -/
def fnDarkManySpec : ChangeSpec := { name := "fnDarkMany", fn := fun _ => fun
  | [d] => { results := [.lit (.bool true)], args := [d] }
  | _ => none }
def fnDarkManyRow : OpenClaim := { program := "ytepnhhehfkcgkaa", sum := "f1784a757d6172b670a7b1ae7aed3db6b032ec8f8bb27a5d672baeff93198d71", func := "loop.example/dominotilings/laws.FnDarkMany", spec := "fnDarkMany", unfollowed := true, recurses := true, apart := false }
def FnDarkManySaid : Prop := fnDarkManyRow.holds Try.pinned (OpenSpec.ofChange fnDarkManySpec)

/-- ITS FALSE NEIGHBOUR: 'it returns false'. Refute it at one input. -/
def fnDarkManyWrong : ChangeSpec := { name := "fnDarkMany", fn := fun _ => fun
  | [d] => { results := [.lit (.bool false)], args := [d] }
  | _ => none }
def FnDarkManyWrongFalsely : Prop := fnDarkManyRow.holds Try.pinned (OpenSpec.ofChange fnDarkManyWrong)

/-- 'laws.FnCellsMany': WHATEVER THE INPUT: true; the input reads as it did. -/
def fnCellsManySpec : ChangeSpec := { name := "fnCellsMany", fn := fun _ => fun
  | [d] => { results := [.lit (.bool true)], args := [d] }
  | _ => none }
def fnCellsManyRow : OpenClaim := { program := "ytepnhhehfkcgkaa", sum := "f1784a757d6172b670a7b1ae7aed3db6b032ec8f8bb27a5d672baeff93198d71", func := "loop.example/dominotilings/laws.FnCellsMany", spec := "fnCellsMany", apart := false }
def FnCellsManySaid : Prop := fnCellsManyRow.holds Try.pinned (OpenSpec.ofChange fnCellsManySpec)

/-- ITS FALSE NEIGHBOUR: 'it returns false'. Refute it at one input. -/
def fnCellsManyWrong : ChangeSpec := { name := "fnCellsMany", fn := fun _ => fun
  | [d] => { results := [.lit (.bool false)], args := [d] }
  | _ => none }
def FnCellsManyWrongFalsely : Prop := fnCellsManyRow.holds Try.pinned (OpenSpec.ofChange fnCellsManyWrong)

/-- 'laws.FnExactHolesMany': WHATEVER THE INPUT: true; the input reads as it did. -/
def fnExactHolesManySpec : ChangeSpec := { name := "fnExactHolesMany", fn := fun _ => fun
  | [d] => { results := [.lit (.bool true)], args := [d] }
  | _ => none }
def fnExactHolesManyRow : OpenClaim := { program := "ytepnhhehfkcgkaa", sum := "f1784a757d6172b670a7b1ae7aed3db6b032ec8f8bb27a5d672baeff93198d71", func := "loop.example/dominotilings/laws.FnExactHolesMany", spec := "fnExactHolesMany", unfollowed := true, recurses := true, apart := false }
def FnExactHolesManySaid : Prop := fnExactHolesManyRow.holds Try.pinned (OpenSpec.ofChange fnExactHolesManySpec)

/-- ITS FALSE NEIGHBOUR: 'it returns false'. Refute it at one input. -/
def fnExactHolesManyWrong : ChangeSpec := { name := "fnExactHolesMany", fn := fun _ => fun
  | [d] => { results := [.lit (.bool false)], args := [d] }
  | _ => none }
def FnExactHolesManyWrongFalsely : Prop := fnExactHolesManyRow.holds Try.pinned (OpenSpec.ofChange fnExactHolesManyWrong)

/-- 'laws.FnExactRegionText': WHATEVER THE INPUT: true; the input reads as it did. -/
def fnExactRegionTextSpec : ChangeSpec := { name := "fnExactRegionText", fn := fun _ => fun
  | [d] => { results := [.lit (.bool true)], args := [d] }
  | _ => none }
def fnExactRegionTextRow : OpenClaim := { program := "ytepnhhehfkcgkaa", sum := "f1784a757d6172b670a7b1ae7aed3db6b032ec8f8bb27a5d672baeff93198d71", func := "loop.example/dominotilings/laws.FnExactRegionText", spec := "fnExactRegionText", inPlace := ["internal/abi.NoEscape", "internal/bytealg.MakeNoZero"], unfollowed := true, recurses := true, apart := false }
def FnExactRegionTextSaid : Prop := fnExactRegionTextRow.holds Try.pinned (OpenSpec.ofChange fnExactRegionTextSpec)

/-- ITS FALSE NEIGHBOUR: 'it returns false'. Refute it at one input. -/
def fnExactRegionTextWrong : ChangeSpec := { name := "fnExactRegionText", fn := fun _ => fun
  | [d] => { results := [.lit (.bool false)], args := [d] }
  | _ => none }
def FnExactRegionTextWrongFalsely : Prop := fnExactRegionTextRow.holds Try.pinned (OpenSpec.ofChange fnExactRegionTextWrong)

/-- 'laws.FnExactLaidText': WHATEVER THE INPUT: true; the input reads as it did. -/
def fnExactLaidTextSpec : ChangeSpec := { name := "fnExactLaidText", fn := fun _ => fun
  | [d1, d2] => { results := [.lit (.bool true)], args := [d1, d2] }
  | _ => none }
def fnExactLaidTextRow : OpenClaim := { program := "ytepnhhehfkcgkaa", sum := "f1784a757d6172b670a7b1ae7aed3db6b032ec8f8bb27a5d672baeff93198d71", func := "loop.example/dominotilings/laws.FnExactLaidText", spec := "fnExactLaidText", inPlace := ["internal/abi.NoEscape", "internal/bytealg.MakeNoZero"], unfollowed := true, recurses := true, apart := false }
def FnExactLaidTextSaid : Prop := fnExactLaidTextRow.holds Try.pinned (OpenSpec.ofChange fnExactLaidTextSpec)

/-- ITS FALSE NEIGHBOUR: 'it returns false'. Refute it at one input. -/
def fnExactLaidTextWrong : ChangeSpec := { name := "fnExactLaidText", fn := fun _ => fun
  | [d1, d2] => { results := [.lit (.bool false)], args := [d1, d2] }
  | _ => none }
def FnExactLaidTextWrongFalsely : Prop := fnExactLaidTextRow.holds Try.pinned (OpenSpec.ofChange fnExactLaidTextWrong)

/-- 'laws.FnExactTilingTurn': WHATEVER THE INPUT: true; the input reads as it did. -/
def fnExactTilingTurnSpec : ChangeSpec := { name := "fnExactTilingTurn", fn := fun _ => fun
  | [d1, d2] => { results := [.lit (.bool true)], args := [d1, d2] }
  | _ => none }
def fnExactTilingTurnRow : OpenClaim := { program := "ytepnhhehfkcgkaa", sum := "f1784a757d6172b670a7b1ae7aed3db6b032ec8f8bb27a5d672baeff93198d71", func := "loop.example/dominotilings/laws.FnExactTilingTurn", spec := "fnExactTilingTurn", unfollowed := true, recurses := true, apart := false }
def FnExactTilingTurnSaid : Prop := fnExactTilingTurnRow.holds Try.pinned (OpenSpec.ofChange fnExactTilingTurnSpec)

/-- ITS FALSE NEIGHBOUR: 'it returns false'. Refute it at one input. -/
def fnExactTilingTurnWrong : ChangeSpec := { name := "fnExactTilingTurn", fn := fun _ => fun
  | [d1, d2] => { results := [.lit (.bool false)], args := [d1, d2] }
  | _ => none }
def FnExactTilingTurnWrongFalsely : Prop := fnExactTilingTurnRow.holds Try.pinned (OpenSpec.ofChange fnExactTilingTurnWrong)

/-- 'laws.FnExactTilingFlip': WHATEVER THE INPUT: true; the input reads as it did. -/
def fnExactTilingFlipSpec : ChangeSpec := { name := "fnExactTilingFlip", fn := fun _ => fun
  | [d1, d2] => { results := [.lit (.bool true)], args := [d1, d2] }
  | _ => none }
def fnExactTilingFlipRow : OpenClaim := { program := "ytepnhhehfkcgkaa", sum := "f1784a757d6172b670a7b1ae7aed3db6b032ec8f8bb27a5d672baeff93198d71", func := "loop.example/dominotilings/laws.FnExactTilingFlip", spec := "fnExactTilingFlip", unfollowed := true, recurses := true, apart := false }
def FnExactTilingFlipSaid : Prop := fnExactTilingFlipRow.holds Try.pinned (OpenSpec.ofChange fnExactTilingFlipSpec)

/-- ITS FALSE NEIGHBOUR: 'it returns false'. Refute it at one input. -/
def fnExactTilingFlipWrong : ChangeSpec := { name := "fnExactTilingFlip", fn := fun _ => fun
  | [d1, d2] => { results := [.lit (.bool false)], args := [d1, d2] }
  | _ => none }
def FnExactTilingFlipWrongFalsely : Prop := fnExactTilingFlipRow.holds Try.pinned (OpenSpec.ofChange fnExactTilingFlipWrong)

/- THE SECOND FORM. 'bulk': how many values and letters a reading holds, each counted each time it is reached (what is shared counts as often as it is met; a slice's spare places count too). A statement '..UptoSaid' is the law's where the arguments, and the package variables that the reading takes, are together of bulk at most 1048576: NARROWER than '..Said'. Prove '..Said' where nothing that the law and all that it calls make is longer than what came in: it says more and counts as full. Else prove '..UptoSaid'. A law counts once. -/
mutual
def uptoBulk {H : Type} : DataW H → Nat
  | .lit (.string bytes) => bytes.length + 1
  | .lit _ => 1
  | .nil => 1
  | .ptr d => uptoBulk d + 1
  | .slice elems spare => uptoBulkAll elems + uptoBulkAll spare + 1
  | .agg parts => uptoBulkAll parts + 1
  | .iface _ d => uptoBulk d + 1
  | .map entries => uptoBulkEntries entries + 1
  | .held _ => 1
def uptoBulkAll {H : Type} : List (DataW H) → Nat
  | [] => 0
  | d :: r => uptoBulk d + uptoBulkAll r
def uptoBulkEntries {H : Type} : List (Lit × DataW H) → Nat
  | [] => 0
  | x :: r => uptoBulkEntry x + uptoBulkEntries r
def uptoBulkEntry {H : Type} : Lit × DataW H → Nat
  | (.string bytes, d) => bytes.length + uptoBulk d + 1
  | (_, d) => uptoBulk d + 1
 end
def uptoSmall : (H : Type) → List (DataW H) → Bool := fun _ ds => decide (uptoBulkAll ds ≤ 1048576)
def OpenSpec.upto (s : _root_.Go.ChangeSpec) : _root_.Go.OpenSpec := { _root_.Go.OpenSpec.ofChange s with cond := some uptoSmall }

/-- 'laws.FnMatrixValid', WHERE WHAT IT READS IS OF BULK AT MOST 1048576: true; the input reads as it did. -/
def fnMatrixValidUptoRow : OpenClaim := { program := "ytepnhhehfkcgkaa", sum := "f1784a757d6172b670a7b1ae7aed3db6b032ec8f8bb27a5d672baeff93198d71", func := "loop.example/dominotilings/laws.FnMatrixValid", spec := "fnMatrixValid", unfollowed := true, recurses := true, apart := false, narrowed := true }
def FnMatrixValidUptoSaid : Prop := fnMatrixValidUptoRow.holds Try.pinned (OpenSpec.upto fnMatrixValidSpec)

/-- 'laws.FnExactDet', WHERE WHAT IT READS IS OF BULK AT MOST 1048576: true; the input reads as it did. -/
def fnExactDetUptoRow : OpenClaim := { program := "ytepnhhehfkcgkaa", sum := "f1784a757d6172b670a7b1ae7aed3db6b032ec8f8bb27a5d672baeff93198d71", func := "loop.example/dominotilings/laws.FnExactDet", spec := "fnExactDet", unfollowed := true, recurses := true, apart := false, narrowed := true }
def FnExactDetUptoSaid : Prop := fnExactDetUptoRow.holds Try.pinned (OpenSpec.upto fnExactDetSpec)

/-- 'laws.FnDarkMany', WHERE WHAT IT READS IS OF BULK AT MOST 1048576: true; the input reads as it did. -/
def fnDarkManyUptoRow : OpenClaim := { program := "ytepnhhehfkcgkaa", sum := "f1784a757d6172b670a7b1ae7aed3db6b032ec8f8bb27a5d672baeff93198d71", func := "loop.example/dominotilings/laws.FnDarkMany", spec := "fnDarkMany", unfollowed := true, recurses := true, apart := false, narrowed := true }
def FnDarkManyUptoSaid : Prop := fnDarkManyUptoRow.holds Try.pinned (OpenSpec.upto fnDarkManySpec)

/-- 'laws.FnCellsMany', WHERE WHAT IT READS IS OF BULK AT MOST 1048576: true; the input reads as it did. -/
def fnCellsManyUptoRow : OpenClaim := { program := "ytepnhhehfkcgkaa", sum := "f1784a757d6172b670a7b1ae7aed3db6b032ec8f8bb27a5d672baeff93198d71", func := "loop.example/dominotilings/laws.FnCellsMany", spec := "fnCellsMany", apart := false, narrowed := true }
def FnCellsManyUptoSaid : Prop := fnCellsManyUptoRow.holds Try.pinned (OpenSpec.upto fnCellsManySpec)

/-- 'laws.FnExactHolesMany', WHERE WHAT IT READS IS OF BULK AT MOST 1048576: true; the input reads as it did. -/
def fnExactHolesManyUptoRow : OpenClaim := { program := "ytepnhhehfkcgkaa", sum := "f1784a757d6172b670a7b1ae7aed3db6b032ec8f8bb27a5d672baeff93198d71", func := "loop.example/dominotilings/laws.FnExactHolesMany", spec := "fnExactHolesMany", unfollowed := true, recurses := true, apart := false, narrowed := true }
def FnExactHolesManyUptoSaid : Prop := fnExactHolesManyUptoRow.holds Try.pinned (OpenSpec.upto fnExactHolesManySpec)

/-- 'laws.FnExactRegionText', WHERE WHAT IT READS IS OF BULK AT MOST 1048576: true; the input reads as it did. -/
def fnExactRegionTextUptoRow : OpenClaim := { program := "ytepnhhehfkcgkaa", sum := "f1784a757d6172b670a7b1ae7aed3db6b032ec8f8bb27a5d672baeff93198d71", func := "loop.example/dominotilings/laws.FnExactRegionText", spec := "fnExactRegionText", inPlace := ["internal/abi.NoEscape", "internal/bytealg.MakeNoZero"], unfollowed := true, recurses := true, apart := false, narrowed := true }
def FnExactRegionTextUptoSaid : Prop := fnExactRegionTextUptoRow.holds Try.pinned (OpenSpec.upto fnExactRegionTextSpec)

/-- 'laws.FnExactLaidText', WHERE WHAT IT READS IS OF BULK AT MOST 1048576: true; the input reads as it did. -/
def fnExactLaidTextUptoRow : OpenClaim := { program := "ytepnhhehfkcgkaa", sum := "f1784a757d6172b670a7b1ae7aed3db6b032ec8f8bb27a5d672baeff93198d71", func := "loop.example/dominotilings/laws.FnExactLaidText", spec := "fnExactLaidText", inPlace := ["internal/abi.NoEscape", "internal/bytealg.MakeNoZero"], unfollowed := true, recurses := true, apart := false, narrowed := true }
def FnExactLaidTextUptoSaid : Prop := fnExactLaidTextUptoRow.holds Try.pinned (OpenSpec.upto fnExactLaidTextSpec)

/-- 'laws.FnExactTilingTurn', WHERE WHAT IT READS IS OF BULK AT MOST 1048576: true; the input reads as it did. -/
def fnExactTilingTurnUptoRow : OpenClaim := { program := "ytepnhhehfkcgkaa", sum := "f1784a757d6172b670a7b1ae7aed3db6b032ec8f8bb27a5d672baeff93198d71", func := "loop.example/dominotilings/laws.FnExactTilingTurn", spec := "fnExactTilingTurn", unfollowed := true, recurses := true, apart := false, narrowed := true }
def FnExactTilingTurnUptoSaid : Prop := fnExactTilingTurnUptoRow.holds Try.pinned (OpenSpec.upto fnExactTilingTurnSpec)

/-- 'laws.FnExactTilingFlip', WHERE WHAT IT READS IS OF BULK AT MOST 1048576: true; the input reads as it did. -/
def fnExactTilingFlipUptoRow : OpenClaim := { program := "ytepnhhehfkcgkaa", sum := "f1784a757d6172b670a7b1ae7aed3db6b032ec8f8bb27a5d672baeff93198d71", func := "loop.example/dominotilings/laws.FnExactTilingFlip", spec := "fnExactTilingFlip", unfollowed := true, recurses := true, apart := false, narrowed := true }
def FnExactTilingFlipUptoSaid : Prop := fnExactTilingFlipUptoRow.holds Try.pinned (OpenSpec.upto fnExactTilingFlipSpec)

end Rows
end Go.Proofs.Ytepnhhehfkcgkaa
