/-
  No cell of these rows narrows 'for every input' (looked for: loops, veiled, ifaces, maps, wideKeys, modest, calm, conditions, laid).
  DERIVED. THE GIVEN ROWS OF THIS SEAT. 12 by the template 'for every input the law returns true; each argument reads behind the call as it read before'; 0 by the template 'total and deterministic' (their statements: YtehfhmafmblmnaaTotals.lean).
  GIVEN WITH THE SEED: the statements are not yours to turn. If you find one false, say at which input.
  Laid BY PROGRAM, IN A SANDBOX (cutbox-rows.mjs): the forced cells as the released guide's own fill.sh prints them over the translation 3d2bd8fa7d771dd3… (all of the seat's roots in one cut). By AI agents, Wed Nov 11 2026. No macro, syntax, notation, axiom, sorry.
-/
import Derived.Test.YtehfhmafmblmnaaChecked
import GoSem.Claim
import GoSem.ClaimJoined
import GoSem.ClaimMapViews
import Derived.JoinedTies
import Derived.KernelRfl
namespace Go.Proofs.Ytehfhmafmblmnaa
/- THE CELL 'sum', in the pinned program and in every row, IS THE sha256 OF THE DUMP (.gsa) THAT YtehfhmafmblmnaaProg.lean LOADS. Nothing in Lean hashes anything: it is a label: what it is worth is what the hold of that sum in a sandbox is worth. -/
noncomputable def Try.pinned : Pinned := { name := "ytehfhmafmblmnaa", sum := "3d2bd8fa7d771dd31332b9df5fa890a652575f283d078a9d62379b58e2af8605", checked := Try.checked }
namespace Rows
def none {H : Type} : Left H := { results := [], args := [] }

/-- 'laws.FnExactBalanced': WHATEVER THE INPUT: true; the input reads as it did. -/
def fnExactBalancedSpec : ChangeSpec := { name := "fnExactBalanced", fn := fun _ => fun
  | [d] => { results := [.lit (.bool true)], args := [d] }
  | _ => none }
def fnExactBalancedRow : OpenClaim := { program := "ytehfhmafmblmnaa", sum := "3d2bd8fa7d771dd31332b9df5fa890a652575f283d078a9d62379b58e2af8605", func := "loop.example/dominotilings/laws.FnExactBalanced", spec := "fnExactBalanced", apart := false }
def FnExactBalancedSaid : Prop := fnExactBalancedRow.holds Try.pinned (OpenSpec.ofChange fnExactBalancedSpec)

/-- ITS FALSE NEIGHBOUR: 'it returns false'. Refute it at one input. -/
def fnExactBalancedWrong : ChangeSpec := { name := "fnExactBalanced", fn := fun _ => fun
  | [d] => { results := [.lit (.bool false)], args := [d] }
  | _ => none }
def FnExactBalancedWrongFalsely : Prop := fnExactBalancedRow.holds Try.pinned (OpenSpec.ofChange fnExactBalancedWrong)

/-- 'laws.FnExactStepTo': WHATEVER THE INPUT: true; the input reads as it did. -/
def fnExactStepToSpec : ChangeSpec := { name := "fnExactStepTo", fn := fun _ => fun
  | [d1, d2, d3] => { results := [.lit (.bool true)], args := [d1, d2, d3] }
  | _ => none }
def fnExactStepToRow : OpenClaim := { program := "ytehfhmafmblmnaa", sum := "3d2bd8fa7d771dd31332b9df5fa890a652575f283d078a9d62379b58e2af8605", func := "loop.example/dominotilings/laws.FnExactStepTo", spec := "fnExactStepTo", apart := false }
def FnExactStepToSaid : Prop := fnExactStepToRow.holds Try.pinned (OpenSpec.ofChange fnExactStepToSpec)

/-- ITS FALSE NEIGHBOUR: 'it returns false'. Refute it at one input. -/
def fnExactStepToWrong : ChangeSpec := { name := "fnExactStepTo", fn := fun _ => fun
  | [d1, d2, d3] => { results := [.lit (.bool false)], args := [d1, d2, d3] }
  | _ => none }
def FnExactStepToWrongFalsely : Prop := fnExactStepToRow.holds Try.pinned (OpenSpec.ofChange fnExactStepToWrong)

/-- 'laws.FnCornerMany': WHATEVER THE INPUT: true; the input reads as it did. -/
def fnCornerManySpec : ChangeSpec := { name := "fnCornerMany", fn := fun _ => fun
  | [d] => { results := [.lit (.bool true)], args := [d] }
  | _ => none }
def fnCornerManyRow : OpenClaim := { program := "ytehfhmafmblmnaa", sum := "3d2bd8fa7d771dd31332b9df5fa890a652575f283d078a9d62379b58e2af8605", func := "loop.example/dominotilings/laws.FnCornerMany", spec := "fnCornerMany", unfollowed := true, recurses := true, apart := false }
def FnCornerManySaid : Prop := fnCornerManyRow.holds Try.pinned (OpenSpec.ofChange fnCornerManySpec)

/-- ITS FALSE NEIGHBOUR: 'it returns false'. Refute it at one input. -/
def fnCornerManyWrong : ChangeSpec := { name := "fnCornerMany", fn := fun _ => fun
  | [d] => { results := [.lit (.bool false)], args := [d] }
  | _ => none }
def FnCornerManyWrongFalsely : Prop := fnCornerManyRow.holds Try.pinned (OpenSpec.ofChange fnCornerManyWrong)

/-- 'laws.FnExactLaidBare': WHATEVER THE INPUT: true; the input reads as it did. -/
def fnExactLaidBareSpec : ChangeSpec := { name := "fnExactLaidBare", fn := fun _ => fun
  | [d] => { results := [.lit (.bool true)], args := [d] }
  | _ => none }
def fnExactLaidBareRow : OpenClaim := { program := "ytehfhmafmblmnaa", sum := "3d2bd8fa7d771dd31332b9df5fa890a652575f283d078a9d62379b58e2af8605", func := "loop.example/dominotilings/laws.FnExactLaidBare", spec := "fnExactLaidBare", apart := false }
def FnExactLaidBareSaid : Prop := fnExactLaidBareRow.holds Try.pinned (OpenSpec.ofChange fnExactLaidBareSpec)

/-- ITS FALSE NEIGHBOUR: 'it returns false'. Refute it at one input. -/
def fnExactLaidBareWrong : ChangeSpec := { name := "fnExactLaidBare", fn := fun _ => fun
  | [d] => { results := [.lit (.bool false)], args := [d] }
  | _ => none }
def FnExactLaidBareWrongFalsely : Prop := fnExactLaidBareRow.holds Try.pinned (OpenSpec.ofChange fnExactLaidBareWrong)

/-- 'laws.FnExactBorder': WHATEVER THE INPUT: true; the input reads as it did. -/
def fnExactBorderSpec : ChangeSpec := { name := "fnExactBorder", fn := fun _ => fun
  | [d] => { results := [.lit (.bool true)], args := [d] }
  | _ => none }
def fnExactBorderRow : OpenClaim := { program := "ytehfhmafmblmnaa", sum := "3d2bd8fa7d771dd31332b9df5fa890a652575f283d078a9d62379b58e2af8605", func := "loop.example/dominotilings/laws.FnExactBorder", spec := "fnExactBorder", apart := false }
def FnExactBorderSaid : Prop := fnExactBorderRow.holds Try.pinned (OpenSpec.ofChange fnExactBorderSpec)

/-- ITS FALSE NEIGHBOUR: 'it returns false'. Refute it at one input. -/
def fnExactBorderWrong : ChangeSpec := { name := "fnExactBorder", fn := fun _ => fun
  | [d] => { results := [.lit (.bool false)], args := [d] }
  | _ => none }
def FnExactBorderWrongFalsely : Prop := fnExactBorderRow.holds Try.pinned (OpenSpec.ofChange fnExactBorderWrong)

/-- 'laws.FnExactRegionMeet': WHATEVER THE INPUT: true; the input reads as it did. -/
def fnExactRegionMeetSpec : ChangeSpec := { name := "fnExactRegionMeet", fn := fun _ => fun
  | [d1, d2] => { results := [.lit (.bool true)], args := [d1, d2] }
  | _ => none }
def fnExactRegionMeetRow : OpenClaim := { program := "ytehfhmafmblmnaa", sum := "3d2bd8fa7d771dd31332b9df5fa890a652575f283d078a9d62379b58e2af8605", func := "loop.example/dominotilings/laws.FnExactRegionMeet", spec := "fnExactRegionMeet", unfollowed := true, recurses := true, apart := false }
def FnExactRegionMeetSaid : Prop := fnExactRegionMeetRow.holds Try.pinned (OpenSpec.ofChange fnExactRegionMeetSpec)

/-- ITS FALSE NEIGHBOUR: 'it returns false'. Refute it at one input. -/
def fnExactRegionMeetWrong : ChangeSpec := { name := "fnExactRegionMeet", fn := fun _ => fun
  | [d1, d2] => { results := [.lit (.bool false)], args := [d1, d2] }
  | _ => none }
def FnExactRegionMeetWrongFalsely : Prop := fnExactRegionMeetRow.holds Try.pinned (OpenSpec.ofChange fnExactRegionMeetWrong)

/-- 'laws.FnExactRegionFlip': WHATEVER THE INPUT: true; the input reads as it did. -/
def fnExactRegionFlipSpec : ChangeSpec := { name := "fnExactRegionFlip", fn := fun _ => fun
  | [d] => { results := [.lit (.bool true)], args := [d] }
  | _ => none }
def fnExactRegionFlipRow : OpenClaim := { program := "ytehfhmafmblmnaa", sum := "3d2bd8fa7d771dd31332b9df5fa890a652575f283d078a9d62379b58e2af8605", func := "loop.example/dominotilings/laws.FnExactRegionFlip", spec := "fnExactRegionFlip", unfollowed := true, recurses := true, apart := false }
def FnExactRegionFlipSaid : Prop := fnExactRegionFlipRow.holds Try.pinned (OpenSpec.ofChange fnExactRegionFlipSpec)

/-- ITS FALSE NEIGHBOUR: 'it returns false'. Refute it at one input. -/
def fnExactRegionFlipWrong : ChangeSpec := { name := "fnExactRegionFlip", fn := fun _ => fun
  | [d] => { results := [.lit (.bool false)], args := [d] }
  | _ => none }
def FnExactRegionFlipWrongFalsely : Prop := fnExactRegionFlipRow.holds Try.pinned (OpenSpec.ofChange fnExactRegionFlipWrong)

/-- 'laws.FnExactRegionTurn': WHATEVER THE INPUT: true; the input reads as it did. -/
def fnExactRegionTurnSpec : ChangeSpec := { name := "fnExactRegionTurn", fn := fun _ => fun
  | [d] => { results := [.lit (.bool true)], args := [d] }
  | _ => none }
def fnExactRegionTurnRow : OpenClaim := { program := "ytehfhmafmblmnaa", sum := "3d2bd8fa7d771dd31332b9df5fa890a652575f283d078a9d62379b58e2af8605", func := "loop.example/dominotilings/laws.FnExactRegionTurn", spec := "fnExactRegionTurn", unfollowed := true, recurses := true, apart := false }
def FnExactRegionTurnSaid : Prop := fnExactRegionTurnRow.holds Try.pinned (OpenSpec.ofChange fnExactRegionTurnSpec)

/-- ITS FALSE NEIGHBOUR: 'it returns false'. Refute it at one input. -/
def fnExactRegionTurnWrong : ChangeSpec := { name := "fnExactRegionTurn", fn := fun _ => fun
  | [d] => { results := [.lit (.bool false)], args := [d] }
  | _ => none }
def FnExactRegionTurnWrongFalsely : Prop := fnExactRegionTurnRow.holds Try.pinned (OpenSpec.ofChange fnExactRegionTurnWrong)

/-- 'laws.FnExactRegionJoin': WHATEVER THE INPUT: true; the input reads as it did. -/
def fnExactRegionJoinSpec : ChangeSpec := { name := "fnExactRegionJoin", fn := fun _ => fun
  | [d1, d2] => { results := [.lit (.bool true)], args := [d1, d2] }
  | _ => none }
def fnExactRegionJoinRow : OpenClaim := { program := "ytehfhmafmblmnaa", sum := "3d2bd8fa7d771dd31332b9df5fa890a652575f283d078a9d62379b58e2af8605", func := "loop.example/dominotilings/laws.FnExactRegionJoin", spec := "fnExactRegionJoin", unfollowed := true, recurses := true, apart := false }
def FnExactRegionJoinSaid : Prop := fnExactRegionJoinRow.holds Try.pinned (OpenSpec.ofChange fnExactRegionJoinSpec)

/-- ITS FALSE NEIGHBOUR: 'it returns false'. Refute it at one input. -/
def fnExactRegionJoinWrong : ChangeSpec := { name := "fnExactRegionJoin", fn := fun _ => fun
  | [d1, d2] => { results := [.lit (.bool false)], args := [d1, d2] }
  | _ => none }
def FnExactRegionJoinWrongFalsely : Prop := fnExactRegionJoinRow.holds Try.pinned (OpenSpec.ofChange fnExactRegionJoinWrong)

/-- 'laws.FnExactRegionSet': WHATEVER THE INPUT: true; the input reads as it did. -/
def fnExactRegionSetSpec : ChangeSpec := { name := "fnExactRegionSet", fn := fun _ => fun
  | [d1, d2, d3] => { results := [.lit (.bool true)], args := [d1, d2, d3] }
  | _ => none }
def fnExactRegionSetRow : OpenClaim := { program := "ytehfhmafmblmnaa", sum := "3d2bd8fa7d771dd31332b9df5fa890a652575f283d078a9d62379b58e2af8605", func := "loop.example/dominotilings/laws.FnExactRegionSet", spec := "fnExactRegionSet", apart := false }
def FnExactRegionSetSaid : Prop := fnExactRegionSetRow.holds Try.pinned (OpenSpec.ofChange fnExactRegionSetSpec)

/-- ITS FALSE NEIGHBOUR: 'it returns false'. Refute it at one input. -/
def fnExactRegionSetWrong : ChangeSpec := { name := "fnExactRegionSet", fn := fun _ => fun
  | [d1, d2, d3] => { results := [.lit (.bool false)], args := [d1, d2, d3] }
  | _ => none }
def FnExactRegionSetWrongFalsely : Prop := fnExactRegionSetRow.holds Try.pinned (OpenSpec.ofChange fnExactRegionSetWrong)

/-- 'laws.FnMatrixValid': WHATEVER THE INPUT: true; the input reads as it did. -/
def fnMatrixValidSpec : ChangeSpec := { name := "fnMatrixValid", fn := fun _ => fun
  | [d] => { results := [.lit (.bool true)], args := [d] }
  | _ => none }
def fnMatrixValidRow : OpenClaim := { program := "ytehfhmafmblmnaa", sum := "3d2bd8fa7d771dd31332b9df5fa890a652575f283d078a9d62379b58e2af8605", func := "loop.example/dominotilings/laws.FnMatrixValid", spec := "fnMatrixValid", unfollowed := true, recurses := true, apart := false }
def FnMatrixValidSaid : Prop := fnMatrixValidRow.holds Try.pinned (OpenSpec.ofChange fnMatrixValidSpec)

/-- ITS FALSE NEIGHBOUR: 'it returns false'. Refute it at one input. -/
def fnMatrixValidWrong : ChangeSpec := { name := "fnMatrixValid", fn := fun _ => fun
  | [d] => { results := [.lit (.bool false)], args := [d] }
  | _ => none }
def FnMatrixValidWrongFalsely : Prop := fnMatrixValidRow.holds Try.pinned (OpenSpec.ofChange fnMatrixValidWrong)

/-- 'laws.FnExactDet': WHATEVER THE INPUT: true; the input reads as it did. -/
def fnExactDetSpec : ChangeSpec := { name := "fnExactDet", fn := fun _ => fun
  | [d] => { results := [.lit (.bool true)], args := [d] }
  | _ => none }
def fnExactDetRow : OpenClaim := { program := "ytehfhmafmblmnaa", sum := "3d2bd8fa7d771dd31332b9df5fa890a652575f283d078a9d62379b58e2af8605", func := "loop.example/dominotilings/laws.FnExactDet", spec := "fnExactDet", unfollowed := true, recurses := true, apart := false }
def FnExactDetSaid : Prop := fnExactDetRow.holds Try.pinned (OpenSpec.ofChange fnExactDetSpec)

/-- ITS FALSE NEIGHBOUR: 'it returns false'. Refute it at one input. -/
def fnExactDetWrong : ChangeSpec := { name := "fnExactDet", fn := fun _ => fun
  | [d] => { results := [.lit (.bool false)], args := [d] }
  | _ => none }
def FnExactDetWrongFalsely : Prop := fnExactDetRow.holds Try.pinned (OpenSpec.ofChange fnExactDetWrong)

/- THE SECOND FORM. 'bulk': how many values and letters a reading holds, each counted each time it is reached (what is shared counts as often as it is met; a slice's spare places count too). A statement '..UptoSaid' is the law's where the arguments, and the package variables that the reading takes, are together of bulk at most 1048576: NARROWER than '..Said'. Prove '..Said' where nothing that the law and all that it calls make is longer than what came in: it says more and counts as full. Else prove '..UptoSaid'. A law counts once. -/
mutual
def uptoBulk {H : Type} : DataW H → Nat
  | .lit (.string bytes) => bytes.length + 1
  | .lit _ => 1
  | .nil => 1
  | .ptr d => uptoBulk d + 1
  | .slice elems spare => uptoBulkAll elems + uptoBulkAll spare + 1
  | .agg parts => uptoBulkAll parts + 1
  | .iface _ d => uptoBulk d + 1
  | .map entries => uptoBulkEntries entries + 1
  | .held _ => 1
def uptoBulkAll {H : Type} : List (DataW H) → Nat
  | [] => 0
  | d :: r => uptoBulk d + uptoBulkAll r
def uptoBulkEntries {H : Type} : List (Lit × DataW H) → Nat
  | [] => 0
  | x :: r => uptoBulkEntry x + uptoBulkEntries r
def uptoBulkEntry {H : Type} : Lit × DataW H → Nat
  | (.string bytes, d) => bytes.length + uptoBulk d + 1
  | (_, d) => uptoBulk d + 1
 end
def uptoSmall : (H : Type) → List (DataW H) → Bool := fun _ ds => decide (uptoBulkAll ds ≤ 1048576)
def OpenSpec.upto (s : _root_.Go.ChangeSpec) : _root_.Go.OpenSpec := { _root_.Go.OpenSpec.ofChange s with cond := some uptoSmall }

/-- 'laws.FnExactBalanced', WHERE WHAT IT READS IS OF BULK AT MOST 1048576: true; the input reads as it did. -/
def fnExactBalancedUptoRow : OpenClaim := { program := "ytehfhmafmblmnaa", sum := "3d2bd8fa7d771dd31332b9df5fa890a652575f283d078a9d62379b58e2af8605", func := "loop.example/dominotilings/laws.FnExactBalanced", spec := "fnExactBalanced", apart := false, narrowed := true }
def FnExactBalancedUptoSaid : Prop := fnExactBalancedUptoRow.holds Try.pinned (OpenSpec.upto fnExactBalancedSpec)

/-- 'laws.FnExactStepTo', WHERE WHAT IT READS IS OF BULK AT MOST 1048576: true; the input reads as it did. -/
def fnExactStepToUptoRow : OpenClaim := { program := "ytehfhmafmblmnaa", sum := "3d2bd8fa7d771dd31332b9df5fa890a652575f283d078a9d62379b58e2af8605", func := "loop.example/dominotilings/laws.FnExactStepTo", spec := "fnExactStepTo", apart := false, narrowed := true }
def FnExactStepToUptoSaid : Prop := fnExactStepToUptoRow.holds Try.pinned (OpenSpec.upto fnExactStepToSpec)

/-- 'laws.FnCornerMany', WHERE WHAT IT READS IS OF BULK AT MOST 1048576: true; the input reads as it did. -/
def fnCornerManyUptoRow : OpenClaim := { program := "ytehfhmafmblmnaa", sum := "3d2bd8fa7d771dd31332b9df5fa890a652575f283d078a9d62379b58e2af8605", func := "loop.example/dominotilings/laws.FnCornerMany", spec := "fnCornerMany", unfollowed := true, recurses := true, apart := false, narrowed := true }
def FnCornerManyUptoSaid : Prop := fnCornerManyUptoRow.holds Try.pinned (OpenSpec.upto fnCornerManySpec)

/-- 'laws.FnExactLaidBare', WHERE WHAT IT READS IS OF BULK AT MOST 1048576: true; the input reads as it did. -/
def fnExactLaidBareUptoRow : OpenClaim := { program := "ytehfhmafmblmnaa", sum := "3d2bd8fa7d771dd31332b9df5fa890a652575f283d078a9d62379b58e2af8605", func := "loop.example/dominotilings/laws.FnExactLaidBare", spec := "fnExactLaidBare", apart := false, narrowed := true }
def FnExactLaidBareUptoSaid : Prop := fnExactLaidBareUptoRow.holds Try.pinned (OpenSpec.upto fnExactLaidBareSpec)

/-- 'laws.FnExactBorder', WHERE WHAT IT READS IS OF BULK AT MOST 1048576: true; the input reads as it did. -/
def fnExactBorderUptoRow : OpenClaim := { program := "ytehfhmafmblmnaa", sum := "3d2bd8fa7d771dd31332b9df5fa890a652575f283d078a9d62379b58e2af8605", func := "loop.example/dominotilings/laws.FnExactBorder", spec := "fnExactBorder", apart := false, narrowed := true }
def FnExactBorderUptoSaid : Prop := fnExactBorderUptoRow.holds Try.pinned (OpenSpec.upto fnExactBorderSpec)

/-- 'laws.FnExactRegionMeet', WHERE WHAT IT READS IS OF BULK AT MOST 1048576: true; the input reads as it did. -/
def fnExactRegionMeetUptoRow : OpenClaim := { program := "ytehfhmafmblmnaa", sum := "3d2bd8fa7d771dd31332b9df5fa890a652575f283d078a9d62379b58e2af8605", func := "loop.example/dominotilings/laws.FnExactRegionMeet", spec := "fnExactRegionMeet", unfollowed := true, recurses := true, apart := false, narrowed := true }
def FnExactRegionMeetUptoSaid : Prop := fnExactRegionMeetUptoRow.holds Try.pinned (OpenSpec.upto fnExactRegionMeetSpec)

/-- 'laws.FnExactRegionFlip', WHERE WHAT IT READS IS OF BULK AT MOST 1048576: true; the input reads as it did. -/
def fnExactRegionFlipUptoRow : OpenClaim := { program := "ytehfhmafmblmnaa", sum := "3d2bd8fa7d771dd31332b9df5fa890a652575f283d078a9d62379b58e2af8605", func := "loop.example/dominotilings/laws.FnExactRegionFlip", spec := "fnExactRegionFlip", unfollowed := true, recurses := true, apart := false, narrowed := true }
def FnExactRegionFlipUptoSaid : Prop := fnExactRegionFlipUptoRow.holds Try.pinned (OpenSpec.upto fnExactRegionFlipSpec)

/-- 'laws.FnExactRegionTurn', WHERE WHAT IT READS IS OF BULK AT MOST 1048576: true; the input reads as it did. -/
def fnExactRegionTurnUptoRow : OpenClaim := { program := "ytehfhmafmblmnaa", sum := "3d2bd8fa7d771dd31332b9df5fa890a652575f283d078a9d62379b58e2af8605", func := "loop.example/dominotilings/laws.FnExactRegionTurn", spec := "fnExactRegionTurn", unfollowed := true, recurses := true, apart := false, narrowed := true }
def FnExactRegionTurnUptoSaid : Prop := fnExactRegionTurnUptoRow.holds Try.pinned (OpenSpec.upto fnExactRegionTurnSpec)

/-- 'laws.FnExactRegionJoin', WHERE WHAT IT READS IS OF BULK AT MOST 1048576: true; the input reads as it did. -/
def fnExactRegionJoinUptoRow : OpenClaim := { program := "ytehfhmafmblmnaa", sum := "3d2bd8fa7d771dd31332b9df5fa890a652575f283d078a9d62379b58e2af8605", func := "loop.example/dominotilings/laws.FnExactRegionJoin", spec := "fnExactRegionJoin", unfollowed := true, recurses := true, apart := false, narrowed := true }
def FnExactRegionJoinUptoSaid : Prop := fnExactRegionJoinUptoRow.holds Try.pinned (OpenSpec.upto fnExactRegionJoinSpec)

/-- 'laws.FnExactRegionSet', WHERE WHAT IT READS IS OF BULK AT MOST 1048576: true; the input reads as it did. -/
def fnExactRegionSetUptoRow : OpenClaim := { program := "ytehfhmafmblmnaa", sum := "3d2bd8fa7d771dd31332b9df5fa890a652575f283d078a9d62379b58e2af8605", func := "loop.example/dominotilings/laws.FnExactRegionSet", spec := "fnExactRegionSet", apart := false, narrowed := true }
def FnExactRegionSetUptoSaid : Prop := fnExactRegionSetUptoRow.holds Try.pinned (OpenSpec.upto fnExactRegionSetSpec)

/-- 'laws.FnMatrixValid', WHERE WHAT IT READS IS OF BULK AT MOST 1048576: true; the input reads as it did. -/
def fnMatrixValidUptoRow : OpenClaim := { program := "ytehfhmafmblmnaa", sum := "3d2bd8fa7d771dd31332b9df5fa890a652575f283d078a9d62379b58e2af8605", func := "loop.example/dominotilings/laws.FnMatrixValid", spec := "fnMatrixValid", unfollowed := true, recurses := true, apart := false, narrowed := true }
def FnMatrixValidUptoSaid : Prop := fnMatrixValidUptoRow.holds Try.pinned (OpenSpec.upto fnMatrixValidSpec)

/-- 'laws.FnExactDet', WHERE WHAT IT READS IS OF BULK AT MOST 1048576: true; the input reads as it did. -/
def fnExactDetUptoRow : OpenClaim := { program := "ytehfhmafmblmnaa", sum := "3d2bd8fa7d771dd31332b9df5fa890a652575f283d078a9d62379b58e2af8605", func := "loop.example/dominotilings/laws.FnExactDet", spec := "fnExactDet", unfollowed := true, recurses := true, apart := false, narrowed := true }
def FnExactDetUptoSaid : Prop := fnExactDetUptoRow.holds Try.pinned (OpenSpec.upto fnExactDetSpec)

end Rows
end Go.Proofs.Ytehfhmafmblmnaa
