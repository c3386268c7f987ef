/-
  No cell of these rows narrows 'for every input' (looked for: loops, veiled, ifaces, maps, wideKeys, modest, calm, conditions, laid).
  DERIVED. THE GIVEN ROWS OF THIS SEAT. 11 by the template 'for every input the law returns true; each argument reads behind the call as it read before'; 0 by the template 'total and deterministic' (their statements: YtcnkpcnbobiodaaTotals.lean).
  GIVEN WITH THE SEED: the statements are not yours to turn. If you find one false, say at which input.
  Laid BY PROGRAM, IN A SANDBOX (cutbox-rows.mjs): the forced cells as the released guide's own fill.sh prints them over the translation d8dcd28ede425b13… (all of the seat's roots in one cut). By AI agents, Wed Nov 11 2026. No macro, syntax, notation, axiom, sorry.
-/
import Derived.Test.YtcnkpcnbobiodaaChecked
import GoSem.Claim
import GoSem.ClaimJoined
import GoSem.ClaimMapViews
import Derived.JoinedTies
import Derived.KernelRfl
namespace Go.Proofs.Ytcnkpcnbobiodaa
/- THE CELL 'sum', in the pinned program and in every row, IS THE sha256 OF THE DUMP (.gsa) THAT YtcnkpcnbobiodaaProg.lean LOADS. Nothing in Lean hashes anything: it is a label: what it is worth is what the hold of that sum in a sandbox is worth. -/
noncomputable def Try.pinned : Pinned := { name := "ytcnkpcnbobiodaa", sum := "d8dcd28ede425b13182770a23b3d4cf1bd594c5aacfb02943d15f51f711569c8", checked := Try.checked }
namespace Rows
def none {H : Type} : Left H := { results := [], args := [] }

/-- 'laws.FnExactTilingsMany': WHATEVER THE INPUT: true; the input reads as it did. -/
def fnExactTilingsManySpec : ChangeSpec := { name := "fnExactTilingsMany", fn := fun _ => fun
  | [d] => { results := [.lit (.bool true)], args := [d] }
  | _ => none }
def fnExactTilingsManyRow : OpenClaim := { program := "ytcnkpcnbobiodaa", sum := "d8dcd28ede425b13182770a23b3d4cf1bd594c5aacfb02943d15f51f711569c8", func := "loop.example/dominotilings/laws.FnExactTilingsMany", spec := "fnExactTilingsMany", unfollowed := true, recurses := true, apart := false }
def FnExactTilingsManySaid : Prop := fnExactTilingsManyRow.holds Try.pinned (OpenSpec.ofChange fnExactTilingsManySpec)

/-- ITS FALSE NEIGHBOUR: 'it returns false'. Refute it at one input. -/
def fnExactTilingsManyWrong : ChangeSpec := { name := "fnExactTilingsMany", fn := fun _ => fun
  | [d] => { results := [.lit (.bool false)], args := [d] }
  | _ => none }
def FnExactTilingsManyWrongFalsely : Prop := fnExactTilingsManyRow.holds Try.pinned (OpenSpec.ofChange fnExactTilingsManyWrong)

/-- 'laws.FnExactTilingsWith': WHATEVER THE INPUT: true; the input reads as it did. -/
def fnExactTilingsWithSpec : ChangeSpec := { name := "fnExactTilingsWith", fn := fun _ => fun
  | [d1, d2, d3] => { results := [.lit (.bool true)], args := [d1, d2, d3] }
  | _ => none }
def fnExactTilingsWithRow : OpenClaim := { program := "ytcnkpcnbobiodaa", sum := "d8dcd28ede425b13182770a23b3d4cf1bd594c5aacfb02943d15f51f711569c8", func := "loop.example/dominotilings/laws.FnExactTilingsWith", spec := "fnExactTilingsWith", unfollowed := true, recurses := true, apart := false }
def FnExactTilingsWithSaid : Prop := fnExactTilingsWithRow.holds Try.pinned (OpenSpec.ofChange fnExactTilingsWithSpec)

/-- ITS FALSE NEIGHBOUR: 'it returns false'. Refute it at one input. -/
def fnExactTilingsWithWrong : ChangeSpec := { name := "fnExactTilingsWith", fn := fun _ => fun
  | [d1, d2, d3] => { results := [.lit (.bool false)], args := [d1, d2, d3] }
  | _ => none }
def FnExactTilingsWithWrongFalsely : Prop := fnExactTilingsWithRow.holds Try.pinned (OpenSpec.ofChange fnExactTilingsWithWrong)

/-- 'laws.FnExactPartsProduct': WHATEVER THE INPUT: true; the input reads as it did. -/
def fnExactPartsProductSpec : ChangeSpec := { name := "fnExactPartsProduct", fn := fun _ => fun
  | [d] => { results := [.lit (.bool true)], args := [d] }
  | _ => none }
def fnExactPartsProductRow : OpenClaim := { program := "ytcnkpcnbobiodaa", sum := "d8dcd28ede425b13182770a23b3d4cf1bd594c5aacfb02943d15f51f711569c8", func := "loop.example/dominotilings/laws.FnExactPartsProduct", spec := "fnExactPartsProduct", unfollowed := true, recurses := true, apart := false }
def FnExactPartsProductSaid : Prop := fnExactPartsProductRow.holds Try.pinned (OpenSpec.ofChange fnExactPartsProductSpec)

/-- ITS FALSE NEIGHBOUR: 'it returns false'. Refute it at one input. -/
def fnExactPartsProductWrong : ChangeSpec := { name := "fnExactPartsProduct", fn := fun _ => fun
  | [d] => { results := [.lit (.bool false)], args := [d] }
  | _ => none }
def FnExactPartsProductWrongFalsely : Prop := fnExactPartsProductRow.holds Try.pinned (OpenSpec.ofChange fnExactPartsProductWrong)

/-- 'laws.FnExactForcedOf': WHATEVER THE INPUT: true; the input reads as it did. -/
def fnExactForcedOfSpec : ChangeSpec := { name := "fnExactForcedOf", fn := fun _ => fun
  | [d] => { results := [.lit (.bool true)], args := [d] }
  | _ => none }
def fnExactForcedOfRow : OpenClaim := { program := "ytcnkpcnbobiodaa", sum := "d8dcd28ede425b13182770a23b3d4cf1bd594c5aacfb02943d15f51f711569c8", func := "loop.example/dominotilings/laws.FnExactForcedOf", spec := "fnExactForcedOf", unfollowed := true, recurses := true, apart := false }
def FnExactForcedOfSaid : Prop := fnExactForcedOfRow.holds Try.pinned (OpenSpec.ofChange fnExactForcedOfSpec)

/-- ITS FALSE NEIGHBOUR: 'it returns false'. Refute it at one input. -/
def fnExactForcedOfWrong : ChangeSpec := { name := "fnExactForcedOf", fn := fun _ => fun
  | [d] => { results := [.lit (.bool false)], args := [d] }
  | _ => none }
def FnExactForcedOfWrongFalsely : Prop := fnExactForcedOfRow.holds Try.pinned (OpenSpec.ofChange fnExactForcedOfWrong)

/-- 'laws.FnExactComplete': WHATEVER THE INPUT: true; the input reads as it did. -/
def fnExactCompleteSpec : ChangeSpec := { name := "fnExactComplete", fn := fun _ => fun
  | [d1, d2] => { results := [.lit (.bool true)], args := [d1, d2] }
  | _ => none }
def fnExactCompleteRow : OpenClaim := { program := "ytcnkpcnbobiodaa", sum := "d8dcd28ede425b13182770a23b3d4cf1bd594c5aacfb02943d15f51f711569c8", func := "loop.example/dominotilings/laws.FnExactComplete", spec := "fnExactComplete", unfollowed := true, recurses := true, apart := false }
def FnExactCompleteSaid : Prop := fnExactCompleteRow.holds Try.pinned (OpenSpec.ofChange fnExactCompleteSpec)

/-- ITS FALSE NEIGHBOUR: 'it returns false'. Refute it at one input. -/
def fnExactCompleteWrong : ChangeSpec := { name := "fnExactComplete", fn := fun _ => fun
  | [d1, d2] => { results := [.lit (.bool false)], args := [d1, d2] }
  | _ => none }
def FnExactCompleteWrongFalsely : Prop := fnExactCompleteRow.holds Try.pinned (OpenSpec.ofChange fnExactCompleteWrong)

/-- 'laws.FnExactTilingFirst': WHATEVER THE INPUT: true; the input reads as it did. -/
def fnExactTilingFirstSpec : ChangeSpec := { name := "fnExactTilingFirst", fn := fun _ => fun
  | [d] => { results := [.lit (.bool true)], args := [d] }
  | _ => none }
def fnExactTilingFirstRow : OpenClaim := { program := "ytcnkpcnbobiodaa", sum := "d8dcd28ede425b13182770a23b3d4cf1bd594c5aacfb02943d15f51f711569c8", func := "loop.example/dominotilings/laws.FnExactTilingFirst", spec := "fnExactTilingFirst", unfollowed := true, recurses := true, apart := false }
def FnExactTilingFirstSaid : Prop := fnExactTilingFirstRow.holds Try.pinned (OpenSpec.ofChange fnExactTilingFirstSpec)

/-- ITS FALSE NEIGHBOUR: 'it returns false'. Refute it at one input. -/
def fnExactTilingFirstWrong : ChangeSpec := { name := "fnExactTilingFirst", fn := fun _ => fun
  | [d] => { results := [.lit (.bool false)], args := [d] }
  | _ => none }
def FnExactTilingFirstWrongFalsely : Prop := fnExactTilingFirstRow.holds Try.pinned (OpenSpec.ofChange fnExactTilingFirstWrong)

/-- 'laws.FnExactTilingsAll': WHATEVER THE INPUT: true; the input reads as it did. -/
def fnExactTilingsAllSpec : ChangeSpec := { name := "fnExactTilingsAll", fn := fun _ => fun
  | [d] => { results := [.lit (.bool true)], args := [d] }
  | _ => none }
def fnExactTilingsAllRow : OpenClaim := { program := "ytcnkpcnbobiodaa", sum := "d8dcd28ede425b13182770a23b3d4cf1bd594c5aacfb02943d15f51f711569c8", func := "loop.example/dominotilings/laws.FnExactTilingsAll", spec := "fnExactTilingsAll", unfollowed := true, recurses := true, apart := false }
def FnExactTilingsAllSaid : Prop := fnExactTilingsAllRow.holds Try.pinned (OpenSpec.ofChange fnExactTilingsAllSpec)

/-- ITS FALSE NEIGHBOUR: 'it returns false'. Refute it at one input. -/
def fnExactTilingsAllWrong : ChangeSpec := { name := "fnExactTilingsAll", fn := fun _ => fun
  | [d] => { results := [.lit (.bool false)], args := [d] }
  | _ => none }
def FnExactTilingsAllWrongFalsely : Prop := fnExactTilingsAllRow.holds Try.pinned (OpenSpec.ofChange fnExactTilingsAllWrong)

/-- 'laws.FnExactRankOf': WHATEVER THE INPUT: true; the input reads as it did. -/
def fnExactRankOfSpec : ChangeSpec := { name := "fnExactRankOf", fn := fun _ => fun
  | [d1, d2] => { results := [.lit (.bool true)], args := [d1, d2] }
  | _ => none }
def fnExactRankOfRow : OpenClaim := { program := "ytcnkpcnbobiodaa", sum := "d8dcd28ede425b13182770a23b3d4cf1bd594c5aacfb02943d15f51f711569c8", func := "loop.example/dominotilings/laws.FnExactRankOf", spec := "fnExactRankOf", unfollowed := true, recurses := true, apart := false }
def FnExactRankOfSaid : Prop := fnExactRankOfRow.holds Try.pinned (OpenSpec.ofChange fnExactRankOfSpec)

/-- ITS FALSE NEIGHBOUR: 'it returns false'. Refute it at one input. -/
def fnExactRankOfWrong : ChangeSpec := { name := "fnExactRankOf", fn := fun _ => fun
  | [d1, d2] => { results := [.lit (.bool false)], args := [d1, d2] }
  | _ => none }
def FnExactRankOfWrongFalsely : Prop := fnExactRankOfRow.holds Try.pinned (OpenSpec.ofChange fnExactRankOfWrong)

/-- 'laws.FnExactTilingOf': WHATEVER THE INPUT: true; the input reads as it did. -/
def fnExactTilingOfSpec : ChangeSpec := { name := "fnExactTilingOf", fn := fun _ => fun
  | [d1, d2] => { results := [.lit (.bool true)], args := [d1, d2] }
  | _ => none }
def fnExactTilingOfRow : OpenClaim := { program := "ytcnkpcnbobiodaa", sum := "d8dcd28ede425b13182770a23b3d4cf1bd594c5aacfb02943d15f51f711569c8", func := "loop.example/dominotilings/laws.FnExactTilingOf", spec := "fnExactTilingOf", unfollowed := true, recurses := true, apart := false }
def FnExactTilingOfSaid : Prop := fnExactTilingOfRow.holds Try.pinned (OpenSpec.ofChange fnExactTilingOfSpec)

/-- ITS FALSE NEIGHBOUR: 'it returns false'. Refute it at one input. -/
def fnExactTilingOfWrong : ChangeSpec := { name := "fnExactTilingOf", fn := fun _ => fun
  | [d1, d2] => { results := [.lit (.bool false)], args := [d1, d2] }
  | _ => none }
def FnExactTilingOfWrongFalsely : Prop := fnExactTilingOfRow.holds Try.pinned (OpenSpec.ofChange fnExactTilingOfWrong)

/-- 'laws.FnExactAcrossMany': WHATEVER THE INPUT: true; the input reads as it did. -/
def fnExactAcrossManySpec : ChangeSpec := { name := "fnExactAcrossMany", fn := fun _ => fun
  | [d1, d2, d3] => { results := [.lit (.bool true)], args := [d1, d2, d3] }
  | _ => none }
def fnExactAcrossManyRow : OpenClaim := { program := "ytcnkpcnbobiodaa", sum := "d8dcd28ede425b13182770a23b3d4cf1bd594c5aacfb02943d15f51f711569c8", func := "loop.example/dominotilings/laws.FnExactAcrossMany", spec := "fnExactAcrossMany", unfollowed := true, recurses := true, apart := false }
def FnExactAcrossManySaid : Prop := fnExactAcrossManyRow.holds Try.pinned (OpenSpec.ofChange fnExactAcrossManySpec)

/-- ITS FALSE NEIGHBOUR: 'it returns false'. Refute it at one input. -/
def fnExactAcrossManyWrong : ChangeSpec := { name := "fnExactAcrossMany", fn := fun _ => fun
  | [d1, d2, d3] => { results := [.lit (.bool false)], args := [d1, d2, d3] }
  | _ => none }
def FnExactAcrossManyWrongFalsely : Prop := fnExactAcrossManyRow.holds Try.pinned (OpenSpec.ofChange fnExactAcrossManyWrong)

/-- 'laws.FnExactAcrossSum': WHATEVER THE INPUT: true; the input reads as it did. -/
def fnExactAcrossSumSpec : ChangeSpec := { name := "fnExactAcrossSum", fn := fun _ => fun
  | [d1, d2] => { results := [.lit (.bool true)], args := [d1, d2] }
  | _ => none }
def fnExactAcrossSumRow : OpenClaim := { program := "ytcnkpcnbobiodaa", sum := "d8dcd28ede425b13182770a23b3d4cf1bd594c5aacfb02943d15f51f711569c8", func := "loop.example/dominotilings/laws.FnExactAcrossSum", spec := "fnExactAcrossSum", unfollowed := true, recurses := true, apart := false }
def FnExactAcrossSumSaid : Prop := fnExactAcrossSumRow.holds Try.pinned (OpenSpec.ofChange fnExactAcrossSumSpec)

/-- ITS FALSE NEIGHBOUR: 'it returns false'. Refute it at one input. -/
def fnExactAcrossSumWrong : ChangeSpec := { name := "fnExactAcrossSum", fn := fun _ => fun
  | [d1, d2] => { results := [.lit (.bool false)], args := [d1, d2] }
  | _ => none }
def FnExactAcrossSumWrongFalsely : Prop := fnExactAcrossSumRow.holds Try.pinned (OpenSpec.ofChange fnExactAcrossSumWrong)

/- THE SECOND FORM. 'bulk': how many values and letters a reading holds, each counted each time it is reached (what is shared counts as often as it is met; a slice's spare places count too). A statement '..UptoSaid' is the law's where the arguments, and the package variables that the reading takes, are together of bulk at most 1048576: NARROWER than '..Said'. Prove '..Said' where nothing that the law and all that it calls make is longer than what came in: it says more and counts as full. Else prove '..UptoSaid'. A law counts once. -/
mutual
def uptoBulk {H : Type} : DataW H → Nat
  | .lit (.string bytes) => bytes.length + 1
  | .lit _ => 1
  | .nil => 1
  | .ptr d => uptoBulk d + 1
  | .slice elems spare => uptoBulkAll elems + uptoBulkAll spare + 1
  | .agg parts => uptoBulkAll parts + 1
  | .iface _ d => uptoBulk d + 1
  | .map entries => uptoBulkEntries entries + 1
  | .held _ => 1
def uptoBulkAll {H : Type} : List (DataW H) → Nat
  | [] => 0
  | d :: r => uptoBulk d + uptoBulkAll r
def uptoBulkEntries {H : Type} : List (Lit × DataW H) → Nat
  | [] => 0
  | x :: r => uptoBulkEntry x + uptoBulkEntries r
def uptoBulkEntry {H : Type} : Lit × DataW H → Nat
  | (.string bytes, d) => bytes.length + uptoBulk d + 1
  | (_, d) => uptoBulk d + 1
 end
def uptoSmall : (H : Type) → List (DataW H) → Bool := fun _ ds => decide (uptoBulkAll ds ≤ 1048576)
def OpenSpec.upto (s : _root_.Go.ChangeSpec) : _root_.Go.OpenSpec := { _root_.Go.OpenSpec.ofChange s with cond := some uptoSmall }

/-- 'laws.FnExactTilingsMany', WHERE WHAT IT READS IS OF BULK AT MOST 1048576: true; the input reads as it did. -/
def fnExactTilingsManyUptoRow : OpenClaim := { program := "ytcnkpcnbobiodaa", sum := "d8dcd28ede425b13182770a23b3d4cf1bd594c5aacfb02943d15f51f711569c8", func := "loop.example/dominotilings/laws.FnExactTilingsMany", spec := "fnExactTilingsMany", unfollowed := true, recurses := true, apart := false, narrowed := true }
def FnExactTilingsManyUptoSaid : Prop := fnExactTilingsManyUptoRow.holds Try.pinned (OpenSpec.upto fnExactTilingsManySpec)

/-- 'laws.FnExactTilingsWith', WHERE WHAT IT READS IS OF BULK AT MOST 1048576: true; the input reads as it did. -/
def fnExactTilingsWithUptoRow : OpenClaim := { program := "ytcnkpcnbobiodaa", sum := "d8dcd28ede425b13182770a23b3d4cf1bd594c5aacfb02943d15f51f711569c8", func := "loop.example/dominotilings/laws.FnExactTilingsWith", spec := "fnExactTilingsWith", unfollowed := true, recurses := true, apart := false, narrowed := true }
def FnExactTilingsWithUptoSaid : Prop := fnExactTilingsWithUptoRow.holds Try.pinned (OpenSpec.upto fnExactTilingsWithSpec)

/-- 'laws.FnExactPartsProduct', WHERE WHAT IT READS IS OF BULK AT MOST 1048576: true; the input reads as it did. -/
def fnExactPartsProductUptoRow : OpenClaim := { program := "ytcnkpcnbobiodaa", sum := "d8dcd28ede425b13182770a23b3d4cf1bd594c5aacfb02943d15f51f711569c8", func := "loop.example/dominotilings/laws.FnExactPartsProduct", spec := "fnExactPartsProduct", unfollowed := true, recurses := true, apart := false, narrowed := true }
def FnExactPartsProductUptoSaid : Prop := fnExactPartsProductUptoRow.holds Try.pinned (OpenSpec.upto fnExactPartsProductSpec)

/-- 'laws.FnExactForcedOf', WHERE WHAT IT READS IS OF BULK AT MOST 1048576: true; the input reads as it did. -/
def fnExactForcedOfUptoRow : OpenClaim := { program := "ytcnkpcnbobiodaa", sum := "d8dcd28ede425b13182770a23b3d4cf1bd594c5aacfb02943d15f51f711569c8", func := "loop.example/dominotilings/laws.FnExactForcedOf", spec := "fnExactForcedOf", unfollowed := true, recurses := true, apart := false, narrowed := true }
def FnExactForcedOfUptoSaid : Prop := fnExactForcedOfUptoRow.holds Try.pinned (OpenSpec.upto fnExactForcedOfSpec)

/-- 'laws.FnExactComplete', WHERE WHAT IT READS IS OF BULK AT MOST 1048576: true; the input reads as it did. -/
def fnExactCompleteUptoRow : OpenClaim := { program := "ytcnkpcnbobiodaa", sum := "d8dcd28ede425b13182770a23b3d4cf1bd594c5aacfb02943d15f51f711569c8", func := "loop.example/dominotilings/laws.FnExactComplete", spec := "fnExactComplete", unfollowed := true, recurses := true, apart := false, narrowed := true }
def FnExactCompleteUptoSaid : Prop := fnExactCompleteUptoRow.holds Try.pinned (OpenSpec.upto fnExactCompleteSpec)

/-- 'laws.FnExactTilingFirst', WHERE WHAT IT READS IS OF BULK AT MOST 1048576: true; the input reads as it did. -/
def fnExactTilingFirstUptoRow : OpenClaim := { program := "ytcnkpcnbobiodaa", sum := "d8dcd28ede425b13182770a23b3d4cf1bd594c5aacfb02943d15f51f711569c8", func := "loop.example/dominotilings/laws.FnExactTilingFirst", spec := "fnExactTilingFirst", unfollowed := true, recurses := true, apart := false, narrowed := true }
def FnExactTilingFirstUptoSaid : Prop := fnExactTilingFirstUptoRow.holds Try.pinned (OpenSpec.upto fnExactTilingFirstSpec)

/-- 'laws.FnExactTilingsAll', WHERE WHAT IT READS IS OF BULK AT MOST 1048576: true; the input reads as it did. -/
def fnExactTilingsAllUptoRow : OpenClaim := { program := "ytcnkpcnbobiodaa", sum := "d8dcd28ede425b13182770a23b3d4cf1bd594c5aacfb02943d15f51f711569c8", func := "loop.example/dominotilings/laws.FnExactTilingsAll", spec := "fnExactTilingsAll", unfollowed := true, recurses := true, apart := false, narrowed := true }
def FnExactTilingsAllUptoSaid : Prop := fnExactTilingsAllUptoRow.holds Try.pinned (OpenSpec.upto fnExactTilingsAllSpec)

/-- 'laws.FnExactRankOf', WHERE WHAT IT READS IS OF BULK AT MOST 1048576: true; the input reads as it did. -/
def fnExactRankOfUptoRow : OpenClaim := { program := "ytcnkpcnbobiodaa", sum := "d8dcd28ede425b13182770a23b3d4cf1bd594c5aacfb02943d15f51f711569c8", func := "loop.example/dominotilings/laws.FnExactRankOf", spec := "fnExactRankOf", unfollowed := true, recurses := true, apart := false, narrowed := true }
def FnExactRankOfUptoSaid : Prop := fnExactRankOfUptoRow.holds Try.pinned (OpenSpec.upto fnExactRankOfSpec)

/-- 'laws.FnExactTilingOf', WHERE WHAT IT READS IS OF BULK AT MOST 1048576: true; the input reads as it did. -/
def fnExactTilingOfUptoRow : OpenClaim := { program := "ytcnkpcnbobiodaa", sum := "d8dcd28ede425b13182770a23b3d4cf1bd594c5aacfb02943d15f51f711569c8", func := "loop.example/dominotilings/laws.FnExactTilingOf", spec := "fnExactTilingOf", unfollowed := true, recurses := true, apart := false, narrowed := true }
def FnExactTilingOfUptoSaid : Prop := fnExactTilingOfUptoRow.holds Try.pinned (OpenSpec.upto fnExactTilingOfSpec)

/-- 'laws.FnExactAcrossMany', WHERE WHAT IT READS IS OF BULK AT MOST 1048576: true; the input reads as it did. -/
def fnExactAcrossManyUptoRow : OpenClaim := { program := "ytcnkpcnbobiodaa", sum := "d8dcd28ede425b13182770a23b3d4cf1bd594c5aacfb02943d15f51f711569c8", func := "loop.example/dominotilings/laws.FnExactAcrossMany", spec := "fnExactAcrossMany", unfollowed := true, recurses := true, apart := false, narrowed := true }
def FnExactAcrossManyUptoSaid : Prop := fnExactAcrossManyUptoRow.holds Try.pinned (OpenSpec.upto fnExactAcrossManySpec)

/-- 'laws.FnExactAcrossSum', WHERE WHAT IT READS IS OF BULK AT MOST 1048576: true; the input reads as it did. -/
def fnExactAcrossSumUptoRow : OpenClaim := { program := "ytcnkpcnbobiodaa", sum := "d8dcd28ede425b13182770a23b3d4cf1bd594c5aacfb02943d15f51f711569c8", func := "loop.example/dominotilings/laws.FnExactAcrossSum", spec := "fnExactAcrossSum", unfollowed := true, recurses := true, apart := false, narrowed := true }
def FnExactAcrossSumUptoSaid : Prop := fnExactAcrossSumUptoRow.holds Try.pinned (OpenSpec.upto fnExactAcrossSumSpec)

end Rows
end Go.Proofs.Ytcnkpcnbobiodaa
