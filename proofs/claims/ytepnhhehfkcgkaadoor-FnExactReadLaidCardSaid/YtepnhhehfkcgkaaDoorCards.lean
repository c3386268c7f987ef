/-
  DERIVED. GIVEN WITH THE SEED: THE CARDS: each row of YtepnhhehfkcgkaaDoorRows.lean that lists a variable, with what it lists TIED to the program's text (the seventh form; the later family's looks); each row that meets fmt, with fmt's text TOLD by the authors' own Lean function (tested against real Go, not proved from fmt's source: count such statements apart). THE CARD IS WHAT COUNTS. Prove the row's statement (the work); the ties are given (YtepnhhehfkcgkaaDoorTie.lean); close each card by the builder's one call (the guide's Derived/Test/ToyasCard.lean, 'card_holds'). Laid BY PROGRAM, IN A SANDBOX (cutbox-door.mjs). By AI agents, Wed Nov 11 2026. No macro, syntax, notation, axiom, sorry.
-/
import Derived.Test.YtepnhhehfkcgkaaDoorRows
import GoSem.ClaimSeven
namespace Go.Proofs.YtepnhhehfkcgkaaDoor
namespace Rows

/-- THE TIED CARD OF 'laws.FnExactReadRegion'. -/
def fnExactReadRegionCard : Claim7 := { stood := { row := fnExactReadRegionRow, standIns := [], harness := (true, "ffe4721d68910be8b7b8c5c091b5be4d8796abaf2c790b4956a21178f9ba30c2"), looks := false }, kinds := [], alts := [], laidByText := true, laidKinds := [.data, .pinned], laidTests := true, laidLooks := .later }
def FnExactReadRegionCardSaid : Prop := Claim7.holds Tryd.pinned (.plain (OpenSpec.ofChange fnExactReadRegionSpec)) fnExactReadRegionCard

/-- THE TIED CARD OF 'laws.FnExactReadLaid'. -/
def fnExactReadLaidCard : Claim7 := { stood := { row := fnExactReadLaidRow, standIns := [], harness := (true, "ffe4721d68910be8b7b8c5c091b5be4d8796abaf2c790b4956a21178f9ba30c2"), looks := false }, kinds := [], alts := [], laidByText := true, laidKinds := [.data, .pinned], laidTests := true, laidLooks := .later }
def FnExactReadLaidCardSaid : Prop := Claim7.holds Tryd.pinned (.plain (OpenSpec.ofChange fnExactReadLaidSpec)) fnExactReadLaidCard

/-- THE SECOND FORM's CARD OF 'laws.FnExactReadRegion'. -/
def fnExactReadRegionUptoCard : Claim7 := { stood := { row := fnExactReadRegionUptoRow, standIns := [], harness := (true, "ffe4721d68910be8b7b8c5c091b5be4d8796abaf2c790b4956a21178f9ba30c2"), looks := false }, kinds := [], alts := [], laidByText := true, laidKinds := [.data, .pinned], laidTests := true, laidLooks := .later }
def FnExactReadRegionUptoCardSaid : Prop := Claim7.holds Tryd.pinned (.plain (OpenSpec.upto fnExactReadRegionSpec)) fnExactReadRegionUptoCard

/-- THE SECOND FORM's CARD OF 'laws.FnExactReadLaid'. -/
def fnExactReadLaidUptoCard : Claim7 := { stood := { row := fnExactReadLaidUptoRow, standIns := [], harness := (true, "ffe4721d68910be8b7b8c5c091b5be4d8796abaf2c790b4956a21178f9ba30c2"), looks := false }, kinds := [], alts := [], laidByText := true, laidKinds := [.data, .pinned], laidTests := true, laidLooks := .later }
def FnExactReadLaidUptoCardSaid : Prop := Claim7.holds Tryd.pinned (.plain (OpenSpec.upto fnExactReadLaidSpec)) fnExactReadLaidUptoCard
end Rows
end Go.Proofs.YtepnhhehfkcgkaaDoor
