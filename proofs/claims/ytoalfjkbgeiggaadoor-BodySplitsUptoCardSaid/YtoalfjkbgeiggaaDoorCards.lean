/-
  DERIVED. GIVEN WITH THE SEED: THE CARDS: each row of YtoalfjkbgeiggaaDoorRows.lean that lists a variable, with what it lists TIED to the program's text (the seventh form; the later family's looks); each row that meets fmt, with fmt's text TOLD by the authors' own Lean function (tested against real Go, not proved from fmt's source: count such statements apart). THE CARD IS WHAT COUNTS. Prove the row's statement (the work); the ties are given (YtoalfjkbgeiggaaDoorTie.lean); close each card by the builder's one call (the guide's Derived/Test/ToyasCard.lean, 'card_holds'). Laid BY PROGRAM, IN A SANDBOX (cutbox-door.mjs). By AI agents, Wed Nov 11 2026. No macro, syntax, notation, axiom, sorry.
-/
import Derived.Test.YtoalfjkbgeiggaaDoorRows
import GoSem.ClaimSeven
namespace Go.Proofs.YtoalfjkbgeiggaaDoor
namespace Rows

/-- THE TIED CARD OF 'larderkeep.BodyBack'. -/
def bodyBackCard : Claim7 := { stood := { row := bodyBackRow, standIns := [], harness := (true, "787ec6d4a0c5e21c6183985f38742887694706b78ea8518461d03a34e3cb01c0"), looks := true }, kinds := [], alts := [], laidByText := true, laidKinds := [.data, .data, .data, .data, .sentinel, .sentinel, .pinned], laidTests := true, laidLooks := .later }
def BodyBackCardSaid : Prop := Claim7.holds Tryd.pinned (.plain (OpenSpec.ofChange bodyBackSpec)) bodyBackCard

/-- THE TIED CARD OF 'larderkeep.BodyShort'. -/
def bodyShortCard : Claim7 := { stood := { row := bodyShortRow, standIns := [], harness := (true, "787ec6d4a0c5e21c6183985f38742887694706b78ea8518461d03a34e3cb01c0"), looks := true }, kinds := [], alts := [], laidByText := true, laidKinds := [.data, .data, .data, .data, .sentinel, .sentinel, .pinned], laidTests := true, laidLooks := .later }
def BodyShortCardSaid : Prop := Claim7.holds Tryd.pinned (.plain (OpenSpec.ofChange bodyShortSpec)) bodyShortCard

/-- THE TIED CARD OF 'larderkeep.BodySplits'. -/
def bodySplitsCard : Claim7 := { stood := { row := bodySplitsRow, standIns := [], harness := (true, "787ec6d4a0c5e21c6183985f38742887694706b78ea8518461d03a34e3cb01c0"), looks := true }, kinds := [], alts := [], laidByText := true, laidKinds := [.data, .data, .data, .data, .sentinel, .sentinel, .pinned], laidTests := true, laidLooks := .later }
def BodySplitsCardSaid : Prop := Claim7.holds Tryd.pinned (.plain (OpenSpec.ofChange bodySplitsSpec)) bodySplitsCard

/-- THE SECOND FORM's CARD OF 'larderkeep.BodyBack'. -/
def bodyBackUptoCard : Claim7 := { stood := { row := bodyBackUptoRow, standIns := [], harness := (true, "787ec6d4a0c5e21c6183985f38742887694706b78ea8518461d03a34e3cb01c0"), looks := true }, kinds := [], alts := [], laidByText := true, laidKinds := [.data, .data, .data, .data, .sentinel, .sentinel, .pinned], laidTests := true, laidLooks := .later }
def BodyBackUptoCardSaid : Prop := Claim7.holds Tryd.pinned (.plain (OpenSpec.upto bodyBackSpec)) bodyBackUptoCard

/-- THE SECOND FORM's CARD OF 'larderkeep.BodyShort'. -/
def bodyShortUptoCard : Claim7 := { stood := { row := bodyShortUptoRow, standIns := [], harness := (true, "787ec6d4a0c5e21c6183985f38742887694706b78ea8518461d03a34e3cb01c0"), looks := true }, kinds := [], alts := [], laidByText := true, laidKinds := [.data, .data, .data, .data, .sentinel, .sentinel, .pinned], laidTests := true, laidLooks := .later }
def BodyShortUptoCardSaid : Prop := Claim7.holds Tryd.pinned (.plain (OpenSpec.upto bodyShortSpec)) bodyShortUptoCard

/-- THE SECOND FORM's CARD OF 'larderkeep.BodySplits'. -/
def bodySplitsUptoCard : Claim7 := { stood := { row := bodySplitsUptoRow, standIns := [], harness := (true, "787ec6d4a0c5e21c6183985f38742887694706b78ea8518461d03a34e3cb01c0"), looks := true }, kinds := [], alts := [], laidByText := true, laidKinds := [.data, .data, .data, .data, .sentinel, .sentinel, .pinned], laidTests := true, laidLooks := .later }
def BodySplitsUptoCardSaid : Prop := Claim7.holds Tryd.pinned (.plain (OpenSpec.upto bodySplitsSpec)) bodySplitsUptoCard
end Rows
end Go.Proofs.YtoalfjkbgeiggaaDoor
