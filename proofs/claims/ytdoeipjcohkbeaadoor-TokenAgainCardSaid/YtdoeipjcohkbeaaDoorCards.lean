/-
  DERIVED. GIVEN WITH THE SEED: THE CARDS: each row of YtdoeipjcohkbeaaDoorRows.lean that lists a variable, with what it lists TIED to the program's text (the seventh form; the later family's looks); each row that meets fmt, with fmt's text TOLD by the authors' own Lean function (tested against real Go, not proved from fmt's source: count such statements apart). THE CARD IS WHAT COUNTS. Prove the row's statement (the work); the ties are given (YtdoeipjcohkbeaaDoorTie.lean); close each card by the builder's one call (the guide's Derived/Test/ToyasCard.lean, 'card_holds'). Laid BY PROGRAM, IN A SANDBOX (cutbox-door.mjs). By AI agents, Wed Nov 11 2026. No macro, syntax, notation, axiom, sorry.
-/
import Derived.Test.YtdoeipjcohkbeaaDoorRows
import GoSem.ClaimSeven
namespace Go.Proofs.YtdoeipjcohkbeaaDoor
namespace Rows

/-- THE TIED CARD OF 'larderkeep.TokenLowers'. -/
def tokenLowersCard : Claim7 := { stood := { row := tokenLowersRow, standIns := [], harness := (true, "adaf25eb7bfe7412e5b762456cdec14524c4ba99b76600c79a54c4b04e8be43f"), looks := false }, kinds := [], alts := [], laidByText := true, laidKinds := [.data, .data, .data, .pinned, .pinned], laidTests := true, laidLooks := .later }
def TokenLowersCardSaid : Prop := Claim7.holds Tryd.pinned (.plain (OpenSpec.ofChange tokenLowersSpec)) tokenLowersCard

/-- THE TIED CARD OF 'larderkeep.TokenAgain'. -/
def tokenAgainCard : Claim7 := { stood := { row := tokenAgainRow, standIns := [], harness := (true, "adaf25eb7bfe7412e5b762456cdec14524c4ba99b76600c79a54c4b04e8be43f"), looks := false }, kinds := [], alts := [], laidByText := true, laidKinds := [.data, .pinned], laidTests := true, laidLooks := .later }
def TokenAgainCardSaid : Prop := Claim7.holds Tryd.pinned (.plain (OpenSpec.ofChange tokenAgainSpec)) tokenAgainCard

/-- THE TIED CARD OF 'larderkeep.FieldBack'. -/
def fieldBackCard : Claim7 := { stood := { row := fieldBackRow, standIns := [], harness := (true, "adaf25eb7bfe7412e5b762456cdec14524c4ba99b76600c79a54c4b04e8be43f"), looks := false }, kinds := [], alts := [], laidByText := true, laidKinds := [.data, .pinned], laidTests := true, laidLooks := .later }
def FieldBackCardSaid : Prop := Claim7.holds Tryd.pinned (.plain (OpenSpec.ofChange fieldBackSpec)) fieldBackCard

/-- THE TIED CARD OF 'larderkeep.FieldAgain'. -/
def fieldAgainCard : Claim7 := { stood := { row := fieldAgainRow, standIns := [], harness := (true, "adaf25eb7bfe7412e5b762456cdec14524c4ba99b76600c79a54c4b04e8be43f"), looks := false }, kinds := [], alts := [], laidByText := true, laidKinds := [.data, .pinned], laidTests := true, laidLooks := .later }
def FieldAgainCardSaid : Prop := Claim7.holds Tryd.pinned (.plain (OpenSpec.ofChange fieldAgainSpec)) fieldAgainCard

/-- THE TIED CARD OF 'larderkeep.FieldShort'. -/
def fieldShortCard : Claim7 := { stood := { row := fieldShortRow, standIns := [], harness := (true, "adaf25eb7bfe7412e5b762456cdec14524c4ba99b76600c79a54c4b04e8be43f"), looks := false }, kinds := [], alts := [], laidByText := true, laidKinds := [.data, .pinned], laidTests := true, laidLooks := .later }
def FieldShortCardSaid : Prop := Claim7.holds Tryd.pinned (.plain (OpenSpec.ofChange fieldShortSpec)) fieldShortCard

/-- THE SECOND FORM's CARD OF 'larderkeep.TokenLowers'. -/
def tokenLowersUptoCard : Claim7 := { stood := { row := tokenLowersUptoRow, standIns := [], harness := (true, "adaf25eb7bfe7412e5b762456cdec14524c4ba99b76600c79a54c4b04e8be43f"), looks := false }, kinds := [], alts := [], laidByText := true, laidKinds := [.data, .data, .data, .pinned, .pinned], laidTests := true, laidLooks := .later }
def TokenLowersUptoCardSaid : Prop := Claim7.holds Tryd.pinned (.plain (OpenSpec.upto tokenLowersSpec)) tokenLowersUptoCard

/-- THE SECOND FORM's CARD OF 'larderkeep.TokenAgain'. -/
def tokenAgainUptoCard : Claim7 := { stood := { row := tokenAgainUptoRow, standIns := [], harness := (true, "adaf25eb7bfe7412e5b762456cdec14524c4ba99b76600c79a54c4b04e8be43f"), looks := false }, kinds := [], alts := [], laidByText := true, laidKinds := [.data, .pinned], laidTests := true, laidLooks := .later }
def TokenAgainUptoCardSaid : Prop := Claim7.holds Tryd.pinned (.plain (OpenSpec.upto tokenAgainSpec)) tokenAgainUptoCard

/-- THE SECOND FORM's CARD OF 'larderkeep.FieldBack'. -/
def fieldBackUptoCard : Claim7 := { stood := { row := fieldBackUptoRow, standIns := [], harness := (true, "adaf25eb7bfe7412e5b762456cdec14524c4ba99b76600c79a54c4b04e8be43f"), looks := false }, kinds := [], alts := [], laidByText := true, laidKinds := [.data, .pinned], laidTests := true, laidLooks := .later }
def FieldBackUptoCardSaid : Prop := Claim7.holds Tryd.pinned (.plain (OpenSpec.upto fieldBackSpec)) fieldBackUptoCard

/-- THE SECOND FORM's CARD OF 'larderkeep.FieldAgain'. -/
def fieldAgainUptoCard : Claim7 := { stood := { row := fieldAgainUptoRow, standIns := [], harness := (true, "adaf25eb7bfe7412e5b762456cdec14524c4ba99b76600c79a54c4b04e8be43f"), looks := false }, kinds := [], alts := [], laidByText := true, laidKinds := [.data, .pinned], laidTests := true, laidLooks := .later }
def FieldAgainUptoCardSaid : Prop := Claim7.holds Tryd.pinned (.plain (OpenSpec.upto fieldAgainSpec)) fieldAgainUptoCard

/-- THE SECOND FORM's CARD OF 'larderkeep.FieldShort'. -/
def fieldShortUptoCard : Claim7 := { stood := { row := fieldShortUptoRow, standIns := [], harness := (true, "adaf25eb7bfe7412e5b762456cdec14524c4ba99b76600c79a54c4b04e8be43f"), looks := false }, kinds := [], alts := [], laidByText := true, laidKinds := [.data, .pinned], laidTests := true, laidLooks := .later }
def FieldShortUptoCardSaid : Prop := Claim7.holds Tryd.pinned (.plain (OpenSpec.upto fieldShortSpec)) fieldShortUptoCard
end Rows
end Go.Proofs.YtdoeipjcohkbeaaDoor
