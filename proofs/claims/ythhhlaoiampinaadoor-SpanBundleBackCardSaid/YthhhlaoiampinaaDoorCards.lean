/-
  DERIVED. GIVEN WITH THE SEED: THE CARDS: each row of YthhhlaoiampinaaDoorRows.lean that lists a variable, with what it lists TIED to the program's text (the seventh form; the later family's looks); each row that meets fmt, with fmt's text TOLD by the authors' own Lean function (tested against real Go, not proved from fmt's source: count such statements apart). THE CARD IS WHAT COUNTS. Prove the row's statement (the work); the ties are given (YthhhlaoiampinaaDoorTie.lean); close each card by the builder's one call (the guide's Derived/Test/ToyasCard.lean, 'card_holds'). Laid BY PROGRAM, IN A SANDBOX (cutbox-door.mjs). By AI agents, Wed Nov 11 2026. No macro, syntax, notation, axiom, sorry.
-/
import Derived.Test.YthhhlaoiampinaaDoorRows
import GoSem.ClaimSeven
namespace Go.Proofs.YthhhlaoiampinaaDoor
namespace Rows

/-- THE TIED CARD OF 'larderkeep.SpanBundleBack'. -/
def spanBundleBackCard : Claim7 := { stood := { row := spanBundleBackRow, standIns := [], harness := (true, "433b44c628af6f74a43c6b7b93fd8c2cfb0a200c714c23377d94b72b4dea4a27"), looks := true }, kinds := [], alts := [], laidByText := true, laidKinds := [.data, .data, .data, .sentinel, .sentinel], laidTests := true, laidLooks := .later }
def SpanBundleBackCardSaid : Prop := Claim7.holds Tryd.pinned (.plain (OpenSpec.ofChange spanBundleBackSpec)) spanBundleBackCard

/-- THE TIED CARD OF 'larderkeep.SpanBack'. -/
def spanBackCard : Claim7 := { stood := { row := spanBackRow, standIns := [], harness := (true, "433b44c628af6f74a43c6b7b93fd8c2cfb0a200c714c23377d94b72b4dea4a27"), looks := true }, kinds := [], alts := [], laidByText := true, laidKinds := [.data, .data, .data, .data, .sentinel, .sentinel, .pinned], laidTests := true, laidLooks := .later }
def SpanBackCardSaid : Prop := Claim7.holds Tryd.pinned (.plain (OpenSpec.ofChange spanBackSpec)) spanBackCard

/-- THE TIED CARD OF 'larderkeep.TokenLowers'. -/
def tokenLowersCard : Claim7 := { stood := { row := tokenLowersRow, standIns := [], harness := (true, "433b44c628af6f74a43c6b7b93fd8c2cfb0a200c714c23377d94b72b4dea4a27"), looks := true }, kinds := [], alts := [], laidByText := true, laidKinds := [.data, .data, .data, .pinned, .pinned], laidTests := true, laidLooks := .later }
def TokenLowersCardSaid : Prop := Claim7.holds Tryd.pinned (.plain (OpenSpec.ofChange tokenLowersSpec)) tokenLowersCard

/-- THE SECOND FORM's CARD OF 'larderkeep.SpanBundleBack'. -/
def spanBundleBackUptoCard : Claim7 := { stood := { row := spanBundleBackUptoRow, standIns := [], harness := (true, "433b44c628af6f74a43c6b7b93fd8c2cfb0a200c714c23377d94b72b4dea4a27"), looks := true }, kinds := [], alts := [], laidByText := true, laidKinds := [.data, .data, .data, .sentinel, .sentinel], laidTests := true, laidLooks := .later }
def SpanBundleBackUptoCardSaid : Prop := Claim7.holds Tryd.pinned (.plain (OpenSpec.upto spanBundleBackSpec)) spanBundleBackUptoCard

/-- THE SECOND FORM's CARD OF 'larderkeep.SpanBack'. -/
def spanBackUptoCard : Claim7 := { stood := { row := spanBackUptoRow, standIns := [], harness := (true, "433b44c628af6f74a43c6b7b93fd8c2cfb0a200c714c23377d94b72b4dea4a27"), looks := true }, kinds := [], alts := [], laidByText := true, laidKinds := [.data, .data, .data, .data, .sentinel, .sentinel, .pinned], laidTests := true, laidLooks := .later }
def SpanBackUptoCardSaid : Prop := Claim7.holds Tryd.pinned (.plain (OpenSpec.upto spanBackSpec)) spanBackUptoCard

/-- THE SECOND FORM's CARD OF 'larderkeep.TokenLowers'. -/
def tokenLowersUptoCard : Claim7 := { stood := { row := tokenLowersUptoRow, standIns := [], harness := (true, "433b44c628af6f74a43c6b7b93fd8c2cfb0a200c714c23377d94b72b4dea4a27"), looks := true }, kinds := [], alts := [], laidByText := true, laidKinds := [.data, .data, .data, .pinned, .pinned], laidTests := true, laidLooks := .later }
def TokenLowersUptoCardSaid : Prop := Claim7.holds Tryd.pinned (.plain (OpenSpec.upto tokenLowersSpec)) tokenLowersUptoCard
end Rows
end Go.Proofs.YthhhlaoiampinaaDoor
