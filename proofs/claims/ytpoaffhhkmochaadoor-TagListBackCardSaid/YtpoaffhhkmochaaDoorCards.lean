/-
  DERIVED. GIVEN WITH THE SEED: THE CARDS: each row of YtpoaffhhkmochaaDoorRows.lean that lists a variable, with what it lists TIED to the program's text (the seventh form; the later family's looks); each row that meets fmt, with fmt's text TOLD by the authors' own Lean function (tested against real Go, not proved from fmt's source: count such statements apart). THE CARD IS WHAT COUNTS. Prove the row's statement (the work); the ties are given (YtpoaffhhkmochaaDoorTie.lean); close each card by the builder's one call (the guide's Derived/Test/ToyasCard.lean, 'card_holds'). Laid BY PROGRAM, IN A SANDBOX (cutbox-door.mjs). By AI agents, Wed Nov 11 2026. No macro, syntax, notation, axiom, sorry.
-/
import Derived.Test.YtpoaffhhkmochaaDoorRows
import GoSem.ClaimSeven
namespace Go.Proofs.YtpoaffhhkmochaaDoor
namespace Rows

/-- THE TIED CARD OF 'larderkeep.TagListBack'. -/
def tagListBackCard : Claim7 := { stood := { row := tagListBackRow, standIns := [], harness := (true, "47a2f506266d43fd982f2af98a98ece85c1ca7c0c249a20828ba5c1da1c46a8e"), looks := false }, kinds := [], alts := [], laidByText := true, laidKinds := [.data, .pinned], laidTests := true, laidLooks := .later }
def TagListBackCardSaid : Prop := Claim7.holds Tryd.pinned (.plain (OpenSpec.ofChange tagListBackSpec)) tagListBackCard

/-- THE SECOND FORM's CARD OF 'larderkeep.TagListBack'. -/
def tagListBackUptoCard : Claim7 := { stood := { row := tagListBackUptoRow, standIns := [], harness := (true, "47a2f506266d43fd982f2af98a98ece85c1ca7c0c249a20828ba5c1da1c46a8e"), looks := false }, kinds := [], alts := [], laidByText := true, laidKinds := [.data, .pinned], laidTests := true, laidLooks := .later }
def TagListBackUptoCardSaid : Prop := Claim7.holds Tryd.pinned (.plain (OpenSpec.upto tagListBackSpec)) tagListBackUptoCard
end Rows
end Go.Proofs.YtpoaffhhkmochaaDoor
