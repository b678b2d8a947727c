/-
  DERIVED. GIVEN WITH THE SEED: THE CARDS: each row of YtemknajlmocfeaaDoorRows.lean that lists a variable, with what it lists TIED to the program's text (the seventh form; the later family's looks); each row that meets fmt, with fmt's text TOLD by the authors' own Lean function (tested against real Go, not proved from fmt's source: count such statements apart). THE CARD IS WHAT COUNTS. Prove the row's statement (the work); the ties are given (YtemknajlmocfeaaDoorTie.lean); close each card by the builder's one call (the guide's Derived/Test/ToyasCard.lean, 'card_holds'). Laid BY PROGRAM, IN A SANDBOX (cutbox-door.mjs). By AI agents, Wed Nov 11 2026. No macro, syntax, notation, axiom, sorry.
-/
import Derived.Test.YtemknajlmocfeaaDoorRows
import GoSem.ClaimSeven
namespace Go.Proofs.YtemknajlmocfeaaDoor
namespace Rows

/-- THE TIED CARD OF 'larderkeep.SpanContentBack'. -/
def spanContentBackCard : Claim7 := { stood := { row := spanContentBackRow, standIns := [], harness := (true, "5b18be0ad1a219689b77640beb893c15cf1c46c784ad4ad1b93ca0cd7d1a0b73"), looks := true }, kinds := [], alts := [], laidByText := true, laidKinds := [.data, .data, .data, .sentinel, .sentinel], laidTests := true, laidLooks := .later }
def SpanContentBackCardSaid : Prop := Claim7.holds Tryd.pinned (.plain (OpenSpec.ofChange spanContentBackSpec)) spanContentBackCard

/-- THE TIED CARD OF 'larderkeep.SpanBundleBack'. -/
def spanBundleBackCard : Claim7 := { stood := { row := spanBundleBackRow, standIns := [], harness := (true, "5b18be0ad1a219689b77640beb893c15cf1c46c784ad4ad1b93ca0cd7d1a0b73"), looks := true }, kinds := [], alts := [], laidByText := true, laidKinds := [.data, .data, .data, .sentinel, .sentinel], laidTests := true, laidLooks := .later }
def SpanBundleBackCardSaid : Prop := Claim7.holds Tryd.pinned (.plain (OpenSpec.ofChange spanBundleBackSpec)) spanBundleBackCard

/-- THE TIED CARD OF 'larderkeep.SpanBack'. -/
def spanBackCard : Claim7 := { stood := { row := spanBackRow, standIns := [], harness := (true, "5b18be0ad1a219689b77640beb893c15cf1c46c784ad4ad1b93ca0cd7d1a0b73"), looks := true }, kinds := [], alts := [], laidByText := true, laidKinds := [.data, .data, .data, .data, .sentinel, .sentinel, .pinned], laidTests := true, laidLooks := .later }
def SpanBackCardSaid : Prop := Claim7.holds Tryd.pinned (.plain (OpenSpec.ofChange spanBackSpec)) spanBackCard

/-- THE SECOND FORM's CARD OF 'larderkeep.SpanContentBack'. -/
def spanContentBackUptoCard : Claim7 := { stood := { row := spanContentBackUptoRow, standIns := [], harness := (true, "5b18be0ad1a219689b77640beb893c15cf1c46c784ad4ad1b93ca0cd7d1a0b73"), looks := true }, kinds := [], alts := [], laidByText := true, laidKinds := [.data, .data, .data, .sentinel, .sentinel], laidTests := true, laidLooks := .later }
def SpanContentBackUptoCardSaid : Prop := Claim7.holds Tryd.pinned (.plain (OpenSpec.upto spanContentBackSpec)) spanContentBackUptoCard

/-- THE SECOND FORM's CARD OF 'larderkeep.SpanBundleBack'. -/
def spanBundleBackUptoCard : Claim7 := { stood := { row := spanBundleBackUptoRow, standIns := [], harness := (true, "5b18be0ad1a219689b77640beb893c15cf1c46c784ad4ad1b93ca0cd7d1a0b73"), looks := true }, kinds := [], alts := [], laidByText := true, laidKinds := [.data, .data, .data, .sentinel, .sentinel], laidTests := true, laidLooks := .later }
def SpanBundleBackUptoCardSaid : Prop := Claim7.holds Tryd.pinned (.plain (OpenSpec.upto spanBundleBackSpec)) spanBundleBackUptoCard

/-- THE SECOND FORM's CARD OF 'larderkeep.SpanBack'. -/
def spanBackUptoCard : Claim7 := { stood := { row := spanBackUptoRow, standIns := [], harness := (true, "5b18be0ad1a219689b77640beb893c15cf1c46c784ad4ad1b93ca0cd7d1a0b73"), looks := true }, kinds := [], alts := [], laidByText := true, laidKinds := [.data, .data, .data, .data, .sentinel, .sentinel, .pinned], laidTests := true, laidLooks := .later }
def SpanBackUptoCardSaid : Prop := Claim7.holds Tryd.pinned (.plain (OpenSpec.upto spanBackSpec)) spanBackUptoCard
end Rows
end Go.Proofs.YtemknajlmocfeaaDoor
