/-
  DERIVED. GIVEN WITH THE SEED: THE CARDS: each row of YtopmpkgopaenbaaDoorRows.lean that lists a variable, with what it lists TIED to the program's text (the seventh form; the later family's looks); each row that meets fmt, with fmt's text TOLD by the authors' own Lean function (tested against real Go, not proved from fmt's source: count such statements apart). THE CARD IS WHAT COUNTS. Prove the row's statement (the work); the ties are given (YtopmpkgopaenbaaDoorTie.lean); close each card by the builder's one call (the guide's Derived/Test/ToyasCard.lean, 'card_holds'). Laid BY PROGRAM, IN A SANDBOX (cutbox-door.mjs). By AI agents, Wed Nov 11 2026. No macro, syntax, notation, axiom, sorry.
-/
import Derived.Test.YtopmpkgopaenbaaDoorRows
import GoSem.ClaimSeven
namespace Go.Proofs.YtopmpkgopaenbaaDoor
namespace Rows

/-- THE TIED CARD OF 'larderkeep.DateWeek'. -/
def dateWeekCard : Claim7 := { stood := { row := dateWeekRow, standIns := [], harness := (true, "d2a0c50655aefa03cfa8a686b4c25ae4ad6b4e29ed1e07f89953f48905d28d4d"), looks := false }, kinds := [], alts := [], laidByText := true, laidKinds := [.data, .data, .data], laidTests := true, laidLooks := .later }
def DateWeekCardSaid : Prop := Claim7.holds Tryd.pinned (.plain (OpenSpec.ofChange dateWeekSpec)) dateWeekCard

/-- THE TIED CARD OF 'larderkeep.DateKnown'. -/
def dateKnownCard : Claim7 := { stood := { row := dateKnownRow, standIns := [], harness := (true, "d2a0c50655aefa03cfa8a686b4c25ae4ad6b4e29ed1e07f89953f48905d28d4d"), looks := false }, kinds := [], alts := [], laidByText := true, laidKinds := [.data, .data, .data], laidTests := true, laidLooks := .later }
def DateKnownCardSaid : Prop := Claim7.holds Tryd.pinned (.plain (OpenSpec.ofChange dateKnownSpec)) dateKnownCard

/-- THE TIED CARD OF 'larderkeep.DateBack'. -/
def dateBackCard : Claim7 := { stood := { row := dateBackRow, standIns := [], harness := (true, "d2a0c50655aefa03cfa8a686b4c25ae4ad6b4e29ed1e07f89953f48905d28d4d"), looks := false }, kinds := [], alts := [], laidByText := true, laidKinds := [.data, .data, .data], laidTests := true, laidLooks := .later }
def DateBackCardSaid : Prop := Claim7.holds Tryd.pinned (.plain (OpenSpec.ofChange dateBackSpec)) dateBackCard

/-- THE SECOND FORM's CARD OF 'larderkeep.DateWeek'. -/
def dateWeekUptoCard : Claim7 := { stood := { row := dateWeekUptoRow, standIns := [], harness := (true, "d2a0c50655aefa03cfa8a686b4c25ae4ad6b4e29ed1e07f89953f48905d28d4d"), looks := false }, kinds := [], alts := [], laidByText := true, laidKinds := [.data, .data, .data], laidTests := true, laidLooks := .later }
def DateWeekUptoCardSaid : Prop := Claim7.holds Tryd.pinned (.plain (OpenSpec.upto dateWeekSpec)) dateWeekUptoCard

/-- THE SECOND FORM's CARD OF 'larderkeep.DateKnown'. -/
def dateKnownUptoCard : Claim7 := { stood := { row := dateKnownUptoRow, standIns := [], harness := (true, "d2a0c50655aefa03cfa8a686b4c25ae4ad6b4e29ed1e07f89953f48905d28d4d"), looks := false }, kinds := [], alts := [], laidByText := true, laidKinds := [.data, .data, .data], laidTests := true, laidLooks := .later }
def DateKnownUptoCardSaid : Prop := Claim7.holds Tryd.pinned (.plain (OpenSpec.upto dateKnownSpec)) dateKnownUptoCard

/-- THE SECOND FORM's CARD OF 'larderkeep.DateBack'. -/
def dateBackUptoCard : Claim7 := { stood := { row := dateBackUptoRow, standIns := [], harness := (true, "d2a0c50655aefa03cfa8a686b4c25ae4ad6b4e29ed1e07f89953f48905d28d4d"), looks := false }, kinds := [], alts := [], laidByText := true, laidKinds := [.data, .data, .data], laidTests := true, laidLooks := .later }
def DateBackUptoCardSaid : Prop := Claim7.holds Tryd.pinned (.plain (OpenSpec.upto dateBackSpec)) dateBackUptoCard
end Rows
end Go.Proofs.YtopmpkgopaenbaaDoor
