/-
  DERIVED. GIVEN WITH THE SEED: THE CARDS: each row of YtoalfjkbgeiggaaGreatDoorRows.lean that lists a variable, with what it lists TIED to the program's text (the seventh form; the later family's looks); each row that meets fmt, with fmt's text TOLD by the authors' own Lean function (tested against real Go, not proved from fmt's source: count such statements apart). THE CARD IS WHAT COUNTS. Prove the row's statement (the work); the ties are given (YtoalfjkbgeiggaaGreatDoorTie.lean); close each card by the builder's one call (the guide's Derived/Test/ToyasCard.lean, 'card_holds'). Laid BY PROGRAM, IN A SANDBOX (cutbox-door.mjs). By AI agents, Wed Nov 11 2026. No macro, syntax, notation, axiom, sorry.
-/
import Derived.Test.YtoalfjkbgeiggaaGreatDoorRows
import GoSem.ClaimSeven
namespace Go.Proofs.YtoalfjkbgeiggaaGreatDoor
namespace Rows

/-- THE TIED CARD OF 'larderkeep.MsgBack'. -/
def msgBackCard : Claim7 := { stood := { row := msgBackRow, standIns := [], harness := (true, "08ded5def04deeee12ffa07ff679869347f4247e2d19657153da4a26985c8d73"), looks := true }, kinds := [], alts := [], laidByText := true, laidKinds := [.data, .data, .data, .data, .sentinel, .sentinel, .pinned], laidTests := true, laidLooks := .later }
def MsgBackCardSaid : Prop := Claim7.holds Tryz.pinned (.plain (OpenSpec.ofChange msgBackSpec)) msgBackCard

/-- THE TIED CARD OF 'larderkeep.MsgRow'. -/
def msgRowCard : Claim7 := { stood := { row := msgRowRow, standIns := [], harness := (true, "08ded5def04deeee12ffa07ff679869347f4247e2d19657153da4a26985c8d73"), looks := true }, kinds := [], alts := [], laidByText := true, laidKinds := [.data, .data, .data, .data, .sentinel, .sentinel, .pinned], laidTests := true, laidLooks := .later }
def MsgRowCardSaid : Prop := Claim7.holds Tryz.pinned (.plain (OpenSpec.ofChange msgRowSpec)) msgRowCard

/-- THE TIED CARD OF 'larderkeep.MsgShort'. -/
def msgShortCard : Claim7 := { stood := { row := msgShortRow, standIns := [], harness := (true, "08ded5def04deeee12ffa07ff679869347f4247e2d19657153da4a26985c8d73"), looks := true }, kinds := [], alts := [], laidByText := true, laidKinds := [.data, .data, .data, .data, .sentinel, .sentinel, .pinned], laidTests := true, laidLooks := .later }
def MsgShortCardSaid : Prop := Claim7.holds Tryz.pinned (.plain (OpenSpec.ofChange msgShortSpec)) msgShortCard

/-- THE TIED CARD OF 'larderkeep.MsgAgain'. -/
def msgAgainCard : Claim7 := { stood := { row := msgAgainRow, standIns := [], harness := (true, "08ded5def04deeee12ffa07ff679869347f4247e2d19657153da4a26985c8d73"), looks := true }, kinds := [], alts := [], laidByText := true, laidKinds := [.data, .data, .data, .data, .sentinel, .sentinel, .pinned], laidTests := true, laidLooks := .later }
def MsgAgainCardSaid : Prop := Claim7.holds Tryz.pinned (.plain (OpenSpec.ofChange msgAgainSpec)) msgAgainCard

/-- THE TIED CARD OF 'larderkeep.MsgPipe'. -/
def msgPipeCard : Claim7 := { stood := { row := msgPipeRow, standIns := [], harness := (true, "08ded5def04deeee12ffa07ff679869347f4247e2d19657153da4a26985c8d73"), looks := true }, kinds := [], alts := [], laidByText := true, laidKinds := [.data, .data, .data, .data, .sentinel, .sentinel, .pinned], laidTests := true, laidLooks := .later }
def MsgPipeCardSaid : Prop := Claim7.holds Tryz.pinned (.plain (OpenSpec.ofChange msgPipeSpec)) msgPipeCard

/-- THE TIED CARD OF 'larderkeep.MsgAnswerBack'. -/
def msgAnswerBackCard : Claim7 := { stood := { row := msgAnswerBackRow, standIns := [], harness := (true, "08ded5def04deeee12ffa07ff679869347f4247e2d19657153da4a26985c8d73"), looks := true }, kinds := [], alts := [], laidByText := true, laidKinds := [.data, .data, .data, .data, .sentinel, .sentinel, .pinned], laidTests := true, laidLooks := .later }
def MsgAnswerBackCardSaid : Prop := Claim7.holds Tryz.pinned (.plain (OpenSpec.ofChange msgAnswerBackSpec)) msgAnswerBackCard

/-- THE SECOND FORM's CARD OF 'larderkeep.MsgBack'. -/
def msgBackUptoCard : Claim7 := { stood := { row := msgBackUptoRow, standIns := [], harness := (true, "08ded5def04deeee12ffa07ff679869347f4247e2d19657153da4a26985c8d73"), looks := true }, kinds := [], alts := [], laidByText := true, laidKinds := [.data, .data, .data, .data, .sentinel, .sentinel, .pinned], laidTests := true, laidLooks := .later }
def MsgBackUptoCardSaid : Prop := Claim7.holds Tryz.pinned (.plain (OpenSpec.upto msgBackSpec)) msgBackUptoCard

/-- THE SECOND FORM's CARD OF 'larderkeep.MsgRow'. -/
def msgRowUptoCard : Claim7 := { stood := { row := msgRowUptoRow, standIns := [], harness := (true, "08ded5def04deeee12ffa07ff679869347f4247e2d19657153da4a26985c8d73"), looks := true }, kinds := [], alts := [], laidByText := true, laidKinds := [.data, .data, .data, .data, .sentinel, .sentinel, .pinned], laidTests := true, laidLooks := .later }
def MsgRowUptoCardSaid : Prop := Claim7.holds Tryz.pinned (.plain (OpenSpec.upto msgRowSpec)) msgRowUptoCard

/-- THE SECOND FORM's CARD OF 'larderkeep.MsgShort'. -/
def msgShortUptoCard : Claim7 := { stood := { row := msgShortUptoRow, standIns := [], harness := (true, "08ded5def04deeee12ffa07ff679869347f4247e2d19657153da4a26985c8d73"), looks := true }, kinds := [], alts := [], laidByText := true, laidKinds := [.data, .data, .data, .data, .sentinel, .sentinel, .pinned], laidTests := true, laidLooks := .later }
def MsgShortUptoCardSaid : Prop := Claim7.holds Tryz.pinned (.plain (OpenSpec.upto msgShortSpec)) msgShortUptoCard

/-- THE SECOND FORM's CARD OF 'larderkeep.MsgAgain'. -/
def msgAgainUptoCard : Claim7 := { stood := { row := msgAgainUptoRow, standIns := [], harness := (true, "08ded5def04deeee12ffa07ff679869347f4247e2d19657153da4a26985c8d73"), looks := true }, kinds := [], alts := [], laidByText := true, laidKinds := [.data, .data, .data, .data, .sentinel, .sentinel, .pinned], laidTests := true, laidLooks := .later }
def MsgAgainUptoCardSaid : Prop := Claim7.holds Tryz.pinned (.plain (OpenSpec.upto msgAgainSpec)) msgAgainUptoCard

/-- THE SECOND FORM's CARD OF 'larderkeep.MsgPipe'. -/
def msgPipeUptoCard : Claim7 := { stood := { row := msgPipeUptoRow, standIns := [], harness := (true, "08ded5def04deeee12ffa07ff679869347f4247e2d19657153da4a26985c8d73"), looks := true }, kinds := [], alts := [], laidByText := true, laidKinds := [.data, .data, .data, .data, .sentinel, .sentinel, .pinned], laidTests := true, laidLooks := .later }
def MsgPipeUptoCardSaid : Prop := Claim7.holds Tryz.pinned (.plain (OpenSpec.upto msgPipeSpec)) msgPipeUptoCard

/-- THE SECOND FORM's CARD OF 'larderkeep.MsgAnswerBack'. -/
def msgAnswerBackUptoCard : Claim7 := { stood := { row := msgAnswerBackUptoRow, standIns := [], harness := (true, "08ded5def04deeee12ffa07ff679869347f4247e2d19657153da4a26985c8d73"), looks := true }, kinds := [], alts := [], laidByText := true, laidKinds := [.data, .data, .data, .data, .sentinel, .sentinel, .pinned], laidTests := true, laidLooks := .later }
def MsgAnswerBackUptoCardSaid : Prop := Claim7.holds Tryz.pinned (.plain (OpenSpec.upto msgAnswerBackSpec)) msgAnswerBackUptoCard
end Rows
end Go.Proofs.YtoalfjkbgeiggaaGreatDoor
