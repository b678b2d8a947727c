/-
  DERIVED. GIVEN WITH THE SEED: THE CARDS: each row of YthocoplaehbncaaDoorRows.lean that lists a variable, with what it lists TIED to the program's text (the seventh form; the later family's looks); each row that meets fmt, with fmt's text TOLD by the authors' own Lean function (tested against real Go, not proved from fmt's source: count such statements apart). THE CARD IS WHAT COUNTS. Prove the row's statement (the work); the ties are given (YthocoplaehbncaaDoorTie.lean); close each card by the builder's one call (the guide's Derived/Test/ToyasCard.lean, 'card_holds'). Laid BY PROGRAM, IN A SANDBOX (cutbox-door.mjs). By AI agents, Wed Nov 11 2026. No macro, syntax, notation, axiom, sorry.
-/
import Derived.Test.YthocoplaehbncaaDoorRows
import GoSem.ClaimSeven
namespace Go.Proofs.YthocoplaehbncaaDoor
namespace Rows

/-- THE TIED CARD OF 'larderkeep.VaryNames'. -/
def varyNamesCard : Claim7 := { stood := { row := varyNamesRow, standIns := [], harness := (true, "f93e9111bb576c90f588431bb2bca7b978a5c49bc80b8b9eb3954c9c1b695b16"), looks := true }, kinds := [], alts := [], laidByText := true, laidKinds := [.data, .pinned, .pinned], laidTests := true, laidLooks := .later }
def VaryNamesCardSaid : Prop := Claim7.holds Tryd.pinned (.plain (OpenSpec.ofChange varyNamesSpec)) varyNamesCard

/-- THE TIED CARD OF 'larderkeep.LineBack'. -/
def lineBackCard : Claim7 := { stood := { row := lineBackRow, standIns := [], harness := (true, "f93e9111bb576c90f588431bb2bca7b978a5c49bc80b8b9eb3954c9c1b695b16"), looks := true }, kinds := [], alts := [], laidByText := true, laidKinds := [.data, .pinned], laidTests := true, laidLooks := .later }
def LineBackCardSaid : Prop := Claim7.holds Tryd.pinned (.plain (OpenSpec.ofChange lineBackSpec)) lineBackCard

/-- THE TIED CARD OF 'larderkeep.LineShort'. -/
def lineShortCard : Claim7 := { stood := { row := lineShortRow, standIns := [], harness := (true, "f93e9111bb576c90f588431bb2bca7b978a5c49bc80b8b9eb3954c9c1b695b16"), looks := true }, kinds := [], alts := [], laidByText := true, laidKinds := [.data, .pinned], laidTests := true, laidLooks := .later }
def LineShortCardSaid : Prop := Claim7.holds Tryd.pinned (.plain (OpenSpec.ofChange lineShortSpec)) lineShortCard

/-- THE TIED CARD OF 'larderkeep.LineStatusBack'. -/
def lineStatusBackCard : Claim7 := { stood := { row := lineStatusBackRow, standIns := [], harness := (true, "f93e9111bb576c90f588431bb2bca7b978a5c49bc80b8b9eb3954c9c1b695b16"), looks := true }, kinds := [], alts := [], laidByText := true, laidKinds := [.data, .data, .data, .data, .sentinel, .sentinel, .pinned], laidTests := true, laidLooks := .later }
def LineStatusBackCardSaid : Prop := Claim7.holds Tryd.pinned (.plain (OpenSpec.ofChange lineStatusBackSpec)) lineStatusBackCard

/-- THE TIED CARD OF 'larderkeep.BodyOne'. -/
def bodyOneCard : Claim7 := { stood := { row := bodyOneRow, standIns := [], harness := (true, "f93e9111bb576c90f588431bb2bca7b978a5c49bc80b8b9eb3954c9c1b695b16"), looks := true }, kinds := [], alts := [], laidByText := true, laidKinds := [.data, .data, .data, .sentinel, .sentinel], laidTests := true, laidLooks := .later }
def BodyOneCardSaid : Prop := Claim7.holds Tryd.pinned (.plain (OpenSpec.ofChange bodyOneSpec)) bodyOneCard

/-- THE TIED CARD OF 'larderkeep.BodyEnds'. -/
def bodyEndsCard : Claim7 := { stood := { row := bodyEndsRow, standIns := [], harness := (true, "f93e9111bb576c90f588431bb2bca7b978a5c49bc80b8b9eb3954c9c1b695b16"), looks := true }, kinds := [], alts := [], laidByText := true, laidKinds := [.data, .data, .data, .sentinel, .sentinel], laidTests := true, laidLooks := .later }
def BodyEndsCardSaid : Prop := Claim7.holds Tryd.pinned (.plain (OpenSpec.ofChange bodyEndsSpec)) bodyEndsCard

/-- THE TIED CARD OF 'larderkeep.TargetOnce'. -/
def targetOnceCard : Claim7 := { stood := { row := targetOnceRow, standIns := [], harness := (true, "f93e9111bb576c90f588431bb2bca7b978a5c49bc80b8b9eb3954c9c1b695b16"), looks := true }, kinds := [], alts := [], laidByText := true, laidKinds := [.data, .pinned], laidTests := true, laidLooks := .later }
def TargetOnceCardSaid : Prop := Claim7.holds Tryd.pinned (.plain (OpenSpec.ofChange targetOnceSpec)) targetOnceCard

/-- THE TIED CARD OF 'larderkeep.TargetDots'. -/
def targetDotsCard : Claim7 := { stood := { row := targetDotsRow, standIns := [], harness := (true, "f93e9111bb576c90f588431bb2bca7b978a5c49bc80b8b9eb3954c9c1b695b16"), looks := true }, kinds := [], alts := [], laidByText := true, laidKinds := [.data, .pinned], laidTests := true, laidLooks := .later }
def TargetDotsCardSaid : Prop := Claim7.holds Tryd.pinned (.plain (OpenSpec.ofChange targetDotsSpec)) targetDotsCard

/-- THE TIED CARD OF 'larderkeep.TargetSame'. -/
def targetSameCard : Claim7 := { stood := { row := targetSameRow, standIns := [], harness := (true, "f93e9111bb576c90f588431bb2bca7b978a5c49bc80b8b9eb3954c9c1b695b16"), looks := true }, kinds := [], alts := [], laidByText := true, laidKinds := [.data, .pinned, .pinned], laidTests := true, laidLooks := .later }
def TargetSameCardSaid : Prop := Claim7.holds Tryd.pinned (.plain (OpenSpec.ofChange targetSameSpec)) targetSameCard

/-- THE SECOND FORM's CARD OF 'larderkeep.VaryNames'. -/
def varyNamesUptoCard : Claim7 := { stood := { row := varyNamesUptoRow, standIns := [], harness := (true, "f93e9111bb576c90f588431bb2bca7b978a5c49bc80b8b9eb3954c9c1b695b16"), looks := true }, kinds := [], alts := [], laidByText := true, laidKinds := [.data, .pinned, .pinned], laidTests := true, laidLooks := .later }
def VaryNamesUptoCardSaid : Prop := Claim7.holds Tryd.pinned (.plain (OpenSpec.upto varyNamesSpec)) varyNamesUptoCard

/-- THE SECOND FORM's CARD OF 'larderkeep.LineBack'. -/
def lineBackUptoCard : Claim7 := { stood := { row := lineBackUptoRow, standIns := [], harness := (true, "f93e9111bb576c90f588431bb2bca7b978a5c49bc80b8b9eb3954c9c1b695b16"), looks := true }, kinds := [], alts := [], laidByText := true, laidKinds := [.data, .pinned], laidTests := true, laidLooks := .later }
def LineBackUptoCardSaid : Prop := Claim7.holds Tryd.pinned (.plain (OpenSpec.upto lineBackSpec)) lineBackUptoCard

/-- THE SECOND FORM's CARD OF 'larderkeep.LineShort'. -/
def lineShortUptoCard : Claim7 := { stood := { row := lineShortUptoRow, standIns := [], harness := (true, "f93e9111bb576c90f588431bb2bca7b978a5c49bc80b8b9eb3954c9c1b695b16"), looks := true }, kinds := [], alts := [], laidByText := true, laidKinds := [.data, .pinned], laidTests := true, laidLooks := .later }
def LineShortUptoCardSaid : Prop := Claim7.holds Tryd.pinned (.plain (OpenSpec.upto lineShortSpec)) lineShortUptoCard

/-- THE SECOND FORM's CARD OF 'larderkeep.LineStatusBack'. -/
def lineStatusBackUptoCard : Claim7 := { stood := { row := lineStatusBackUptoRow, standIns := [], harness := (true, "f93e9111bb576c90f588431bb2bca7b978a5c49bc80b8b9eb3954c9c1b695b16"), looks := true }, kinds := [], alts := [], laidByText := true, laidKinds := [.data, .data, .data, .data, .sentinel, .sentinel, .pinned], laidTests := true, laidLooks := .later }
def LineStatusBackUptoCardSaid : Prop := Claim7.holds Tryd.pinned (.plain (OpenSpec.upto lineStatusBackSpec)) lineStatusBackUptoCard

/-- THE SECOND FORM's CARD OF 'larderkeep.BodyOne'. -/
def bodyOneUptoCard : Claim7 := { stood := { row := bodyOneUptoRow, standIns := [], harness := (true, "f93e9111bb576c90f588431bb2bca7b978a5c49bc80b8b9eb3954c9c1b695b16"), looks := true }, kinds := [], alts := [], laidByText := true, laidKinds := [.data, .data, .data, .sentinel, .sentinel], laidTests := true, laidLooks := .later }
def BodyOneUptoCardSaid : Prop := Claim7.holds Tryd.pinned (.plain (OpenSpec.upto bodyOneSpec)) bodyOneUptoCard

/-- THE SECOND FORM's CARD OF 'larderkeep.BodyEnds'. -/
def bodyEndsUptoCard : Claim7 := { stood := { row := bodyEndsUptoRow, standIns := [], harness := (true, "f93e9111bb576c90f588431bb2bca7b978a5c49bc80b8b9eb3954c9c1b695b16"), looks := true }, kinds := [], alts := [], laidByText := true, laidKinds := [.data, .data, .data, .sentinel, .sentinel], laidTests := true, laidLooks := .later }
def BodyEndsUptoCardSaid : Prop := Claim7.holds Tryd.pinned (.plain (OpenSpec.upto bodyEndsSpec)) bodyEndsUptoCard

/-- THE SECOND FORM's CARD OF 'larderkeep.TargetOnce'. -/
def targetOnceUptoCard : Claim7 := { stood := { row := targetOnceUptoRow, standIns := [], harness := (true, "f93e9111bb576c90f588431bb2bca7b978a5c49bc80b8b9eb3954c9c1b695b16"), looks := true }, kinds := [], alts := [], laidByText := true, laidKinds := [.data, .pinned], laidTests := true, laidLooks := .later }
def TargetOnceUptoCardSaid : Prop := Claim7.holds Tryd.pinned (.plain (OpenSpec.upto targetOnceSpec)) targetOnceUptoCard

/-- THE SECOND FORM's CARD OF 'larderkeep.TargetDots'. -/
def targetDotsUptoCard : Claim7 := { stood := { row := targetDotsUptoRow, standIns := [], harness := (true, "f93e9111bb576c90f588431bb2bca7b978a5c49bc80b8b9eb3954c9c1b695b16"), looks := true }, kinds := [], alts := [], laidByText := true, laidKinds := [.data, .pinned], laidTests := true, laidLooks := .later }
def TargetDotsUptoCardSaid : Prop := Claim7.holds Tryd.pinned (.plain (OpenSpec.upto targetDotsSpec)) targetDotsUptoCard

/-- THE SECOND FORM's CARD OF 'larderkeep.TargetSame'. -/
def targetSameUptoCard : Claim7 := { stood := { row := targetSameUptoRow, standIns := [], harness := (true, "f93e9111bb576c90f588431bb2bca7b978a5c49bc80b8b9eb3954c9c1b695b16"), looks := true }, kinds := [], alts := [], laidByText := true, laidKinds := [.data, .pinned, .pinned], laidTests := true, laidLooks := .later }
def TargetSameUptoCardSaid : Prop := Claim7.holds Tryd.pinned (.plain (OpenSpec.upto targetSameSpec)) targetSameUptoCard
end Rows
end Go.Proofs.YthocoplaehbncaaDoor
