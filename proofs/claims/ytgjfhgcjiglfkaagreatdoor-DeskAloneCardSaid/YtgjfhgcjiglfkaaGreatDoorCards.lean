/-
  DERIVED. GIVEN WITH THE SEED: THE CARDS: each row of YtgjfhgcjiglfkaaGreatDoorRows.lean that lists a variable, with what it lists TIED to the program's text (the seventh form; the later family's looks); each row that meets fmt, with fmt's text TOLD by the authors' own Lean function (tested against real Go, not proved from fmt's source: count such statements apart). THE CARD IS WHAT COUNTS. Prove the row's statement (the work); the ties are given (YtgjfhgcjiglfkaaGreatDoorTie.lean); close each card by the builder's one call (the guide's Derived/Test/ToyasCard.lean, 'card_holds'). Laid BY PROGRAM, IN A SANDBOX (cutbox-door.mjs). By AI agents, Wed Nov 11 2026. No macro, syntax, notation, axiom, sorry.
-/
import Derived.Test.YtgjfhgcjiglfkaaGreatDoorRows
import GoSem.ClaimSeven
namespace Go.Proofs.YtgjfhgcjiglfkaaGreatDoor
namespace Rows

/-- THE TIED CARD OF 'lardertop.TopVary'. -/
def topVaryCard : Claim7 := { stood := { row := topVaryRow, standIns := [], harness := (true, "30495691a27cf8008ea615e26c7d8e666416709b2976d844665575ea0039d10c"), looks := true }, kinds := [], alts := [], laidByText := true, laidKinds := [.data, .data, .data, .data, .sentinel, .sentinel, .pinned], laidTests := true, laidLooks := .later }
def TopVaryCardSaid : Prop := Claim7.holds Tryz.pinned (.plain (OpenSpec.ofChange topVarySpec)) topVaryCard

/-- THE TIED CARD OF 'lardertop.TopFresh'. -/
def topFreshCard : Claim7 := { stood := { row := topFreshRow, standIns := [], harness := (true, "30495691a27cf8008ea615e26c7d8e666416709b2976d844665575ea0039d10c"), looks := true }, kinds := [], alts := [], laidByText := true, laidKinds := [.data, .data, .data, .data, .sentinel, .sentinel, .pinned], laidTests := true, laidLooks := .later }
def TopFreshCardSaid : Prop := Claim7.holds Tryz.pinned (.plain (OpenSpec.ofChange topFreshSpec)) topFreshCard

/-- THE TIED CARD OF 'lardertop.TopStays'. -/
def topStaysCard : Claim7 := { stood := { row := topStaysRow, standIns := [], harness := (true, "30495691a27cf8008ea615e26c7d8e666416709b2976d844665575ea0039d10c"), looks := true }, kinds := [], alts := [], laidByText := true, laidKinds := [.data, .data, .data, .data, .sentinel, .sentinel, .pinned], laidTests := true, laidLooks := .later }
def TopStaysCardSaid : Prop := Claim7.holds Tryz.pinned (.plain (OpenSpec.ofChange topStaysSpec)) topStaysCard

/-- THE TIED CARD OF 'lardertop.TopFails'. -/
def topFailsCard : Claim7 := { stood := { row := topFailsRow, standIns := [], harness := (true, "30495691a27cf8008ea615e26c7d8e666416709b2976d844665575ea0039d10c"), looks := true }, kinds := [], alts := [], laidByText := true, laidKinds := [.data, .data, .data, .data, .sentinel, .sentinel, .pinned], laidTests := true, laidLooks := .later }
def TopFailsCardSaid : Prop := Claim7.holds Tryz.pinned (.plain (OpenSpec.ofChange topFailsSpec)) topFailsCard

/-- THE TIED CARD OF 'lardertop.TopRoom'. -/
def topRoomCard : Claim7 := { stood := { row := topRoomRow, standIns := [], harness := (true, "30495691a27cf8008ea615e26c7d8e666416709b2976d844665575ea0039d10c"), looks := true }, kinds := [], alts := [], laidByText := true, laidKinds := [.data, .data, .data, .data, .sentinel, .sentinel, .pinned], laidTests := true, laidLooks := .later }
def TopRoomCardSaid : Prop := Claim7.holds Tryz.pinned (.plain (OpenSpec.ofChange topRoomSpec)) topRoomCard

/-- THE TIED CARD OF 'lardertop.TopSoon'. -/
def topSoonCard : Claim7 := { stood := { row := topSoonRow, standIns := [], harness := (true, "30495691a27cf8008ea615e26c7d8e666416709b2976d844665575ea0039d10c"), looks := true }, kinds := [], alts := [], laidByText := true, laidKinds := [.data, .data, .data, .data, .sentinel, .sentinel, .pinned], laidTests := true, laidLooks := .later }
def TopSoonCardSaid : Prop := Claim7.holds Tryz.pinned (.plain (OpenSpec.ofChange topSoonSpec)) topSoonCard

/-- THE TIED CARD OF 'larderkeep.DeskAlone'. -/
def deskAloneCard : Claim7 := { stood := { row := deskAloneRow, standIns := [], harness := (true, "30495691a27cf8008ea615e26c7d8e666416709b2976d844665575ea0039d10c"), looks := true }, kinds := [], alts := [], laidByText := true, laidKinds := [.data, .data, .data, .data, .sentinel, .sentinel, .pinned], laidTests := true, laidLooks := .later }
def DeskAloneCardSaid : Prop := Claim7.holds Tryz.pinned (.plain (OpenSpec.ofChange deskAloneSpec)) deskAloneCard

/-- THE SECOND FORM's CARD OF 'lardertop.TopVary'. -/
def topVaryUptoCard : Claim7 := { stood := { row := topVaryUptoRow, standIns := [], harness := (true, "30495691a27cf8008ea615e26c7d8e666416709b2976d844665575ea0039d10c"), looks := true }, kinds := [], alts := [], laidByText := true, laidKinds := [.data, .data, .data, .data, .sentinel, .sentinel, .pinned], laidTests := true, laidLooks := .later }
def TopVaryUptoCardSaid : Prop := Claim7.holds Tryz.pinned (.plain (OpenSpec.upto topVarySpec)) topVaryUptoCard

/-- THE SECOND FORM's CARD OF 'lardertop.TopFresh'. -/
def topFreshUptoCard : Claim7 := { stood := { row := topFreshUptoRow, standIns := [], harness := (true, "30495691a27cf8008ea615e26c7d8e666416709b2976d844665575ea0039d10c"), looks := true }, kinds := [], alts := [], laidByText := true, laidKinds := [.data, .data, .data, .data, .sentinel, .sentinel, .pinned], laidTests := true, laidLooks := .later }
def TopFreshUptoCardSaid : Prop := Claim7.holds Tryz.pinned (.plain (OpenSpec.upto topFreshSpec)) topFreshUptoCard

/-- THE SECOND FORM's CARD OF 'lardertop.TopStays'. -/
def topStaysUptoCard : Claim7 := { stood := { row := topStaysUptoRow, standIns := [], harness := (true, "30495691a27cf8008ea615e26c7d8e666416709b2976d844665575ea0039d10c"), looks := true }, kinds := [], alts := [], laidByText := true, laidKinds := [.data, .data, .data, .data, .sentinel, .sentinel, .pinned], laidTests := true, laidLooks := .later }
def TopStaysUptoCardSaid : Prop := Claim7.holds Tryz.pinned (.plain (OpenSpec.upto topStaysSpec)) topStaysUptoCard

/-- THE SECOND FORM's CARD OF 'lardertop.TopFails'. -/
def topFailsUptoCard : Claim7 := { stood := { row := topFailsUptoRow, standIns := [], harness := (true, "30495691a27cf8008ea615e26c7d8e666416709b2976d844665575ea0039d10c"), looks := true }, kinds := [], alts := [], laidByText := true, laidKinds := [.data, .data, .data, .data, .sentinel, .sentinel, .pinned], laidTests := true, laidLooks := .later }
def TopFailsUptoCardSaid : Prop := Claim7.holds Tryz.pinned (.plain (OpenSpec.upto topFailsSpec)) topFailsUptoCard

/-- THE SECOND FORM's CARD OF 'lardertop.TopRoom'. -/
def topRoomUptoCard : Claim7 := { stood := { row := topRoomUptoRow, standIns := [], harness := (true, "30495691a27cf8008ea615e26c7d8e666416709b2976d844665575ea0039d10c"), looks := true }, kinds := [], alts := [], laidByText := true, laidKinds := [.data, .data, .data, .data, .sentinel, .sentinel, .pinned], laidTests := true, laidLooks := .later }
def TopRoomUptoCardSaid : Prop := Claim7.holds Tryz.pinned (.plain (OpenSpec.upto topRoomSpec)) topRoomUptoCard

/-- THE SECOND FORM's CARD OF 'lardertop.TopSoon'. -/
def topSoonUptoCard : Claim7 := { stood := { row := topSoonUptoRow, standIns := [], harness := (true, "30495691a27cf8008ea615e26c7d8e666416709b2976d844665575ea0039d10c"), looks := true }, kinds := [], alts := [], laidByText := true, laidKinds := [.data, .data, .data, .data, .sentinel, .sentinel, .pinned], laidTests := true, laidLooks := .later }
def TopSoonUptoCardSaid : Prop := Claim7.holds Tryz.pinned (.plain (OpenSpec.upto topSoonSpec)) topSoonUptoCard

/-- THE SECOND FORM's CARD OF 'larderkeep.DeskAlone'. -/
def deskAloneUptoCard : Claim7 := { stood := { row := deskAloneUptoRow, standIns := [], harness := (true, "30495691a27cf8008ea615e26c7d8e666416709b2976d844665575ea0039d10c"), looks := true }, kinds := [], alts := [], laidByText := true, laidKinds := [.data, .data, .data, .data, .sentinel, .sentinel, .pinned], laidTests := true, laidLooks := .later }
def DeskAloneUptoCardSaid : Prop := Claim7.holds Tryz.pinned (.plain (OpenSpec.upto deskAloneSpec)) deskAloneUptoCard
end Rows
end Go.Proofs.YtgjfhgcjiglfkaaGreatDoor
