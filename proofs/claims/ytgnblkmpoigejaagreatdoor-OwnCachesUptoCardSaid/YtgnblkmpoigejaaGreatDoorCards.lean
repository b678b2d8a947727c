/-
  DERIVED. GIVEN WITH THE SEED: THE CARDS: each row of YtgnblkmpoigejaaGreatDoorRows.lean that lists a variable, with what it lists TIED to the program's text (the seventh form; the later family's looks); each row that meets fmt, with fmt's text TOLD by the authors' own Lean function (tested against real Go, not proved from fmt's source: count such statements apart). THE CARD IS WHAT COUNTS. Prove the row's statement (the work); the ties are given (YtgnblkmpoigejaaGreatDoorTie.lean); close each card by the builder's one call (the guide's Derived/Test/ToyasCard.lean, 'card_holds'). Laid BY PROGRAM, IN A SANDBOX (cutbox-door.mjs). By AI agents, Wed Nov 11 2026. No macro, syntax, notation, axiom, sorry.
-/
import Derived.Test.YtgnblkmpoigejaaGreatDoorRows
import GoSem.ClaimSeven
namespace Go.Proofs.YtgnblkmpoigejaaGreatDoor
namespace Rows

/-- THE TIED CARD OF 'larderkeep.CacheFinds'. -/
def cacheFindsCard : Claim7 := { stood := { row := cacheFindsRow, standIns := [], harness := (true, "3ad72c6a6d51e87e03ab44a3fcdd2512110ffd41310747374392c7f4b9801b57"), looks := true }, kinds := [], alts := [], laidByText := true, laidKinds := [.data, .data, .data, .data, .pinned], laidTests := true, laidLooks := .later }
def CacheFindsCardSaid : Prop := Claim7.holds Tryz.pinned (.plain (OpenSpec.ofChange cacheFindsSpec)) cacheFindsCard

/-- THE TIED CARD OF 'larderkeep.CacheFits'. -/
def cacheFitsCard : Claim7 := { stood := { row := cacheFitsRow, standIns := [], harness := (true, "3ad72c6a6d51e87e03ab44a3fcdd2512110ffd41310747374392c7f4b9801b57"), looks := true }, kinds := [], alts := [], laidByText := true, laidKinds := [.data, .data, .data, .data, .pinned], laidTests := true, laidLooks := .later }
def CacheFitsCardSaid : Prop := Claim7.holds Tryz.pinned (.plain (OpenSpec.ofChange cacheFitsSpec)) cacheFitsCard

/-- THE TIED CARD OF 'larderkeep.CacheRenews'. -/
def cacheRenewsCard : Claim7 := { stood := { row := cacheRenewsRow, standIns := [], harness := (true, "3ad72c6a6d51e87e03ab44a3fcdd2512110ffd41310747374392c7f4b9801b57"), looks := true }, kinds := [], alts := [], laidByText := true, laidKinds := [.data, .data, .data, .data, .pinned], laidTests := true, laidLooks := .later }
def CacheRenewsCardSaid : Prop := Claim7.holds Tryz.pinned (.plain (OpenSpec.ofChange cacheRenewsSpec)) cacheRenewsCard

/-- THE TIED CARD OF 'larderkeep.CacheRoom'. -/
def cacheRoomCard : Claim7 := { stood := { row := cacheRoomRow, standIns := [], harness := (true, "3ad72c6a6d51e87e03ab44a3fcdd2512110ffd41310747374392c7f4b9801b57"), looks := true }, kinds := [], alts := [], laidByText := true, laidKinds := [.data, .data, .data, .data, .pinned], laidTests := true, laidLooks := .later }
def CacheRoomCardSaid : Prop := Claim7.holds Tryz.pinned (.plain (OpenSpec.ofChange cacheRoomSpec)) cacheRoomCard

/-- THE TIED CARD OF 'larderkeep.CacheDrops'. -/
def cacheDropsCard : Claim7 := { stood := { row := cacheDropsRow, standIns := [], harness := (true, "3ad72c6a6d51e87e03ab44a3fcdd2512110ffd41310747374392c7f4b9801b57"), looks := true }, kinds := [], alts := [], laidByText := true, laidKinds := [.data, .data, .data, .data, .pinned], laidTests := true, laidLooks := .later }
def CacheDropsCardSaid : Prop := Claim7.holds Tryz.pinned (.plain (OpenSpec.ofChange cacheDropsSpec)) cacheDropsCard

/-- THE TIED CARD OF 'larderkeep.OwnCaches'. -/
def ownCachesCard : Claim7 := { stood := { row := ownCachesRow, standIns := [], harness := (true, "3ad72c6a6d51e87e03ab44a3fcdd2512110ffd41310747374392c7f4b9801b57"), looks := true }, kinds := [], alts := [], laidByText := true, laidKinds := [.data, .data, .data, .data, .pinned], laidTests := true, laidLooks := .later }
def OwnCachesCardSaid : Prop := Claim7.holds Tryz.pinned (.plain (OpenSpec.ofChange ownCachesSpec)) ownCachesCard

/-- THE TIED CARD OF 'larderkeep.DeskAlone'. -/
def deskAloneCard : Claim7 := { stood := { row := deskAloneRow, standIns := [], harness := (true, "3ad72c6a6d51e87e03ab44a3fcdd2512110ffd41310747374392c7f4b9801b57"), looks := true }, kinds := [], alts := [], laidByText := true, laidKinds := [.data, .data, .data, .data, .sentinel, .sentinel, .pinned], laidTests := true, laidLooks := .later }
def DeskAloneCardSaid : Prop := Claim7.holds Tryz.pinned (.plain (OpenSpec.ofChange deskAloneSpec)) deskAloneCard

/-- THE SECOND FORM's CARD OF 'larderkeep.CacheFinds'. -/
def cacheFindsUptoCard : Claim7 := { stood := { row := cacheFindsUptoRow, standIns := [], harness := (true, "3ad72c6a6d51e87e03ab44a3fcdd2512110ffd41310747374392c7f4b9801b57"), looks := true }, kinds := [], alts := [], laidByText := true, laidKinds := [.data, .data, .data, .data, .pinned], laidTests := true, laidLooks := .later }
def CacheFindsUptoCardSaid : Prop := Claim7.holds Tryz.pinned (.plain (OpenSpec.upto cacheFindsSpec)) cacheFindsUptoCard

/-- THE SECOND FORM's CARD OF 'larderkeep.CacheFits'. -/
def cacheFitsUptoCard : Claim7 := { stood := { row := cacheFitsUptoRow, standIns := [], harness := (true, "3ad72c6a6d51e87e03ab44a3fcdd2512110ffd41310747374392c7f4b9801b57"), looks := true }, kinds := [], alts := [], laidByText := true, laidKinds := [.data, .data, .data, .data, .pinned], laidTests := true, laidLooks := .later }
def CacheFitsUptoCardSaid : Prop := Claim7.holds Tryz.pinned (.plain (OpenSpec.upto cacheFitsSpec)) cacheFitsUptoCard

/-- THE SECOND FORM's CARD OF 'larderkeep.CacheRenews'. -/
def cacheRenewsUptoCard : Claim7 := { stood := { row := cacheRenewsUptoRow, standIns := [], harness := (true, "3ad72c6a6d51e87e03ab44a3fcdd2512110ffd41310747374392c7f4b9801b57"), looks := true }, kinds := [], alts := [], laidByText := true, laidKinds := [.data, .data, .data, .data, .pinned], laidTests := true, laidLooks := .later }
def CacheRenewsUptoCardSaid : Prop := Claim7.holds Tryz.pinned (.plain (OpenSpec.upto cacheRenewsSpec)) cacheRenewsUptoCard

/-- THE SECOND FORM's CARD OF 'larderkeep.CacheRoom'. -/
def cacheRoomUptoCard : Claim7 := { stood := { row := cacheRoomUptoRow, standIns := [], harness := (true, "3ad72c6a6d51e87e03ab44a3fcdd2512110ffd41310747374392c7f4b9801b57"), looks := true }, kinds := [], alts := [], laidByText := true, laidKinds := [.data, .data, .data, .data, .pinned], laidTests := true, laidLooks := .later }
def CacheRoomUptoCardSaid : Prop := Claim7.holds Tryz.pinned (.plain (OpenSpec.upto cacheRoomSpec)) cacheRoomUptoCard

/-- THE SECOND FORM's CARD OF 'larderkeep.CacheDrops'. -/
def cacheDropsUptoCard : Claim7 := { stood := { row := cacheDropsUptoRow, standIns := [], harness := (true, "3ad72c6a6d51e87e03ab44a3fcdd2512110ffd41310747374392c7f4b9801b57"), looks := true }, kinds := [], alts := [], laidByText := true, laidKinds := [.data, .data, .data, .data, .pinned], laidTests := true, laidLooks := .later }
def CacheDropsUptoCardSaid : Prop := Claim7.holds Tryz.pinned (.plain (OpenSpec.upto cacheDropsSpec)) cacheDropsUptoCard

/-- THE SECOND FORM's CARD OF 'larderkeep.OwnCaches'. -/
def ownCachesUptoCard : Claim7 := { stood := { row := ownCachesUptoRow, standIns := [], harness := (true, "3ad72c6a6d51e87e03ab44a3fcdd2512110ffd41310747374392c7f4b9801b57"), looks := true }, kinds := [], alts := [], laidByText := true, laidKinds := [.data, .data, .data, .data, .pinned], laidTests := true, laidLooks := .later }
def OwnCachesUptoCardSaid : Prop := Claim7.holds Tryz.pinned (.plain (OpenSpec.upto ownCachesSpec)) ownCachesUptoCard

/-- THE SECOND FORM's CARD OF 'larderkeep.DeskAlone'. -/
def deskAloneUptoCard : Claim7 := { stood := { row := deskAloneUptoRow, standIns := [], harness := (true, "3ad72c6a6d51e87e03ab44a3fcdd2512110ffd41310747374392c7f4b9801b57"), looks := true }, kinds := [], alts := [], laidByText := true, laidKinds := [.data, .data, .data, .data, .sentinel, .sentinel, .pinned], laidTests := true, laidLooks := .later }
def DeskAloneUptoCardSaid : Prop := Claim7.holds Tryz.pinned (.plain (OpenSpec.upto deskAloneSpec)) deskAloneUptoCard
end Rows
end Go.Proofs.YtgnblkmpoigejaaGreatDoor
