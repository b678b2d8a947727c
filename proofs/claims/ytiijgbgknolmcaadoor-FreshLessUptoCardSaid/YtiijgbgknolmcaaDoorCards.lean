/-
  DERIVED. GIVEN WITH THE SEED: THE CARDS: each row of YtiijgbgknolmcaaDoorRows.lean that lists a variable, with what it lists TIED to the program's text (the seventh form; the later family's looks); each row that meets fmt, with fmt's text TOLD by the authors' own Lean function (tested against real Go, not proved from fmt's source: count such statements apart). THE CARD IS WHAT COUNTS. Prove the row's statement (the work); the ties are given (YtiijgbgknolmcaaDoorTie.lean); close each card by the builder's one call (the guide's Derived/Test/ToyasCard.lean, 'card_holds'). Laid BY PROGRAM, IN A SANDBOX (cutbox-door.mjs). By AI agents, Wed Nov 11 2026. No macro, syntax, notation, axiom, sorry.
-/
import Derived.Test.YtiijgbgknolmcaaDoorRows
import GoSem.ClaimSeven
namespace Go.Proofs.YtiijgbgknolmcaaDoor
namespace Rows

/-- THE TIED CARD OF 'larderkeep.CondNothing'. -/
def condNothingCard : Claim7 := { stood := { row := condNothingRow, standIns := [], harness := (true, "b0711a7fcfcd3512db907f6afafd8c89e5d2970b1c595a40db7e3e723d041d06"), looks := false }, kinds := [], alts := [], laidByText := true, laidKinds := [.data, .data, .data, .data, .pinned], laidTests := true, laidLooks := .later }
def CondNothingCardSaid : Prop := Claim7.holds Tryd.pinned (.plain (OpenSpec.ofChange condNothingSpec)) condNothingCard

/-- THE TIED CARD OF 'larderkeep.CondStar'. -/
def condStarCard : Claim7 := { stood := { row := condStarRow, standIns := [], harness := (true, "b0711a7fcfcd3512db907f6afafd8c89e5d2970b1c595a40db7e3e723d041d06"), looks := false }, kinds := [], alts := [], laidByText := true, laidKinds := [.data, .data, .data, .data, .pinned], laidTests := true, laidLooks := .later }
def CondStarCardSaid : Prop := Claim7.holds Tryd.pinned (.plain (OpenSpec.ofChange condStarSpec)) condStarCard

/-- THE TIED CARD OF 'larderkeep.CondMine'. -/
def condMineCard : Claim7 := { stood := { row := condMineRow, standIns := [], harness := (true, "b0711a7fcfcd3512db907f6afafd8c89e5d2970b1c595a40db7e3e723d041d06"), looks := false }, kinds := [], alts := [], laidByText := true, laidKinds := [.data, .data, .data, .data, .pinned], laidTests := true, laidLooks := .later }
def CondMineCardSaid : Prop := Claim7.holds Tryd.pinned (.plain (OpenSpec.ofChange condMineSpec)) condMineCard

/-- THE TIED CARD OF 'larderkeep.CondFirst'. -/
def condFirstCard : Claim7 := { stood := { row := condFirstRow, standIns := [], harness := (true, "b0711a7fcfcd3512db907f6afafd8c89e5d2970b1c595a40db7e3e723d041d06"), looks := false }, kinds := [], alts := [], laidByText := true, laidKinds := [.data, .data, .data, .data, .pinned], laidTests := true, laidLooks := .later }
def CondFirstCardSaid : Prop := Claim7.holds Tryd.pinned (.plain (OpenSpec.ofChange condFirstSpec)) condFirstCard

/-- THE TIED CARD OF 'larderkeep.CondDates'. -/
def condDatesCard : Claim7 := { stood := { row := condDatesRow, standIns := [], harness := (true, "b0711a7fcfcd3512db907f6afafd8c89e5d2970b1c595a40db7e3e723d041d06"), looks := false }, kinds := [], alts := [], laidByText := true, laidKinds := [.data, .data, .data, .data, .pinned], laidTests := true, laidLooks := .later }
def CondDatesCardSaid : Prop := Claim7.holds Tryd.pinned (.plain (OpenSpec.ofChange condDatesSpec)) condDatesCard

/-- THE TIED CARD OF 'larderkeep.FreshGrows'. -/
def freshGrowsCard : Claim7 := { stood := { row := freshGrowsRow, standIns := [], harness := (true, "b0711a7fcfcd3512db907f6afafd8c89e5d2970b1c595a40db7e3e723d041d06"), looks := false }, kinds := [], alts := [], laidByText := true, laidKinds := [.data, .data, .data], laidTests := true, laidLooks := .later }
def FreshGrowsCardSaid : Prop := Claim7.holds Tryd.pinned (.plain (OpenSpec.ofChange freshGrowsSpec)) freshGrowsCard

/-- THE TIED CARD OF 'larderkeep.FreshLater'. -/
def freshLaterCard : Claim7 := { stood := { row := freshLaterRow, standIns := [], harness := (true, "b0711a7fcfcd3512db907f6afafd8c89e5d2970b1c595a40db7e3e723d041d06"), looks := false }, kinds := [], alts := [], laidByText := true, laidKinds := [.data, .data, .data], laidTests := true, laidLooks := .later }
def FreshLaterCardSaid : Prop := Claim7.holds Tryd.pinned (.plain (OpenSpec.ofChange freshLaterSpec)) freshLaterCard

/-- THE TIED CARD OF 'larderkeep.FreshStale'. -/
def freshStaleCard : Claim7 := { stood := { row := freshStaleRow, standIns := [], harness := (true, "b0711a7fcfcd3512db907f6afafd8c89e5d2970b1c595a40db7e3e723d041d06"), looks := false }, kinds := [], alts := [], laidByText := true, laidKinds := [.data, .data, .data], laidTests := true, laidLooks := .later }
def FreshStaleCardSaid : Prop := Claim7.holds Tryd.pinned (.plain (OpenSpec.ofChange freshStaleSpec)) freshStaleCard

/-- THE TIED CARD OF 'larderkeep.FreshTold'. -/
def freshToldCard : Claim7 := { stood := { row := freshToldRow, standIns := [], harness := (true, "b0711a7fcfcd3512db907f6afafd8c89e5d2970b1c595a40db7e3e723d041d06"), looks := false }, kinds := [], alts := [], laidByText := true, laidKinds := [.data, .data, .data], laidTests := true, laidLooks := .later }
def FreshToldCardSaid : Prop := Claim7.holds Tryd.pinned (.plain (OpenSpec.ofChange freshToldSpec)) freshToldCard

/-- THE TIED CARD OF 'larderkeep.FreshLess'. -/
def freshLessCard : Claim7 := { stood := { row := freshLessRow, standIns := [], harness := (true, "b0711a7fcfcd3512db907f6afafd8c89e5d2970b1c595a40db7e3e723d041d06"), looks := false }, kinds := [], alts := [], laidByText := true, laidKinds := [.data, .data, .data], laidTests := true, laidLooks := .later }
def FreshLessCardSaid : Prop := Claim7.holds Tryd.pinned (.plain (OpenSpec.ofChange freshLessSpec)) freshLessCard

/-- THE SECOND FORM's CARD OF 'larderkeep.CondNothing'. -/
def condNothingUptoCard : Claim7 := { stood := { row := condNothingUptoRow, standIns := [], harness := (true, "b0711a7fcfcd3512db907f6afafd8c89e5d2970b1c595a40db7e3e723d041d06"), looks := false }, kinds := [], alts := [], laidByText := true, laidKinds := [.data, .data, .data, .data, .pinned], laidTests := true, laidLooks := .later }
def CondNothingUptoCardSaid : Prop := Claim7.holds Tryd.pinned (.plain (OpenSpec.upto condNothingSpec)) condNothingUptoCard

/-- THE SECOND FORM's CARD OF 'larderkeep.CondStar'. -/
def condStarUptoCard : Claim7 := { stood := { row := condStarUptoRow, standIns := [], harness := (true, "b0711a7fcfcd3512db907f6afafd8c89e5d2970b1c595a40db7e3e723d041d06"), looks := false }, kinds := [], alts := [], laidByText := true, laidKinds := [.data, .data, .data, .data, .pinned], laidTests := true, laidLooks := .later }
def CondStarUptoCardSaid : Prop := Claim7.holds Tryd.pinned (.plain (OpenSpec.upto condStarSpec)) condStarUptoCard

/-- THE SECOND FORM's CARD OF 'larderkeep.CondMine'. -/
def condMineUptoCard : Claim7 := { stood := { row := condMineUptoRow, standIns := [], harness := (true, "b0711a7fcfcd3512db907f6afafd8c89e5d2970b1c595a40db7e3e723d041d06"), looks := false }, kinds := [], alts := [], laidByText := true, laidKinds := [.data, .data, .data, .data, .pinned], laidTests := true, laidLooks := .later }
def CondMineUptoCardSaid : Prop := Claim7.holds Tryd.pinned (.plain (OpenSpec.upto condMineSpec)) condMineUptoCard

/-- THE SECOND FORM's CARD OF 'larderkeep.CondFirst'. -/
def condFirstUptoCard : Claim7 := { stood := { row := condFirstUptoRow, standIns := [], harness := (true, "b0711a7fcfcd3512db907f6afafd8c89e5d2970b1c595a40db7e3e723d041d06"), looks := false }, kinds := [], alts := [], laidByText := true, laidKinds := [.data, .data, .data, .data, .pinned], laidTests := true, laidLooks := .later }
def CondFirstUptoCardSaid : Prop := Claim7.holds Tryd.pinned (.plain (OpenSpec.upto condFirstSpec)) condFirstUptoCard

/-- THE SECOND FORM's CARD OF 'larderkeep.CondDates'. -/
def condDatesUptoCard : Claim7 := { stood := { row := condDatesUptoRow, standIns := [], harness := (true, "b0711a7fcfcd3512db907f6afafd8c89e5d2970b1c595a40db7e3e723d041d06"), looks := false }, kinds := [], alts := [], laidByText := true, laidKinds := [.data, .data, .data, .data, .pinned], laidTests := true, laidLooks := .later }
def CondDatesUptoCardSaid : Prop := Claim7.holds Tryd.pinned (.plain (OpenSpec.upto condDatesSpec)) condDatesUptoCard

/-- THE SECOND FORM's CARD OF 'larderkeep.FreshGrows'. -/
def freshGrowsUptoCard : Claim7 := { stood := { row := freshGrowsUptoRow, standIns := [], harness := (true, "b0711a7fcfcd3512db907f6afafd8c89e5d2970b1c595a40db7e3e723d041d06"), looks := false }, kinds := [], alts := [], laidByText := true, laidKinds := [.data, .data, .data], laidTests := true, laidLooks := .later }
def FreshGrowsUptoCardSaid : Prop := Claim7.holds Tryd.pinned (.plain (OpenSpec.upto freshGrowsSpec)) freshGrowsUptoCard

/-- THE SECOND FORM's CARD OF 'larderkeep.FreshLater'. -/
def freshLaterUptoCard : Claim7 := { stood := { row := freshLaterUptoRow, standIns := [], harness := (true, "b0711a7fcfcd3512db907f6afafd8c89e5d2970b1c595a40db7e3e723d041d06"), looks := false }, kinds := [], alts := [], laidByText := true, laidKinds := [.data, .data, .data], laidTests := true, laidLooks := .later }
def FreshLaterUptoCardSaid : Prop := Claim7.holds Tryd.pinned (.plain (OpenSpec.upto freshLaterSpec)) freshLaterUptoCard

/-- THE SECOND FORM's CARD OF 'larderkeep.FreshStale'. -/
def freshStaleUptoCard : Claim7 := { stood := { row := freshStaleUptoRow, standIns := [], harness := (true, "b0711a7fcfcd3512db907f6afafd8c89e5d2970b1c595a40db7e3e723d041d06"), looks := false }, kinds := [], alts := [], laidByText := true, laidKinds := [.data, .data, .data], laidTests := true, laidLooks := .later }
def FreshStaleUptoCardSaid : Prop := Claim7.holds Tryd.pinned (.plain (OpenSpec.upto freshStaleSpec)) freshStaleUptoCard

/-- THE SECOND FORM's CARD OF 'larderkeep.FreshTold'. -/
def freshToldUptoCard : Claim7 := { stood := { row := freshToldUptoRow, standIns := [], harness := (true, "b0711a7fcfcd3512db907f6afafd8c89e5d2970b1c595a40db7e3e723d041d06"), looks := false }, kinds := [], alts := [], laidByText := true, laidKinds := [.data, .data, .data], laidTests := true, laidLooks := .later }
def FreshToldUptoCardSaid : Prop := Claim7.holds Tryd.pinned (.plain (OpenSpec.upto freshToldSpec)) freshToldUptoCard

/-- THE SECOND FORM's CARD OF 'larderkeep.FreshLess'. -/
def freshLessUptoCard : Claim7 := { stood := { row := freshLessUptoRow, standIns := [], harness := (true, "b0711a7fcfcd3512db907f6afafd8c89e5d2970b1c595a40db7e3e723d041d06"), looks := false }, kinds := [], alts := [], laidByText := true, laidKinds := [.data, .data, .data], laidTests := true, laidLooks := .later }
def FreshLessUptoCardSaid : Prop := Claim7.holds Tryd.pinned (.plain (OpenSpec.upto freshLessSpec)) freshLessUptoCard
end Rows
end Go.Proofs.YtiijgbgknolmcaaDoor
