/-
  No cell of these rows narrows 'for every input' (looked for: loops, veiled, ifaces, maps, wideKeys, modest, calm, conditions, laid).
  DERIVED. THE GIVEN ROWS OF THIS SEAT. 12 by the template 'for every input the law returns true; each argument reads behind the call as it read before'; 0 by the template 'total and deterministic' (their statements: YtnobcehiahcfkaaTotals.lean).
  GIVEN WITH THE SEED: the statements are not yours to turn. If you find one false, say at which input.
  Laid BY PROGRAM, IN A SANDBOX (cutbox-rows.mjs): the forced cells as the released guide's own fill.sh prints them over the translation 831a99713bc120f7… (all of the seat's roots in one cut). By AI agents, Wed Nov 11 2026. No macro, syntax, notation, axiom, sorry.
-/
import Derived.Test.YtnobcehiahcfkaaChecked
import GoSem.Claim
import GoSem.ClaimJoined
import GoSem.ClaimMapViews
import Derived.JoinedTies
import Derived.KernelRfl
namespace Go.Proofs.Ytnobcehiahcfkaa
/- THE CELL 'sum', in the pinned program and in every row, IS THE sha256 OF THE DUMP (.gsa) THAT YtnobcehiahcfkaaProg.lean LOADS. Nothing in Lean hashes anything: it is a label: what it is worth is what the hold of that sum in a sandbox is worth. -/
noncomputable def Try.pinned : Pinned := { name := "ytnobcehiahcfkaa", sum := "831a99713bc120f71d68c94b03f466d931e5ed67cefe76a0fcf422c8bec1f485", checked := Try.checked }
namespace Rows
def none {H : Type} : Left H := { results := [], args := [] }

/-- 'larderkeep.ChunkGrows': WHATEVER THE INPUT: true; the input reads as it did. -/
def chunkGrowsSpec : ChangeSpec := { name := "chunkGrows", fn := fun _ => fun
  | [d1, d2] => { results := [.lit (.bool true)], args := [d1, d2] }
  | _ => none }
def chunkGrowsRow : OpenClaim := { program := "ytnobcehiahcfkaa", sum := "831a99713bc120f71d68c94b03f466d931e5ed67cefe76a0fcf422c8bec1f485", func := "larder/larderkeep.ChunkGrows", spec := "chunkGrows", unfollowed := true, recurses := true, apart := false }
def ChunkGrowsSaid : Prop := chunkGrowsRow.holds Try.pinned (OpenSpec.ofChange chunkGrowsSpec)

/-- ITS FALSE NEIGHBOUR: 'it returns false'. Refute it at one input. -/
def chunkGrowsWrong : ChangeSpec := { name := "chunkGrows", fn := fun _ => fun
  | [d1, d2] => { results := [.lit (.bool false)], args := [d1, d2] }
  | _ => none }
def ChunkGrowsWrongFalsely : Prop := chunkGrowsRow.holds Try.pinned (OpenSpec.ofChange chunkGrowsWrong)

/-- 'larderkeep.ChunkMeets': WHATEVER THE INPUT: true; the input reads as it did. -/
def chunkMeetsSpec : ChangeSpec := { name := "chunkMeets", fn := fun _ => fun
  | [d1, d2, d3] => { results := [.lit (.bool true)], args := [d1, d2, d3] }
  | _ => none }
def chunkMeetsRow : OpenClaim := { program := "ytnobcehiahcfkaa", sum := "831a99713bc120f71d68c94b03f466d931e5ed67cefe76a0fcf422c8bec1f485", func := "larder/larderkeep.ChunkMeets", spec := "chunkMeets", unfollowed := true, recurses := true, apart := false }
def ChunkMeetsSaid : Prop := chunkMeetsRow.holds Try.pinned (OpenSpec.ofChange chunkMeetsSpec)

/-- ITS FALSE NEIGHBOUR: 'it returns false'. Refute it at one input. -/
def chunkMeetsWrong : ChangeSpec := { name := "chunkMeets", fn := fun _ => fun
  | [d1, d2, d3] => { results := [.lit (.bool false)], args := [d1, d2, d3] }
  | _ => none }
def ChunkMeetsWrongFalsely : Prop := chunkMeetsRow.holds Try.pinned (OpenSpec.ofChange chunkMeetsWrong)

/-- 'larderkeep.ChunkWhole': WHATEVER THE INPUT: true; the input reads as it did. -/
def chunkWholeSpec : ChangeSpec := { name := "chunkWhole", fn := fun _ => fun
  | [d] => { results := [.lit (.bool true)], args := [d] }
  | _ => none }
def chunkWholeRow : OpenClaim := { program := "ytnobcehiahcfkaa", sum := "831a99713bc120f71d68c94b03f466d931e5ed67cefe76a0fcf422c8bec1f485", func := "larder/larderkeep.ChunkWhole", spec := "chunkWhole", inPlace := ["internal/abi.NoEscape", "internal/bytealg.MakeNoZero"], unfollowed := true, recurses := true, apart := false }
def ChunkWholeSaid : Prop := chunkWholeRow.holds Try.pinned (OpenSpec.ofChange chunkWholeSpec)

/-- ITS FALSE NEIGHBOUR: 'it returns false'. Refute it at one input. -/
def chunkWholeWrong : ChangeSpec := { name := "chunkWhole", fn := fun _ => fun
  | [d] => { results := [.lit (.bool false)], args := [d] }
  | _ => none }
def ChunkWholeWrongFalsely : Prop := chunkWholeRow.holds Try.pinned (OpenSpec.ofChange chunkWholeWrong)

/-- 'larderkeep.ChunkSplits': WHATEVER THE INPUT: true; the input reads as it did. -/
def chunkSplitsSpec : ChangeSpec := { name := "chunkSplits", fn := fun _ => fun
  | [d] => { results := [.lit (.bool true)], args := [d] }
  | _ => none }
def chunkSplitsRow : OpenClaim := { program := "ytnobcehiahcfkaa", sum := "831a99713bc120f71d68c94b03f466d931e5ed67cefe76a0fcf422c8bec1f485", func := "larder/larderkeep.ChunkSplits", spec := "chunkSplits", inPlace := ["internal/abi.NoEscape", "internal/bytealg.MakeNoZero"], unfollowed := true, recurses := true, apart := false }
def ChunkSplitsSaid : Prop := chunkSplitsRow.holds Try.pinned (OpenSpec.ofChange chunkSplitsSpec)

/-- ITS FALSE NEIGHBOUR: 'it returns false'. Refute it at one input. -/
def chunkSplitsWrong : ChangeSpec := { name := "chunkSplits", fn := fun _ => fun
  | [d] => { results := [.lit (.bool false)], args := [d] }
  | _ => none }
def ChunkSplitsWrongFalsely : Prop := chunkSplitsRow.holds Try.pinned (OpenSpec.ofChange chunkSplitsWrong)

/-- 'larderkeep.RowRoom': WHATEVER THE INPUT: true; the input reads as it did. -/
def rowRoomSpec : ChangeSpec := { name := "rowRoom", fn := fun _ => fun
  | [d1, d2, d3, d4] => { results := [.lit (.bool true)], args := [d1, d2, d3, d4] }
  | _ => none }
def rowRoomRow : OpenClaim := { program := "ytnobcehiahcfkaa", sum := "831a99713bc120f71d68c94b03f466d931e5ed67cefe76a0fcf422c8bec1f485", func := "larder/larderkeep.RowRoom", spec := "rowRoom", unfollowed := true, recurses := true, apart := false }
def RowRoomSaid : Prop := rowRoomRow.holds Try.pinned (OpenSpec.ofChange rowRoomSpec)

/-- ITS FALSE NEIGHBOUR: 'it returns false'. Refute it at one input. -/
def rowRoomWrong : ChangeSpec := { name := "rowRoom", fn := fun _ => fun
  | [d1, d2, d3, d4] => { results := [.lit (.bool false)], args := [d1, d2, d3, d4] }
  | _ => none }
def RowRoomWrongFalsely : Prop := rowRoomRow.holds Try.pinned (OpenSpec.ofChange rowRoomWrong)

/-- 'larderkeep.RowTouched': WHATEVER THE INPUT: true; the input reads as it did. -/
def rowTouchedSpec : ChangeSpec := { name := "rowTouched", fn := fun _ => fun
  | [d1, d2] => { results := [.lit (.bool true)], args := [d1, d2] }
  | _ => none }
def rowTouchedRow : OpenClaim := { program := "ytnobcehiahcfkaa", sum := "831a99713bc120f71d68c94b03f466d931e5ed67cefe76a0fcf422c8bec1f485", func := "larder/larderkeep.RowTouched", spec := "rowTouched", unfollowed := true, recurses := true, apart := false }
def RowTouchedSaid : Prop := rowTouchedRow.holds Try.pinned (OpenSpec.ofChange rowTouchedSpec)

/-- ITS FALSE NEIGHBOUR: 'it returns false'. Refute it at one input. -/
def rowTouchedWrong : ChangeSpec := { name := "rowTouched", fn := fun _ => fun
  | [d1, d2] => { results := [.lit (.bool false)], args := [d1, d2] }
  | _ => none }
def RowTouchedWrongFalsely : Prop := rowTouchedRow.holds Try.pinned (OpenSpec.ofChange rowTouchedWrong)

/-- 'larderkeep.DigestKnown': WHATEVER THE INPUT: true; the input reads as it did. -/
def digestKnownSpec : ChangeSpec := { name := "digestKnown", fn := fun _ => fun
  | [] => { results := [.lit (.bool true)], args := [] }
  | _ => none }
def digestKnownRow : OpenClaim := { program := "ytnobcehiahcfkaa", sum := "831a99713bc120f71d68c94b03f466d931e5ed67cefe76a0fcf422c8bec1f485", func := "larder/larderkeep.DigestKnown", spec := "digestKnown", apart := false }
def DigestKnownSaid : Prop := digestKnownRow.holds Try.pinned (OpenSpec.ofChange digestKnownSpec)

/-- ITS FALSE NEIGHBOUR: 'it returns false'. Refute it at one input. -/
def digestKnownWrong : ChangeSpec := { name := "digestKnown", fn := fun _ => fun
  | [] => { results := [.lit (.bool false)], args := [] }
  | _ => none }
def DigestKnownWrongFalsely : Prop := digestKnownRow.holds Try.pinned (OpenSpec.ofChange digestKnownWrong)

/-- 'larderkeep.DigestPieces': WHATEVER THE INPUT: true; the input reads as it did. -/
def digestPiecesSpec : ChangeSpec := { name := "digestPieces", fn := fun _ => fun
  | [d] => { results := [.lit (.bool true)], args := [d] }
  | _ => none }
def digestPiecesRow : OpenClaim := { program := "ytnobcehiahcfkaa", sum := "831a99713bc120f71d68c94b03f466d931e5ed67cefe76a0fcf422c8bec1f485", func := "larder/larderkeep.DigestPieces", spec := "digestPieces", inPlace := ["internal/abi.NoEscape", "internal/bytealg.MakeNoZero"], apart := false }
def DigestPiecesSaid : Prop := digestPiecesRow.holds Try.pinned (OpenSpec.ofChange digestPiecesSpec)

/-- ITS FALSE NEIGHBOUR: 'it returns false'. Refute it at one input. -/
def digestPiecesWrong : ChangeSpec := { name := "digestPieces", fn := fun _ => fun
  | [d] => { results := [.lit (.bool false)], args := [d] }
  | _ => none }
def DigestPiecesWrongFalsely : Prop := digestPiecesRow.holds Try.pinned (OpenSpec.ofChange digestPiecesWrong)

/-- 'larderkeep.PileRoom': WHATEVER THE INPUT: true; the input reads as it did. -/
def pileRoomSpec : ChangeSpec := { name := "pileRoom", fn := fun _ => fun
  | [d1, d2] => { results := [.lit (.bool true)], args := [d1, d2] }
  | _ => none }
def pileRoomRow : OpenClaim := { program := "ytnobcehiahcfkaa", sum := "831a99713bc120f71d68c94b03f466d931e5ed67cefe76a0fcf422c8bec1f485", func := "larder/larderkeep.PileRoom", spec := "pileRoom", unfollowed := true, recurses := true, apart := false }
def PileRoomSaid : Prop := pileRoomRow.holds Try.pinned (OpenSpec.ofChange pileRoomSpec)

/-- ITS FALSE NEIGHBOUR: 'it returns false'. Refute it at one input. -/
def pileRoomWrong : ChangeSpec := { name := "pileRoom", fn := fun _ => fun
  | [d1, d2] => { results := [.lit (.bool false)], args := [d1, d2] }
  | _ => none }
def PileRoomWrongFalsely : Prop := pileRoomRow.holds Try.pinned (OpenSpec.ofChange pileRoomWrong)

/-- 'larderkeep.PileBack': WHATEVER THE INPUT: true; the input reads as it did. -/
def pileBackSpec : ChangeSpec := { name := "pileBack", fn := fun _ => fun
  | [d1, d2] => { results := [.lit (.bool true)], args := [d1, d2] }
  | _ => none }
def pileBackRow : OpenClaim := { program := "ytnobcehiahcfkaa", sum := "831a99713bc120f71d68c94b03f466d931e5ed67cefe76a0fcf422c8bec1f485", func := "larder/larderkeep.PileBack", spec := "pileBack", unfollowed := true, recurses := true, apart := false }
def PileBackSaid : Prop := pileBackRow.holds Try.pinned (OpenSpec.ofChange pileBackSpec)

/-- ITS FALSE NEIGHBOUR: 'it returns false'. Refute it at one input. -/
def pileBackWrong : ChangeSpec := { name := "pileBack", fn := fun _ => fun
  | [d1, d2] => { results := [.lit (.bool false)], args := [d1, d2] }
  | _ => none }
def PileBackWrongFalsely : Prop := pileBackRow.holds Try.pinned (OpenSpec.ofChange pileBackWrong)

/-- 'larderkeep.PileOnce': WHATEVER THE INPUT: true; the input reads as it did. -/
def pileOnceSpec : ChangeSpec := { name := "pileOnce", fn := fun _ => fun
  | [d1, d2] => { results := [.lit (.bool true)], args := [d1, d2] }
  | _ => none }
def pileOnceRow : OpenClaim := { program := "ytnobcehiahcfkaa", sum := "831a99713bc120f71d68c94b03f466d931e5ed67cefe76a0fcf422c8bec1f485", func := "larder/larderkeep.PileOnce", spec := "pileOnce", unfollowed := true, recurses := true, apart := false }
def PileOnceSaid : Prop := pileOnceRow.holds Try.pinned (OpenSpec.ofChange pileOnceSpec)

/-- ITS FALSE NEIGHBOUR: 'it returns false'. Refute it at one input. -/
def pileOnceWrong : ChangeSpec := { name := "pileOnce", fn := fun _ => fun
  | [d1, d2] => { results := [.lit (.bool false)], args := [d1, d2] }
  | _ => none }
def PileOnceWrongFalsely : Prop := pileOnceRow.holds Try.pinned (OpenSpec.ofChange pileOnceWrong)

/-- 'larderkeep.PileEmpty': WHATEVER THE INPUT: true; the input reads as it did. -/
def pileEmptySpec : ChangeSpec := { name := "pileEmpty", fn := fun _ => fun
  | [d] => { results := [.lit (.bool true)], args := [d] }
  | _ => none }
def pileEmptyRow : OpenClaim := { program := "ytnobcehiahcfkaa", sum := "831a99713bc120f71d68c94b03f466d931e5ed67cefe76a0fcf422c8bec1f485", func := "larder/larderkeep.PileEmpty", spec := "pileEmpty", unfollowed := true, recurses := true, apart := false }
def PileEmptySaid : Prop := pileEmptyRow.holds Try.pinned (OpenSpec.ofChange pileEmptySpec)

/-- ITS FALSE NEIGHBOUR: 'it returns false'. Refute it at one input. -/
def pileEmptyWrong : ChangeSpec := { name := "pileEmpty", fn := fun _ => fun
  | [d] => { results := [.lit (.bool false)], args := [d] }
  | _ => none }
def PileEmptyWrongFalsely : Prop := pileEmptyRow.holds Try.pinned (OpenSpec.ofChange pileEmptyWrong)

/- THE SECOND FORM. 'bulk': how many values and letters a reading holds, each counted each time it is reached (what is shared counts as often as it is met; a slice's spare places count too). A statement '..UptoSaid' is the law's where the arguments, and the package variables that the reading takes, are together of bulk at most 1048576: NARROWER than '..Said'. Prove '..Said' where nothing that the law and all that it calls make is longer than what came in: it says more and counts as full. Else prove '..UptoSaid'. A law counts once. -/
mutual
def uptoBulk {H : Type} : DataW H → Nat
  | .lit (.string bytes) => bytes.length + 1
  | .lit _ => 1
  | .nil => 1
  | .ptr d => uptoBulk d + 1
  | .slice elems spare => uptoBulkAll elems + uptoBulkAll spare + 1
  | .agg parts => uptoBulkAll parts + 1
  | .iface _ d => uptoBulk d + 1
  | .map entries => uptoBulkEntries entries + 1
  | .held _ => 1
def uptoBulkAll {H : Type} : List (DataW H) → Nat
  | [] => 0
  | d :: r => uptoBulk d + uptoBulkAll r
def uptoBulkEntries {H : Type} : List (Lit × DataW H) → Nat
  | [] => 0
  | x :: r => uptoBulkEntry x + uptoBulkEntries r
def uptoBulkEntry {H : Type} : Lit × DataW H → Nat
  | (.string bytes, d) => bytes.length + uptoBulk d + 1
  | (_, d) => uptoBulk d + 1
 end
def uptoSmall : (H : Type) → List (DataW H) → Bool := fun _ ds => decide (uptoBulkAll ds ≤ 1048576)
def OpenSpec.upto (s : _root_.Go.ChangeSpec) : _root_.Go.OpenSpec := { _root_.Go.OpenSpec.ofChange s with cond := some uptoSmall }

/-- 'larderkeep.ChunkGrows', WHERE WHAT IT READS IS OF BULK AT MOST 1048576: true; the input reads as it did. -/
def chunkGrowsUptoRow : OpenClaim := { program := "ytnobcehiahcfkaa", sum := "831a99713bc120f71d68c94b03f466d931e5ed67cefe76a0fcf422c8bec1f485", func := "larder/larderkeep.ChunkGrows", spec := "chunkGrows", unfollowed := true, recurses := true, apart := false, narrowed := true }
def ChunkGrowsUptoSaid : Prop := chunkGrowsUptoRow.holds Try.pinned (OpenSpec.upto chunkGrowsSpec)

/-- 'larderkeep.ChunkMeets', WHERE WHAT IT READS IS OF BULK AT MOST 1048576: true; the input reads as it did. -/
def chunkMeetsUptoRow : OpenClaim := { program := "ytnobcehiahcfkaa", sum := "831a99713bc120f71d68c94b03f466d931e5ed67cefe76a0fcf422c8bec1f485", func := "larder/larderkeep.ChunkMeets", spec := "chunkMeets", unfollowed := true, recurses := true, apart := false, narrowed := true }
def ChunkMeetsUptoSaid : Prop := chunkMeetsUptoRow.holds Try.pinned (OpenSpec.upto chunkMeetsSpec)

/-- 'larderkeep.ChunkWhole', WHERE WHAT IT READS IS OF BULK AT MOST 1048576: true; the input reads as it did. -/
def chunkWholeUptoRow : OpenClaim := { program := "ytnobcehiahcfkaa", sum := "831a99713bc120f71d68c94b03f466d931e5ed67cefe76a0fcf422c8bec1f485", func := "larder/larderkeep.ChunkWhole", spec := "chunkWhole", inPlace := ["internal/abi.NoEscape", "internal/bytealg.MakeNoZero"], unfollowed := true, recurses := true, apart := false, narrowed := true }
def ChunkWholeUptoSaid : Prop := chunkWholeUptoRow.holds Try.pinned (OpenSpec.upto chunkWholeSpec)

/-- 'larderkeep.ChunkSplits', WHERE WHAT IT READS IS OF BULK AT MOST 1048576: true; the input reads as it did. -/
def chunkSplitsUptoRow : OpenClaim := { program := "ytnobcehiahcfkaa", sum := "831a99713bc120f71d68c94b03f466d931e5ed67cefe76a0fcf422c8bec1f485", func := "larder/larderkeep.ChunkSplits", spec := "chunkSplits", inPlace := ["internal/abi.NoEscape", "internal/bytealg.MakeNoZero"], unfollowed := true, recurses := true, apart := false, narrowed := true }
def ChunkSplitsUptoSaid : Prop := chunkSplitsUptoRow.holds Try.pinned (OpenSpec.upto chunkSplitsSpec)

/-- 'larderkeep.RowRoom', WHERE WHAT IT READS IS OF BULK AT MOST 1048576: true; the input reads as it did. -/
def rowRoomUptoRow : OpenClaim := { program := "ytnobcehiahcfkaa", sum := "831a99713bc120f71d68c94b03f466d931e5ed67cefe76a0fcf422c8bec1f485", func := "larder/larderkeep.RowRoom", spec := "rowRoom", unfollowed := true, recurses := true, apart := false, narrowed := true }
def RowRoomUptoSaid : Prop := rowRoomUptoRow.holds Try.pinned (OpenSpec.upto rowRoomSpec)

/-- 'larderkeep.RowTouched', WHERE WHAT IT READS IS OF BULK AT MOST 1048576: true; the input reads as it did. -/
def rowTouchedUptoRow : OpenClaim := { program := "ytnobcehiahcfkaa", sum := "831a99713bc120f71d68c94b03f466d931e5ed67cefe76a0fcf422c8bec1f485", func := "larder/larderkeep.RowTouched", spec := "rowTouched", unfollowed := true, recurses := true, apart := false, narrowed := true }
def RowTouchedUptoSaid : Prop := rowTouchedUptoRow.holds Try.pinned (OpenSpec.upto rowTouchedSpec)

/-- 'larderkeep.DigestKnown', WHERE WHAT IT READS IS OF BULK AT MOST 1048576: true; the input reads as it did. -/
def digestKnownUptoRow : OpenClaim := { program := "ytnobcehiahcfkaa", sum := "831a99713bc120f71d68c94b03f466d931e5ed67cefe76a0fcf422c8bec1f485", func := "larder/larderkeep.DigestKnown", spec := "digestKnown", apart := false, narrowed := true }
def DigestKnownUptoSaid : Prop := digestKnownUptoRow.holds Try.pinned (OpenSpec.upto digestKnownSpec)

/-- 'larderkeep.DigestPieces', WHERE WHAT IT READS IS OF BULK AT MOST 1048576: true; the input reads as it did. -/
def digestPiecesUptoRow : OpenClaim := { program := "ytnobcehiahcfkaa", sum := "831a99713bc120f71d68c94b03f466d931e5ed67cefe76a0fcf422c8bec1f485", func := "larder/larderkeep.DigestPieces", spec := "digestPieces", inPlace := ["internal/abi.NoEscape", "internal/bytealg.MakeNoZero"], apart := false, narrowed := true }
def DigestPiecesUptoSaid : Prop := digestPiecesUptoRow.holds Try.pinned (OpenSpec.upto digestPiecesSpec)

/-- 'larderkeep.PileRoom', WHERE WHAT IT READS IS OF BULK AT MOST 1048576: true; the input reads as it did. -/
def pileRoomUptoRow : OpenClaim := { program := "ytnobcehiahcfkaa", sum := "831a99713bc120f71d68c94b03f466d931e5ed67cefe76a0fcf422c8bec1f485", func := "larder/larderkeep.PileRoom", spec := "pileRoom", unfollowed := true, recurses := true, apart := false, narrowed := true }
def PileRoomUptoSaid : Prop := pileRoomUptoRow.holds Try.pinned (OpenSpec.upto pileRoomSpec)

/-- 'larderkeep.PileBack', WHERE WHAT IT READS IS OF BULK AT MOST 1048576: true; the input reads as it did. -/
def pileBackUptoRow : OpenClaim := { program := "ytnobcehiahcfkaa", sum := "831a99713bc120f71d68c94b03f466d931e5ed67cefe76a0fcf422c8bec1f485", func := "larder/larderkeep.PileBack", spec := "pileBack", unfollowed := true, recurses := true, apart := false, narrowed := true }
def PileBackUptoSaid : Prop := pileBackUptoRow.holds Try.pinned (OpenSpec.upto pileBackSpec)

/-- 'larderkeep.PileOnce', WHERE WHAT IT READS IS OF BULK AT MOST 1048576: true; the input reads as it did. -/
def pileOnceUptoRow : OpenClaim := { program := "ytnobcehiahcfkaa", sum := "831a99713bc120f71d68c94b03f466d931e5ed67cefe76a0fcf422c8bec1f485", func := "larder/larderkeep.PileOnce", spec := "pileOnce", unfollowed := true, recurses := true, apart := false, narrowed := true }
def PileOnceUptoSaid : Prop := pileOnceUptoRow.holds Try.pinned (OpenSpec.upto pileOnceSpec)

/-- 'larderkeep.PileEmpty', WHERE WHAT IT READS IS OF BULK AT MOST 1048576: true; the input reads as it did. -/
def pileEmptyUptoRow : OpenClaim := { program := "ytnobcehiahcfkaa", sum := "831a99713bc120f71d68c94b03f466d931e5ed67cefe76a0fcf422c8bec1f485", func := "larder/larderkeep.PileEmpty", spec := "pileEmpty", unfollowed := true, recurses := true, apart := false, narrowed := true }
def PileEmptyUptoSaid : Prop := pileEmptyUptoRow.holds Try.pinned (OpenSpec.upto pileEmptySpec)

end Rows
end Go.Proofs.Ytnobcehiahcfkaa
