/-
  No cell of these rows narrows 'for every input' (looked for: loops, veiled, ifaces, maps, wideKeys, modest, calm, conditions, laid).
  DERIVED. THE GIVEN ROWS OF THIS SEAT. 4 by the template 'for every input the law returns true; each argument reads behind the call as it read before'; 0 by the template 'total and deterministic' (their statements: YthhhlaoiampinaaTotals.lean).
  GIVEN WITH THE SEED: the statements are not yours to turn. If you find one false, say at which input.
  Laid BY PROGRAM, IN A SANDBOX (cutbox-rows.mjs): the forced cells as the released guide's own fill.sh prints them over the translation 979a4249e50103d7… (all of the seat's roots in one cut). By AI agents, Wed Nov 11 2026. No macro, syntax, notation, axiom, sorry.
-/
import Derived.Test.YthhhlaoiampinaaChecked
import GoSem.Claim
import GoSem.ClaimJoined
import GoSem.ClaimMapViews
import Derived.JoinedTies
import Derived.KernelRfl
namespace Go.Proofs.Ythhhlaoiampinaa
/- THE CELL 'sum', in the pinned program and in every row, IS THE sha256 OF THE DUMP (.gsa) THAT YthhhlaoiampinaaProg.lean LOADS. Nothing in Lean hashes anything: it is a label: what it is worth is what the hold of that sum in a sandbox is worth. -/
noncomputable def Try.pinned : Pinned := { name := "ythhhlaoiampinaa", sum := "979a4249e50103d7d18aa7c22587043a5f076668bccd8eb00eb647d3bf8ea796", checked := Try.checked }
namespace Rows
def none {H : Type} : Left H := { results := [], args := [] }

/-- 'larderkeep.SpanSame': WHATEVER THE INPUT: true; the input reads as it did. -/
def spanSameSpec : ChangeSpec := { name := "spanSame", fn := fun _ => fun
  | [d1, d2] => { results := [.lit (.bool true)], args := [d1, d2] }
  | _ => none }
def spanSameRow : OpenClaim := { program := "ythhhlaoiampinaa", sum := "979a4249e50103d7d18aa7c22587043a5f076668bccd8eb00eb647d3bf8ea796", func := "larder/larderkeep.SpanSame", spec := "spanSame", unfollowed := true, recurses := true, apart := false }
def SpanSameSaid : Prop := spanSameRow.holds Try.pinned (OpenSpec.ofChange spanSameSpec)

/-- ITS FALSE NEIGHBOUR: 'it returns false'. Refute it at one input. -/
def spanSameWrong : ChangeSpec := { name := "spanSame", fn := fun _ => fun
  | [d1, d2] => { results := [.lit (.bool false)], args := [d1, d2] }
  | _ => none }
def SpanSameWrongFalsely : Prop := spanSameRow.holds Try.pinned (OpenSpec.ofChange spanSameWrong)

/-- 'larderkeep.SpanAgain': WHATEVER THE INPUT: true; the input reads as it did. -/
def spanAgainSpec : ChangeSpec := { name := "spanAgain", fn := fun _ => fun
  | [d1, d2] => { results := [.lit (.bool true)], args := [d1, d2] }
  | _ => none }
def spanAgainRow : OpenClaim := { program := "ythhhlaoiampinaa", sum := "979a4249e50103d7d18aa7c22587043a5f076668bccd8eb00eb647d3bf8ea796", func := "larder/larderkeep.SpanAgain", spec := "spanAgain", unfollowed := true, recurses := true, apart := false }
def SpanAgainSaid : Prop := spanAgainRow.holds Try.pinned (OpenSpec.ofChange spanAgainSpec)

/-- ITS FALSE NEIGHBOUR: 'it returns false'. Refute it at one input. -/
def spanAgainWrong : ChangeSpec := { name := "spanAgain", fn := fun _ => fun
  | [d1, d2] => { results := [.lit (.bool false)], args := [d1, d2] }
  | _ => none }
def SpanAgainWrongFalsely : Prop := spanAgainRow.holds Try.pinned (OpenSpec.ofChange spanAgainWrong)

/-- 'larderkeep.OwnLists': WHATEVER THE INPUT: true; the input reads as it did. -/
def ownListsSpec : ChangeSpec := { name := "ownLists", fn := fun _ => fun
  | [d1, d2, d3, d4, d5] => { results := [.lit (.bool true)], args := [d1, d2, d3, d4, d5] }
  | _ => none }
def ownListsRow : OpenClaim := { program := "ythhhlaoiampinaa", sum := "979a4249e50103d7d18aa7c22587043a5f076668bccd8eb00eb647d3bf8ea796", func := "larder/larderkeep.OwnLists", spec := "ownLists", inPlace := ["internal/abi.NoEscape", "internal/bytealg.MakeNoZero", "internal/bytealg.IndexByteString"], unfollowed := true, recurses := true, apart := false }
def OwnListsSaid : Prop := ownListsRow.holds Try.pinned (OpenSpec.ofChange ownListsSpec)

/-- ITS FALSE NEIGHBOUR: 'it returns false'. Refute it at one input. -/
def ownListsWrong : ChangeSpec := { name := "ownLists", fn := fun _ => fun
  | [d1, d2, d3, d4, d5] => { results := [.lit (.bool false)], args := [d1, d2, d3, d4, d5] }
  | _ => none }
def OwnListsWrongFalsely : Prop := ownListsRow.holds Try.pinned (OpenSpec.ofChange ownListsWrong)

/-- 'larderkeep.OwnThings': WHATEVER THE INPUT: true; the input reads as it did. -/
def ownThingsSpec : ChangeSpec := { name := "ownThings", fn := fun _ => fun
  | [d] => { results := [.lit (.bool true)], args := [d] }
  | _ => none }
def ownThingsRow : OpenClaim := { program := "ythhhlaoiampinaa", sum := "979a4249e50103d7d18aa7c22587043a5f076668bccd8eb00eb647d3bf8ea796", func := "larder/larderkeep.OwnThings", spec := "ownThings", inPlace := ["internal/abi.NoEscape"], unfollowed := true, recurses := true, apart := false }
def OwnThingsSaid : Prop := ownThingsRow.holds Try.pinned (OpenSpec.ofChange ownThingsSpec)

/-- ITS FALSE NEIGHBOUR: 'it returns false'. Refute it at one input. -/
def ownThingsWrong : ChangeSpec := { name := "ownThings", fn := fun _ => fun
  | [d] => { results := [.lit (.bool false)], args := [d] }
  | _ => none }
def OwnThingsWrongFalsely : Prop := ownThingsRow.holds Try.pinned (OpenSpec.ofChange ownThingsWrong)

/- THE SECOND FORM. 'bulk': how many values and letters a reading holds, each counted each time it is reached (what is shared counts as often as it is met; a slice's spare places count too). A statement '..UptoSaid' is the law's where the arguments, and the package variables that the reading takes, are together of bulk at most 1048576: NARROWER than '..Said'. Prove '..Said' where nothing that the law and all that it calls make is longer than what came in: it says more and counts as full. Else prove '..UptoSaid'. A law counts once. -/
mutual
def uptoBulk {H : Type} : DataW H → Nat
  | .lit (.string bytes) => bytes.length + 1
  | .lit _ => 1
  | .nil => 1
  | .ptr d => uptoBulk d + 1
  | .slice elems spare => uptoBulkAll elems + uptoBulkAll spare + 1
  | .agg parts => uptoBulkAll parts + 1
  | .iface _ d => uptoBulk d + 1
  | .map entries => uptoBulkEntries entries + 1
  | .held _ => 1
def uptoBulkAll {H : Type} : List (DataW H) → Nat
  | [] => 0
  | d :: r => uptoBulk d + uptoBulkAll r
def uptoBulkEntries {H : Type} : List (Lit × DataW H) → Nat
  | [] => 0
  | x :: r => uptoBulkEntry x + uptoBulkEntries r
def uptoBulkEntry {H : Type} : Lit × DataW H → Nat
  | (.string bytes, d) => bytes.length + uptoBulk d + 1
  | (_, d) => uptoBulk d + 1
 end
def uptoSmall : (H : Type) → List (DataW H) → Bool := fun _ ds => decide (uptoBulkAll ds ≤ 1048576)
def OpenSpec.upto (s : _root_.Go.ChangeSpec) : _root_.Go.OpenSpec := { _root_.Go.OpenSpec.ofChange s with cond := some uptoSmall }

/-- 'larderkeep.SpanSame', WHERE WHAT IT READS IS OF BULK AT MOST 1048576: true; the input reads as it did. -/
def spanSameUptoRow : OpenClaim := { program := "ythhhlaoiampinaa", sum := "979a4249e50103d7d18aa7c22587043a5f076668bccd8eb00eb647d3bf8ea796", func := "larder/larderkeep.SpanSame", spec := "spanSame", unfollowed := true, recurses := true, apart := false, narrowed := true }
def SpanSameUptoSaid : Prop := spanSameUptoRow.holds Try.pinned (OpenSpec.upto spanSameSpec)

/-- 'larderkeep.SpanAgain', WHERE WHAT IT READS IS OF BULK AT MOST 1048576: true; the input reads as it did. -/
def spanAgainUptoRow : OpenClaim := { program := "ythhhlaoiampinaa", sum := "979a4249e50103d7d18aa7c22587043a5f076668bccd8eb00eb647d3bf8ea796", func := "larder/larderkeep.SpanAgain", spec := "spanAgain", unfollowed := true, recurses := true, apart := false, narrowed := true }
def SpanAgainUptoSaid : Prop := spanAgainUptoRow.holds Try.pinned (OpenSpec.upto spanAgainSpec)

/-- 'larderkeep.OwnLists', WHERE WHAT IT READS IS OF BULK AT MOST 1048576: true; the input reads as it did. -/
def ownListsUptoRow : OpenClaim := { program := "ythhhlaoiampinaa", sum := "979a4249e50103d7d18aa7c22587043a5f076668bccd8eb00eb647d3bf8ea796", func := "larder/larderkeep.OwnLists", spec := "ownLists", inPlace := ["internal/abi.NoEscape", "internal/bytealg.MakeNoZero", "internal/bytealg.IndexByteString"], unfollowed := true, recurses := true, apart := false, narrowed := true }
def OwnListsUptoSaid : Prop := ownListsUptoRow.holds Try.pinned (OpenSpec.upto ownListsSpec)

/-- 'larderkeep.OwnThings', WHERE WHAT IT READS IS OF BULK AT MOST 1048576: true; the input reads as it did. -/
def ownThingsUptoRow : OpenClaim := { program := "ythhhlaoiampinaa", sum := "979a4249e50103d7d18aa7c22587043a5f076668bccd8eb00eb647d3bf8ea796", func := "larder/larderkeep.OwnThings", spec := "ownThings", inPlace := ["internal/abi.NoEscape"], unfollowed := true, recurses := true, apart := false, narrowed := true }
def OwnThingsUptoSaid : Prop := ownThingsUptoRow.holds Try.pinned (OpenSpec.upto ownThingsSpec)

end Rows
end Go.Proofs.Ythhhlaoiampinaa
