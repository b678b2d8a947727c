/-
  No cell of these rows narrows 'for every input' (looked for: loops, veiled, ifaces, maps, wideKeys, modest, calm, conditions, laid).
  DERIVED. THE GIVEN ROWS OF THIS SEAT. 8 by the template 'for every input the law returns true; each argument reads behind the call as it read before'; 0 by the template 'total and deterministic' (their statements: YtdoeipjcohkbeaaTotals.lean).
  GIVEN WITH THE SEED: the statements are not yours to turn. If you find one false, say at which input.
  Laid BY PROGRAM, IN A SANDBOX (cutbox-rows.mjs): the forced cells as the released guide's own fill.sh prints them over the translation 1fc0d2b0ea2c2ee3… (all of the seat's roots in one cut). By AI agents, Wed Nov 11 2026. No macro, syntax, notation, axiom, sorry.
-/
import Derived.Test.YtdoeipjcohkbeaaChecked
import GoSem.Claim
import GoSem.ClaimJoined
import GoSem.ClaimMapViews
import Derived.JoinedTies
import Derived.KernelRfl
namespace Go.Proofs.Ytdoeipjcohkbeaa
/- THE CELL 'sum', in the pinned program and in every row, IS THE sha256 OF THE DUMP (.gsa) THAT YtdoeipjcohkbeaaProg.lean LOADS. Nothing in Lean hashes anything: it is a label: what it is worth is what the hold of that sum in a sandbox is worth. -/
noncomputable def Try.pinned : Pinned := { name := "ytdoeipjcohkbeaa", sum := "1fc0d2b0ea2c2ee366bdac751de323008f7ec1d72f60ad9f4a802237d87a937b", checked := Try.checked }
namespace Rows
def none {H : Type} : Left H := { results := [], args := [] }

/-- 'larderkeep.TokenBack': WHATEVER THE INPUT: true; the input reads as it did. -/
def tokenBackSpec : ChangeSpec := { name := "tokenBack", fn := fun _ => fun
  | [d] => { results := [.lit (.bool true)], args := [d] }
  | _ => none }
def tokenBackRow : OpenClaim := { program := "ytdoeipjcohkbeaa", sum := "1fc0d2b0ea2c2ee366bdac751de323008f7ec1d72f60ad9f4a802237d87a937b", func := "larder/larderkeep.TokenBack", spec := "tokenBack", apart := false }
def TokenBackSaid : Prop := tokenBackRow.holds Try.pinned (OpenSpec.ofChange tokenBackSpec)

/-- ITS FALSE NEIGHBOUR: 'it returns false'. Refute it at one input. -/
def tokenBackWrong : ChangeSpec := { name := "tokenBack", fn := fun _ => fun
  | [d] => { results := [.lit (.bool false)], args := [d] }
  | _ => none }
def TokenBackWrongFalsely : Prop := tokenBackRow.holds Try.pinned (OpenSpec.ofChange tokenBackWrong)

/-- 'larderkeep.TokenOnce': WHATEVER THE INPUT: true; the input reads as it did. -/
def tokenOnceSpec : ChangeSpec := { name := "tokenOnce", fn := fun _ => fun
  | [d] => { results := [.lit (.bool true)], args := [d] }
  | _ => none }
def tokenOnceRow : OpenClaim := { program := "ytdoeipjcohkbeaa", sum := "1fc0d2b0ea2c2ee366bdac751de323008f7ec1d72f60ad9f4a802237d87a937b", func := "larder/larderkeep.TokenOnce", spec := "tokenOnce", apart := false }
def TokenOnceSaid : Prop := tokenOnceRow.holds Try.pinned (OpenSpec.ofChange tokenOnceSpec)

/-- ITS FALSE NEIGHBOUR: 'it returns false'. Refute it at one input. -/
def tokenOnceWrong : ChangeSpec := { name := "tokenOnce", fn := fun _ => fun
  | [d] => { results := [.lit (.bool false)], args := [d] }
  | _ => none }
def TokenOnceWrongFalsely : Prop := tokenOnceRow.holds Try.pinned (OpenSpec.ofChange tokenOnceWrong)

/-- 'larderkeep.TokenCommas': WHATEVER THE INPUT: true; the input reads as it did. -/
def tokenCommasSpec : ChangeSpec := { name := "tokenCommas", fn := fun _ => fun
  | [d1, d2] => { results := [.lit (.bool true)], args := [d1, d2] }
  | _ => none }
def tokenCommasRow : OpenClaim := { program := "ytdoeipjcohkbeaa", sum := "1fc0d2b0ea2c2ee366bdac751de323008f7ec1d72f60ad9f4a802237d87a937b", func := "larder/larderkeep.TokenCommas", spec := "tokenCommas", apart := false }
def TokenCommasSaid : Prop := tokenCommasRow.holds Try.pinned (OpenSpec.ofChange tokenCommasSpec)

/-- ITS FALSE NEIGHBOUR: 'it returns false'. Refute it at one input. -/
def tokenCommasWrong : ChangeSpec := { name := "tokenCommas", fn := fun _ => fun
  | [d1, d2] => { results := [.lit (.bool false)], args := [d1, d2] }
  | _ => none }
def TokenCommasWrongFalsely : Prop := tokenCommasRow.holds Try.pinned (OpenSpec.ofChange tokenCommasWrong)

/-- 'larderkeep.FieldSetGet': WHATEVER THE INPUT: true; the input reads as it did. -/
def fieldSetGetSpec : ChangeSpec := { name := "fieldSetGet", fn := fun _ => fun
  | [d1, d2, d3, d4, d5] => { results := [.lit (.bool true)], args := [d1, d2, d3, d4, d5] }
  | _ => none }
def fieldSetGetRow : OpenClaim := { program := "ytdoeipjcohkbeaa", sum := "1fc0d2b0ea2c2ee366bdac751de323008f7ec1d72f60ad9f4a802237d87a937b", func := "larder/larderkeep.FieldSetGet", spec := "fieldSetGet", inPlace := ["internal/abi.NoEscape", "internal/bytealg.MakeNoZero"], unfollowed := true, recurses := true, apart := false }
def FieldSetGetSaid : Prop := fieldSetGetRow.holds Try.pinned (OpenSpec.ofChange fieldSetGetSpec)

/-- ITS FALSE NEIGHBOUR: 'it returns false'. Refute it at one input. -/
def fieldSetGetWrong : ChangeSpec := { name := "fieldSetGet", fn := fun _ => fun
  | [d1, d2, d3, d4, d5] => { results := [.lit (.bool false)], args := [d1, d2, d3, d4, d5] }
  | _ => none }
def FieldSetGetWrongFalsely : Prop := fieldSetGetRow.holds Try.pinned (OpenSpec.ofChange fieldSetGetWrong)

/-- 'larderkeep.FieldDrops': WHATEVER THE INPUT: true; the input reads as it did. -/
def fieldDropsSpec : ChangeSpec := { name := "fieldDrops", fn := fun _ => fun
  | [d1, d2, d3] => { results := [.lit (.bool true)], args := [d1, d2, d3] }
  | _ => none }
def fieldDropsRow : OpenClaim := { program := "ytdoeipjcohkbeaa", sum := "1fc0d2b0ea2c2ee366bdac751de323008f7ec1d72f60ad9f4a802237d87a937b", func := "larder/larderkeep.FieldDrops", spec := "fieldDrops", inPlace := ["internal/abi.NoEscape", "internal/bytealg.MakeNoZero"], unfollowed := true, recurses := true, apart := false }
def FieldDropsSaid : Prop := fieldDropsRow.holds Try.pinned (OpenSpec.ofChange fieldDropsSpec)

/-- ITS FALSE NEIGHBOUR: 'it returns false'. Refute it at one input. -/
def fieldDropsWrong : ChangeSpec := { name := "fieldDrops", fn := fun _ => fun
  | [d1, d2, d3] => { results := [.lit (.bool false)], args := [d1, d2, d3] }
  | _ => none }
def FieldDropsWrongFalsely : Prop := fieldDropsRow.holds Try.pinned (OpenSpec.ofChange fieldDropsWrong)

/-- 'larderkeep.FieldBoth': WHATEVER THE INPUT: true; the input reads as it did. -/
def fieldBothSpec : ChangeSpec := { name := "fieldBoth", fn := fun _ => fun
  | [d1, d2, d3] => { results := [.lit (.bool true)], args := [d1, d2, d3] }
  | _ => none }
def fieldBothRow : OpenClaim := { program := "ytdoeipjcohkbeaa", sum := "1fc0d2b0ea2c2ee366bdac751de323008f7ec1d72f60ad9f4a802237d87a937b", func := "larder/larderkeep.FieldBoth", spec := "fieldBoth", inPlace := ["internal/abi.NoEscape", "internal/bytealg.MakeNoZero"], unfollowed := true, recurses := true, apart := false }
def FieldBothSaid : Prop := fieldBothRow.holds Try.pinned (OpenSpec.ofChange fieldBothSpec)

/-- ITS FALSE NEIGHBOUR: 'it returns false'. Refute it at one input. -/
def fieldBothWrong : ChangeSpec := { name := "fieldBoth", fn := fun _ => fun
  | [d1, d2, d3] => { results := [.lit (.bool false)], args := [d1, d2, d3] }
  | _ => none }
def FieldBothWrongFalsely : Prop := fieldBothRow.holds Try.pinned (OpenSpec.ofChange fieldBothWrong)

/-- 'larderkeep.TokenJoins': WHATEVER THE INPUT: true; the input reads as it did. -/
def tokenJoinsSpec : ChangeSpec := { name := "tokenJoins", fn := fun _ => fun
  | [d1, d2] => { results := [.lit (.bool true)], args := [d1, d2] }
  | _ => none }
def tokenJoinsRow : OpenClaim := { program := "ytdoeipjcohkbeaa", sum := "1fc0d2b0ea2c2ee366bdac751de323008f7ec1d72f60ad9f4a802237d87a937b", func := "larder/larderkeep.TokenJoins", spec := "tokenJoins", inPlace := ["internal/bytealg.IndexByteString", "internal/abi.NoEscape", "internal/bytealg.MakeNoZero"], apart := false }
def TokenJoinsSaid : Prop := tokenJoinsRow.holds Try.pinned (OpenSpec.ofChange tokenJoinsSpec)

/-- ITS FALSE NEIGHBOUR: 'it returns false'. Refute it at one input. -/
def tokenJoinsWrong : ChangeSpec := { name := "tokenJoins", fn := fun _ => fun
  | [d1, d2] => { results := [.lit (.bool false)], args := [d1, d2] }
  | _ => none }
def TokenJoinsWrongFalsely : Prop := tokenJoinsRow.holds Try.pinned (OpenSpec.ofChange tokenJoinsWrong)

/-- 'larderkeep.TokenPairs': WHATEVER THE INPUT: true; the input reads as it did. -/
def tokenPairsSpec : ChangeSpec := { name := "tokenPairs", fn := fun _ => fun
  | [d1, d2] => { results := [.lit (.bool true)], args := [d1, d2] }
  | _ => none }
def tokenPairsRow : OpenClaim := { program := "ytdoeipjcohkbeaa", sum := "1fc0d2b0ea2c2ee366bdac751de323008f7ec1d72f60ad9f4a802237d87a937b", func := "larder/larderkeep.TokenPairs", spec := "tokenPairs", inPlace := ["internal/bytealg.IndexByteString", "internal/bytealg.IndexString"], named := ["internal/bytealg.MaxLen"], apart := false }
def TokenPairsSaid : Prop := tokenPairsRow.holds Try.pinned (OpenSpec.ofChange tokenPairsSpec)

/-- ITS FALSE NEIGHBOUR: 'it returns false'. Refute it at one input. -/
def tokenPairsWrong : ChangeSpec := { name := "tokenPairs", fn := fun _ => fun
  | [d1, d2] => { results := [.lit (.bool false)], args := [d1, d2] }
  | _ => none }
def TokenPairsWrongFalsely : Prop := tokenPairsRow.holds Try.pinned (OpenSpec.ofChange tokenPairsWrong)

/- THE SECOND FORM. 'bulk': how many values and letters a reading holds, each counted each time it is reached (what is shared counts as often as it is met; a slice's spare places count too). A statement '..UptoSaid' is the law's where the arguments, and the package variables that the reading takes, are together of bulk at most 1048576: NARROWER than '..Said'. Prove '..Said' where nothing that the law and all that it calls make is longer than what came in: it says more and counts as full. Else prove '..UptoSaid'. A law counts once. -/
mutual
def uptoBulk {H : Type} : DataW H → Nat
  | .lit (.string bytes) => bytes.length + 1
  | .lit _ => 1
  | .nil => 1
  | .ptr d => uptoBulk d + 1
  | .slice elems spare => uptoBulkAll elems + uptoBulkAll spare + 1
  | .agg parts => uptoBulkAll parts + 1
  | .iface _ d => uptoBulk d + 1
  | .map entries => uptoBulkEntries entries + 1
  | .held _ => 1
def uptoBulkAll {H : Type} : List (DataW H) → Nat
  | [] => 0
  | d :: r => uptoBulk d + uptoBulkAll r
def uptoBulkEntries {H : Type} : List (Lit × DataW H) → Nat
  | [] => 0
  | x :: r => uptoBulkEntry x + uptoBulkEntries r
def uptoBulkEntry {H : Type} : Lit × DataW H → Nat
  | (.string bytes, d) => bytes.length + uptoBulk d + 1
  | (_, d) => uptoBulk d + 1
 end
def uptoSmall : (H : Type) → List (DataW H) → Bool := fun _ ds => decide (uptoBulkAll ds ≤ 1048576)
def OpenSpec.upto (s : _root_.Go.ChangeSpec) : _root_.Go.OpenSpec := { _root_.Go.OpenSpec.ofChange s with cond := some uptoSmall }

/-- 'larderkeep.TokenBack', WHERE WHAT IT READS IS OF BULK AT MOST 1048576: true; the input reads as it did. -/
def tokenBackUptoRow : OpenClaim := { program := "ytdoeipjcohkbeaa", sum := "1fc0d2b0ea2c2ee366bdac751de323008f7ec1d72f60ad9f4a802237d87a937b", func := "larder/larderkeep.TokenBack", spec := "tokenBack", apart := false, narrowed := true }
def TokenBackUptoSaid : Prop := tokenBackUptoRow.holds Try.pinned (OpenSpec.upto tokenBackSpec)

/-- 'larderkeep.TokenOnce', WHERE WHAT IT READS IS OF BULK AT MOST 1048576: true; the input reads as it did. -/
def tokenOnceUptoRow : OpenClaim := { program := "ytdoeipjcohkbeaa", sum := "1fc0d2b0ea2c2ee366bdac751de323008f7ec1d72f60ad9f4a802237d87a937b", func := "larder/larderkeep.TokenOnce", spec := "tokenOnce", apart := false, narrowed := true }
def TokenOnceUptoSaid : Prop := tokenOnceUptoRow.holds Try.pinned (OpenSpec.upto tokenOnceSpec)

/-- 'larderkeep.TokenCommas', WHERE WHAT IT READS IS OF BULK AT MOST 1048576: true; the input reads as it did. -/
def tokenCommasUptoRow : OpenClaim := { program := "ytdoeipjcohkbeaa", sum := "1fc0d2b0ea2c2ee366bdac751de323008f7ec1d72f60ad9f4a802237d87a937b", func := "larder/larderkeep.TokenCommas", spec := "tokenCommas", apart := false, narrowed := true }
def TokenCommasUptoSaid : Prop := tokenCommasUptoRow.holds Try.pinned (OpenSpec.upto tokenCommasSpec)

/-- 'larderkeep.FieldSetGet', WHERE WHAT IT READS IS OF BULK AT MOST 1048576: true; the input reads as it did. -/
def fieldSetGetUptoRow : OpenClaim := { program := "ytdoeipjcohkbeaa", sum := "1fc0d2b0ea2c2ee366bdac751de323008f7ec1d72f60ad9f4a802237d87a937b", func := "larder/larderkeep.FieldSetGet", spec := "fieldSetGet", inPlace := ["internal/abi.NoEscape", "internal/bytealg.MakeNoZero"], unfollowed := true, recurses := true, apart := false, narrowed := true }
def FieldSetGetUptoSaid : Prop := fieldSetGetUptoRow.holds Try.pinned (OpenSpec.upto fieldSetGetSpec)

/-- 'larderkeep.FieldDrops', WHERE WHAT IT READS IS OF BULK AT MOST 1048576: true; the input reads as it did. -/
def fieldDropsUptoRow : OpenClaim := { program := "ytdoeipjcohkbeaa", sum := "1fc0d2b0ea2c2ee366bdac751de323008f7ec1d72f60ad9f4a802237d87a937b", func := "larder/larderkeep.FieldDrops", spec := "fieldDrops", inPlace := ["internal/abi.NoEscape", "internal/bytealg.MakeNoZero"], unfollowed := true, recurses := true, apart := false, narrowed := true }
def FieldDropsUptoSaid : Prop := fieldDropsUptoRow.holds Try.pinned (OpenSpec.upto fieldDropsSpec)

/-- 'larderkeep.FieldBoth', WHERE WHAT IT READS IS OF BULK AT MOST 1048576: true; the input reads as it did. -/
def fieldBothUptoRow : OpenClaim := { program := "ytdoeipjcohkbeaa", sum := "1fc0d2b0ea2c2ee366bdac751de323008f7ec1d72f60ad9f4a802237d87a937b", func := "larder/larderkeep.FieldBoth", spec := "fieldBoth", inPlace := ["internal/abi.NoEscape", "internal/bytealg.MakeNoZero"], unfollowed := true, recurses := true, apart := false, narrowed := true }
def FieldBothUptoSaid : Prop := fieldBothUptoRow.holds Try.pinned (OpenSpec.upto fieldBothSpec)

/-- 'larderkeep.TokenJoins', WHERE WHAT IT READS IS OF BULK AT MOST 1048576: true; the input reads as it did. -/
def tokenJoinsUptoRow : OpenClaim := { program := "ytdoeipjcohkbeaa", sum := "1fc0d2b0ea2c2ee366bdac751de323008f7ec1d72f60ad9f4a802237d87a937b", func := "larder/larderkeep.TokenJoins", spec := "tokenJoins", inPlace := ["internal/bytealg.IndexByteString", "internal/abi.NoEscape", "internal/bytealg.MakeNoZero"], apart := false, narrowed := true }
def TokenJoinsUptoSaid : Prop := tokenJoinsUptoRow.holds Try.pinned (OpenSpec.upto tokenJoinsSpec)

/-- 'larderkeep.TokenPairs', WHERE WHAT IT READS IS OF BULK AT MOST 1048576: true; the input reads as it did. -/
def tokenPairsUptoRow : OpenClaim := { program := "ytdoeipjcohkbeaa", sum := "1fc0d2b0ea2c2ee366bdac751de323008f7ec1d72f60ad9f4a802237d87a937b", func := "larder/larderkeep.TokenPairs", spec := "tokenPairs", inPlace := ["internal/bytealg.IndexByteString", "internal/bytealg.IndexString"], named := ["internal/bytealg.MaxLen"], apart := false, narrowed := true }
def TokenPairsUptoSaid : Prop := tokenPairsUptoRow.holds Try.pinned (OpenSpec.upto tokenPairsSpec)

end Rows
end Go.Proofs.Ytdoeipjcohkbeaa
