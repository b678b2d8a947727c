/-
  No cell of these rows narrows 'for every input' (looked for: loops, veiled, ifaces, maps, wideKeys, modest, calm, conditions, laid).
  DERIVED. THE GIVEN ROWS OF THIS SEAT. 11 by the template 'for every input the law returns true; each argument reads behind the call as it read before'; 0 by the template 'total and deterministic' (their statements: YtpoaffhhkmochaaTotals.lean).
  GIVEN WITH THE SEED: the statements are not yours to turn. If you find one false, say at which input.
  Laid BY PROGRAM, IN A SANDBOX (cutbox-rows.mjs): the forced cells as the released guide's own fill.sh prints them over the translation c4af40882b3e6308… (all of the seat's roots in one cut). By AI agents, Wed Nov 11 2026. No macro, syntax, notation, axiom, sorry.
-/
import Derived.Test.YtpoaffhhkmochaaChecked
import GoSem.Claim
import GoSem.ClaimJoined
import GoSem.ClaimMapViews
import Derived.JoinedTies
import Derived.KernelRfl
namespace Go.Proofs.Ytpoaffhhkmochaa
/- THE CELL 'sum', in the pinned program and in every row, IS THE sha256 OF THE DUMP (.gsa) THAT YtpoaffhhkmochaaProg.lean LOADS. Nothing in Lean hashes anything: it is a label: what it is worth is what the hold of that sum in a sandbox is worth. -/
noncomputable def Try.pinned : Pinned := { name := "ytpoaffhhkmochaa", sum := "c4af40882b3e6308d0cc02481d710c0174b87023abc9af1ee0f95133387c3a13", checked := Try.checked }
namespace Rows
def none {H : Type} : Left H := { results := [], args := [] }

/-- 'larderkeep.TagOrder': WHATEVER THE INPUT: true; the input reads as it did. -/
def tagOrderSpec : ChangeSpec := { name := "tagOrder", fn := fun _ => fun
  | [d1, d2, d3] => { results := [.lit (.bool true)], args := [d1, d2, d3] }
  | _ => none }
def tagOrderRow : OpenClaim := { program := "ytpoaffhhkmochaa", sum := "c4af40882b3e6308d0cc02481d710c0174b87023abc9af1ee0f95133387c3a13", func := "larder/larderkeep.TagOrder", spec := "tagOrder", apart := false }
def TagOrderSaid : Prop := tagOrderRow.holds Try.pinned (OpenSpec.ofChange tagOrderSpec)

/-- ITS FALSE NEIGHBOUR: 'it returns false'. Refute it at one input. -/
def tagOrderWrong : ChangeSpec := { name := "tagOrder", fn := fun _ => fun
  | [d1, d2, d3] => { results := [.lit (.bool false)], args := [d1, d2, d3] }
  | _ => none }
def TagOrderWrongFalsely : Prop := tagOrderRow.holds Try.pinned (OpenSpec.ofChange tagOrderWrong)

/-- 'larderkeep.TagBack': WHATEVER THE INPUT: true; the input reads as it did. -/
def tagBackSpec : ChangeSpec := { name := "tagBack", fn := fun _ => fun
  | [d1, d2] => { results := [.lit (.bool true)], args := [d1, d2] }
  | _ => none }
def tagBackRow : OpenClaim := { program := "ytpoaffhhkmochaa", sum := "c4af40882b3e6308d0cc02481d710c0174b87023abc9af1ee0f95133387c3a13", func := "larder/larderkeep.TagBack", spec := "tagBack", inPlace := ["internal/bytealg.IndexByteString", "internal/bytealg.IndexString"], named := ["internal/bytealg.MaxLen"], apart := false }
def TagBackSaid : Prop := tagBackRow.holds Try.pinned (OpenSpec.ofChange tagBackSpec)

/-- ITS FALSE NEIGHBOUR: 'it returns false'. Refute it at one input. -/
def tagBackWrong : ChangeSpec := { name := "tagBack", fn := fun _ => fun
  | [d1, d2] => { results := [.lit (.bool false)], args := [d1, d2] }
  | _ => none }
def TagBackWrongFalsely : Prop := tagBackRow.holds Try.pinned (OpenSpec.ofChange tagBackWrong)

/-- 'larderkeep.ControlFirst': WHATEVER THE INPUT: true; the input reads as it did. -/
def controlFirstSpec : ChangeSpec := { name := "controlFirst", fn := fun _ => fun
  | [d1, d2, d3] => { results := [.lit (.bool true)], args := [d1, d2, d3] }
  | _ => none }
def controlFirstRow : OpenClaim := { program := "ytpoaffhhkmochaa", sum := "c4af40882b3e6308d0cc02481d710c0174b87023abc9af1ee0f95133387c3a13", func := "larder/larderkeep.ControlFirst", spec := "controlFirst", apart := false }
def ControlFirstSaid : Prop := controlFirstRow.holds Try.pinned (OpenSpec.ofChange controlFirstSpec)

/-- ITS FALSE NEIGHBOUR: 'it returns false'. Refute it at one input. -/
def controlFirstWrong : ChangeSpec := { name := "controlFirst", fn := fun _ => fun
  | [d1, d2, d3] => { results := [.lit (.bool false)], args := [d1, d2, d3] }
  | _ => none }
def ControlFirstWrongFalsely : Prop := controlFirstRow.holds Try.pinned (OpenSpec.ofChange controlFirstWrong)

/-- 'larderkeep.ControlBack': WHATEVER THE INPUT: true; the input reads as it did. -/
def controlBackSpec : ChangeSpec := { name := "controlBack", fn := fun _ => fun
  | [d] => { results := [.lit (.bool true)], args := [d] }
  | _ => none }
def controlBackRow : OpenClaim := { program := "ytpoaffhhkmochaa", sum := "c4af40882b3e6308d0cc02481d710c0174b87023abc9af1ee0f95133387c3a13", func := "larder/larderkeep.ControlBack", spec := "controlBack", inPlace := ["internal/bytealg.IndexByteString", "internal/abi.NoEscape", "internal/bytealg.MakeNoZero", "internal/bytealg.IndexString"], named := ["internal/bytealg.MaxLen"], apart := false }
def ControlBackSaid : Prop := controlBackRow.holds Try.pinned (OpenSpec.ofChange controlBackSpec)

/-- ITS FALSE NEIGHBOUR: 'it returns false'. Refute it at one input. -/
def controlBackWrong : ChangeSpec := { name := "controlBack", fn := fun _ => fun
  | [d] => { results := [.lit (.bool false)], args := [d] }
  | _ => none }
def ControlBackWrongFalsely : Prop := controlBackRow.holds Try.pinned (OpenSpec.ofChange controlBackWrong)

/-- 'larderkeep.ControlAgain': WHATEVER THE INPUT: true; the input reads as it did. -/
def controlAgainSpec : ChangeSpec := { name := "controlAgain", fn := fun _ => fun
  | [d] => { results := [.lit (.bool true)], args := [d] }
  | _ => none }
def controlAgainRow : OpenClaim := { program := "ytpoaffhhkmochaa", sum := "c4af40882b3e6308d0cc02481d710c0174b87023abc9af1ee0f95133387c3a13", func := "larder/larderkeep.ControlAgain", spec := "controlAgain", inPlace := ["internal/bytealg.IndexByteString", "internal/bytealg.IndexString", "internal/abi.NoEscape", "internal/bytealg.MakeNoZero"], named := ["internal/bytealg.MaxLen"], apart := false }
def ControlAgainSaid : Prop := controlAgainRow.holds Try.pinned (OpenSpec.ofChange controlAgainSpec)

/-- ITS FALSE NEIGHBOUR: 'it returns false'. Refute it at one input. -/
def controlAgainWrong : ChangeSpec := { name := "controlAgain", fn := fun _ => fun
  | [d] => { results := [.lit (.bool false)], args := [d] }
  | _ => none }
def ControlAgainWrongFalsely : Prop := controlAgainRow.holds Try.pinned (OpenSpec.ofChange controlAgainWrong)

/-- 'larderkeep.SpanWithin': WHATEVER THE INPUT: true; the input reads as it did. -/
def spanWithinSpec : ChangeSpec := { name := "spanWithin", fn := fun _ => fun
  | [d1, d2] => { results := [.lit (.bool true)], args := [d1, d2] }
  | _ => none }
def spanWithinRow : OpenClaim := { program := "ytpoaffhhkmochaa", sum := "c4af40882b3e6308d0cc02481d710c0174b87023abc9af1ee0f95133387c3a13", func := "larder/larderkeep.SpanWithin", spec := "spanWithin", unfollowed := true, recurses := true, apart := false }
def SpanWithinSaid : Prop := spanWithinRow.holds Try.pinned (OpenSpec.ofChange spanWithinSpec)

/-- ITS FALSE NEIGHBOUR: 'it returns false'. Refute it at one input. -/
def spanWithinWrong : ChangeSpec := { name := "spanWithin", fn := fun _ => fun
  | [d1, d2] => { results := [.lit (.bool false)], args := [d1, d2] }
  | _ => none }
def SpanWithinWrongFalsely : Prop := spanWithinRow.holds Try.pinned (OpenSpec.ofChange spanWithinWrong)

/-- 'larderkeep.SpanTail': WHATEVER THE INPUT: true; the input reads as it did. -/
def spanTailSpec : ChangeSpec := { name := "spanTail", fn := fun _ => fun
  | [d1, d2] => { results := [.lit (.bool true)], args := [d1, d2] }
  | _ => none }
def spanTailRow : OpenClaim := { program := "ytpoaffhhkmochaa", sum := "c4af40882b3e6308d0cc02481d710c0174b87023abc9af1ee0f95133387c3a13", func := "larder/larderkeep.SpanTail", spec := "spanTail", unfollowed := true, recurses := true, apart := false }
def SpanTailSaid : Prop := spanTailRow.holds Try.pinned (OpenSpec.ofChange spanTailSpec)

/-- ITS FALSE NEIGHBOUR: 'it returns false'. Refute it at one input. -/
def spanTailWrong : ChangeSpec := { name := "spanTail", fn := fun _ => fun
  | [d1, d2] => { results := [.lit (.bool false)], args := [d1, d2] }
  | _ => none }
def SpanTailWrongFalsely : Prop := spanTailRow.holds Try.pinned (OpenSpec.ofChange spanTailWrong)

/-- 'larderkeep.SpanSame': WHATEVER THE INPUT: true; the input reads as it did. -/
def spanSameSpec : ChangeSpec := { name := "spanSame", fn := fun _ => fun
  | [d1, d2] => { results := [.lit (.bool true)], args := [d1, d2] }
  | _ => none }
def spanSameRow : OpenClaim := { program := "ytpoaffhhkmochaa", sum := "c4af40882b3e6308d0cc02481d710c0174b87023abc9af1ee0f95133387c3a13", func := "larder/larderkeep.SpanSame", spec := "spanSame", unfollowed := true, recurses := true, apart := false }
def SpanSameSaid : Prop := spanSameRow.holds Try.pinned (OpenSpec.ofChange spanSameSpec)

/-- ITS FALSE NEIGHBOUR: 'it returns false'. Refute it at one input. -/
def spanSameWrong : ChangeSpec := { name := "spanSame", fn := fun _ => fun
  | [d1, d2] => { results := [.lit (.bool false)], args := [d1, d2] }
  | _ => none }
def SpanSameWrongFalsely : Prop := spanSameRow.holds Try.pinned (OpenSpec.ofChange spanSameWrong)

/-- 'larderkeep.SpanAgain': WHATEVER THE INPUT: true; the input reads as it did. -/
def spanAgainSpec : ChangeSpec := { name := "spanAgain", fn := fun _ => fun
  | [d1, d2] => { results := [.lit (.bool true)], args := [d1, d2] }
  | _ => none }
def spanAgainRow : OpenClaim := { program := "ytpoaffhhkmochaa", sum := "c4af40882b3e6308d0cc02481d710c0174b87023abc9af1ee0f95133387c3a13", func := "larder/larderkeep.SpanAgain", spec := "spanAgain", unfollowed := true, recurses := true, apart := false }
def SpanAgainSaid : Prop := spanAgainRow.holds Try.pinned (OpenSpec.ofChange spanAgainSpec)

/-- ITS FALSE NEIGHBOUR: 'it returns false'. Refute it at one input. -/
def spanAgainWrong : ChangeSpec := { name := "spanAgain", fn := fun _ => fun
  | [d1, d2] => { results := [.lit (.bool false)], args := [d1, d2] }
  | _ => none }
def SpanAgainWrongFalsely : Prop := spanAgainRow.holds Try.pinned (OpenSpec.ofChange spanAgainWrong)

/-- 'larderkeep.PolicySafe': WHATEVER THE INPUT: true; the input reads as it did. -/
def policySafeSpec : ChangeSpec := { name := "policySafe", fn := fun _ => fun
  | [d1, d2] => { results := [.lit (.bool true)], args := [d1, d2] }
  | _ => none }
def policySafeRow : OpenClaim := { program := "ytpoaffhhkmochaa", sum := "c4af40882b3e6308d0cc02481d710c0174b87023abc9af1ee0f95133387c3a13", func := "larder/larderkeep.PolicySafe", spec := "policySafe", apart := false }
def PolicySafeSaid : Prop := policySafeRow.holds Try.pinned (OpenSpec.ofChange policySafeSpec)

/-- ITS FALSE NEIGHBOUR: 'it returns false'. Refute it at one input. -/
def policySafeWrong : ChangeSpec := { name := "policySafe", fn := fun _ => fun
  | [d1, d2] => { results := [.lit (.bool false)], args := [d1, d2] }
  | _ => none }
def PolicySafeWrongFalsely : Prop := policySafeRow.holds Try.pinned (OpenSpec.ofChange policySafeWrong)

/-- 'larderkeep.TargetBack': WHATEVER THE INPUT: true; the input reads as it did. -/
def targetBackSpec : ChangeSpec := { name := "targetBack", fn := fun _ => fun
  | [d] => { results := [.lit (.bool true)], args := [d] }
  | _ => none }
def targetBackRow : OpenClaim := { program := "ytpoaffhhkmochaa", sum := "c4af40882b3e6308d0cc02481d710c0174b87023abc9af1ee0f95133387c3a13", func := "larder/larderkeep.TargetBack", spec := "targetBack", inPlace := ["internal/bytealg.IndexByteString"], unfollowed := true, recurses := true, apart := false }
def TargetBackSaid : Prop := targetBackRow.holds Try.pinned (OpenSpec.ofChange targetBackSpec)

/-- ITS FALSE NEIGHBOUR: 'it returns false'. Refute it at one input. -/
def targetBackWrong : ChangeSpec := { name := "targetBack", fn := fun _ => fun
  | [d] => { results := [.lit (.bool false)], args := [d] }
  | _ => none }
def TargetBackWrongFalsely : Prop := targetBackRow.holds Try.pinned (OpenSpec.ofChange targetBackWrong)

/- THE SECOND FORM. 'bulk': how many values and letters a reading holds, each counted each time it is reached (what is shared counts as often as it is met; a slice's spare places count too). A statement '..UptoSaid' is the law's where the arguments, and the package variables that the reading takes, are together of bulk at most 1048576: NARROWER than '..Said'. Prove '..Said' where nothing that the law and all that it calls make is longer than what came in: it says more and counts as full. Else prove '..UptoSaid'. A law counts once. -/
mutual
def uptoBulk {H : Type} : DataW H → Nat
  | .lit (.string bytes) => bytes.length + 1
  | .lit _ => 1
  | .nil => 1
  | .ptr d => uptoBulk d + 1
  | .slice elems spare => uptoBulkAll elems + uptoBulkAll spare + 1
  | .agg parts => uptoBulkAll parts + 1
  | .iface _ d => uptoBulk d + 1
  | .map entries => uptoBulkEntries entries + 1
  | .held _ => 1
def uptoBulkAll {H : Type} : List (DataW H) → Nat
  | [] => 0
  | d :: r => uptoBulk d + uptoBulkAll r
def uptoBulkEntries {H : Type} : List (Lit × DataW H) → Nat
  | [] => 0
  | x :: r => uptoBulkEntry x + uptoBulkEntries r
def uptoBulkEntry {H : Type} : Lit × DataW H → Nat
  | (.string bytes, d) => bytes.length + uptoBulk d + 1
  | (_, d) => uptoBulk d + 1
 end
def uptoSmall : (H : Type) → List (DataW H) → Bool := fun _ ds => decide (uptoBulkAll ds ≤ 1048576)
def OpenSpec.upto (s : _root_.Go.ChangeSpec) : _root_.Go.OpenSpec := { _root_.Go.OpenSpec.ofChange s with cond := some uptoSmall }

/-- 'larderkeep.TagOrder', WHERE WHAT IT READS IS OF BULK AT MOST 1048576: true; the input reads as it did. -/
def tagOrderUptoRow : OpenClaim := { program := "ytpoaffhhkmochaa", sum := "c4af40882b3e6308d0cc02481d710c0174b87023abc9af1ee0f95133387c3a13", func := "larder/larderkeep.TagOrder", spec := "tagOrder", apart := false, narrowed := true }
def TagOrderUptoSaid : Prop := tagOrderUptoRow.holds Try.pinned (OpenSpec.upto tagOrderSpec)

/-- 'larderkeep.TagBack', WHERE WHAT IT READS IS OF BULK AT MOST 1048576: true; the input reads as it did. -/
def tagBackUptoRow : OpenClaim := { program := "ytpoaffhhkmochaa", sum := "c4af40882b3e6308d0cc02481d710c0174b87023abc9af1ee0f95133387c3a13", func := "larder/larderkeep.TagBack", spec := "tagBack", inPlace := ["internal/bytealg.IndexByteString", "internal/bytealg.IndexString"], named := ["internal/bytealg.MaxLen"], apart := false, narrowed := true }
def TagBackUptoSaid : Prop := tagBackUptoRow.holds Try.pinned (OpenSpec.upto tagBackSpec)

/-- 'larderkeep.ControlFirst', WHERE WHAT IT READS IS OF BULK AT MOST 1048576: true; the input reads as it did. -/
def controlFirstUptoRow : OpenClaim := { program := "ytpoaffhhkmochaa", sum := "c4af40882b3e6308d0cc02481d710c0174b87023abc9af1ee0f95133387c3a13", func := "larder/larderkeep.ControlFirst", spec := "controlFirst", apart := false, narrowed := true }
def ControlFirstUptoSaid : Prop := controlFirstUptoRow.holds Try.pinned (OpenSpec.upto controlFirstSpec)

/-- 'larderkeep.ControlBack', WHERE WHAT IT READS IS OF BULK AT MOST 1048576: true; the input reads as it did. -/
def controlBackUptoRow : OpenClaim := { program := "ytpoaffhhkmochaa", sum := "c4af40882b3e6308d0cc02481d710c0174b87023abc9af1ee0f95133387c3a13", func := "larder/larderkeep.ControlBack", spec := "controlBack", inPlace := ["internal/bytealg.IndexByteString", "internal/abi.NoEscape", "internal/bytealg.MakeNoZero", "internal/bytealg.IndexString"], named := ["internal/bytealg.MaxLen"], apart := false, narrowed := true }
def ControlBackUptoSaid : Prop := controlBackUptoRow.holds Try.pinned (OpenSpec.upto controlBackSpec)

/-- 'larderkeep.ControlAgain', WHERE WHAT IT READS IS OF BULK AT MOST 1048576: true; the input reads as it did. -/
def controlAgainUptoRow : OpenClaim := { program := "ytpoaffhhkmochaa", sum := "c4af40882b3e6308d0cc02481d710c0174b87023abc9af1ee0f95133387c3a13", func := "larder/larderkeep.ControlAgain", spec := "controlAgain", inPlace := ["internal/bytealg.IndexByteString", "internal/bytealg.IndexString", "internal/abi.NoEscape", "internal/bytealg.MakeNoZero"], named := ["internal/bytealg.MaxLen"], apart := false, narrowed := true }
def ControlAgainUptoSaid : Prop := controlAgainUptoRow.holds Try.pinned (OpenSpec.upto controlAgainSpec)

/-- 'larderkeep.SpanWithin', WHERE WHAT IT READS IS OF BULK AT MOST 1048576: true; the input reads as it did. -/
def spanWithinUptoRow : OpenClaim := { program := "ytpoaffhhkmochaa", sum := "c4af40882b3e6308d0cc02481d710c0174b87023abc9af1ee0f95133387c3a13", func := "larder/larderkeep.SpanWithin", spec := "spanWithin", unfollowed := true, recurses := true, apart := false, narrowed := true }
def SpanWithinUptoSaid : Prop := spanWithinUptoRow.holds Try.pinned (OpenSpec.upto spanWithinSpec)

/-- 'larderkeep.SpanTail', WHERE WHAT IT READS IS OF BULK AT MOST 1048576: true; the input reads as it did. -/
def spanTailUptoRow : OpenClaim := { program := "ytpoaffhhkmochaa", sum := "c4af40882b3e6308d0cc02481d710c0174b87023abc9af1ee0f95133387c3a13", func := "larder/larderkeep.SpanTail", spec := "spanTail", unfollowed := true, recurses := true, apart := false, narrowed := true }
def SpanTailUptoSaid : Prop := spanTailUptoRow.holds Try.pinned (OpenSpec.upto spanTailSpec)

/-- 'larderkeep.SpanSame', WHERE WHAT IT READS IS OF BULK AT MOST 1048576: true; the input reads as it did. -/
def spanSameUptoRow : OpenClaim := { program := "ytpoaffhhkmochaa", sum := "c4af40882b3e6308d0cc02481d710c0174b87023abc9af1ee0f95133387c3a13", func := "larder/larderkeep.SpanSame", spec := "spanSame", unfollowed := true, recurses := true, apart := false, narrowed := true }
def SpanSameUptoSaid : Prop := spanSameUptoRow.holds Try.pinned (OpenSpec.upto spanSameSpec)

/-- 'larderkeep.SpanAgain', WHERE WHAT IT READS IS OF BULK AT MOST 1048576: true; the input reads as it did. -/
def spanAgainUptoRow : OpenClaim := { program := "ytpoaffhhkmochaa", sum := "c4af40882b3e6308d0cc02481d710c0174b87023abc9af1ee0f95133387c3a13", func := "larder/larderkeep.SpanAgain", spec := "spanAgain", unfollowed := true, recurses := true, apart := false, narrowed := true }
def SpanAgainUptoSaid : Prop := spanAgainUptoRow.holds Try.pinned (OpenSpec.upto spanAgainSpec)

/-- 'larderkeep.PolicySafe', WHERE WHAT IT READS IS OF BULK AT MOST 1048576: true; the input reads as it did. -/
def policySafeUptoRow : OpenClaim := { program := "ytpoaffhhkmochaa", sum := "c4af40882b3e6308d0cc02481d710c0174b87023abc9af1ee0f95133387c3a13", func := "larder/larderkeep.PolicySafe", spec := "policySafe", apart := false, narrowed := true }
def PolicySafeUptoSaid : Prop := policySafeUptoRow.holds Try.pinned (OpenSpec.upto policySafeSpec)

/-- 'larderkeep.TargetBack', WHERE WHAT IT READS IS OF BULK AT MOST 1048576: true; the input reads as it did. -/
def targetBackUptoRow : OpenClaim := { program := "ytpoaffhhkmochaa", sum := "c4af40882b3e6308d0cc02481d710c0174b87023abc9af1ee0f95133387c3a13", func := "larder/larderkeep.TargetBack", spec := "targetBack", inPlace := ["internal/bytealg.IndexByteString"], unfollowed := true, recurses := true, apart := false, narrowed := true }
def TargetBackUptoSaid : Prop := targetBackUptoRow.holds Try.pinned (OpenSpec.upto targetBackSpec)

end Rows
end Go.Proofs.Ytpoaffhhkmochaa
