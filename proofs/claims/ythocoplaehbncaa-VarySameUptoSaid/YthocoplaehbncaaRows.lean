/-
  No cell of these rows narrows 'for every input' (looked for: loops, veiled, ifaces, maps, wideKeys, modest, calm, conditions, laid).
  DERIVED. THE GIVEN ROWS OF THIS SEAT. 3 by the template 'for every input the law returns true; each argument reads behind the call as it read before'; 0 by the template 'total and deterministic' (their statements: YthocoplaehbncaaTotals.lean).
  GIVEN WITH THE SEED: the statements are not yours to turn. If you find one false, say at which input.
  Laid BY PROGRAM, IN A SANDBOX (cutbox-rows.mjs): the forced cells as the released guide's own fill.sh prints them over the translation ee3b11d13551a2c1… (all of the seat's roots in one cut). By AI agents, Wed Nov 11 2026. No macro, syntax, notation, axiom, sorry.
-/
import Derived.Test.YthocoplaehbncaaChecked
import GoSem.Claim
import GoSem.ClaimJoined
import GoSem.ClaimMapViews
import Derived.JoinedTies
import Derived.KernelRfl
namespace Go.Proofs.Ythocoplaehbncaa
/- THE CELL 'sum', in the pinned program and in every row, IS THE sha256 OF THE DUMP (.gsa) THAT YthocoplaehbncaaProg.lean LOADS. Nothing in Lean hashes anything: it is a label: what it is worth is what the hold of that sum in a sandbox is worth. -/
noncomputable def Try.pinned : Pinned := { name := "ythocoplaehbncaa", sum := "ee3b11d13551a2c124bfe2479d89aa3f50c170547b14f2307b04ca3c6b0e9d9c", checked := Try.checked }
namespace Rows
def none {H : Type} : Left H := { results := [], args := [] }

/-- 'larderkeep.VarySame': WHATEVER THE INPUT: true; the input reads as it did. -/
def varySameSpec : ChangeSpec := { name := "varySame", fn := fun _ => fun
  | [d1, d2, d3] => { results := [.lit (.bool true)], args := [d1, d2, d3] }
  | _ => none }
def varySameRow : OpenClaim := { program := "ythocoplaehbncaa", sum := "ee3b11d13551a2c124bfe2479d89aa3f50c170547b14f2307b04ca3c6b0e9d9c", func := "larder/larderkeep.VarySame", spec := "varySame", inPlace := ["internal/abi.NoEscape", "internal/bytealg.MakeNoZero", "internal/bytealg.IndexByteString"], unfollowed := true, recurses := true, apart := false }
def VarySameSaid : Prop := varySameRow.holds Try.pinned (OpenSpec.ofChange varySameSpec)

/-- ITS FALSE NEIGHBOUR: 'it returns false'. Refute it at one input. -/
def varySameWrong : ChangeSpec := { name := "varySame", fn := fun _ => fun
  | [d1, d2, d3] => { results := [.lit (.bool false)], args := [d1, d2, d3] }
  | _ => none }
def VarySameWrongFalsely : Prop := varySameRow.holds Try.pinned (OpenSpec.ofChange varySameWrong)

/-- 'larderkeep.VaryMore': WHATEVER THE INPUT: true; the input reads as it did. -/
def varyMoreSpec : ChangeSpec := { name := "varyMore", fn := fun _ => fun
  | [d1, d2, d3, d4, d5] => { results := [.lit (.bool true)], args := [d1, d2, d3, d4, d5] }
  | _ => none }
def varyMoreRow : OpenClaim := { program := "ythocoplaehbncaa", sum := "ee3b11d13551a2c124bfe2479d89aa3f50c170547b14f2307b04ca3c6b0e9d9c", func := "larder/larderkeep.VaryMore", spec := "varyMore", inPlace := ["internal/abi.NoEscape", "internal/bytealg.MakeNoZero", "internal/bytealg.IndexByteString"], unfollowed := true, recurses := true, apart := false }
def VaryMoreSaid : Prop := varyMoreRow.holds Try.pinned (OpenSpec.ofChange varyMoreSpec)

/-- ITS FALSE NEIGHBOUR: 'it returns false'. Refute it at one input. -/
def varyMoreWrong : ChangeSpec := { name := "varyMore", fn := fun _ => fun
  | [d1, d2, d3, d4, d5] => { results := [.lit (.bool false)], args := [d1, d2, d3, d4, d5] }
  | _ => none }
def VaryMoreWrongFalsely : Prop := varyMoreRow.holds Try.pinned (OpenSpec.ofChange varyMoreWrong)

/-- 'larderkeep.DigestKnown': WHATEVER THE INPUT: true; the input reads as it did. -/
def digestKnownSpec : ChangeSpec := { name := "digestKnown", fn := fun _ => fun
  | [] => { results := [.lit (.bool true)], args := [] }
  | _ => none }
def digestKnownRow : OpenClaim := { program := "ythocoplaehbncaa", sum := "ee3b11d13551a2c124bfe2479d89aa3f50c170547b14f2307b04ca3c6b0e9d9c", func := "larder/larderkeep.DigestKnown", spec := "digestKnown", apart := false }
def DigestKnownSaid : Prop := digestKnownRow.holds Try.pinned (OpenSpec.ofChange digestKnownSpec)

/-- ITS FALSE NEIGHBOUR: 'it returns false'. Refute it at one input. -/
def digestKnownWrong : ChangeSpec := { name := "digestKnown", fn := fun _ => fun
  | [] => { results := [.lit (.bool false)], args := [] }
  | _ => none }
def DigestKnownWrongFalsely : Prop := digestKnownRow.holds Try.pinned (OpenSpec.ofChange digestKnownWrong)

/- THE SECOND FORM. 'bulk': how many values and letters a reading holds, each counted each time it is reached (what is shared counts as often as it is met; a slice's spare places count too). A statement '..UptoSaid' is the law's where the arguments, and the package variables that the reading takes, are together of bulk at most 1048576: NARROWER than '..Said'. Prove '..Said' where nothing that the law and all that it calls make is longer than what came in: it says more and counts as full. Else prove '..UptoSaid'. A law counts once. -/
mutual
def uptoBulk {H : Type} : DataW H → Nat
  | .lit (.string bytes) => bytes.length + 1
  | .lit _ => 1
  | .nil => 1
  | .ptr d => uptoBulk d + 1
  | .slice elems spare => uptoBulkAll elems + uptoBulkAll spare + 1
  | .agg parts => uptoBulkAll parts + 1
  | .iface _ d => uptoBulk d + 1
  | .map entries => uptoBulkEntries entries + 1
  | .held _ => 1
def uptoBulkAll {H : Type} : List (DataW H) → Nat
  | [] => 0
  | d :: r => uptoBulk d + uptoBulkAll r
def uptoBulkEntries {H : Type} : List (Lit × DataW H) → Nat
  | [] => 0
  | x :: r => uptoBulkEntry x + uptoBulkEntries r
def uptoBulkEntry {H : Type} : Lit × DataW H → Nat
  | (.string bytes, d) => bytes.length + uptoBulk d + 1
  | (_, d) => uptoBulk d + 1
 end
def uptoSmall : (H : Type) → List (DataW H) → Bool := fun _ ds => decide (uptoBulkAll ds ≤ 1048576)
def OpenSpec.upto (s : _root_.Go.ChangeSpec) : _root_.Go.OpenSpec := { _root_.Go.OpenSpec.ofChange s with cond := some uptoSmall }

/-- 'larderkeep.VarySame', WHERE WHAT IT READS IS OF BULK AT MOST 1048576: true; the input reads as it did. -/
def varySameUptoRow : OpenClaim := { program := "ythocoplaehbncaa", sum := "ee3b11d13551a2c124bfe2479d89aa3f50c170547b14f2307b04ca3c6b0e9d9c", func := "larder/larderkeep.VarySame", spec := "varySame", inPlace := ["internal/abi.NoEscape", "internal/bytealg.MakeNoZero", "internal/bytealg.IndexByteString"], unfollowed := true, recurses := true, apart := false, narrowed := true }
def VarySameUptoSaid : Prop := varySameUptoRow.holds Try.pinned (OpenSpec.upto varySameSpec)

/-- 'larderkeep.VaryMore', WHERE WHAT IT READS IS OF BULK AT MOST 1048576: true; the input reads as it did. -/
def varyMoreUptoRow : OpenClaim := { program := "ythocoplaehbncaa", sum := "ee3b11d13551a2c124bfe2479d89aa3f50c170547b14f2307b04ca3c6b0e9d9c", func := "larder/larderkeep.VaryMore", spec := "varyMore", inPlace := ["internal/abi.NoEscape", "internal/bytealg.MakeNoZero", "internal/bytealg.IndexByteString"], unfollowed := true, recurses := true, apart := false, narrowed := true }
def VaryMoreUptoSaid : Prop := varyMoreUptoRow.holds Try.pinned (OpenSpec.upto varyMoreSpec)

/-- 'larderkeep.DigestKnown', WHERE WHAT IT READS IS OF BULK AT MOST 1048576: true; the input reads as it did. -/
def digestKnownUptoRow : OpenClaim := { program := "ythocoplaehbncaa", sum := "ee3b11d13551a2c124bfe2479d89aa3f50c170547b14f2307b04ca3c6b0e9d9c", func := "larder/larderkeep.DigestKnown", spec := "digestKnown", apart := false, narrowed := true }
def DigestKnownUptoSaid : Prop := digestKnownUptoRow.holds Try.pinned (OpenSpec.upto digestKnownSpec)

end Rows
end Go.Proofs.Ythocoplaehbncaa
