/-
  No cell of these rows narrows 'for every input' (looked for: loops, veiled, ifaces, maps, wideKeys, modest, calm, conditions, laid).
  DERIVED. THE GIVEN ROWS OF THIS SEAT. 3 by the template 'for every input the law returns true; each argument reads behind the call as it read before'; 0 by the template 'total and deterministic' (their statements: YtiijgbgknolmcaaTotals.lean).
  GIVEN WITH THE SEED: the statements are not yours to turn. If you find one false, say at which input.
  Laid BY PROGRAM, IN A SANDBOX (cutbox-rows.mjs): the forced cells as the released guide's own fill.sh prints them over the translation 9fc809b6b6fec38c… (all of the seat's roots in one cut). By AI agents, Wed Nov 11 2026. No macro, syntax, notation, axiom, sorry.
-/
import Derived.Test.YtiijgbgknolmcaaChecked
import GoSem.Claim
import GoSem.ClaimJoined
import GoSem.ClaimMapViews
import Derived.JoinedTies
import Derived.KernelRfl
namespace Go.Proofs.Ytiijgbgknolmcaa
/- THE CELL 'sum', in the pinned program and in every row, IS THE sha256 OF THE DUMP (.gsa) THAT YtiijgbgknolmcaaProg.lean LOADS. Nothing in Lean hashes anything: it is a label: what it is worth is what the hold of that sum in a sandbox is worth. -/
noncomputable def Try.pinned : Pinned := { name := "ytiijgbgknolmcaa", sum := "9fc809b6b6fec38cd8b6dbd5ad1357af16ede79334dec1845ca2bc8eee1ce400", checked := Try.checked }
namespace Rows
def none {H : Type} : Left H := { results := [], args := [] }

/-- 'larderkeep.PolicyNever': WHATEVER THE INPUT: true; the input reads as it did. -/
def policyNeverSpec : ChangeSpec := { name := "policyNever", fn := fun _ => fun
  | [d1, d2, d3] => { results := [.lit (.bool true)], args := [d1, d2, d3] }
  | _ => none }
def policyNeverRow : OpenClaim := { program := "ytiijgbgknolmcaa", sum := "9fc809b6b6fec38cd8b6dbd5ad1357af16ede79334dec1845ca2bc8eee1ce400", func := "larder/larderkeep.PolicyNever", spec := "policyNever", inPlace := ["internal/abi.NoEscape", "internal/bytealg.MakeNoZero", "internal/bytealg.IndexByteString", "internal/bytealg.IndexString"], unfollowed := true, recurses := true, named := ["internal/bytealg.MaxLen"], apart := false }
def PolicyNeverSaid : Prop := policyNeverRow.holds Try.pinned (OpenSpec.ofChange policyNeverSpec)

/-- ITS FALSE NEIGHBOUR: 'it returns false'. Refute it at one input. -/
def policyNeverWrong : ChangeSpec := { name := "policyNever", fn := fun _ => fun
  | [d1, d2, d3] => { results := [.lit (.bool false)], args := [d1, d2, d3] }
  | _ => none }
def PolicyNeverWrongFalsely : Prop := policyNeverRow.holds Try.pinned (OpenSpec.ofChange policyNeverWrong)

/-- 'larderkeep.PolicyFresh': WHATEVER THE INPUT: true; the input reads as it did. -/
def policyFreshSpec : ChangeSpec := { name := "policyFresh", fn := fun _ => fun
  | [d1, d2, d3] => { results := [.lit (.bool true)], args := [d1, d2, d3] }
  | _ => none }
def policyFreshRow : OpenClaim := { program := "ytiijgbgknolmcaa", sum := "9fc809b6b6fec38cd8b6dbd5ad1357af16ede79334dec1845ca2bc8eee1ce400", func := "larder/larderkeep.PolicyFresh", spec := "policyFresh", inPlace := ["internal/abi.NoEscape", "internal/bytealg.MakeNoZero"], unfollowed := true, recurses := true, apart := false }
def PolicyFreshSaid : Prop := policyFreshRow.holds Try.pinned (OpenSpec.ofChange policyFreshSpec)

/-- ITS FALSE NEIGHBOUR: 'it returns false'. Refute it at one input. -/
def policyFreshWrong : ChangeSpec := { name := "policyFresh", fn := fun _ => fun
  | [d1, d2, d3] => { results := [.lit (.bool false)], args := [d1, d2, d3] }
  | _ => none }
def PolicyFreshWrongFalsely : Prop := policyFreshRow.holds Try.pinned (OpenSpec.ofChange policyFreshWrong)

/-- 'larderkeep.PolicyStripped': WHATEVER THE INPUT: true; the input reads as it did. -/
def policyStrippedSpec : ChangeSpec := { name := "policyStripped", fn := fun _ => fun
  | [d1, d2] => { results := [.lit (.bool true)], args := [d1, d2] }
  | _ => none }
def policyStrippedRow : OpenClaim := { program := "ytiijgbgknolmcaa", sum := "9fc809b6b6fec38cd8b6dbd5ad1357af16ede79334dec1845ca2bc8eee1ce400", func := "larder/larderkeep.PolicyStripped", spec := "policyStripped", inPlace := ["internal/abi.NoEscape", "internal/bytealg.MakeNoZero", "internal/bytealg.IndexByteString"], unfollowed := true, recurses := true, apart := false }
def PolicyStrippedSaid : Prop := policyStrippedRow.holds Try.pinned (OpenSpec.ofChange policyStrippedSpec)

/-- ITS FALSE NEIGHBOUR: 'it returns false'. Refute it at one input. -/
def policyStrippedWrong : ChangeSpec := { name := "policyStripped", fn := fun _ => fun
  | [d1, d2] => { results := [.lit (.bool false)], args := [d1, d2] }
  | _ => none }
def PolicyStrippedWrongFalsely : Prop := policyStrippedRow.holds Try.pinned (OpenSpec.ofChange policyStrippedWrong)

/- THE SECOND FORM. 'bulk': how many values and letters a reading holds, each counted each time it is reached (what is shared counts as often as it is met; a slice's spare places count too). A statement '..UptoSaid' is the law's where the arguments, and the package variables that the reading takes, are together of bulk at most 1048576: NARROWER than '..Said'. Prove '..Said' where nothing that the law and all that it calls make is longer than what came in: it says more and counts as full. Else prove '..UptoSaid'. A law counts once. -/
mutual
def uptoBulk {H : Type} : DataW H → Nat
  | .lit (.string bytes) => bytes.length + 1
  | .lit _ => 1
  | .nil => 1
  | .ptr d => uptoBulk d + 1
  | .slice elems spare => uptoBulkAll elems + uptoBulkAll spare + 1
  | .agg parts => uptoBulkAll parts + 1
  | .iface _ d => uptoBulk d + 1
  | .map entries => uptoBulkEntries entries + 1
  | .held _ => 1
def uptoBulkAll {H : Type} : List (DataW H) → Nat
  | [] => 0
  | d :: r => uptoBulk d + uptoBulkAll r
def uptoBulkEntries {H : Type} : List (Lit × DataW H) → Nat
  | [] => 0
  | x :: r => uptoBulkEntry x + uptoBulkEntries r
def uptoBulkEntry {H : Type} : Lit × DataW H → Nat
  | (.string bytes, d) => bytes.length + uptoBulk d + 1
  | (_, d) => uptoBulk d + 1
 end
def uptoSmall : (H : Type) → List (DataW H) → Bool := fun _ ds => decide (uptoBulkAll ds ≤ 1048576)
def OpenSpec.upto (s : _root_.Go.ChangeSpec) : _root_.Go.OpenSpec := { _root_.Go.OpenSpec.ofChange s with cond := some uptoSmall }

/-- 'larderkeep.PolicyNever', WHERE WHAT IT READS IS OF BULK AT MOST 1048576: true; the input reads as it did. -/
def policyNeverUptoRow : OpenClaim := { program := "ytiijgbgknolmcaa", sum := "9fc809b6b6fec38cd8b6dbd5ad1357af16ede79334dec1845ca2bc8eee1ce400", func := "larder/larderkeep.PolicyNever", spec := "policyNever", inPlace := ["internal/abi.NoEscape", "internal/bytealg.MakeNoZero", "internal/bytealg.IndexByteString", "internal/bytealg.IndexString"], unfollowed := true, recurses := true, named := ["internal/bytealg.MaxLen"], apart := false, narrowed := true }
def PolicyNeverUptoSaid : Prop := policyNeverUptoRow.holds Try.pinned (OpenSpec.upto policyNeverSpec)

/-- 'larderkeep.PolicyFresh', WHERE WHAT IT READS IS OF BULK AT MOST 1048576: true; the input reads as it did. -/
def policyFreshUptoRow : OpenClaim := { program := "ytiijgbgknolmcaa", sum := "9fc809b6b6fec38cd8b6dbd5ad1357af16ede79334dec1845ca2bc8eee1ce400", func := "larder/larderkeep.PolicyFresh", spec := "policyFresh", inPlace := ["internal/abi.NoEscape", "internal/bytealg.MakeNoZero"], unfollowed := true, recurses := true, apart := false, narrowed := true }
def PolicyFreshUptoSaid : Prop := policyFreshUptoRow.holds Try.pinned (OpenSpec.upto policyFreshSpec)

/-- 'larderkeep.PolicyStripped', WHERE WHAT IT READS IS OF BULK AT MOST 1048576: true; the input reads as it did. -/
def policyStrippedUptoRow : OpenClaim := { program := "ytiijgbgknolmcaa", sum := "9fc809b6b6fec38cd8b6dbd5ad1357af16ede79334dec1845ca2bc8eee1ce400", func := "larder/larderkeep.PolicyStripped", spec := "policyStripped", inPlace := ["internal/abi.NoEscape", "internal/bytealg.MakeNoZero", "internal/bytealg.IndexByteString"], unfollowed := true, recurses := true, apart := false, narrowed := true }
def PolicyStrippedUptoSaid : Prop := policyStrippedUptoRow.holds Try.pinned (OpenSpec.upto policyStrippedSpec)

end Rows
end Go.Proofs.Ytiijgbgknolmcaa
