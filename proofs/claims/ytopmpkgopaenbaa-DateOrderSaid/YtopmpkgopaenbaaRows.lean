/-
  No cell of these rows narrows 'for every input' (looked for: loops, veiled, ifaces, maps, wideKeys, modest, calm, conditions, laid).
  DERIVED. THE GIVEN ROWS OF THIS SEAT. 4 by the template 'for every input the law returns true; each argument reads behind the call as it read before'; 0 by the template 'total and deterministic' (their statements: YtopmpkgopaenbaaTotals.lean).
  GIVEN WITH THE SEED: the statements are not yours to turn. If you find one false, say at which input.
  Laid BY PROGRAM, IN A SANDBOX (cutbox-rows.mjs): the forced cells as the released guide's own fill.sh prints them over the translation 1d84454af06b251c… (all of the seat's roots in one cut). By AI agents, Wed Nov 11 2026. No macro, syntax, notation, axiom, sorry.
-/
import Derived.Test.YtopmpkgopaenbaaChecked
import GoSem.Claim
import GoSem.ClaimJoined
import GoSem.ClaimMapViews
import Derived.JoinedTies
import Derived.KernelRfl
namespace Go.Proofs.Ytopmpkgopaenbaa
/- THE CELL 'sum', in the pinned program and in every row, IS THE sha256 OF THE DUMP (.gsa) THAT YtopmpkgopaenbaaProg.lean LOADS. Nothing in Lean hashes anything: it is a label: what it is worth is what the hold of that sum in a sandbox is worth. -/
noncomputable def Try.pinned : Pinned := { name := "ytopmpkgopaenbaa", sum := "1d84454af06b251c0f0282db471c992056226f2149d0ee787a7e3552bdde8777", checked := Try.checked }
namespace Rows
def none {H : Type} : Left H := { results := [], args := [] }

/-- 'larderkeep.DateNext': WHATEVER THE INPUT: true; the input reads as it did. -/
def dateNextSpec : ChangeSpec := { name := "dateNext", fn := fun _ => fun
  | [d] => { results := [.lit (.bool true)], args := [d] }
  | _ => none }
def dateNextRow : OpenClaim := { program := "ytopmpkgopaenbaa", sum := "1d84454af06b251c0f0282db471c992056226f2149d0ee787a7e3552bdde8777", func := "larder/larderkeep.DateNext", spec := "dateNext", apart := false }
def DateNextSaid : Prop := dateNextRow.holds Try.pinned (OpenSpec.ofChange dateNextSpec)

/-- ITS FALSE NEIGHBOUR: 'it returns false'. Refute it at one input. -/
def dateNextWrong : ChangeSpec := { name := "dateNext", fn := fun _ => fun
  | [d] => { results := [.lit (.bool false)], args := [d] }
  | _ => none }
def DateNextWrongFalsely : Prop := dateNextRow.holds Try.pinned (OpenSpec.ofChange dateNextWrong)

/-- 'larderkeep.DateCycle': WHATEVER THE INPUT: true; the input reads as it did. -/
def dateCycleSpec : ChangeSpec := { name := "dateCycle", fn := fun _ => fun
  | [d1, d2, d3] => { results := [.lit (.bool true)], args := [d1, d2, d3] }
  | _ => none }
def dateCycleRow : OpenClaim := { program := "ytopmpkgopaenbaa", sum := "1d84454af06b251c0f0282db471c992056226f2149d0ee787a7e3552bdde8777", func := "larder/larderkeep.DateCycle", spec := "dateCycle", apart := false }
def DateCycleSaid : Prop := dateCycleRow.holds Try.pinned (OpenSpec.ofChange dateCycleSpec)

/-- ITS FALSE NEIGHBOUR: 'it returns false'. Refute it at one input. -/
def dateCycleWrong : ChangeSpec := { name := "dateCycle", fn := fun _ => fun
  | [d1, d2, d3] => { results := [.lit (.bool false)], args := [d1, d2, d3] }
  | _ => none }
def DateCycleWrongFalsely : Prop := dateCycleRow.holds Try.pinned (OpenSpec.ofChange dateCycleWrong)

/-- 'larderkeep.DateOrder': WHATEVER THE INPUT: true; the input reads as it did. -/
def dateOrderSpec : ChangeSpec := { name := "dateOrder", fn := fun _ => fun
  | [d1, d2, d3, d4, d5, d6] => { results := [.lit (.bool true)], args := [d1, d2, d3, d4, d5, d6] }
  | _ => none }
def dateOrderRow : OpenClaim := { program := "ytopmpkgopaenbaa", sum := "1d84454af06b251c0f0282db471c992056226f2149d0ee787a7e3552bdde8777", func := "larder/larderkeep.DateOrder", spec := "dateOrder", apart := false }
def DateOrderSaid : Prop := dateOrderRow.holds Try.pinned (OpenSpec.ofChange dateOrderSpec)

/-- ITS FALSE NEIGHBOUR: 'it returns false'. Refute it at one input. -/
def dateOrderWrong : ChangeSpec := { name := "dateOrder", fn := fun _ => fun
  | [d1, d2, d3, d4, d5, d6] => { results := [.lit (.bool false)], args := [d1, d2, d3, d4, d5, d6] }
  | _ => none }
def DateOrderWrongFalsely : Prop := dateOrderRow.holds Try.pinned (OpenSpec.ofChange dateOrderWrong)

/-- 'larderkeep.DateDay': WHATEVER THE INPUT: true; the input reads as it did. -/
def dateDaySpec : ChangeSpec := { name := "dateDay", fn := fun _ => fun
  | [d1, d2, d3, d4] => { results := [.lit (.bool true)], args := [d1, d2, d3, d4] }
  | _ => none }
def dateDayRow : OpenClaim := { program := "ytopmpkgopaenbaa", sum := "1d84454af06b251c0f0282db471c992056226f2149d0ee787a7e3552bdde8777", func := "larder/larderkeep.DateDay", spec := "dateDay", apart := false }
def DateDaySaid : Prop := dateDayRow.holds Try.pinned (OpenSpec.ofChange dateDaySpec)

/-- ITS FALSE NEIGHBOUR: 'it returns false'. Refute it at one input. -/
def dateDayWrong : ChangeSpec := { name := "dateDay", fn := fun _ => fun
  | [d1, d2, d3, d4] => { results := [.lit (.bool false)], args := [d1, d2, d3, d4] }
  | _ => none }
def DateDayWrongFalsely : Prop := dateDayRow.holds Try.pinned (OpenSpec.ofChange dateDayWrong)

/- THE SECOND FORM. 'bulk': how many values and letters a reading holds, each counted each time it is reached (what is shared counts as often as it is met; a slice's spare places count too). A statement '..UptoSaid' is the law's where the arguments, and the package variables that the reading takes, are together of bulk at most 1048576: NARROWER than '..Said'. Prove '..Said' where nothing that the law and all that it calls make is longer than what came in: it says more and counts as full. Else prove '..UptoSaid'. A law counts once. -/
mutual
def uptoBulk {H : Type} : DataW H → Nat
  | .lit (.string bytes) => bytes.length + 1
  | .lit _ => 1
  | .nil => 1
  | .ptr d => uptoBulk d + 1
  | .slice elems spare => uptoBulkAll elems + uptoBulkAll spare + 1
  | .agg parts => uptoBulkAll parts + 1
  | .iface _ d => uptoBulk d + 1
  | .map entries => uptoBulkEntries entries + 1
  | .held _ => 1
def uptoBulkAll {H : Type} : List (DataW H) → Nat
  | [] => 0
  | d :: r => uptoBulk d + uptoBulkAll r
def uptoBulkEntries {H : Type} : List (Lit × DataW H) → Nat
  | [] => 0
  | x :: r => uptoBulkEntry x + uptoBulkEntries r
def uptoBulkEntry {H : Type} : Lit × DataW H → Nat
  | (.string bytes, d) => bytes.length + uptoBulk d + 1
  | (_, d) => uptoBulk d + 1
 end
def uptoSmall : (H : Type) → List (DataW H) → Bool := fun _ ds => decide (uptoBulkAll ds ≤ 1048576)
def OpenSpec.upto (s : _root_.Go.ChangeSpec) : _root_.Go.OpenSpec := { _root_.Go.OpenSpec.ofChange s with cond := some uptoSmall }

/-- 'larderkeep.DateNext', WHERE WHAT IT READS IS OF BULK AT MOST 1048576: true; the input reads as it did. -/
def dateNextUptoRow : OpenClaim := { program := "ytopmpkgopaenbaa", sum := "1d84454af06b251c0f0282db471c992056226f2149d0ee787a7e3552bdde8777", func := "larder/larderkeep.DateNext", spec := "dateNext", apart := false, narrowed := true }
def DateNextUptoSaid : Prop := dateNextUptoRow.holds Try.pinned (OpenSpec.upto dateNextSpec)

/-- 'larderkeep.DateCycle', WHERE WHAT IT READS IS OF BULK AT MOST 1048576: true; the input reads as it did. -/
def dateCycleUptoRow : OpenClaim := { program := "ytopmpkgopaenbaa", sum := "1d84454af06b251c0f0282db471c992056226f2149d0ee787a7e3552bdde8777", func := "larder/larderkeep.DateCycle", spec := "dateCycle", apart := false, narrowed := true }
def DateCycleUptoSaid : Prop := dateCycleUptoRow.holds Try.pinned (OpenSpec.upto dateCycleSpec)

/-- 'larderkeep.DateOrder', WHERE WHAT IT READS IS OF BULK AT MOST 1048576: true; the input reads as it did. -/
def dateOrderUptoRow : OpenClaim := { program := "ytopmpkgopaenbaa", sum := "1d84454af06b251c0f0282db471c992056226f2149d0ee787a7e3552bdde8777", func := "larder/larderkeep.DateOrder", spec := "dateOrder", apart := false, narrowed := true }
def DateOrderUptoSaid : Prop := dateOrderUptoRow.holds Try.pinned (OpenSpec.upto dateOrderSpec)

/-- 'larderkeep.DateDay', WHERE WHAT IT READS IS OF BULK AT MOST 1048576: true; the input reads as it did. -/
def dateDayUptoRow : OpenClaim := { program := "ytopmpkgopaenbaa", sum := "1d84454af06b251c0f0282db471c992056226f2149d0ee787a7e3552bdde8777", func := "larder/larderkeep.DateDay", spec := "dateDay", apart := false, narrowed := true }
def DateDayUptoSaid : Prop := dateDayUptoRow.holds Try.pinned (OpenSpec.upto dateDaySpec)

end Rows
end Go.Proofs.Ytopmpkgopaenbaa
