/- strings.Cut at one byte, of whatever text. -/
import Derived.Test.YthhhlaoiampinaaShelf
import Derived.Test.YthhhlaoiampinaaBytes
import Derived.Test.YthhhlaoiampinaaIdx
import Derived.Deep.QuietTactic
import Derived.BigQuiet
import Derived.IntWalk
namespace Go.Proofs.Ythhhlaoiampinaa
open Go.RowKit
/-- What Cut answers at one byte. -/
def CutOne (s : ByteArray) (c : UInt8) (e : Ending) : Prop :=
  (∃ a b, sl s = a ++ c :: b ∧ c ∉ a ∧ e = .returned (.tuple #[.string (mkS a), .string (mkS b), .bool true])) ∨ (c ∉ sl s ∧ e = .returned (.tuple #[.string s, .string ByteArray.empty, .bool false]))
end Go.Proofs.Ythhhlaoiampinaa
