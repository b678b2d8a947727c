/- control's Print. -/
import Derived.Test.YthhhlaoiampinaaDoorCtlC
import Derived.Test.YthhhlaoiampinaaDoorRows3
import Derived.Test.YthhhlaoiampinaaDoorJoin
namespace Go.Proofs.YthhhlaoiampinaaDoor
set_option maxRecDepth 20000
open Go.RowKit
def commaS : ByteArray := ⟨#[44, 32]⟩
def PrintAns (l : List Dr) (e : Ending) : Prop :=
  (∃ ts : List ByteArray, l.map textD = ts.map some ∧ ts.length ≤ 20 ∧ (joinS ts commaS).size ≤ 1000 ∧ e = .returned (.tuple #[.string (joinS ts commaS), .int .i64 0])) ∨
  (∃ c : Int, 1 ≤ c ∧ c ≤ 3 ∧ e = .returned (.tuple #[.string ByteArray.empty, .int .i64 c]) ∧ ∀ ts : List ByteArray, l.map textD = ts.map some → c = 2)
end Go.Proofs.YthhhlaoiampinaaDoor
