/- TokenPairs: the walk, as the frame asks for it. -/
import Derived.Test.YtdoeipjcohkbeaaPairD
namespace Go.Proofs.Ytdoeipjcohkbeaa
open Go.RowKit
theorem tokenPairs_walk (v1 : Value) (l : List ByteArray) (v2 : Value) (vs : List ByteArray) (w : World) (h1 : SlR w es v1 l) (hl : l.length * 16 ≤ 140737488351232) (hz1 : ∀ s ∈ l, s.size ≤ 140737488351232) (h2 : SlR w es v2 vs) (hvl : vs.length * 16 ≤ 140737488351232) (hz2 : ∀ s ∈ vs, s.size ≤ 140737488351232) :
    Calls Try.prog 10 #[v1, v2] w fun e w' => e = .returned (.bool true) ∧ Below w.heap.size w w' :=
  tokenPairs_core v1 v2 l vs w h1 h2 (by omega) (by omega) hz1 hz2
end Go.Proofs.Ytdoeipjcohkbeaa
